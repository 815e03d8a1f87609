/- What is handed over to a law, opened: tables of structs, and slices of structs that are read only. -/
import Derived.Test.YtcbhglgbjcbegaaDoorEvD
import Derived.SizedLaws
set_option linter.unusedVariables false
set_option linter.unusedSimpArgs false
namespace Go.Ev
open Go Go.Joins
mutual
def Sk.tok (P : Program) : Sk → TypeId → Prop
  | .int k, t => P.underlying t = some (.int k)
  | .bool, t => P.underlying t = some .bool
  | .sl s, t => ∃ e, P.underlying t = some (.slice e) ∧ P.cellsOf e = s.shape.size ∧ 0 < s.shape.size ∧ s.tok P e
  | .agg l, t => ∃ fs, P.underlying t = some (.struct fs) ∧ Sk.tokL P l fs.toList 0
def Sk.tokL (P : Program) : List Sk → List Field → Nat → Prop
  | [], fs, _ => fs = []
  | s :: l, fs, o => match fs with
    | [] => False
    | f :: fs => f.offset = o ∧ P.cellsOf f.type = s.shape.size ∧ s.tok P f.type ∧ Sk.tokL P l fs (o + s.shape.size)
end
mutual
def Sk.has : Sk → Nat → (Nat → Lf) → Prop
  | .int k, c, r => (Lit.int k (r c).toI).wf = true
  | .bool, _, _ => True
  | .sl s, c, r => (r c).len ≤ maxLen ∧ ∀ i, i < (r c).len → s.has 0 ((r c).row i)
  | .agg l, c, r => Sk.hasL l c r
def Sk.hasL : List Sk → Nat → (Nat → Lf) → Prop
  | [], _, _ => True
  | s :: l, c, r => s.has c r ∧ Sk.hasL l (c + s.shape.size) r
end
mutual
theorem LfAt.congr {ρ : Ren} {w : World} : ∀ (s : Sk) (cv cv' : Nat → Option Value) (c : Nat) (r r' : Nat → Lf), (∀ j, c ≤ j → j < c + s.shape.size → cv j = cv' j ∧ r j = r' j) → LfAt ρ w s cv c r → LfAt ρ w s cv' c r'
  | .int k, cv, cv', c, r, r', h, hr => by
    obtain ⟨e1, e2⟩ := h c (Nat.le_refl _) (by simp [Sk.shape, Shape.size])
    simp only [LfAt] at hr ⊢
    rw [← e1, ← e2]; exact hr
  | .bool, cv, cv', c, r, r', h, hr => by
    obtain ⟨e1, e2⟩ := h c (Nat.le_refl _) (by simp [Sk.shape, Shape.size])
    simp only [LfAt] at hr ⊢
    rw [← e1, ← e2]; exact hr
  | .sl s, cv, cv', c, r, r', h, hr => by
    obtain ⟨e1, e2⟩ := h c (Nat.le_refl _) (by simp [Sk.shape, Shape.size])
    simp only [LfAt] at hr ⊢
    rw [← e1, ← e2]; exact hr
  | .agg l, cv, cv', c, r, r', h, hr => by
    simp only [LfAt] at hr ⊢
    exact LfAtL.congr l cv cv' c r r' (by simpa [Sk.shape, Shape.size] using h) hr
theorem LfAtL.congr {ρ : Ren} {w : World} : ∀ (l : List Sk) (cv cv' : Nat → Option Value) (c : Nat) (r r' : Nat → Lf), (∀ j, c ≤ j → j < c + Shape.sizeL (Sk.shapeL l) → cv j = cv' j ∧ r j = r' j) → LfAtL ρ w l cv c r → LfAtL ρ w l cv' c r'
  | [], _, _, _, _, _, _, _ => trivial
  | s :: l, cv, cv', c, r, r', h, hr => by
    simp only [Sk.shapeL, Shape.sizeL] at h
    simp only [LfAtL] at hr ⊢
    exact ⟨LfAt.congr s cv cv' c r r' (fun j h1 h2 => h j h1 (by omega)) hr.1, LfAtL.congr l cv cv' _ r r' (fun j h1 h2 => h j (by omega) (by omega)) hr.2⟩
end
mutual
theorem Sk.has_congr : ∀ (s : Sk) (c : Nat) (r r' : Nat → Lf), (∀ j, c ≤ j → j < c + s.shape.size → r j = r' j) → s.has c r → s.has c r'
  | .int k, c, r, r', h, hr => by
    have e := h c (Nat.le_refl _) (by simp [Sk.shape, Shape.size])
    simp only [Sk.has] at hr ⊢
    rw [← e]; exact hr
  | .bool, _, _, _, _, _ => trivial
  | .sl s, c, r, r', h, hr => by
    have e := h c (Nat.le_refl _) (by simp [Sk.shape, Shape.size])
    simp only [Sk.has] at hr ⊢
    rw [← e]; exact hr
  | .agg l, c, r, r', h, hr => by
    simp only [Sk.has] at hr ⊢
    exact Sk.hasL_congr l c r r' (by simpa [Sk.shape, Shape.size] using h) hr
theorem Sk.hasL_congr : ∀ (l : List Sk) (c : Nat) (r r' : Nat → Lf), (∀ j, c ≤ j → j < c + Shape.sizeL (Sk.shapeL l) → r j = r' j) → Sk.hasL l c r → Sk.hasL l c r'
  | [], _, _, _, _, _ => trivial
  | s :: l, c, r, r', h, hr => by
    simp only [Sk.shapeL, Shape.sizeL] at h
    simp only [Sk.hasL] at hr ⊢
    exact ⟨Sk.has_congr s c r r' (fun j h1 h2 => h j h1 (by omega)) hr.1, Sk.hasL_congr l _ r r' (fun j h1 h2 => h j (by omega) (by omega)) hr.2⟩
end
mutual
theorem Sk.has_shift : ∀ (s : Sk) (c o : Nat) (r : Nat → Lf), s.has c r → s.has (o + c) (fun j => r (j - o))
  | .int k, c, o, r, h => by simp only [Sk.has, Nat.add_sub_cancel_left] at h ⊢; exact h
  | .bool, _, _, _, _ => trivial
  | .sl s, c, o, r, h => by simp only [Sk.has, Nat.add_sub_cancel_left] at h ⊢; exact h
  | .agg l, c, o, r, h => by simp only [Sk.has] at h ⊢; exact Sk.hasL_shift l c o r h
theorem Sk.hasL_shift : ∀ (l : List Sk) (c o : Nat) (r : Nat → Lf), Sk.hasL l c r → Sk.hasL l (o + c) (fun j => r (j - o))
  | [], _, _, _, _ => trivial
  | s :: l, c, o, r, h => by
    simp only [Sk.hasL] at h ⊢
    exact ⟨Sk.has_shift s c o r h.1, by rw [Nat.add_assoc]; exact Sk.hasL_shift l _ o r h.2⟩
end
mutual
theorem LfAt.shift {ρ : Ren} {w : World} : ∀ (s : Sk) (c o : Nat) (cv cv' : Nat → Option Value) (r : Nat → Lf), (∀ j, c ≤ j → j < c + s.shape.size → cv j = cv' (o + j)) → LfAt ρ w s cv c r → LfAt ρ w s cv' (o + c) (fun j => r (j - o))
  | .int k, c, o, cv, cv', r, e, h => by
    have e := e c (Nat.le_refl _) (by simp [Sk.shape, Shape.size])
    simp only [LfAt, Nat.add_sub_cancel_left] at h ⊢; rw [← e]; exact h
  | .bool, c, o, cv, cv', r, e, h => by
    have e := e c (Nat.le_refl _) (by simp [Sk.shape, Shape.size])
    simp only [LfAt, Nat.add_sub_cancel_left] at h ⊢; rw [← e]; exact h
  | .sl s, c, o, cv, cv', r, e, h => by
    have e := e c (Nat.le_refl _) (by simp [Sk.shape, Shape.size])
    simp only [LfAt, Nat.add_sub_cancel_left] at h ⊢; rw [← e]; exact h
  | .agg l, c, o, cv, cv', r, e, h => by
    simp only [LfAt] at h ⊢
    exact LfAtL.shift l c o cv cv' r (by simpa [Sk.shape, Shape.size] using e) h
theorem LfAtL.shift {ρ : Ren} {w : World} : ∀ (l : List Sk) (c o : Nat) (cv cv' : Nat → Option Value) (r : Nat → Lf), (∀ j, c ≤ j → j < c + Shape.sizeL (Sk.shapeL l) → cv j = cv' (o + j)) → LfAtL ρ w l cv c r → LfAtL ρ w l cv' (o + c) (fun j => r (j - o))
  | [], _, _, _, _, _, _, _ => trivial
  | s :: l, c, o, cv, cv', r, e, h => by
    simp only [Sk.shapeL, Shape.sizeL] at e
    simp only [LfAtL] at h ⊢
    exact ⟨LfAt.shift s c o cv cv' r (fun j h1 h2 => e j h1 (by omega)) h.1, by rw [Nat.add_assoc]; exact LfAtL.shift l _ o cv cv' r (fun j h1 h2 => e j (by omega) (by omega)) h.2⟩
end
theorem pick_rows {n : Nat} {p : Nat → (Nat → Lf) → Prop} (h : ∀ i, i < n → ∃ r, p i r) : ∃ g : Nat → Nat → Lf, ∀ i, i < n → p i (g i) := by
  refine ⟨fun i => if hi : i < n then Classical.choose (h i hi) else fun _ => .z 0, fun i hi => ?_⟩
  simp only [dif_pos hi]
  exact Classical.choose_spec (h i hi)
theorem cells_get {w : World} {b o : Nat} {sp : Option Nat} {i sz : Nat} {ci : List Value} (hsz : 0 < sz) (h : w.cells? 0 ((⟨b, o, sp⟩ : Addr).add (i * sz)) sz = some ci) :
    ci.length = sz ∧ b < w.heap.size ∧ (i = 0 → sp = none) ∧ ∀ j, j < sz → (sp = none → w.cell? ⟨b, o + i * sz + j, none⟩ = ci[j]?) := by
  obtain ⟨-, hl, hc⟩ := World.cells?_some h
  have hb := World.cells?_block h hsz
  have hb' : b < w.heap.size := by
    unfold Addr.add at hb
    split at hb <;> exact hb
  refine ⟨hl, hb', fun h0 => ?_, fun j hj hs => ?_⟩
  · subst h0
    have := hc 0 hsz
    rw [Nat.zero_mul, List.getElem?_eq_getElem (by omega)] at this
    have e : ((⟨b, o, sp⟩ : Addr).add 0).add 0 = ⟨b, o, sp⟩ := rfl
    rw [e] at this
    cases sp with
    | none => rfl
    | some q =>
      exfalso
      simp only [World.cell?] at this
      split at this <;> simp at this
  · subst hs
    have := hc j hj
    rw [← this]
    congr 1
    unfold Addr.add
    split <;> split <;> simp_all <;> omega
section
variable {H : Type} {enc : TypeId × Value → H} {P : Program} {w : World} {spare : Nat → Bool} {held : Bool}
theorem open_sl {s : Sk} {t e : TypeId} (ih : ∀ (fuel : Nat) (cs : List Value) (x : DataW H × List MemPlace), cs.length = s.shape.size → DataW.trod enc P w 0 spare held fuel e cs = some x → ∃ r, s.has 0 r ∧ LfAt ⟨[], []⟩ w s (fun j => cs[j]?) 0 r)
    (h1 : P.underlying t = some (.slice e)) (h2 : P.cellsOf e = s.shape.size) (h3 : 0 < s.shape.size) {fuel : Nat} {v : Value} {x : DataW H × List MemPlace} (h : DataW.trod enc P w 0 spare held fuel t [v] = some x) :
    ∃ (a : Option Addr) (n c : Nat) (g : Nat → Nat → Lf), v = Value.slice a n c ∧ n ≤ c ∧ c ≤ maxLen ∧ (∀ i, i < n → s.has 0 (g i)) ∧
      (n = 0 ∨ ∃ b o, a = some ⟨b, o, none⟩ ∧ b < w.heap.size ∧ b ∉ (⟨[], []⟩ : Ren).mbs ∧ ∀ i, i < n → LfAt ⟨[], []⟩ w s (fun j => w.cell? ⟨b, o + i * s.shape.size + j, none⟩) 0 (g i)) := by
  cases fuel with
  | zero => simp [DataW.trod] at h
  | succ fuel =>
    cases v
    case slice a len cap =>
      cases a with
      | none =>
        have e : len = 0 ∧ cap = 0 := by
          simp only [DataW.trod, h1] at h
          split at h <;> simp_all
        obtain ⟨rfl, rfl⟩ := e
        exact ⟨none, 0, 0, fun _ _ => .z 0, rfl, Nat.le_refl _, Nat.zero_le _, fun i hi => absurd hi (by omega), .inl rfl⟩
      | some a =>
        obtain ⟨b, o, sp⟩ := a
        simp only [DataW.trod, h1] at h
        split at h
        · rename_i hc
          cases hm : (List.range len).mapM fun i => (w.cells? 0 ((⟨b, o, sp⟩ : Addr).add (i * P.cellsOf e)) (P.cellsOf e)).bind (DataW.trod enc P w 0 spare held fuel e) with
          | none => rw [hm] at h; simp at h
          | some r =>
            have key : ∀ i, i < len → ∃ ci, w.cells? 0 ((⟨b, o, sp⟩ : Addr).add (i * s.shape.size)) s.shape.size = some ci ∧ ∃ y, DataW.trod enc P w 0 spare held fuel e ci = some y := by
              intro i hi
              obtain ⟨y, hy⟩ := mapM_some hm i i (by simp [hi])
              rw [h2] at hy
              cases hq : w.cells? 0 ((⟨b, o, sp⟩ : Addr).add (i * s.shape.size)) s.shape.size with
              | none => rw [hq] at hy; simp at hy
              | some ci => rw [hq] at hy; exact ⟨ci, rfl, y, hy⟩
            by_cases h0 : len = 0
            · subst h0
              exact ⟨_, 0, cap, fun _ _ => .z 0, rfl, hc.2.1, hc.2.2, fun i hi => absurd hi (by omega), .inl rfl⟩
            · have hsp : sp = none := by
                obtain ⟨ci, hci, _⟩ := key 0 (by omega)
                exact (cells_get h3 hci).2.2.1 rfl
              have hb : b < w.heap.size := by
                obtain ⟨ci, hci, _⟩ := key 0 (by omega)
                exact (cells_get h3 hci).2.1
              obtain ⟨g, hg⟩ := pick_rows (n := len) (p := fun i r => s.has 0 r ∧ LfAt ⟨[], []⟩ w s (fun j => w.cell? ⟨b, o + i * s.shape.size + j, none⟩) 0 r) fun i hi => by
                obtain ⟨ci, hci, y, hy⟩ := key i hi
                obtain ⟨k1, _, _, k4⟩ := cells_get h3 hci
                obtain ⟨r, r1, r2⟩ := ih fuel ci y k1 hy
                exact ⟨r, r1, LfAt.congr s _ _ 0 r r (fun j _ hj => ⟨(k4 j (by omega) hsp).symm, rfl⟩) r2⟩
              subst hsp
              exact ⟨_, len, cap, g, rfl, hc.2.1, hc.2.2, fun i hi => (hg i hi).1, .inr ⟨b, o, rfl, hb, by simp [Ren.mbs, Ren.own], fun i hi => (hg i hi).2⟩⟩
        · simp at h
    all_goals (simp [DataW.trod, h1] at h)
mutual
theorem Sk.open : ∀ (s : Sk) (t : TypeId), s.tok P t → ∀ (fuel : Nat) (cs : List Value) (x : DataW H × List MemPlace), cs.length = s.shape.size → DataW.trod enc P w 0 spare held fuel t cs = some x →
    ∃ r, s.has 0 r ∧ LfAt ⟨[], []⟩ w s (fun j => cs[j]?) 0 r
  | .bool, t, hk, fuel, cs, x, hl, h => by
    simp only [Sk.tok] at hk
    obtain ⟨v, rfl⟩ := one_cell (by simpa [Sk.shape, Shape.size] using hl)
    cases fuel with
    | zero => simp [DataW.trod] at h
    | succ fuel =>
      simp only [DataW.trod, hk] at h
      cases v <;> simp at h
      rename_i b
      refine ⟨fun _ => .z (b2i b), trivial, ?_⟩
      simp only [LfAt]
      cases b <;> rfl
  | .int k, t, hk, fuel, cs, x, hl, h => by
    simp only [Sk.tok] at hk
    obtain ⟨v, rfl⟩ := one_cell (by simpa [Sk.shape, Shape.size] using hl)
    cases fuel with
    | zero => simp [DataW.trod] at h
    | succ fuel =>
      simp only [DataW.trod, hk] at h
      cases v <;> simp at h
      rename_i k' n
      obtain ⟨⟨rfl, hw⟩, _⟩ := h
      refine ⟨fun _ => .z n, hw, ?_⟩
      simp only [LfAt]
      rfl
  | .sl s, t, hk, fuel, cs, x, hl, h => by
    simp only [Sk.tok] at hk
    obtain ⟨e, h1, h2, h3, h4⟩ := hk
    obtain ⟨v, rfl⟩ := one_cell (by simpa [Sk.shape, Shape.size] using hl)
    obtain ⟨a, n, c, g, rfl, k1, k2, k3, k4⟩ := open_sl (fun fuel cs x hl h => Sk.open s e h4 fuel cs x hl h) h1 h2 h3 h
    refine ⟨fun _ => .r n g, ⟨Nat.le_trans k1 k2, fun i hi => k3 i hi⟩, ?_⟩
    simp only [LfAt]
    exact ⟨a, c, rfl, k1, k4⟩
  | .agg l, t, hk, fuel, cs, x, hl, h => by
    simp only [Sk.tok] at hk
    obtain ⟨fs, h1, h2⟩ := hk
    cases fuel with
    | zero => simp [DataW.trod] at h
    | succ fuel =>
      simp only [DataW.trod, h1] at h
      split at h
      · cases hm : fs.toList.mapM fun f => DataW.trod enc P w 0 spare held fuel f.type ((cs.drop f.offset).take (P.cellsOf f.type)) with
        | none => rw [hm] at h; simp at h
        | some r =>
          obtain ⟨r, g1, g2⟩ := Sk.openL l fs.toList 0 h2 fuel cs (by simpa [Sk.shape, Shape.size] using hl) fun i f hf => mapM_some hm i f hf
          exact ⟨r, by simpa [Sk.has] using g1, by simp only [LfAt]; exact g2⟩
      · cases h
theorem Sk.openL : ∀ (l : List Sk) (fs : List Field) (o : Nat), Sk.tokL P l fs o → ∀ (fuel : Nat) (cs : List Value), cs.length = o + Shape.sizeL (Sk.shapeL l) →
    (∀ (i : Nat) f, fs[i]? = some f → ∃ b, DataW.trod enc P w 0 spare held fuel f.type ((cs.drop f.offset).take (P.cellsOf f.type)) = some b) →
    ∃ r, Sk.hasL l o r ∧ LfAtL ⟨[], []⟩ w l (fun j => cs[j]?) o r
  | [], fs, o, hk, fuel, cs, hl, h => ⟨fun _ => .z 0, trivial, trivial⟩
  | s :: l, fs, o, hk, fuel, cs, hl, h => by
    simp only [Sk.tokL] at hk
    cases fs with
    | nil => exact hk.elim
    | cons f fs =>
      simp only [Sk.shapeL, Shape.sizeL] at hl
      obtain ⟨k1, k2, k3, k4⟩ := hk
      obtain ⟨b, hb⟩ := h 0 f rfl
      rw [k1, k2] at hb
      obtain ⟨r1, g1, g2⟩ := Sk.open s f.type k3 fuel _ b (by simp; omega) hb
      obtain ⟨r2, e1, e2⟩ := Sk.openL l fs (o + s.shape.size) k4 fuel cs (by omega) fun i f' hf => h (i + 1) f' (by simpa using hf)
      have sh1 : s.has o (fun j => r1 (j - o)) := Sk.has_shift s 0 o r1 g1
      have sh2 : LfAt ⟨[], []⟩ w s (fun j => cs[j]?) o (fun j => r1 (j - o)) := LfAt.shift s 0 o _ _ r1 (fun j _ hj => by
        show ((cs.drop o).take s.shape.size)[j]? = cs[o + j]?
        rw [List.getElem?_take_of_lt (by omega), List.getElem?_drop]) g2
      refine ⟨fun j => if j < o + s.shape.size then r1 (j - o) else r2 j, ?_, ?_⟩
      · simp only [Sk.hasL]
        exact ⟨Sk.has_congr s o _ _ (fun j h1 h2 => by rw [if_pos h2]) sh1, Sk.hasL_congr l _ _ _ (fun j h1 h2 => by rw [if_neg (by omega)]) e1⟩
      · simp only [LfAtL]
        exact ⟨LfAt.congr s _ _ o _ _ (fun j h1 h2 => ⟨rfl, by rw [if_pos h2]⟩) sh2, LfAtL.congr l _ _ _ _ _ (fun j h1 h2 => ⟨rfl, by rw [if_neg (by omega)]⟩) e2⟩
end
inductive Tw where
  | bool
  | int (k : IntKind)
  | str
  | arr (n : Nat) (k : IntKind) (e : TypeId)
  | tab (n : Nat) (s : Sk) (e : TypeId)
  | row (s : Sk) (e : TypeId)
  | agg (l : List Tw)
mutual
def Tw.size : Tw → Nat
  | .bool => 1
  | .int _ => 1
  | .str => 1
  | .arr n _ _ => n
  | .tab n s _ => n * s.shape.size
  | .row _ _ => 1
  | .agg l => Tw.sizeL l
def Tw.sizeL : List Tw → Nat
  | [] => 0
  | t :: l => t.size + Tw.sizeL l
end
mutual
def Tw.ok (P : Program) : Tw → TypeId → Prop
  | .bool, t => P.underlying t = some .bool
  | .int k, t => P.underlying t = some (.int k)
  | .str, t => P.underlying t = some .string
  | .arr n k e, t => P.underlying t = some (.array n e) ∧ P.underlying e = some (.int k) ∧ P.cellsOf e = 1
  | .tab n s e, t => P.underlying t = some (.array n e) ∧ P.cellsOf e = s.shape.size ∧ s.tok P e
  | .row s e, t => P.underlying t = some (.slice e) ∧ P.cellsOf e = s.shape.size ∧ 0 < s.shape.size ∧ s.tok P e
  | .agg l, t => ∃ fs, P.underlying t = some (.struct fs) ∧ Tw.okL P l fs.toList 0
def Tw.okL (P : Program) : List Tw → List Field → Nat → Prop
  | [], fs, _ => fs = []
  | t :: l, fs, o => match fs with
    | [] => False
    | f :: fs => f.offset = o ∧ P.cellsOf f.type = t.size ∧ t.ok P f.type ∧ Tw.okL P l fs (o + t.size)
end
mutual
def Tw.has : Tw → EV → Prop
  | .bool, u => ∃ b, u = .bool b
  | .int k, u => ∃ n, u = .int k n ∧ (Lit.int k n).wf = true
  | .str, u => ∃ s : List UInt8, u = .str s ∧ s.length ≤ maxLen
  | .arr n k _, u => ∃ g : Nat → Int, u = .arr k n g ∧ (∀ i, i < n → (Lit.int k (g i)).wf = true) ∧ ∀ i, n ≤ i → g i = 0
  | .tab n s _, u => ∃ g : Nat → Nat → Lf, u = .arrT n s g ∧ ∀ i, i < n → s.has 0 (g i)
  | .row s _, u => ∃ (n : Nat) (g : Nat → Nat → Lf), u = .rsT n s g ∧ n ≤ maxLen ∧ ∀ i, i < n → s.has 0 (g i)
  | .agg l, u => ∃ us, u = .agg us ∧ Tw.hasL l us
def Tw.hasL : List Tw → List EV → Prop
  | [], us => us = []
  | t :: l, us => ∃ v vs, us = v :: vs ∧ t.has v ∧ Tw.hasL l vs
end
theorem trod_tab {n : Nat} {s : Sk} {e t : TypeId} (h1 : P.underlying t = some (.array n e)) (h2 : P.cellsOf e = s.shape.size) (h3 : s.tok P e) {fuel : Nat} {cs : List Value} {x : DataW H × List MemPlace}
    (hl : cs.length = n * s.shape.size) (h : DataW.trod enc P w 0 spare held fuel t cs = some x) : ∃ g : Nat → Nat → Lf, (∀ i, i < n → s.has 0 (g i)) ∧ ∀ i, i < n → LfAt ⟨[], []⟩ w s (fun j => cs[i * s.shape.size + j]?) 0 (g i) := by
  cases fuel with
  | zero => simp [DataW.trod] at h
  | succ fuel =>
    simp only [DataW.trod, h1] at h
    split at h
    · rename_i hc
      cases hm : (List.range n).mapM fun i => DataW.trod enc P w 0 spare held fuel e ((cs.drop (i * P.cellsOf e)).take (P.cellsOf e)) with
      | none => rw [hm] at h; simp at h
      | some r =>
        obtain ⟨g, hg⟩ := pick_rows (n := n) (p := fun i r => s.has 0 r ∧ LfAt ⟨[], []⟩ w s (fun j => cs[i * s.shape.size + j]?) 0 r) fun i hi => by
          obtain ⟨y, hy⟩ := mapM_some hm i i (by simp [hi])
          rw [h2] at hy
          have hle : (i + 1) * s.shape.size ≤ n * s.shape.size := Nat.mul_le_mul_right _ hi
          rw [Nat.succ_mul] at hle
          obtain ⟨r, r1, r2⟩ := Sk.open s e h3 fuel _ y (by simp; omega) hy
          exact ⟨r, r1, LfAt.congr s _ _ 0 r r (fun j _ hj => ⟨by rw [List.getElem?_take_of_lt (by omega), List.getElem?_drop], rfl⟩) r2⟩
        exact ⟨g, fun i hi => (hg i hi).1, fun i hi => (hg i hi).2⟩
    · cases h
mutual
theorem Tw.open : ∀ (tm : Tw) (t : TypeId), tm.ok P t → ∀ (fuel : Nat) (cs : List Value) (x : DataW H × List MemPlace), cs.length = tm.size → DataW.trod enc P w 0 spare held fuel t cs = some x →
    ∃ u, tm.has u ∧ ∃ y : Value, y.cells.toList = cs ∧ Rel ⟨[], []⟩ w u y
  | .bool, t, hk, fuel, cs, x, hl, h => by
    obtain ⟨u, h1, y, h2, h3⟩ := Tm.open .bool t hk fuel cs x hl h
    exact ⟨u, h1, y, h2, h3 _ _⟩
  | .int k, t, hk, fuel, cs, x, hl, h => by
    obtain ⟨u, h1, y, h2, h3⟩ := Tm.open (.int k) t hk fuel cs x hl h
    exact ⟨u, h1, y, h2, h3 _ _⟩
  | .str, t, hk, fuel, cs, x, hl, h => by
    obtain ⟨u, h1, y, h2, h3⟩ := Tm.open .str t hk fuel cs x hl h
    exact ⟨u, h1, y, h2, h3 _ _⟩
  | .arr n k e, t, hk, fuel, cs, x, hl, h => by
    obtain ⟨u, h1, y, h2, h3⟩ := Tm.open (.arr n k e) t hk fuel cs x hl h
    exact ⟨u, h1, y, h2, h3 _ _⟩
  | .tab n s e, t, hk, fuel, cs, x, hl, h => by
    simp only [Tw.ok] at hk
    simp only [Tw.size] at hl
    obtain ⟨g, h1, h2⟩ := trod_tab hk.1 hk.2.1 hk.2.2 hl h
    refine ⟨.arrT n s g, ⟨g, rfl, h1⟩, .agg cs.toArray, rfl, ?_⟩
    simp only [Rel]
    exact ⟨_, rfl, by simpa using hl, fun i hi => by simpa using h2 i hi⟩
  | .row s e, t, hk, fuel, cs, x, hl, h => by
    simp only [Tw.ok] at hk
    obtain ⟨v, rfl⟩ := one_cell (by simpa [Tw.size] using hl)
    obtain ⟨a, n, c, g, rfl, k1, k2, k3, k4⟩ := open_sl (fun fuel cs x hl h => Sk.open s e hk.2.2.2 fuel cs x hl h) hk.1 hk.2.1 hk.2.2.1 h
    refine ⟨.rsT n s g, ⟨n, g, rfl, Nat.le_trans k1 k2, k3⟩, .slice a n c, rfl, ?_⟩
    simp only [Rel]
    exact ⟨a, c, rfl, k1, k4⟩
  | .agg l, t, hk, fuel, cs, x, hl, h => by
    simp only [Tw.ok] at hk
    obtain ⟨fs, h1, h2⟩ := hk
    cases fuel with
    | zero => simp [DataW.trod] at h
    | succ fuel =>
      simp only [DataW.trod, h1] at h
      split at h
      · cases hm : fs.toList.mapM fun f => DataW.trod enc P w 0 spare held fuel f.type ((cs.drop f.offset).take (P.cellsOf f.type)) with
        | none => rw [hm] at h; simp at h
        | some r =>
          obtain ⟨us, g1, g2⟩ := Tw.openL l fs.toList 0 h2 fuel cs (by simpa [Tw.size] using hl) fun i f hf => mapM_some hm i f hf
          refine ⟨.agg us, ⟨us, rfl, g1⟩, .agg cs.toArray, rfl, ?_⟩
          simp only [Rel]
          exact ⟨cs.toArray, rfl, by simpa using g2⟩
      · cases h
theorem Tw.openL : ∀ (l : List Tw) (fs : List Field) (o : Nat), Tw.okL P l fs o → ∀ (fuel : Nat) (cs : List Value), cs.length = o + Tw.sizeL l →
    (∀ (i : Nat) f, fs[i]? = some f → ∃ b, DataW.trod enc P w 0 spare held fuel f.type ((cs.drop f.offset).take (P.cellsOf f.type)) = some b) →
    ∃ us, Tw.hasL l us ∧ RelF ⟨[], []⟩ w us (cs.drop o)
  | [], fs, o, hk, fuel, cs, hl, h => by
    refine ⟨[], rfl, ?_⟩
    simp only [RelF]
    exact List.drop_eq_nil_of_le (by simp [Tw.sizeL] at hl; omega)
  | tm :: l, fs, o, hk, fuel, cs, hl, h => by
    simp only [Tw.okL] at hk
    cases fs with
    | nil => exact hk.elim
    | cons f fs =>
      simp only [Tw.sizeL] at hl
      obtain ⟨k1, k2, k3, k4⟩ := hk
      obtain ⟨b, hb⟩ := h 0 f rfl
      rw [k1, k2] at hb
      obtain ⟨u, g1, y, g2, g3⟩ := Tw.open tm f.type k3 fuel _ b (by simp; omega) hb
      obtain ⟨us, e1, e2⟩ := Tw.openL l fs (o + tm.size) k4 fuel cs (by omega) fun i f' hf => h (i + 1) f' (by simpa using hf)
      refine ⟨u :: us, ⟨u, us, rfl, g1, e1⟩, ?_⟩
      simp only [RelF]
      refine ⟨y, cs.drop (o + tm.size), ?_, g3, e2⟩
      rw [g2, ← List.drop_drop]
      exact (List.take_append_drop _ _).symm
end
theorem open_tw {r : Reach} {b0 : Nat} {t : TypeId} {v : Value} {d : DataW H} {ps : List MemPlace} {l : List Tw} (hk : (Tw.agg l).ok P t) (hs : P.cellsOf t = (Tw.agg l).size) (hval : Value.okWide P w r b0 t v) (hd : DataW.Trod enc P w 0 spare held t v d ps) :
    ∃ u, (Tw.agg l).has u ∧ Rel ⟨[], []⟩ w u v := by
  obtain ⟨fuel, hf⟩ := hd
  have hv : ∃ cs, v = .agg cs ∧ cs.size = P.cellsOf t := by
    unfold Value.okWide at hval
    have hk' := hk
    simp only [Tw.ok] at hk'
    obtain ⟨fs, h1, _⟩ := hk'
    rw [h1] at hval; obtain ⟨cs, h1, h2, _⟩ := hval; exact ⟨cs, h1, h2⟩
  obtain ⟨cs, rfl, hsz⟩ := hv
  obtain ⟨u, h1, y, h2, h3⟩ := Tw.open (.agg l) t hk fuel _ _ (by show cs.toList.length = _; rw [Array.length_toList, hsz, hs]) hf
  refine ⟨u, h1, ?_⟩
  have hy : y = .agg cs := by
    have h1' := h1
    simp only [Tw.has] at h1'
    obtain ⟨us, rfl, _⟩ := h1'
    have h3' := h3
    simp only [Rel] at h3'
    obtain ⟨cs', rfl, _⟩ := h3'
    have : cs'.toList = cs.toList := h2
    rw [Array.toList_inj.1 this]
  rw [← hy]; exact h3
theorem open_rows {t e : TypeId} {s : Sk} {v : Value} {d : DataW H} {ps : List MemPlace} (hk : (Tw.row s e).ok P t) (h1 : v.cells.toList.length = 1) (hv : ∀ cs, v ≠ .agg cs) (hd : DataW.Trod enc P w 0 spare held t v d ps) :
    ∃ u, (Tw.row s e).has u ∧ Rel ⟨[], []⟩ w u v := by
  obtain ⟨fuel, hf⟩ := hd
  obtain ⟨u, h1, y, h2, h3⟩ := Tw.open (.row s e) t hk fuel _ _ h1 hf
  refine ⟨u, h1, ?_⟩
  have h1' := h1
  simp only [Tw.has] at h1'
  obtain ⟨n, g, rfl, _⟩ := h1'
  have h3' := h3
  simp only [Rel] at h3'
  obtain ⟨a, c, rfl, _⟩ := h3'
  have : v = .slice a n c := by
    cases v <;> simp_all [Value.cells]
  rw [this]; exact h3
end
end Go.Ev

/- What is handed over to a law, opened: how long the slices in it can be, by what a machine's memory holds. -/
set_option linter.unusedVariables false
set_option linter.unusedSimpArgs false
namespace Go.Ev
open Go Go.Joins
mutual
def Sk.atl (P : Program) (B : Nat) : Sk → TypeId → Prop
  | .int k, t => P.underlying t = some (.int k)
  | .bool, t => P.underlying t = some .bool
  | .sl s, t => ∃ e, P.underlying t = some (.slice e) ∧ P.cellsOf e = s.shape.size ∧ 0 < s.shape.size ∧ B ≤ P.bytesOf e ∧ s.atl P B e
  | .agg l, t => ∃ fs, P.underlying t = some (.struct fs) ∧ Sk.atlL P B l fs.toList 0
def Sk.atlL (P : Program) (B : Nat) : List Sk → List Field → Nat → Prop
  | [], fs, _ => fs = []
  | s :: l, fs, o => match fs with
    | [] => False
    | f :: fs => f.offset = o ∧ P.cellsOf f.type = s.shape.size ∧ s.atl P B f.type ∧ Sk.atlL P B l fs (o + s.shape.size)
end
mutual
def Sk.lim (B : Nat) : Sk → Nat → (Nat → Lf) → Prop
  | .int _, _, _ => True
  | .bool, _, _ => True
  | .sl s, c, r => (r c).len * B ≤ reachBytes ∧ ∀ i, i < (r c).len → s.lim B 0 ((r c).row i)
  | .agg l, c, r => Sk.limL B l c r
def Sk.limL (B : Nat) : List Sk → Nat → (Nat → Lf) → Prop
  | [], _, _ => True
  | s :: l, c, r => s.lim B c r ∧ Sk.limL B l (c + s.shape.size) r
end
theorem mapM_get {α β : Type} {f : α → Option β} : ∀ {l : List α} {r : List β}, l.mapM f = some r → r.length = l.length ∧ ∀ (i : Nat) (a : α), l[i]? = some a → ∃ b, f a = some b ∧ r[i]? = some b
  | [], r, h => by simp at h; subst h; exact ⟨rfl, fun i a ha => by simp at ha⟩
  | x :: l, r, h => by
    rw [List.mapM_cons] at h
    cases hx : f x with
    | none => simp [hx] at h
    | some y =>
      cases hl : l.mapM f with
      | none => simp [hx, hl] at h
      | some ys =>
        simp [hx, hl] at h
        subst h
        obtain ⟨h1, h2⟩ := mapM_get hl
        refine ⟨by simp [h1], fun i a ha => ?_⟩
        cases i with
        | zero => simp at ha; subst ha; exact ⟨y, hx, rfl⟩
        | succ i => exact h2 i a (by simpa using ha)
theorem weights_mem_all {H : Type} {P : Program} {e : TypeId} : ∀ {ds : List (DataW H)} {j : Nat} {d : DataW H}, ds[j]? = some d → ∀ n ∈ d.weights P e, n ∈ DataW.weightsAll P e ds
  | d0 :: ds, 0, d, hd, n, hn => by
    simp only [List.getElem?_cons_zero, Option.some.injEq] at hd
    subst hd
    simp only [DataW.weightsAll, List.mem_append]
    exact Or.inl hn
  | d0 :: ds, j + 1, d, hd, n, hn => by
    simp only [List.getElem?_cons_succ] at hd
    simp only [DataW.weightsAll, List.mem_append]
    exact Or.inr (weights_mem_all hd n hn)
  | [], _, _, hd, _, _ => by simp at hd
section
variable {H : Type} {enc : TypeId × Value → H} {P : Program} {w : World} {spare : Nat → Bool} {held : Bool} {ρ : Ren} {B : Nat}
theorem lim_sl {s : Sk} {t e : TypeId} (ih : ∀ (fuel : Nat) (cs : List Value) (x : DataW H × List MemPlace) (cv : Nat → Option Value) (c : Nat) (r : Nat → Lf), cs.length = s.shape.size → DataW.trod enc P w 0 spare held fuel e cs = some x → LfAt ρ w s cv c r →
      (∀ j, j < s.shape.size → cv (c + j) = cs[j]?) → (∀ n ∈ x.1.weights P e, n ≤ reachBytes) → s.lim B c r)
    (h1 : P.underlying t = some (.slice e)) (h2 : P.cellsOf e = s.shape.size) (h3 : 0 < s.shape.size) (hB : B ≤ P.bytesOf e) {fuel : Nat} {a : Option Addr} {n cp : Nat} {g : Nat → Nat → Lf} {x : DataW H × List MemPlace} (h : DataW.trod enc P w 0 spare held fuel t [.slice a n cp] = some x)
    (hr : n = 0 ∨ ∃ b o, a = some ⟨b, o, none⟩ ∧ b < w.heap.size ∧ b ∉ ρ.mbs ∧ ∀ i, i < n → LfAt ρ w s (fun j => w.cell? ⟨b, o + i * s.shape.size + j, none⟩) 0 (g i)) (hw : ∀ m ∈ x.1.weights P t, m ≤ reachBytes) :
    n * B ≤ reachBytes ∧ ∀ i, i < n → s.lim B 0 (g i) := by
  by_cases h0 : n = 0
  · subst h0
    exact ⟨by simp, fun i hi => absurd hi (by omega)⟩
  · obtain ⟨b, o, rfl, hb, hm, hrow⟩ := hr.resolve_left h0
    cases fuel with
    | zero => simp [DataW.trod] at h
    | succ fuel =>
      simp only [DataW.trod, h1] at h
      split at h
      · rename_i hc
        cases hm : (List.range n).mapM fun i => (w.cells? 0 ((⟨b, o, none⟩ : Addr).add (i * P.cellsOf e)) (P.cellsOf e)).bind (DataW.trod enc P w 0 spare held fuel e) with
        | none => rw [hm] at h; simp at h
        | some r =>
          rw [hm] at h
          simp only [Option.bind_some, Option.map_eq_some_iff] at h
          obtain ⟨rest, -, rfl⟩ := h
          obtain ⟨l1, l2⟩ := mapM_get hm
          simp only [List.length_range] at l1
          have hwt : ∀ m ∈ ((r.map (·.1)).length + (rest.map (·.1)).length) * P.bytesOf e :: (DataW.weightsAll P e (r.map (·.1)) ++ DataW.weightsAll P e (rest.map (·.1))), m ≤ reachBytes := fun m hm => hw m (by simp only [DataW.weights, h1]; exact hm)
          constructor
          · have h4 := hwt _ (List.mem_cons_self ..)
            simp only [List.length_map, l1] at h4
            refine Nat.le_trans ?_ h4
            exact Nat.mul_le_mul (by omega) hB
          · intro i hi
            obtain ⟨y, hy, hyr⟩ := l2 i i (by simp [hi])
            rw [h2] at hy
            cases hq : w.cells? 0 ((⟨b, o, none⟩ : Addr).add (i * s.shape.size)) s.shape.size with
            | none => rw [hq] at hy; simp at hy
            | some ci =>
              rw [hq] at hy
              obtain ⟨k1, _, _, k4⟩ := cells_get h3 hq
              refine ih fuel ci y _ 0 (g i) k1 hy (hrow i hi) (fun j hj => by rw [Nat.zero_add]; exact k4 j hj rfl) fun m hm => hwt m ?_
              exact List.mem_cons_of_mem _ (List.mem_append_left _ (weights_mem_all (j := i) (by rw [List.getElem?_map, hyr]; rfl) m hm))
      · simp at h
mutual
theorem Sk.limW : ∀ (s : Sk) (t : TypeId), s.atl P B t → ∀ (fuel : Nat) (cs : List Value) (x : DataW H × List MemPlace) (cv : Nat → Option Value) (c : Nat) (r : Nat → Lf), cs.length = s.shape.size → DataW.trod enc P w 0 spare held fuel t cs = some x →
    LfAt ρ w s cv c r → (∀ j, j < s.shape.size → cv (c + j) = cs[j]?) → (∀ n ∈ x.1.weights P t, n ≤ reachBytes) → s.lim B c r
  | .bool, t, hk, fuel, cs, x, cv, c, r, hl, h, hr, hcv, hw => trivial
  | .int k, t, hk, fuel, cs, x, cv, c, r, hl, h, hr, hcv, hw => trivial
  | .sl s, t, hk, fuel, cs, x, cv, c, r, hl, h, hr, hcv, hw => by
    simp only [Sk.atl] at hk
    obtain ⟨e, h1, h2, h3, hB, h4⟩ := hk
    obtain ⟨v, rfl⟩ := one_cell (by simpa [Sk.shape, Shape.size] using hl)
    simp only [LfAt] at hr
    obtain ⟨a, cp, e1, e2, e3⟩ := hr
    have e4 := hcv 0 (by simp [Sk.shape, Shape.size])
    rw [Nat.add_zero, e1] at e4
    obtain rfl : Value.slice a (r c).len cp = v := by simpa using e4
    simp only [Sk.lim]
    exact lim_sl (fun fuel cs x cv c r hl h hr hcv hw => Sk.limW s e h4 fuel cs x cv c r hl h hr hcv hw) h1 h2 h3 hB h e3 hw
  | .agg l, t, hk, fuel, cs, x, cv, c, r, hl, h, hr, hcv, hw => by
    simp only [Sk.atl] at hk
    obtain ⟨fs, h1, h2⟩ := hk
    simp only [LfAt] at hr
    simp only [Sk.shape, Shape.size] at hl hcv
    simp only [Sk.lim]
    cases fuel with
    | zero => simp [DataW.trod] at h
    | succ fuel =>
      simp only [DataW.trod, h1] at h
      split at h
      · cases hm : fs.toList.mapM fun f => DataW.trod enc P w 0 spare held fuel f.type ((cs.drop f.offset).take (P.cellsOf f.type)) with
        | none => rw [hm] at h; simp at h
        | some xs =>
          rw [hm] at h
          simp only [Option.map_some, Option.some.injEq] at h
          subst h
          obtain ⟨l1, l2⟩ := mapM_get hm
          have hwt : ∀ m ∈ DataW.weightsEach P (fs.toList.map (·.type)) (xs.map (·.1)), m ≤ reachBytes := fun m hm => hw m (by simp only [DataW.weights, h1]; exact hm)
          refine Sk.limWL l fs.toList 0 h2 fuel cs cv c r (by rw [hl, Nat.zero_add]) hr (fun j _ hj => hcv j (by simpa using hj)) fun i f hf => ?_
          obtain ⟨y, hy, hyr⟩ := l2 i f hf
          exact ⟨y, hy, fun m hm => hwt m (DataW.weights_mem_each (j := i) (t := f.type) (d := y.1) (by rw [List.getElem?_map, hf]; rfl) (by rw [List.getElem?_map, hyr]; rfl) m hm)⟩
      · cases h
theorem Sk.limWL : ∀ (l : List Sk) (fs : List Field) (o : Nat), Sk.atlL P B l fs o → ∀ (fuel : Nat) (cs : List Value) (cv : Nat → Option Value) (c : Nat) (r : Nat → Lf), cs.length = o + Shape.sizeL (Sk.shapeL l) →
    LfAtL ρ w l cv (c + o) r → (∀ j, o ≤ j → j < o + Shape.sizeL (Sk.shapeL l) → cv (c + j) = cs[j]?) →
    (∀ (i : Nat) f, fs[i]? = some f → ∃ y, DataW.trod enc P w 0 spare held fuel f.type ((cs.drop f.offset).take (P.cellsOf f.type)) = some y ∧ ∀ m ∈ y.1.weights P f.type, m ≤ reachBytes) →
    Sk.limL B l (c + o) r
  | [], fs, o, hk, fuel, cs, cv, c, r, hl, hr, hcv, h => trivial
  | s :: l, fs, o, hk, fuel, cs, cv, c, r, hl, hr, hcv, h => by
    simp only [Sk.atlL] at hk
    cases fs with
    | nil => exact hk.elim
    | cons f fs =>
      simp only [Sk.shapeL, Shape.sizeL] at hl hcv
      obtain ⟨k1, k2, k3, k4⟩ := hk
      obtain ⟨y, hy, hyw⟩ := h 0 f rfl
      rw [k1, k2] at hy
      simp only [LfAtL] at hr
      simp only [Sk.limL]
      constructor
      · refine Sk.limW s f.type k3 fuel _ y cv (c + o) r (by simp; omega) hy hr.1 (fun j hj => ?_) hyw
        rw [List.getElem?_take_of_lt (by omega), List.getElem?_drop, Nat.add_assoc]
        exact hcv (o + j) (by omega) (by omega)
      · have h5 := Sk.limWL l fs (o + s.shape.size) k4 fuel cs cv c r (by omega) (by rw [← Nat.add_assoc]; exact hr.2) (fun j h1 h2 => hcv j (by omega) (by omega)) fun i f' hf => h (i + 1) f' (by simpa using hf)
        rw [← Nat.add_assoc] at h5; exact h5
end
theorem open_rows_lim {r : Reach} {b0 : Nat} {t e : TypeId} {s : Sk} {v : Value} {d : DataW H} {ps : List MemPlace} (hk : (Tw.row s e).ok P t) (hk2 : (Sk.sl s).atl P B t) (hval : Value.okWide P w r b0 t v) (hd : DataW.Trod enc P w 0 spare held t v d ps) (hw : ∀ n ∈ d.weights P t, n ≤ reachBytes) :
    ∃ (n : Nat) (g : Nat → Nat → Lf), Rel ⟨[], []⟩ w (.rsT n s g) v ∧ (n * B ≤ reachBytes ∧ ∀ i, i < n → s.lim B 0 (g i)) ∧ ∀ i, i < n → s.has 0 (g i) := by
  have hv : ∃ a n c, v = .slice a n c := by
    unfold Value.okWide at hval
    have hk' := hk
    simp only [Tw.ok] at hk'
    rw [hk'.1] at hval
    cases v <;> simp [Cell.okWide, Cell.ok, hk'.1] at hval
    exact ⟨_, _, _, rfl⟩
  obtain ⟨a, n, c, rfl⟩ := hv
  obtain ⟨u, h1, h2⟩ := open_rows hk rfl (fun cs h => by cases h) hd
  simp only [Tw.has] at h1
  obtain ⟨n', g, rfl, h3, h4⟩ := h1
  refine ⟨n', g, h2, ?_, h4⟩
  simp only [Rel] at h2
  obtain ⟨a', c', e1, e2, e3⟩ := h2
  cases e1
  simp only [Sk.atl] at hk2
  obtain ⟨e', q1, q2, q3, q4, q5⟩ := hk2
  obtain ⟨fuel, hf⟩ := hd
  exact lim_sl (fun fuel cs x cv c r hl h hr hcv hw => Sk.limW s e' q5 fuel cs x cv c r hl h hr hcv hw) q1 q2 q3 q4 hf e3 hw
end
end Go.Ev
