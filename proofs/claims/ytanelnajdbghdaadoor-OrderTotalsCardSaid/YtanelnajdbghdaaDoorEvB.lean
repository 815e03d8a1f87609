/- The evaluator: parts of slices, new slices, append, copy. -/
import Derived.Test.YtanelnajdbghdaaDoorEvA
import Derived.Laws.Append
import Derived.Laws.Strings2
set_option linter.unusedVariables false
set_option linter.unusedSimpArgs false
namespace Go.Ev
open Go
theorem bltI {a b : Nat} : Nat.blt a b = true ↔ a < b := by rw [Nat.blt_eq]
theorem bleI {a b : Nat} : Nat.ble a b = true ↔ a ≤ b := by rw [Nat.ble_eq]
def oInt (d : Nat) : Option EV → Option Int
  | none => some d
  | some (.int _ i) => some i
  | some _ => none
def capN (len : Nat) : Option Nat → Nat
  | some c => c
  | none => len
def capSub (l : Nat) : Option Nat → Option Nat
  | some c => some (c - l)
  | none => none
def leN (a b : Nat) : Bool := Nat.ble a b
def isZ (a : Nat) : Bool := Nat.beq a 0
def minN (a b : Nat) : Nat := Nat.min a b
def app (n : Nat) (g h : Nat → Int) : Nat → Int := fun i => cond (Nat.blt i n) (g i) (h (i - n))
def ovl (o n : Nat) (h g : Nat → Int) : Nat → Int := fun i => cond (Nat.ble o i && Nat.blt i (o + n)) (h (i - o)) (g i)
def evSlice (E : Env) (t : TypeId) (x : EV) (lo hi mx : Option EV) (H : Heap) (K : EV → Prop) : Prop :=
  match mx, E.ty t with
  | none, some ti => match ti.td, x with
    | .str, .str s => match oInt 0 lo, oInt s.length hi with
      | some l, some h => gd (leI 0 l && (leI l h && leI h s.length)) (K (.str (subS s l.toNat h.toNat)))
      | _, _ => False
    | .slice e, .slice b off len cap es => match oInt 0 lo, oInt len hi, H[b]? with
      | some l, some h, some (some _) => gd (sizeIs E e es && (leI 0 l && (leI l h && leI h (capN len cap)))) (K (.slice b (addOff off l.toNat) (h.toNat - l.toNat) (capSub l.toNat cap) es))
      | _, _, _ => False
    | .slice e, .rsI k n g => match oInt 0 lo, oInt n hi with
      | some l, some h => gd (sizeIs E e 1 && (leI 0 l && (leI l h && leI h n))) (K (.rsI k (h.toNat - l.toNat) (shift l.toNat g)))
      | _, _ => False
    | .slice e, .nilSlice => match oInt 0 lo, oInt 0 hi with
      | some l, some h => gd (sizeIs E e 1 && (eqI l 0 && eqI h 0)) (K .nilSlice)
      | _, _ => False
    | .array na e, .ptr b [] => match oInt 0 lo, oInt na hi, H[b]? with
      | some l, some h, some (some (.arr k n g)) => gd (sizeIs E e 1 && (Nat.beq na n && (leI 0 l && (leI l h && leI h n)))) (K (.slice b l.toNat (h.toNat - l.toNat) (some (n - l.toNat)) 1))
      | _, _, _ => False
    | _, _ => False
  | _, _ => False
def evMakeSlice (E : Env) (t : TypeId) (ln cp : EV) (H : Heap) (K : EV → Heap → Prop) : Prop :=
  match E.ty t, ln, cp with
  | some ti, .int _ l, .int _ c => match ti.td with
    | .slice e => match E.ty e with
      | some ei => match ei.zero with
        | .int k z => gd (Nat.beq ei.size 1 && (Nat.ble ei.bytes 256 && (leI 0 l && (leI l c && leI c 1099511627776))))
            (K (.slice H.length 0 l.toNat (some c.toNat) 1) (H ++ [some (.arr k c.toNat (fun _ => z))]))
        | _ => False
      | none => False
    | _ => False
  | _, _, _ => False
def evCopy (E : Env) (t : TypeId) (d x : EV) (H : Heap) (K : EV → Heap → Prop) : Prop :=
  match E.ty t, d with
  | some ti, .slice b off len cap 1 => match ti.td, H[b]?, evWin H x with
    | .slice e, some (some (.arr k n g)), some (k', m, h) => gd (sizeIs E e 1 && decide (k = k')) (K (.int .i64 (minN m len)) (H.set b (some (.arr k n (ovl off (minN m len) h g)))))
    | _, _, _ => False
  | _, _ => False
def evAppend (E : Env) (t t' : TypeId) (s x : EV) (H : Heap) (K : EV → Heap → Prop) : Prop :=
  match E.ty t, E.ty t' with
  | some ti, some ti' => match ti.td, ti'.td, evWin H x with
    | .slice e, .slice _, some (k, m, h) => match E.ty e with
      | some ei => match ei.zero with
        | .int k0 z => gd (Nat.beq t t' && (Nat.beq ei.size 1 && Nat.ble ei.bytes 64)) (match s with
          | .nilSlice => gd (leN m 1099511627776) (br (isZ m) (K .nilSlice H) (K (.slice H.length 0 m none 1) (H ++ [some (.arr k m h)])))
          | .slice b off len cap 1 => match H[b]? with
            | some (some (.arr k' n g)) => gd (decide (k' = k) && leN (len + m) 1099511627776) (K (.slice H.length 0 (len + m) none 1) (H.set b none ++ [some (.arr k (len + m) (app len (shift off g) h))]))
            | _ => False
          | _ => False)
        | _ => False
      | none => False
    | _, _, _ => False
  | _, _ => False
def ORel (ρ : Ren) (w : World) : Option EV → Option Value → Prop
  | none, none => True
  | some v, some x => Rel ρ w v x
  | _, _ => False
section sound
variable {P : Program} {E : Env}
theorem run_bound {k : IntKind} {i : Int} {y : Nat} {c : BoundsCode} {w : World} (h0 : 0 ≤ i) (h1 : i ≤ y) : (Instr.sliceBound (.int k i) y c).run P w = .ok i.toNat w := by
  simp only [Instr.sliceBound, run_bind, asIntOf, run_pure]
  rw [if_pos ⟨h0, h1⟩]
  rfl
theorem run_bounds {ρ : Ren} {w : World} {is : Bool} {len cap : Nat} {lo hi : Option EV} {Lo Hi : Option Value} (hlo : ORel ρ w lo Lo) (hhi : ORel ρ w hi Hi) {l h : Int}
    (h1 : oInt 0 lo = some l) (h2 : oInt len hi = some h) (h0 : 0 ≤ l) (h3 : l ≤ h) (h4 : h ≤ cap) : (Instr.sliceBounds is len cap Lo Hi none).run P w = .ok (l.toNat, h.toNat, cap) w := by
  have elo : (lo = none ∧ Lo = none ∧ l = 0) ∨ ∃ k, Lo = some (.int k l) := by
    cases lo with
    | none =>
      cases Lo with
      | none => simp only [oInt, Option.some.injEq] at h1; exact .inl ⟨rfl, rfl, h1.symm⟩
      | some X => exact hlo.elim
    | some v =>
      cases Lo with
      | none => exact hlo.elim
      | some X =>
        cases v <;> simp only [oInt] at h1 <;> try (cases h1)
        simp only [ORel, Rel] at hlo; subst hlo
        exact .inr ⟨_, rfl⟩
  have ehi : (hi = none ∧ Hi = none ∧ h = len) ∨ ∃ k, Hi = some (.int k h) := by
    cases hi with
    | none =>
      cases Hi with
      | none => simp only [oInt, Option.some.injEq] at h2; exact .inl ⟨rfl, rfl, h2.symm⟩
      | some X => exact hhi.elim
    | some v =>
      cases Hi with
      | none => exact hhi.elim
      | some X =>
        cases v <;> simp only [oInt] at h2 <;> try (cases h2)
        simp only [ORel, Rel] at hhi; subst hhi
        exact .inr ⟨_, rfl⟩
  rcases ehi with ⟨_, rfl, rfl⟩ | ⟨kh, rfl⟩
  · rcases elo with ⟨_, rfl, rfl⟩ | ⟨kl, rfl⟩
    · simp [Instr.sliceBounds, run_bind, run_pure]
    · simp [Instr.sliceBounds, run_bind, run_pure, run_bound (P := P) (w := w) h0 h3]
  · have hb : ∀ c, (Instr.sliceBound (.int kh h) cap c).run P w = .ok h.toNat w := fun c => run_bound (by omega) h4
    rcases elo with ⟨_, rfl, rfl⟩ | ⟨kl, rfl⟩
    · simp [Instr.sliceBounds, run_bind, run_pure, hb]
    · have hl : ∀ c, (Instr.sliceBound (.int kl l) h.toNat c).run P w = .ok l.toNat w := fun c => run_bound h0 (by omega)
      simp [Instr.sliceBounds, run_bind, run_pure, hb, hl]
theorem sizeIs_run {e : TypeId} {n : Nat} (hE : ∀ t ti, E.ty t = some ti → OkTI P t ti) (h : sizeIs E e n = true) (w : World) : (sizeOf e).run P w = .ok n w := by
  unfold sizeIs at h
  split at h
  · rename_i ti ht
    obtain ⟨d, it, z, h1, h2, h3, h4, _⟩ := hE e ti ht
    rw [run_sizeOf h2, h4, Nat.eq_of_beq_eq_true h]
  · cases h
theorem evSlice_sound {ρ : Ren} {w : World} {t : TypeId} {x : EV} {X : Value} {lo hi mx : Option EV} {Lo Hi Mx : Option Value} {H : Heap} {K : EV → Prop} (hE : ∀ t ti, E.ty t = some ti → OkTI P t ti) (hS : Sim ρ H w)
    (hx : Rel ρ w x X) (hlo : ORel ρ w lo Lo) (hhi : ORel ρ w hi Hi) (hmx : ORel ρ w mx Mx) (h : evSlice E t x lo hi mx H K) :
    ∃ v z, K v ∧ Rel ρ w v z ∧ (Instr.sliceAt t X Lo Hi Mx).run P w = .ok z w := by
  unfold evSlice at h
  split at h
  case h_2 => exact h.elim
  rename_i ti ht
  have hM : Mx = none := by cases Mx with | none => rfl | some _ => exact hmx.elim
  subst hM
  obtain ⟨d, it, zt, h1, h2, h3, h4, h5, h6, h7⟩ := hE t ti ht
  split at h
  · rename_i s htd
    rw [htd] at h3; cases d <;> simp only [tdOk] at h3
    simp only [Rel] at hx; subst hx
    split at h
    case h_2 => exact h.elim
    rename_i l hh e1 e2
    rw [gd_iff] at h
    simp only [Bool.and_eq_true, leI, decide_eq_true_eq] at h
    obtain ⟨⟨g1, g2, g3⟩, hK⟩ := h
    refine ⟨_, _, hK, rfl, ?_⟩
    have hb := run_bounds (P := P) (is := false) (cap := s.length) hlo hhi e1 e2 g1 g2 g3
    simp only [Instr.sliceAt, Instr.slice, run_bind, run_underlying h1, size_mk, hb]
    simp only [Option.isSome_none, Bool.false_eq_true, if_false, run_bind, run_pure, hb]
    rw [ByteArray.extract_mk]
    congr 3
    simp only [subS]
    rw [List.drop_take]
  · rename_i e b off len cap es htd
    rw [htd] at h3; cases d <;> simp only [tdOk] at h3
    subst h3
    split at h
    case h_2 => exact h.elim
    rename_i l hh vb e1 e2 hvb
    rw [gd_iff] at h
    simp only [Bool.and_eq_true, leI, decide_eq_true_eq] at h
    obtain ⟨⟨g0, g1, g2, g3⟩, hK⟩ := h
    obtain ⟨i, hib, _⟩ := hS.live b vb hvb
    simp only [Rel] at hx
    obtain ⟨a, c, rfl, r, hr, hi'⟩ := hx
    rw [hib] at hr; cases hr
    obtain ⟨n, q1, q2, q3, q4, q5⟩ := hi' i rfl
    have hcn : hh ≤ c ∧ off + hh.toNat ≤ n := by
      cases cap with
      | none => simp only [capN] at g3; omega
      | some c0 => simp only [capN] at g3; have := q4 c0 rfl; omega
    have hb := run_bounds (P := P) (is := true) (cap := c) hlo hhi e1 e2 g1 g2 hcn.1
    refine ⟨_, .slice (if c = l.toNat then a else a.map (·.add (l.toNat * es))) (hh.toNat - l.toNat) (c - l.toNat), hK, ?_, ?_⟩
    · simp only [Rel, addOff_eq]
      refine ⟨_, _, rfl, _, hib, fun i' hi'' => ?_⟩
      cases hi''
      refine ⟨n, q1, by omega, by omega, ?_, ?_⟩
      · intro c1 hc1
        cases cap with
        | none => cases hc1
        | some c0 =>
          have := q4 c0 rfl
          simp only [capSub, Option.some.injEq] at hc1
          omega
      · rcases q5 with ⟨rfl, q6⟩ | q5
        · by_cases hc : c = l.toNat
          · right; omega
          · left
            rw [if_neg hc]
            refine ⟨by simp [add_addr, Nat.add_mul, Nat.add_assoc], ?_⟩
            obtain ⟨t', cs, fz, q7, q8⟩ := q6
            refine ⟨t', cs, fz, q7, ?_⟩
            rw [show off + l.toNat + (c - l.toNat) = off + c from by omega]
            exact q8
        · right; omega
    · simp only [Instr.sliceAt, Instr.slice, run_bind, run_underlying h1, hb, sizeIs_run hE g0, run_pure]
  · rename_i e k n g htd
    rw [htd] at h3; cases d <;> simp only [tdOk] at h3
    subst h3
    split at h
    case h_2 => exact h.elim
    rename_i l hh e1 e2
    rw [gd_iff] at h
    simp only [Bool.and_eq_true, leI, decide_eq_true_eq] at h
    obtain ⟨⟨g0, g1, g2, g3⟩, hK⟩ := h
    simp only [Rel] at hx
    obtain ⟨a, c, rfl, hnc, hc⟩ := hx
    have hb := run_bounds (P := P) (is := true) (cap := c) hlo hhi e1 e2 g1 g2 (by omega)
    refine ⟨_, .slice (if c = l.toNat then a else a.map (·.add (l.toNat * 1))) (hh.toNat - l.toNat) (c - l.toNat), hK, ?_, ?_⟩
    · simp only [Rel]
      refine ⟨_, _, rfl, by omega, ?_⟩
      by_cases hz : hh.toNat - l.toNat = 0
      · exact .inl hz
      · right
        rcases hc with hc | ⟨b, o, rfl, k1, k2, k3⟩
        · omega
        · rw [if_neg (by omega)]
          refine ⟨b, o + l.toNat, by simp [add_addr], k1, k2, ?_⟩
          intro i hi
          simp only [ints_length] at hi
          have := k3 (l.toNat + i) (by rw [ints_length]; omega)
          rw [Nat.add_assoc, this, ints_get _ _ _ _ (by omega), ints_get _ _ _ _ hi, shift_apply]
    · simp only [Instr.sliceAt, Instr.slice, run_bind, run_underlying h1, hb, sizeIs_run hE g0, run_pure]
  · rename_i e htd
    rw [htd] at h3; cases d <;> simp only [tdOk] at h3
    subst h3
    split at h
    case h_2 => exact h.elim
    rename_i l hh e1 e2
    rw [gd_iff] at h
    simp only [Bool.and_eq_true, eqI, beq_iff_eq] at h
    obtain ⟨⟨g0, rfl, rfl⟩, hK⟩ := h
    simp only [Rel] at hx; subst hx
    have hb := run_bounds (P := P) (is := true) (cap := 0) hlo hhi e1 e2 (by omega) (by omega) (by omega)
    refine ⟨_, _, hK, rfl, ?_⟩
    simp only [Instr.sliceAt, Instr.slice, run_bind, run_underlying h1, hb, sizeIs_run hE g0, run_pure]
    rfl
  · rename_i na e b htd
    rw [htd] at h3; cases d <;> simp only [tdOk] at h3
    rename_i N ea
    obtain ⟨e3, e4, _⟩ := h3
    subst e3; subst e4
    split at h
    case h_2 => exact h.elim
    rename_i l hh k n g e1 e2 hvb
    rw [gd_iff] at h
    simp only [Bool.and_eq_true, leI, decide_eq_true_eq, Nat.beq_eq] at h
    obtain ⟨⟨g0, rfl, g1, g2, g3⟩, hK⟩ := h
    obtain ⟨i, hib, hsh, cs, e, fz, x, q1, q2, q3, q4, q5⟩ := hS.live b _ hvb
    simp only [Rel] at q3; subst q3
    simp only [cells_agg, ints_length] at q4
    simp only [Rel] at hx
    obtain ⟨a, rfl, r, hr, hi'⟩ := hx
    rw [hib] at hr; cases hr
    obtain ⟨o, ho, rfl⟩ := hi' i rfl
    simp only [Shape.off, Option.some.injEq] at ho
    subst ho
    have hb := run_bounds (P := P) (is := false) (len := N) (cap := N) hlo hhi e1 e2 g1 g2 g3
    refine ⟨_, (.slice (some (if N = l.toNat then ⟨i.mb, i.base + 0, none⟩ else (⟨i.mb, i.base + 0, none⟩ : Addr).add (l.toNat * 1))) (hh.toNat - l.toNat) (N - l.toNat)), hK, ?_, ?_⟩
    rotate_left
    · simp only [Instr.sliceAt, run_bind, run_underlying h1, Instr.sureAddr, run_pure, hb, sizeIs_run hE g0]
    · simp only [Rel]
      refine ⟨_, _, rfl, _, hib, fun i' hi'' => ?_⟩
      cases hi''
      refine ⟨N, .inl ⟨hsh.symm, rfl⟩, by omega, by omega, fun c0 hc => by cases hc; omega, ?_⟩
      split
      · rename_i hq
        right; omega
      · left
        exact ⟨by simp [add_addr], e, cs, fz, q1, by omega⟩
  · exact h.elim
theorem made_ints (k : IntKind) (z : Int) (n : Nat) : madeCells (Value.int k z).cells n = (ints k n fun _ => z).toArray := by
  apply Array.ext'
  rw [← row_ints]
  simp [madeCells, Value.cells]
theorem evMakeSlice_sound {ρ : Ren} {w : World} {t : TypeId} {ln cp : EV} {Ln Cp : Value} {H : Heap} {K : EV → Heap → Prop} (hE : ∀ t ti, E.ty t = some ti → OkTI P t ti)
    (hS : Sim ρ H w) (hl : Rel ρ w ln Ln) (hc : Rel ρ w cp Cp) (h : evMakeSlice E t ln cp H K) :
    ∃ v H' ρ' w' z, K v H' ∧ Sim ρ' H' w' ∧ Ext ρ w ρ' w' ∧ ρ'.F = ρ.F ∧ Rel ρ' w' v z ∧ (Instr.makeSlice t Ln Cp).run P w = .ok z w' := by
  unfold evMakeSlice at h
  split at h
  case h_2 => exact h.elim
  rename_i ti kl l kc c ht
  obtain ⟨d, it, zt, h1, h2, h3, h4, h5, h6, h7⟩ := hE t ti ht
  simp only [Rel] at hl hc; subst hl; subst hc
  split at h
  case h_2 => exact h.elim
  rename_i e htd
  rw [htd] at h3; cases d <;> simp only [tdOk] at h3
  subst h3
  rename_i e
  split at h
  case h_2 => exact h.elim
  rename_i ei he
  obtain ⟨de, ie, ze, e1, e2, e3, e4, e5, e6, e7⟩ := hE e ei he
  split at h
  case h_2 => exact h.elim
  rename_i k z hzk
  rw [gd_iff] at h
  simp only [Bool.and_eq_true, leI, decide_eq_true_eq, Nat.beq_eq, Nat.ble_eq] at h
  obtain ⟨⟨g1, g2, g3, g4, g5⟩, hK⟩ := h
  rw [hzk] at e7
  simp only [encV, Option.some.injEq] at e7
  subst e7
  have hby : (ie.bytes : Int) * c ≤ 281474976710656 := by
    rw [e5]
    have h8 : (ei.bytes : Int) * c ≤ 256 * c := Int.mul_le_mul_of_nonneg_right (by omega) (by omega)
    omega
  have hrun := run_make (P := P) w t e ie _ h1 e2 e6 kl kc l c g3 g4 hby (by omega)
  rw [e4, g1, Nat.mul_one, made_ints] at hrun
  have hv : Rel ρ w (.arr k c.toNat fun _ => z) (.agg (ints k c.toNat fun _ => z).toArray) := rfl
  obtain ⟨ρ', rfl, hS', hE'⟩ := hS.new _ _ e hv
  rw [cells_agg] at hS' hE'
  refine ⟨_, _, _, _, _, hK, hS', hE', rfl, ?_, hrun⟩
  simp only [Rel]
  refine ⟨_, _, rfl, _, by rw [List.getElem?_append_right (by rw [hS.len]; exact Nat.le_refl _), hS.len, Nat.sub_self]; rfl, fun i hi => ?_⟩
  cases hi
  refine ⟨c.toNat, .inl ⟨rfl, rfl⟩, by omega, by omega, fun c0 hc => by cases hc; exact ⟨rfl, by omega⟩, .inl ⟨by simp, e, _, (0, 0), by rw [alloc_heap, if_pos rfl], by simp [ints_length]⟩⟩
theorem run_lenOf_win {ρ : Ren} {w : World} {H : Heap} {x : EV} {X : Value} {k : IntKind} {n : Nat} {g : Nat → Int} (hS : Sim ρ H w) (hx : Rel ρ w x X) (h : evWin H x = some (k, n, g)) :
    ∃ a c, X = .slice a n c ∧ (Builtin.lenOf X).run P w = .ok n w ∧ ∀ m, m ≤ n → (Builtin.firstCells 1 m X).run P w = .ok (ints k m g).toArray w := by
  obtain ⟨a, c, rfl, _, h2⟩ := hS.win hx h
  refine ⟨a, c, rfl, rfl, fun m hm => ?_⟩
  rcases h2 with rfl | ⟨b, o, rfl, h3⟩
  · have : m = 0 := by omega
    subst this
    cases a with
    | none => simp [Builtin.firstCells, run_pure, ints]
    | some a => simp [Builtin.firstCells, loadCells, loadCellsFrom, run_pure, ints]
  · simp only [Builtin.firstCells, Nat.mul_one]
    have h4 : CellsAt w b o (ints k m g) := by
      intro i hi
      rw [ints_length] at hi
      have := h3 i (by rw [ints_length]; omega)
      rw [this, ints_get _ _ _ _ (by omega), ints_get _ _ _ _ hi]
    have := run_loadCells (P := P) (ints k m g) h4
    rwa [ints_length] at this
theorem ovl_ints (k : IntKind) (n o m : Nat) (g h : Nat → Int) (hm : o + m ≤ n) :
    ints k n (ovl o m h g) = (ints k n g).take o ++ ints k m h ++ (ints k n g).drop (o + m) := by
  apply List.ext_getElem?
  intro j
  have hlen := ints_length k n g
  rw [List.append_assoc, List.getElem?_append, List.length_take, hlen, Nat.min_eq_left (by omega)]
  by_cases hj : j < o
  · rw [if_pos hj, List.getElem?_take_of_lt hj, ints_get _ _ _ _ (by omega), ints_get _ _ _ _ (by omega)]
    have : Nat.ble o j = false := by
      cases hb : Nat.ble o j with
      | false => rfl
      | true => have := Nat.le_of_ble_eq_true hb; omega
    simp [ovl, this]
  · rw [if_neg hj, List.getElem?_append, ints_length]
    have hle : Nat.ble o j = true := bleI.2 (by omega)
    by_cases hj2 : j < o + m
    · rw [if_pos (by omega), ints_get _ _ _ _ (by omega), ints_get _ _ _ _ (by omega)]
      have : Nat.blt j (o + m) = true := bltI.2 hj2
      simp [ovl, hle, this]
    · rw [if_neg (by omega), List.getElem?_drop]
      rw [show o + m + (j - o - m) = j from by omega]
      by_cases hjn : j < n
      · rw [ints_get _ _ _ _ hjn, ints_get _ _ _ _ hjn]
        have : Nat.blt j (o + m) = false := by
          cases hb : Nat.blt j (o + m) with
          | false => rfl
          | true => have := bltI.1 hb; omega
        simp [ovl, this]
      · rw [List.getElem?_eq_none (by rw [ints_length]; omega), List.getElem?_eq_none (by rw [ints_length]; omega)]
theorem app_ints (k : IntKind) (n m : Nat) (g h : Nat → Int) : ints k (n + m) (app n g h) = ints k n g ++ ints k m h := by
  apply List.ext_getElem?
  intro j
  rw [List.getElem?_append, ints_length]
  by_cases hj : j < n
  · rw [if_pos hj, ints_get _ _ _ _ (by omega), ints_get _ _ _ _ hj]
    simp [app, bltI.2 hj]
  · rw [if_neg hj]
    have : Nat.blt j n = false := by
      cases hb : Nat.blt j n with
      | false => rfl
      | true => have := bltI.1 hb; omega
    by_cases hj2 : j < n + m
    · rw [ints_get _ _ _ _ hj2, ints_get _ _ _ _ (by omega)]
      simp [app, this]
    · rw [List.getElem?_eq_none (by rw [ints_length]; omega), List.getElem?_eq_none (by rw [ints_length]; omega)]
theorem ints_scal (k : IntKind) (n : Nat) (g : Nat → Int) : (ints k n g).all scal = true := by simp [ints, scal]
theorem Sim.row {ρ : Ren} {H : Heap} {w : World} (hS : Sim ρ H w) {b n off len : Nat} {cap : Option Nat} {k : IntKind} {g : Nat → Int} {X : Value} (hb : H[b]? = some (some (.arr k n g)))
    (hx : Rel ρ w (.slice b off len cap 1) X) : ∃ r a c cs e fz, X = .slice a len c ∧ ρ.bs[b]? = some (some r) ∧ r.sh = .row n ∧ w.heap[r.mb]? = some (.cells cs e fz) ∧
      (∀ o, o < cs.size → ¬ (fz.1 ≤ o ∧ o < fz.2)) ∧ r.base + n ≤ cs.size ∧ CellsAt w r.mb r.base (ints k n g) ∧ off + len ≤ n ∧ len ≤ c ∧
      ((a = some ⟨r.mb, r.base + off, none⟩ ∧ r.base + (off + c) ≤ cs.size) ∨ (len = 0 ∧ c = 0)) := by
  obtain ⟨r, h1, h2, cs, e, fz, x, h3, h4, h5, h6, h7⟩ := hS.live b _ hb
  simp only [Rel] at h5; subst h5
  simp only [Rel] at hx
  obtain ⟨a, c, rfl, r', hr', hi⟩ := hx
  rw [h1] at hr'; cases hr'
  obtain ⟨m, q1, q2, q3, q4, q5⟩ := hi r rfl
  have hsh : r.sh = .row n := by rw [← h2]; rfl
  have hm : m = n := by
    rcases q1 with ⟨q1, _⟩ | ⟨l, q1, _⟩ | ⟨t8, q1, _⟩
    · rw [hsh] at q1; cases q1; rfl
    · rw [hsh] at q1; cases q1
    · rw [hsh] at q1; cases q1
  subst hm
  simp only [cells_agg, ints_length] at h6 h7
  refine ⟨r, a, c, cs, e, fz, rfl, h1, hsh, h3, h4, h6, h7, q2, q3, q5.imp ?_ id⟩
  rintro ⟨rfl, t, cs', fz', q6, q7⟩
  rw [h3] at q6; cases q6
  exact ⟨by rw [Nat.mul_one], by simpa using q7⟩
theorem evCopy_sound {ρ : Ren} {w : World} {t t' ty : TypeId} {d x : EV} {D X : Value} {H : Heap} {K : EV → Heap → Prop} (hE : ∀ t ti, E.ty t = some ti → OkTI P t ti)
    (hS : Sim ρ H w) (hd : Rel ρ w d D) (hx : Rel ρ w x X) (h : evCopy E t d x H K) :
    ∃ v H' w' z, K v H' ∧ Sim ρ H' w' ∧ Ext ρ w ρ w' ∧ Rel ρ w' v z ∧ (Builtin.copy_ #[t, t'] ty #[D, X]).run P w = .ok z w' := by
  unfold evCopy at h
  split at h
  case h_2 => exact h.elim
  rename_i ti b off len cap ht
  obtain ⟨dd, it, zt, h1, h2, h3, h4, h5, h6, h7⟩ := hE t ti ht
  split at h
  case h_2 => exact h.elim
  rename_i e k n g k' m hh htd hb hw
  rw [htd] at h3; cases dd <;> simp only [tdOk] at h3
  subst h3
  rw [gd_iff, Bool.and_eq_true, decide_eq_true_eq] at h
  obtain ⟨⟨g1, rfl⟩, hK⟩ := h
  obtain ⟨r, a, c, cs, e', fz, rfl, q1, q2, q3, q4, q5, q6, q7, q8, q9⟩ := hS.row hb hd
  obtain ⟨a', c', rfl, p1, p2⟩ := run_lenOf_win (P := P) hS hx hw
  have hmin : minN m len ≤ len := Nat.min_le_right _ _
  have hcells := p2 (minN m len) (Nat.min_le_left _ _)
  have hlen : (Builtin.copy_ #[t, t'] ty #[.slice a len c, .slice a' m c']).run P w = (match a with
      | some a => match (storeCells a (ints k (minN m len) hh) 0).run P w with
        | .ok _ w' => .ok (goInt (minN m len)) w'
        | .halt h w' => .halt h w'
      | none => .ok (goInt (minN m len)) w) := by
    have e1 : (#[t, t'] : Array TypeId)[0]? = some t := rfl
    have e2 : (#[Value.slice a len c, Value.slice a' m c'] : Array Value)[0]? = some (Value.slice a len c) := rfl
    have e3 : (#[Value.slice a len c, Value.slice a' m c'] : Array Value)[1]? = some (Value.slice a' m c') := rfl
    simp only [Builtin.copy_, e1, e2, e3, run_bind, run_underlying h1, p1, sizeIs_run hE g1]
    have : (Builtin.firstCells 1 (Nat.min m len) (.slice a' m c')).run P w = .ok (ints k (minN m len) hh).toArray w := hcells
    rw [this]
    cases a with
    | none => rfl
    | some a => simp only [run_bind, List.toList_toArray]; cases (storeCells a (ints k (minN m len) hh) 0).run P w <;> rfl
  rcases q9 with ⟨rfl, q10⟩ | ⟨q9, q10⟩
  · have hst := run_storeCells (P := P) (b := r.mb) (ints k (minN m len) hh) w (r.base + off) 0 cs e' fz q3 q4 (by rw [ints_length]; omega) (ints_scal _ _ _)
    rw [Nat.add_zero] at hst
    rw [hlen]
    simp only [hst]
    obtain ⟨m1, m2, m3, m4, m5⟩ := putL_meta r.mb (ints k (minN m len) hh) w (r.base + off)
    have hrow := putL_row r.mb (ints k (minN m len) hh) w (r.base + off) cs e' fz q3
    have hX : Ext ρ w ρ (putL w r.mb (r.base + off) (ints k (minN m len) hh)) := by
      refine ⟨m1, m2, m3, by omega, ?_, fun _ _ h => h, fun _ _ h => h, fun _ _ h => .inl h, ?_, Nat.le_of_eq m5.symm⟩
      · intro b' hb' hnb
        exact putL_out _ _ _ _ _ (fun e => hnb (e ▸ mem_own q1))
      · intro b' cs' e'' fz' hb'
        by_cases hbb : b' = r.mb
        · subst hbb
          rw [q3] at hb'; cases hb'
          exact ⟨_, _, _, hrow, by rw [putA_size]⟩
        · exact ⟨cs', e'', fz', (putL_out _ _ _ _ _ hbb).trans hb', rfl⟩
    refine ⟨_, _, _, _, hK, ?_, hX, rfl, rfl⟩
    refine ⟨by simpa using hS.len, fun b' hb' => by rw [m4]; exact hS.fl b' hb', fun b' r' hb' => by rw [m4]; exact hS.lt b' r' hb', hS.sep, hS.nodup, ?_⟩
    intro b' v' hb'
    by_cases hbb : b' = b
    · subst hbb
      have hlt : b' < H.length := by
        rcases Nat.lt_or_ge b' H.length with hh | hh
        · exact hh
        · rw [List.getElem?_eq_none hh] at hb; cases hb
      rw [List.getElem?_set_self hlt] at hb'
      cases hb'
      refine ⟨r, q1, q2.symm, _, _, _, _, hrow, by rw [putA_size]; exact q4, rfl, ?_, ?_⟩
      · rw [putA_size, cells_agg]; simp [ints_length]; exact q5
      · rw [cells_agg]
        show CellsAt _ _ _ (ints k n (ovl off (minN m len) hh g))
        rw [ovl_ints k n off (minN m len) g hh (by omega), cellsAt_row hrow]
        rw [cellsAt_row q3] at q6
        intro i hi
        simp only [List.length_append, List.length_take, List.length_drop, ints_length] at hi
        rw [putA_get _ _ _ _ (by rw [ints_length]; omega), ints_length, List.append_assoc, List.getElem?_append, List.length_take, ints_length, Nat.min_eq_left (by omega)]
        by_cases h10 : i < off
        · rw [if_neg (by omega), if_pos h10, List.getElem?_take_of_lt h10]
          exact q6 i (by rw [ints_length]; omega)
        · rw [if_neg h10, List.getElem?_append, ints_length]
          by_cases h11 : i < off + minN m len
          · rw [if_pos (by omega), if_pos (by omega)]
            congr 1; omega
          · rw [if_neg (by omega), if_neg (by omega), List.getElem?_drop]
            rw [q6 i (by rw [ints_length]; omega)]
            congr 1; omega
    · rw [map_some_ne _ _ _ _ hbb] at hb'
      obtain ⟨s, hs1, hs2, cs', e'', fz', x', h10, h11, h12, h13, h14⟩ := hS.live b' v' hb'
      have hne : s.mb ≠ r.mb := fun e => hbb (hS.nodup b' b s r hs1 q1 e)
      have heq := putL_out r.mb (ints k (minN m len) hh) w (r.base + off) s.mb hne
      exact ⟨s, hs1, hs2, cs', e'', fz', x', heq.trans h10, h11, Rel.ext hX _ _ h12, h13, h14.keep heq⟩
  · have h0 : minN m len = 0 := by omega
    rw [hlen]
    have hg : H.set b (some (.arr k n (ovl off (minN m len) hh g))) = H := by
      have : ovl off (minN m len) hh g = g := by
        funext i
        rw [h0]
        simp only [ovl, Nat.add_zero]
        cases h1 : Nat.ble off i with
        | false => rfl
        | true =>
          have h2 : Nat.blt i off = false := by
            cases hb2 : Nat.blt i off with
            | false => rfl
            | true => have := bltI.1 hb2; have := bleI.1 h1; omega
          simp [h2]
      rw [this]
      apply List.ext_getElem?
      intro i
      by_cases hi : i = b
      · subst hi
        have hlt : i < H.length := by
          rcases Nat.lt_or_ge i H.length with hh | hh
          · exact hh
          · rw [List.getElem?_eq_none hh] at hb; cases hb
        rw [List.getElem?_set_self hlt, hb]
      · rw [map_some_ne _ _ _ _ hi]
    rw [hg] at hK
    refine ⟨_, H, w, goInt (minN m len), hK, hS, Ext.refl _ _, rfl, ?_⟩
    cases a with
    | none => rfl
    | some a => rw [h0]; simp [ints, storeCells, run_pure]
theorem Sim.moved {ρ : Ren} {H : Heap} {w w' : World} (hS : Sim ρ H w) {D : List Nat} {bi : BI} {v : EV} (hsh : v.shape = bi.sh)
    (hmeta : w'.os = w.os ∧ w'.tape = w.tape ∧ w'.output = w.output ∧ w.heap.size ≤ w'.heap.size ∧ w.drawn ≤ w'.drawn) (hmb : (∃ b r, b ∈ D ∧ ρ.bs[b]? = some (some r) ∧ bi.mb = r.mb) ∨ w.heap.size ≤ bi.mb) (hlt : bi.mb < w'.heap.size)
    (hout : ∀ m, m < w.heap.size → (∀ b r, b ∈ D → ρ.bs[b]? = some (some r) → m ≠ r.mb) → w'.heap[m]? = w.heap[m]?)
    (hrow : ∀ (m : Nat) (cs : Array Value) (e : TypeId) (fz : Nat × Nat), w.heap[m]? = some (.cells cs e fz) → ∃ cs' e' fz', w'.heap[m]? = some (.cells cs' e' fz') ∧ cs'.size = cs.size)
    (hlive : ∀ ρ', Ext ρ w ρ' w' → ∃ cs e fz x, w'.heap[bi.mb]? = some (.cells cs e fz) ∧ (∀ o, o < cs.size → ¬ (fz.1 ≤ o ∧ o < fz.2)) ∧ Rel ρ' w' v x ∧ bi.base + x.cells.toList.length ≤ cs.size ∧ CellsAt w' bi.mb bi.base x.cells.toList) :
    Sim ⟨ρ.F, killN D ρ.bs ++ [some bi]⟩ (killN D H ++ [some v]) w' ∧ Ext ρ w ⟨ρ.F, killN D ρ.bs ++ [some bi]⟩ w' := by
  have inv : ∀ c s, (killN D ρ.bs ++ [some bi])[c]? = some (some s) → (c ∉ D ∧ ρ.bs[c]? = some (some s)) ∨ (c = ρ.bs.length ∧ s = bi) := by
    intro c s hc
    rw [List.getElem?_append, killN_length] at hc
    by_cases hcl : c < ρ.bs.length
    · rw [if_pos hcl] at hc
      exact .inl (killN_some hc)
    · rw [if_neg hcl, List.getElem?_cons] at hc
      split at hc
      · cases hc; exact .inr ⟨by omega, rfl⟩
      · simp at hc
  have hmbO : bi.mb < w.heap.size → bi.mb ∈ ρ.own := by
    intro h
    rcases hmb with ⟨b, r, _, h1, h2⟩ | h1
    · exact h2 ▸ mem_own h1
    · omega
  have hE : Ext ρ w ⟨ρ.F, killN D ρ.bs ++ [some bi]⟩ w' := by
    refine ⟨hmeta.1, hmeta.2.1, hmeta.2.2.1, hmeta.2.2.2.1, ?_, ?_, ?_, ?_, hrow, hmeta.2.2.2.2⟩
    · intro m hm hn
      exact hout m hm fun b r _ hr e => hn (e ▸ mem_own hr)
    · intro m hm hn hin
      rcases List.mem_append.1 hin with hin | hin
      · exact hn (List.mem_append.2 (.inl hin))
      · obtain ⟨c, s, h1, rfl⟩ := own_mem hin
        rcases inv c s h1 with ⟨_, h2⟩ | ⟨_, rfl⟩
        · exact hn (own_mbs (mem_own h2))
        · exact hn (own_mbs (hmbO hm))
    · intro m hm hn hin
      obtain ⟨c, s, h1, rfl⟩ := own_mem hin
      rcases inv c s h1 with ⟨_, h2⟩ | ⟨_, rfl⟩
      · exact hn (mem_own h2)
      · exact hn (hmbO hm)
    · intro c s hc
      have hcl : c < ρ.bs.length := by
        rcases Nat.lt_or_ge c ρ.bs.length with hh | hh
        · exact hh
        · rw [List.getElem?_eq_none hh] at hc; cases hc
      simp only
      rw [List.getElem?_append_left (by rw [killN_length]; exact hcl)]
      by_cases hcb : c ∈ D
      · exact .inr (killN_in _ _ _ (.inl hcb) hcl)
      · rw [killN_out _ _ _ hcb]; exact .inl hc
  refine ⟨⟨by simp [killN_length, hS.len], fun m hm => Nat.lt_of_lt_of_le (hS.fl m hm) hmeta.2.2.2.1, ?_, ?_, ?_, ?_⟩, hE⟩
  · intro c s hc
    rcases inv c s hc with ⟨_, h2⟩ | ⟨_, rfl⟩
    · exact Nat.lt_of_lt_of_le (hS.lt c s h2) hmeta.2.2.2.1
    · exact hlt
  · intro c s hc hF
    rcases inv c s hc with ⟨_, h2⟩ | ⟨_, rfl⟩
    · exact hS.sep c s h2 hF
    · have := hS.fl _ hF
      rcases hmb with ⟨b, r, _, h1, h3⟩ | h3
      · exact hS.sep b r h1 (h3 ▸ hF)
      · omega
  · have mixed : ∀ c s, c ∉ D → ρ.bs[c]? = some (some s) → s.mb = bi.mb → False := by
      intro c s h1 h2 h3
      have := hS.lt c s h2
      rcases hmb with ⟨b, r, g1, g2, g3⟩ | h4
      · exact h1 (hS.nodup c b s r h2 g2 (h3.trans g3) ▸ g1)
      · omega
    intro c d s u hc hd he
    rcases inv c s hc with ⟨h1, h2⟩ | ⟨h1, rfl⟩
    · rcases inv d u hd with ⟨h3, h4⟩ | ⟨h3, rfl⟩
      · exact hS.nodup c d s u h2 h4 he
      · exact (mixed c s h1 h2 he).elim
    · rcases inv d u hd with ⟨h3, h4⟩ | ⟨h3, rfl⟩
      · exact (mixed d u h3 h4 he.symm).elim
      · rw [h1, h3]
  · intro c u hc
    rw [List.getElem?_append, killN_length] at hc
    by_cases hcl : c < H.length
    · rw [if_pos hcl] at hc
      obtain ⟨hcD, hc⟩ := killN_some hc
      obtain ⟨s, k1, k2, cs, e, fz, x, k3, k4, k5, k6, k7⟩ := hS.live c u hc
      have heq := hout s.mb (hS.lt c s k1) fun b r hb hr e => hcD (hS.nodup c b s r k1 hr e ▸ hb)
      refine ⟨s, ?_, k2, cs, e, fz, x, heq.trans k3, k4, Rel.ext hE u x k5, k6, k7.keep heq⟩
      simp only
      rw [List.getElem?_append_left (by rw [killN_length, hS.len]; exact hcl), killN_out _ _ _ hcD]
      exact k1
    · rw [if_neg hcl, List.getElem?_cons] at hc
      split at hc
      · rename_i hz
        cases hc
        obtain ⟨cs, e, fz, x, k3, k4, k5, k6, k7⟩ := hlive _ hE
        refine ⟨bi, ?_, hsh, cs, e, fz, x, k3, k4, k5, k6, k7⟩
        simp only
        rw [List.getElem?_append_right (by rw [killN_length, hS.len]; omega), killN_length, hS.len, show c - H.length = 0 from by omega]
        rfl
      · simp at hc
theorem Sim.newRow {ρ : Ren} {H : Heap} {w : World} (hS : Sim ρ H w) (D : List Nat) (k : IntKind) (n c : Nat) (g : Nat → Int) (cs : Array Value) (e : TypeId) (hc : n ≤ c) (hcs : cs.size = c) (hcells : ∀ i, i < n → cs[i]? = some (.int k (g i))) :
    ∃ ρ', Sim ρ' (killN D H ++ [some (.arr k n g)]) (w.drew.alloc (.cells cs e)) ∧ Ext ρ w ρ' (w.drew.alloc (.cells cs e)) ∧ ρ'.F = ρ.F ∧
      Rel ρ' (w.drew.alloc (.cells cs e)) (.slice H.length 0 n none 1) (.slice (some ⟨w.heap.size, 0, none⟩) n c) := by
  have hold : ∀ m, m < w.heap.size → (w.drew.alloc (.cells cs e)).heap[m]? = w.heap[m]? := by
    intro m hm
    rw [alloc_heap]
    show (if m = w.heap.size then _ else w.heap[m]?) = _
    rw [if_neg (by omega)]
  have hnew : (w.drew.alloc (.cells cs e)).heap[w.heap.size]? = some (.cells cs e (0, 0)) := by
    rw [alloc_heap]
    show (if w.heap.size = w.heap.size then _ else _) = _
    rw [if_pos rfl]
  have hsz : (w.drew.alloc (.cells cs e)).heap.size = w.heap.size + 1 := by
    show (w.heap.push _).size = _
    simp
  obtain ⟨h1, h2⟩ := hS.moved (D := D) (w' := w.drew.alloc (.cells cs e)) (bi := ⟨w.heap.size, 0, .row n⟩) (v := .arr k n g) rfl ⟨rfl, rfl, rfl, by omega, Nat.le_succ _⟩ (.inr (Nat.le_refl _)) (by simp only; omega)
    (fun m hm _ => hold m hm) (fun m cs' e' fz' hm => by
      have hlt : m < w.heap.size := by
        rcases Nat.lt_or_ge m w.heap.size with hh | hh
        · exact hh
        · rw [Array.getElem?_eq_none hh] at hm; cases hm
      exact ⟨cs', e', fz', (hold m hlt).trans hm, rfl⟩)
    (fun ρ' hX => by
      refine ⟨cs, e, (0, 0), .agg (ints k n g).toArray, hnew, by simp, rfl, by rw [cells_agg]; simp [ints_length]; omega, ?_⟩
      rw [cellsAt_row hnew, cells_agg]
      intro i hi
      simp only [ints_length] at hi
      rw [Nat.zero_add, hcells i hi]
      exact (ints_get _ _ _ _ hi).symm)
  refine ⟨_, h1, h2, rfl, ?_⟩
  simp only [Rel]
  refine ⟨_, _, rfl, _, by rw [List.getElem?_append_right (by rw [killN_length, hS.len]; exact Nat.le_refl _), killN_length, hS.len, Nat.sub_self]; rfl, fun i hi => ?_⟩
  cases hi
  exact ⟨n, .inl ⟨rfl, rfl⟩, by omega, hc, (fun c0 hc => by cases hc), .inl ⟨by simp, e, cs, (0, 0), hnew, by simp; omega⟩⟩
theorem evAppend_sound {ρ : Ren} {w : World} {t t' ty : TypeId} {s x : EV} {S X : Value} {H : Heap} {K : EV → Heap → Prop} (hE : ∀ t ti, E.ty t = some ti → OkTI P t ti)
    (hS : Sim ρ H w) (hs : Rel ρ w s S) (hx : Rel ρ w x X) (h : evAppend E t t' s x H K) :
    ∃ v H' ρ' w' z, K v H' ∧ Sim ρ' H' w' ∧ Ext ρ w ρ' w' ∧ ρ'.F = ρ.F ∧ Rel ρ' w' v z ∧ (Builtin.append_ #[t, t'] ty #[S, X]).run P w = .ok z w' := by
  unfold evAppend at h
  split at h
  case h_2 => exact h.elim
  rename_i ti ti' ht ht'
  obtain ⟨d, it, zt, h1, h2, h3, h4, h5, h6, h7⟩ := hE t ti ht
  split at h
  case h_2 => exact h.elim
  rename_i e e0 k m hh htd htd' hw
  rw [htd] at h3; cases d <;> simp only [tdOk] at h3
  subst h3
  rename_i e
  split at h
  case h_2 => exact h.elim
  rename_i ei he
  obtain ⟨de, ie, ze, e1, e2, e3, e4, e5, e6, e7⟩ := hE e ei he
  split at h
  case h_2 => exact h.elim
  rename_i k0 z0 hzk
  rw [gd_iff] at h
  simp only [Bool.and_eq_true, Nat.beq_eq, Nat.ble_eq] at h
  obtain ⟨⟨rfl, g1, g2⟩, h⟩ := h
  rw [hzk] at e7
  simp only [encV, Option.some.injEq] at e7
  subst e7
  obtain ⟨a', c', rfl, _, h8⟩ := hS.win hx hw
  have hmul : ∀ n : Nat, n ≤ 1099511627776 → n * ie.bytes ≤ 140737488355328 := by
    intro n hn
    have : n * ie.bytes ≤ 1099511627776 * 64 := Nat.mul_le_mul hn (by omega)
    omega
  -- the new cells
  have hnews : m = 0 ∨ ∃ ad, a' = some ad ∧ ∀ j v, (ints k m hh)[j]? = some v → w.cell? (ad.add j) = some v := by
    rcases h8 with h8 | ⟨b, o, rfl, h9⟩
    · exact .inl h8
    · right
      refine ⟨_, rfl, fun j v hj => ?_⟩
      have hjl : j < (ints k m hh).length := by
        rcases Nat.lt_or_ge j (ints k m hh).length with hq | hq
        · exact hq
        · rw [List.getElem?_eq_none hq] at hj; cases hj
      rw [add_addr, h9 j hjl, hj]
  have hz1 : ∀ n, (Builtin.zeroCells (Value.int k0 z0).cells n).size = n := by intro n; simp [Builtin.zeroCells, Value.cells]
  split at h
  · -- nil
    rw [gd_iff] at h
    obtain ⟨g3, h⟩ := h
    have g3' : m ≤ 1099511627776 := bleI.1 g3
    rw [br_iff] at h
    simp only [Rel] at hs; subst hs
    cases hm0 : isZ m with
    | true =>
      have hm : m = 0 := Nat.eq_of_beq_eq_true hm0
      subst hm
      refine ⟨_, _, ρ, w, .slice none 0 0, h.1 hm0, hS, Ext.refl _ _, rfl, rfl, ?_⟩
      have e1 : (#[t, t] : Array TypeId)[0]? = some t := rfl
      have e1' : (#[t, t] : Array TypeId)[1]? = some t := rfl
      have e2' : (#[Value.slice none 0 0, Value.slice a' 0 c'] : Array Value)[0]? = some (Value.slice none 0 0) := rfl
      have e3' : (#[Value.slice none 0 0, Value.slice a' 0 c'] : Array Value)[1]? = some (Value.slice a' 0 c') := rfl
      have hfc : (Builtin.firstCells ie.size 0 (.slice a' 0 c')).run P w = .ok #[] w := by
        cases a' with
        | none => rfl
        | some a => simp [Builtin.firstCells, loadCells, loadCellsFrom, run_pure]
      simp only [Builtin.append_, e1, e1', e2', e3', run_bind, run_underlying h1, run_sizeOf e2, run_pure, Builtin.lenOf]
      simp [run_bind, hfc, run_pure]
    | false =>
      have hm : m ≠ 0 := by
        intro e; subst e; cases hm0
      rcases hnews with hn | ⟨ad, rfl, hn⟩
      · exact absurd hn hm
      have hrun := run_append_nil (P := P) w t ty e ie _ h1 e2 e6 ad m c' (ints k m hh) (by rw [ints_length, e4, g1, Nat.mul_one]) hn (by omega) (by omega) (by have := hmul m g3'; omega)
      have hge := grownCap_ge w m 0 e
      obtain ⟨ρ', q1, q2, q3, q4⟩ := hS.newRow [] k m (grownCap w m 0 e) hh ((ints k m hh).toArray ++ Builtin.zeroCells (Value.int k0 z0).cells (grownCap w m 0 e - m)) e hge
        (by rw [Array.size_append, hz1]; simp [ints_length]; omega) (fun i hi => by
          rw [Array.getElem?_append_left (by simp [ints_length]; omega)]
          have := ints_get k m hh i hi
          simpa using this)
      exact ⟨_, _, ρ', _, _, h.2 hm0, q1, q2, q3, q4, hrun⟩
  · rename_i b off len cap
    split at h
    case h_2 => exact h.elim
    rename_i k' n g hb
    rw [gd_iff, Bool.and_eq_true, decide_eq_true_eq] at h
    obtain ⟨⟨rfl, g3⟩, hK⟩ := h
    have g3' : len + m ≤ 1099511627776 := bleI.1 g3
    obtain ⟨r, a, c, cs, e', fz, rfl, q1, q2, q3, q4, q5, q6, q7, q8, q9⟩ := hS.row hb hs
    have hkill : killN [b] H = H.set b none := rfl
    rw [← hkill] at hK
    -- the old cells
    have hold : ∀ i, i < len → w.cell? ⟨r.mb, r.base + off + i, none⟩ = some (.int k' (g (off + i))) := by
      intro i hi
      have := q6 (off + i) (by rw [ints_length]; omega)
      rw [Nat.add_assoc, this, ints_get _ _ _ _ (by omega)]
    have hval : ∀ i, i < len + m → (ints k' len (shift off g) ++ ints k' m hh)[i]? = some (.int k' (app len (shift off g) hh i)) := by
      intro i hi
      rw [← app_ints, ints_get _ _ _ _ hi]
    by_cases hroom : len + m ≤ c
    · -- in place
      rcases q9 with ⟨rfl, q10⟩ | ⟨rfl, rfl⟩
      · have hnl : (ints k' m hh).length = m := ints_length _ _ _
        have hst := run_storeCells (P := P) (b := r.mb) (ints k' m hh) w (r.base + off + len) 0 cs e' fz q3 q4 (by rw [hnl]; omega) (ints_scal _ _ _)
        rw [Nat.add_zero] at hst
        have hfc : (Builtin.firstCells ie.size m (.slice a' m c')).run P w = .ok (ints k' m hh).toArray w := by
          rcases hnews with rfl | ⟨ad, rfl, hn⟩
          · cases a' with
            | none => rfl
            | some a => simp [Builtin.firstCells, loadCells, loadCellsFrom, run_pure, ints]
          · exact run_firstCells_some (P := P) w ie.size m ad m c' (ints k' m hh) (by rw [hnl, e4, g1, Nat.mul_one]) hn
        have hrun : (Builtin.append_ #[t, t] ty #[.slice (some ⟨r.mb, r.base + off, none⟩) len c, .slice a' m c']).run P w =
            .ok (.slice (some ⟨r.mb, r.base + off, none⟩) (len + m) c) (putL w r.mb (r.base + off + len) (ints k' m hh)) := by
          have e1 : (#[t, t] : Array TypeId)[0]? = some t := rfl
          have e1' : (#[t, t] : Array TypeId)[1]? = some t := rfl
          have e2' : (#[Value.slice (some ⟨r.mb, r.base + off, none⟩) len c, Value.slice a' m c'] : Array Value)[0]? = some (Value.slice (some ⟨r.mb, r.base + off, none⟩) len c) := rfl
          have e3' : (#[Value.slice (some ⟨r.mb, r.base + off, none⟩) len c, Value.slice a' m c'] : Array Value)[1]? = some (Value.slice a' m c') := rfl
          simp only [Builtin.append_, e1, e1', e2', e3', run_bind, run_underlying h1, run_sizeOf e2, run_pure, Builtin.lenOf]
          simp only [Bool.false_eq_true, if_false, run_bind, run_pure, Builtin.lenOf]
          rw [if_pos hroom]
          simp only [Bool.not_false, if_true, run_bind, hfc]
          rw [e4, g1, Nat.mul_one, add_addr, hst]
          rfl
        obtain ⟨m1, m2, m3, m4, m5⟩ := putL_meta r.mb (ints k' m hh) w (r.base + off + len)
        have hrow := putL_row r.mb (ints k' m hh) w (r.base + off + len) cs e' fz q3
        obtain ⟨p1, p2⟩ := hS.moved (D := [b]) (w' := putL w r.mb (r.base + off + len) (ints k' m hh)) (bi := ⟨r.mb, r.base + off, .row (len + m)⟩) (v := .arr k' (len + m) (app len (shift off g) hh)) rfl ⟨m1, m2, m3, by omega, Nat.le_of_eq m5.symm⟩
          (.inl ⟨b, r, List.mem_cons_self, q1, rfl⟩) (by simp only; rw [m4]; exact hS.lt b r q1)
          (fun m' hm' hne => putL_out _ _ _ _ _ (hne b r List.mem_cons_self q1))
          (fun m' cs' e'' fz' hm' => by
            by_cases hmr : m' = r.mb
            · subst hmr
              rw [q3] at hm'; cases hm'
              exact ⟨_, _, _, hrow, putA_size _ _ _⟩
            · exact ⟨cs', e'', fz', (putL_out _ _ _ _ _ hmr).trans hm', rfl⟩)
          (fun ρ' hX => by
            refine ⟨_, _, _, .agg (ints k' (len + m) (app len (shift off g) hh)).toArray, hrow, by rw [putA_size]; exact q4, rfl, by rw [putA_size, cells_agg]; simp [ints_length]; omega, ?_⟩
            rw [cellsAt_row hrow, cells_agg]
            intro i hi
            simp only [ints_length] at hi
            have hgo := ints_get k' (len + m) (app len (shift off g) hh) i hi
            simp only
            rw [hgo, putA_get _ _ _ _ (by rw [hnl]; omega), hnl]
            by_cases h10 : i < len
            · rw [if_neg (by omega)]
              have := hold i h10
              simp only [World.cell?, q3] at this
              have this' : cs[r.base + off + i]? = some (.int k' (g (off + i))) := this
              rw [this']
              simp [app, bltI.2 h10, shift_apply]
            · rw [if_pos (by omega), show r.base + off + i - (r.base + off + len) = i - len from by omega, ints_get _ _ _ _ (by omega)]
              have : Nat.blt i len = false := by
                cases hb2 : Nat.blt i len with
                | false => rfl
                | true => have := bltI.1 hb2; omega
              simp [app, this])
        refine ⟨_, _, _, _, _, hK, p1, p2, rfl, ?_, hrun⟩
        simp only [Rel]
        refine ⟨_, _, rfl, _, by rw [List.getElem?_append_right (by rw [killN_length, hS.len]; exact Nat.le_refl _), killN_length, hS.len, Nat.sub_self]; rfl, fun i hi => ?_⟩
        cases hi
        exact ⟨len + m, .inl ⟨rfl, rfl⟩, by omega, hroom, (fun c0 hc => by cases hc), .inl ⟨by simp, _, _, _, hrow, by simp only; rw [putA_size]; omega⟩⟩
      · -- nothing at all
        have hm0 : m = 0 := by omega
        subst hm0
        have hrun : (Builtin.append_ #[t, t] ty #[.slice a 0 0, .slice a' 0 c']).run P w = .ok (.slice a 0 0) w := by
          have hfc : (Builtin.firstCells ie.size 0 (.slice a' 0 c')).run P w = .ok #[] w := by
            cases a' with
            | none => rfl
            | some a => simp [Builtin.firstCells, loadCells, loadCellsFrom, run_pure]
          have e1 : (#[t, t] : Array TypeId)[0]? = some t := rfl
          have e1' : (#[t, t] : Array TypeId)[1]? = some t := rfl
          have e2' : (#[Value.slice a 0 0, Value.slice a' 0 c'] : Array Value)[0]? = some (Value.slice a 0 0) := rfl
          have e3' : (#[Value.slice a 0 0, Value.slice a' 0 c'] : Array Value)[1]? = some (Value.slice a' 0 c') := rfl
          simp only [Builtin.append_, e1, e1', e2', e3', run_bind, run_underlying h1, run_sizeOf e2, run_pure, Builtin.lenOf]
          cases a with
          | none => simp [run_bind, hfc, run_pure, Builtin.lenOf]
          | some a => simp [run_bind, hfc, run_pure, storeCells, Builtin.lenOf]
        obtain ⟨p1, p2⟩ := hS.moved (D := [b]) (w' := w) (bi := ⟨r.mb, r.base + off, .row (0 + 0)⟩) (v := .arr k' (0 + 0) (app 0 (shift off g) hh)) rfl ⟨rfl, rfl, rfl, Nat.le_refl _, Nat.le_refl _⟩
          (.inl ⟨b, r, List.mem_cons_self, q1, rfl⟩) (hS.lt b r q1) (fun m' hm' hne => rfl) (fun m' cs' e'' fz' hm' => ⟨cs', e'', fz', hm', rfl⟩)
          (fun ρ' hX => by
            refine ⟨cs, e', fz, .agg (ints k' (0 + 0) (app 0 (shift off g) hh)).toArray, q3, q4, rfl, by rw [cells_agg]; simp [ints_length]; omega, ?_⟩
            rw [cells_agg]
            intro i hi
            simp [ints_length] at hi)
        refine ⟨_, _, _, _, _, hK, p1, p2, rfl, ?_, hrun⟩
        simp only [Rel]
        refine ⟨_, _, rfl, _, by rw [List.getElem?_append_right (by rw [killN_length, hS.len]; exact Nat.le_refl _), killN_length, hS.len, Nat.sub_self]; rfl, fun i hi => ?_⟩
        cases hi
        exact ⟨0 + 0, .inl ⟨rfl, rfl⟩, by omega, by omega, (fun c0 hc => by cases hc), .inr (by simp)⟩
    · -- anew
      have hm : m ≠ 0 := by omega
      rcases hnews with hn | ⟨ad, rfl, hn⟩
      · exact absurd hn hm
      have hge := grownCap_ge w (len + m) c e
      have hfit := growslice_fits (show c < len + m by omega) (hmul _ g3')
      have hsize : ((ints k' len (shift off g)).toArray ++ (ints k' m hh).toArray ++ Builtin.zeroCells (Value.int k0 z0).cells (grownCap w (len + m) c e - (len + m))).size = grownCap w (len + m) c e := by
        rw [Array.size_append, Array.size_append, hz1]; simp [ints_length]; omega
      obtain ⟨ρ', p1, p2, p3, p4⟩ := hS.newRow [b] k' (len + m) (grownCap w (len + m) c e) (app len (shift off g) hh)
        ((ints k' len (shift off g)).toArray ++ (ints k' m hh).toArray ++ Builtin.zeroCells (Value.int k0 z0).cells (grownCap w (len + m) c e - (len + m))) e hge hsize (fun i hi => by
          rw [Array.getElem?_append_left (by simp [ints_length]; omega)]
          have := hval i hi
          simpa using this)
      refine ⟨_, _, ρ', _, _, hK, p1, p2, p3, p4, ?_⟩
      cases a with
      | some a =>
        rcases q9 with ⟨ha, q10⟩ | ⟨hl0, hc0⟩
        · cases ha
          exact run_append_grow (P := P) w t ty e ie _ h1 e2 e6 ⟨r.mb, r.base + off, none⟩ len c (ints k' len (shift off g)) (by rw [ints_length, e4, g1, Nat.mul_one]) (fun j v hj => by
            have hjl : j < len := by
              rcases Nat.lt_or_ge j (ints k' len (shift off g)).length with hq | hq
              · rwa [ints_length] at hq
              · rw [List.getElem?_eq_none hq] at hj; cases hj
            rw [ints_get _ _ _ _ hjl] at hj
            cases hj
            rw [add_addr, hold j hjl, shift_apply]) ad m c' (ints k' m hh) (by rw [ints_length, e4, g1, Nat.mul_one]) hn (by omega) (by omega) hfit
        · subst hl0; subst hc0
          exact run_append_grow (P := P) w t ty e ie _ h1 e2 e6 a 0 0 (ints k' 0 (shift off g)) (by simp [ints]) (fun j v hj => by simp [ints] at hj) ad m c' (ints k' m hh) (by rw [ints_length, e4, g1, Nat.mul_one]) hn (by omega) (by omega) hfit
      | none =>
        rcases q9 with ⟨ha, q10⟩ | ⟨hl0, hc0⟩
        · cases ha
        · subst hl0; subst hc0
          have := run_append_nil (P := P) w t ty e ie _ h1 e2 e6 ad m c' (ints k' m hh) (by rw [ints_length, e4, g1, Nat.mul_one]) hn (by omega) (by omega) (by have := hmul m (by omega); omega)
          simp only [Nat.zero_add] at this ⊢
          rw [this]
          simp [ints]
  · exact h.elim
end sound
end Go.Ev

/- The evaluator: rows of structs of any length: made, appended to, parts of them. -/
set_option linter.unusedVariables false
set_option linter.unusedSimpArgs false
namespace Go.Ev
open Go
mutual
def Sk.of : EV → Option Sk
  | .int k n => cond (n == 0) (some (.int k)) none
  | .bool b => cond b none (some .bool)
  | .agg l => match Sk.ofL l with
    | some s => some (.agg s)
    | none => none
  | .undef => none | .str _ => none | .nilPtr => none | .ptr _ _ => none | .rref _ => none | .nilSlice => none | .slice _ _ _ _ _ => none | .rsI _ _ _ => none | .nilFunc => none
  | .func _ _ => none | .bnd _ _ => none | .arr _ _ _ => none | .tuple _ => none | .nilIface => none | .iface _ _ => none | .rsT _ _ _ => none | .arrT _ _ _ => none
def Sk.ofL : List EV → Option (List Sk)
  | [] => some []
  | v :: l => match Sk.of v, Sk.ofL l with
    | some a, some b => some (a :: b)
    | _, _ => none
end
def z2 : Nat → Nat → Lf := fun _ _ => .z 0
mutual
theorem of_val : ∀ (z : EV) (s : Sk) (c : Nat), Sk.of z = some s → s.val c (fun _ => .z 0) = z
  | .int k n, s, c, h => by
    simp only [Sk.of] at h
    cases hn : (n == 0) with
    | false => simp [hn] at h
    | true =>
      simp [hn] at h; subst h
      have : n = 0 := by simpa using hn
      subst this; rfl
  | .bool b, s, c, h => by
    simp only [Sk.of] at h
    cases b with
    | true => simp at h
    | false => simp at h; subst h; rfl
  | .agg l, s, c, h => by
    simp only [Sk.of] at h
    cases hl : Sk.ofL l with
    | none => simp [hl] at h
    | some q =>
      simp only [hl, Option.some.injEq] at h; subst h
      simp only [Sk.val, of_valL l q c hl]
  | .undef, s, c, h => by simp [Sk.of] at h
  | .str _, s, c, h => by simp [Sk.of] at h
  | .nilPtr, s, c, h => by simp [Sk.of] at h
  | .ptr _ _, s, c, h => by simp [Sk.of] at h
  | .rref _, s, c, h => by simp [Sk.of] at h
  | .nilSlice, s, c, h => by simp [Sk.of] at h
  | .slice _ _ _ _ _, s, c, h => by simp [Sk.of] at h
  | .rsI _ _ _, s, c, h => by simp [Sk.of] at h
  | .nilFunc, s, c, h => by simp [Sk.of] at h
  | .func _ _, s, c, h => by simp [Sk.of] at h
  | .bnd _ _, s, c, h => by simp [Sk.of] at h
  | .arr _ _ _, s, c, h => by simp [Sk.of] at h
  | .tuple _, s, c, h => by simp [Sk.of] at h
  | .nilIface, s, c, h => by simp [Sk.of] at h
  | .iface _ _, s, c, h => by simp [Sk.of] at h
  | .rsT _ _ _, s, c, h => by simp [Sk.of] at h
  | .arrT _ _ _, s, c, h => by simp [Sk.of] at h
theorem of_valL : ∀ (l : List EV) (s : List Sk) (c : Nat), Sk.ofL l = some s → Sk.valL s c (fun _ => .z 0) = l
  | [], s, c, h => by simp only [Sk.ofL, Option.some.injEq] at h; subst h; rfl
  | v :: l, s, c, h => by
    simp only [Sk.ofL] at h
    cases ha : Sk.of v with
    | none => simp [ha] at h
    | some a =>
      cases hb : Sk.ofL l with
      | none => simp [ha, hb] at h
      | some b =>
        simp only [ha, hb, Option.some.injEq] at h; subst h
        simp only [Sk.valL, of_val v a c ha, of_valL l b _ hb]
end
mutual
theorem flat_cells : ∀ (s : Sk) (c : Nat) (r : Nat → Lf), s.flat = true → ∃ cs, s.cells c r = some cs ∧ cs.length = s.shape.size ∧ cs.all scal = true ∧ ∀ ρ w, ∀ x, Rel ρ w (s.val c r) x → x.cells.toList = cs
  | .int k, c, r, _ => ⟨_, rfl, rfl, rfl, fun ρ w x h => by simp only [Sk.val, Rel] at h; subst h; rfl⟩
  | .bool, c, r, _ => ⟨_, rfl, rfl, rfl, fun ρ w x h => by simp only [Sk.val, Rel] at h; subst h; rfl⟩
  | .sl _, c, r, h => by simp [Sk.flat] at h
  | .agg l, c, r, h => by
    obtain ⟨cs, h1, h2, h3, h4⟩ := flat_cellsL l c r (by simpa [Sk.flat] using h)
    refine ⟨cs, h1, h2, h3, fun ρ w x hx => ?_⟩
    simp only [Sk.val, Rel] at hx
    obtain ⟨xs, rfl, hx⟩ := hx
    rw [cells_agg]; exact h4 ρ w _ hx
theorem flat_cellsL : ∀ (l : List Sk) (c : Nat) (r : Nat → Lf), Sk.flatL l = true → ∃ cs, Sk.cellsL l c r = some cs ∧ cs.length = Shape.sizeL (Sk.shapeL l) ∧ cs.all scal = true ∧ ∀ ρ w, ∀ xs, RelF ρ w (Sk.valL l c r) xs → xs = cs
  | [], c, r, _ => ⟨[], rfl, rfl, rfl, fun ρ w xs h => h⟩
  | s :: l, c, r, h => by
    simp only [Sk.flatL, Bool.and_eq_true] at h
    obtain ⟨a, h1, h2, h3, h4⟩ := flat_cells s c r h.1
    obtain ⟨b, k1, k2, k3, k4⟩ := flat_cellsL l (c + s.shape.size) r h.2
    refine ⟨a ++ b, by simp only [Sk.cellsL, h1, k1], by simp only [List.length_append, h2, k2, Sk.shapeL, Shape.sizeL], by rw [List.all_append, h3, k3]; rfl, fun ρ w xs hx => ?_⟩
    simp only [Sk.valL, RelF] at hx
    obtain ⟨x, ys, rfl, q1, q2⟩ := hx
    rw [h4 ρ w x q1, k4 ρ w ys q2]
end
def Sk.cel (s : Sk) (r : Nat → Lf) : List Value := (s.cells 0 r).getD []
def tabL (s : Sk) (n : Nat) (g : Nat → Nat → Lf) : List Value := (List.range n).flatMap fun i => s.cel (g i)
section flat
variable {s : Sk} (hf : s.flat = true)
include hf
theorem cel_length (r : Nat → Lf) : (s.cel r).length = s.shape.size := by
  obtain ⟨cs, h1, h2, _⟩ := flat_cells s 0 r hf
  simp only [Sk.cel, h1, Option.getD_some, h2]
theorem cel_scal (r : Nat → Lf) : (s.cel r).all scal = true := by
  obtain ⟨cs, h1, h2, h3, _⟩ := flat_cells s 0 r hf
  simp only [Sk.cel, h1, Option.getD_some, h3]
theorem cel_rel {ρ : Ren} {w : World} (r : Nat → Lf) (x : Value) (h : Rel ρ w (s.val 0 r) x) : x.cells.toList = s.cel r := by
  obtain ⟨cs, h1, h2, h3, h4⟩ := flat_cells s 0 r hf
  simp only [Sk.cel, h1, Option.getD_some, h4 ρ w x h]
theorem lf_cel {ρ : Ren} {w : World} (cv : Nat → Option Value) (r : Nat → Lf) : LfAt ρ w s cv 0 r ↔ ∀ j, j < s.shape.size → cv j = (s.cel r)[j]? := by
  constructor
  · intro h j hj
    obtain ⟨x, h1, h2⟩ := lf_rel s cv 0 r h
    rw [← cel_rel hf r x h1, h2 j hj, Nat.zero_add]
  · intro h
    obtain ⟨cs, h1, h2, _⟩ := flat_cells s 0 r hf
    refine (cells_lf s 0 r cs h1).2 cv fun j hj => ?_
    rw [Nat.zero_add, h j hj]
    simp only [Sk.cel, h1, Option.getD_some]
omit hf in
theorem tabL_succ' (n : Nat) (g : Nat → Nat → Lf) : tabL s (n + 1) g = tabL s n g ++ s.cel (g n) := by
  simp [tabL, List.range_succ, List.flatMap_append]
theorem tabL_succ (n : Nat) (g : Nat → Nat → Lf) : tabL s (n + 1) g = tabL s n g ++ s.cel (g n) := by
  have := hf; exact tabL_succ' n g
theorem tabL_length (n : Nat) (g : Nat → Nat → Lf) : (tabL s n g).length = n * s.shape.size := by
  induction n with
  | zero => simp [tabL]
  | succ n ih => rw [tabL_succ hf, List.length_append, ih, cel_length hf, Nat.add_mul, Nat.one_mul]
theorem tabL_scal (n : Nat) (g : Nat → Nat → Lf) : (tabL s n g).all scal = true := by
  induction n with
  | zero => simp [tabL]
  | succ n ih => rw [tabL_succ hf, List.all_append, ih, cel_scal hf]; rfl
theorem tabL_get (n : Nat) (g : Nat → Nat → Lf) (i j : Nat) (hi : i < n) (hj : j < s.shape.size) : (tabL s n g)[i * s.shape.size + j]? = (s.cel (g i))[j]? := by
  induction n with
  | zero => omega
  | succ n ih =>
    rw [tabL_succ hf, List.getElem?_append, tabL_length hf]
    by_cases hin : i = n
    · subst hin
      rw [if_neg (by omega)]; congr 1; omega
    · have : i * s.shape.size + s.shape.size ≤ n * s.shape.size := by
        have := Nat.mul_le_mul_right s.shape.size (show i + 1 ≤ n by omega)
        rw [Nat.add_mul, Nat.one_mul] at this; exact this
      rw [if_pos (by omega)]; exact ih (by omega)
theorem tabL_at (n : Nat) (g : Nat → Nat → Lf) (q : Nat) (hq : q < n * s.shape.size) : ∃ i j, i < n ∧ j < s.shape.size ∧ q = i * s.shape.size + j ∧ (tabL s n g)[q]? = (s.cel (g i))[j]? := by
  have hs : 0 < s.shape.size := by
    rcases Nat.eq_zero_or_pos s.shape.size with hz | hz
    · rw [hz] at hq; simp at hq
    · exact hz
  have hi : q / s.shape.size < n := Nat.div_lt_of_lt_mul (by rwa [Nat.mul_comm])
  have hj := Nat.mod_lt q hs
  have e : q = q / s.shape.size * s.shape.size + q % s.shape.size := by rw [Nat.mul_comm]; exact (Nat.div_add_mod q _).symm
  refine ⟨_, _, hi, hj, e, ?_⟩
  rw [← tabL_get hf n g _ _ hi hj, ← e]
theorem rel_tab {ρ : Ren} {w : World} (n : Nat) (g : Nat → Nat → Lf) (x : Value) : Rel ρ w (.arrT n s g) x ↔ x = .agg (tabL s n g).toArray := by
  simp only [Rel]
  constructor
  · rintro ⟨cs, rfl, h1, h2⟩
    congr 1
    apply Array.ext'
    apply List.ext_getElem?
    intro q
    by_cases hq : q < n * s.shape.size
    · obtain ⟨i, j, hi, hj, rfl, e⟩ := tabL_at hf n g q hq
      rw [List.toList_toArray, e, ← (lf_cel hf _ _).1 (h2 i hi) j hj]; simp
    · rw [List.getElem?_eq_none (by simp; omega), List.getElem?_eq_none (by rw [List.toList_toArray, tabL_length hf]; omega)]
  · rintro rfl
    refine ⟨_, rfl, by simp [tabL_length hf], fun i hi => (lf_cel hf _ _).2 fun j hj => ?_⟩
    simp only [List.getElem?_toArray]
    exact tabL_get hf n g i j hi hj
theorem tab_rows {ρ : Ren} {w : World} {n b o : Nat} {g : Nat → Nat → Lf} : CellsAt w b o (tabL s n g) ↔ ∀ i, i < n → LfAt ρ w s (fun j => w.cell? ⟨b, o + i * s.shape.size + j, none⟩) 0 (g i) := by
  constructor
  · intro h i hi
    refine (lf_cel hf _ _).2 fun j hj => ?_
    have hle : i * s.shape.size + s.shape.size ≤ n * s.shape.size := by
      have := Nat.mul_le_mul_right s.shape.size (show i + 1 ≤ n by omega)
      rw [Nat.add_mul, Nat.one_mul] at this; exact this
    have := h (i * s.shape.size + j) (by rw [tabL_length hf]; omega)
    rw [tabL_get hf n g i j hi hj] at this
    rw [← this, Nat.add_assoc]
  · intro h q hq
    rw [tabL_length hf] at hq
    obtain ⟨i, j, hi, hj, rfl, e⟩ := tabL_at hf n g q hq
    rw [e, ← (lf_cel hf _ _).1 (h i hi) j hj, Nat.add_assoc]
end flat
def shiftT : Nat → (Nat → Nat → Lf) → (Nat → Nat → Lf)
  | 0, g => g
  | o + 1, g => fun i => g (o + 1 + i)
def appT (n : Nat) (g h : Nat → Nat → Lf) : Nat → Nat → Lf := fun i c => cond (Nat.blt i n) (g i c) (h (i - n) c)
theorem shiftT_apply (o : Nat) (g : Nat → Nat → Lf) (i : Nat) : shiftT o g i = g (o + i) := by
  cases o <;> simp [shiftT]
theorem appT_lt {n : Nat} {g h : Nat → Nat → Lf} {i : Nat} (hi : i < n) : appT n g h i = g i := by
  funext c; simp [appT, bltI.2 hi]
theorem appT_ge {n : Nat} {g h : Nat → Nat → Lf} {i : Nat} (hi : ¬ i < n) : appT n g h i = h (i - n) := by
  have : Nat.blt i n = false := by
    cases hb : Nat.blt i n with
    | false => rfl
    | true => exact absurd (bltI.1 hb) hi
  funext c; simp [appT, this]
theorem tabL_app {s : Sk} (hf : s.flat = true) (n m : Nat) (g h : Nat → Nat → Lf) : tabL s (n + m) (appT n g h) = tabL s n g ++ tabL s m h := by
  induction m with
  | zero =>
    rw [Nat.add_zero, show tabL s 0 h = [] from rfl, List.append_nil]
    unfold tabL
    rw [List.flatMap_def, List.flatMap_def]
    congr 1
    apply List.map_congr_left
    intro i hi
    rw [appT_lt (List.mem_range.1 hi)]
  | succ m ih => rw [← Nat.add_assoc, tabL_succ hf, ih, tabL_succ hf, appT_ge (by omega), show n + m - n = m from by omega, List.append_assoc]
theorem tabL_part {s : Sk} (hf : s.flat = true) (n o m : Nat) (g : Nat → Nat → Lf) (h : o + m ≤ n) : ((tabL s n g).drop (o * s.shape.size)).take (m * s.shape.size) = tabL s m (shiftT o g) := by
  apply List.ext_getElem?
  intro q
  by_cases hq : q < m * s.shape.size
  · obtain ⟨i, j, hi, hj, rfl, e⟩ := tabL_at hf m (shiftT o g) q hq
    rw [List.getElem?_take_of_lt hq, List.getElem?_drop, e, shiftT_apply, show o * s.shape.size + (i * s.shape.size + j) = (o + i) * s.shape.size + j from by rw [Nat.add_mul]; omega, tabL_get hf n g _ _ (by omega) hj]
  · rw [List.getElem?_eq_none (by rw [List.length_take]; omega), List.getElem?_eq_none (by rw [tabL_length hf]; omega)]
def evWinT (H : Heap) (x : EV) (s : Sk) : Option (Nat × (Nat → Nat → Lf)) :=
  match x with
  | .nilSlice => some (0, z2)
  | .rsT n s' g => cond (s.beq s') (some (n, g)) none
  | .slice b off len _ es => match H[b]? with
    | some (some (.arrT _ s' g)) => cond (s.beq s' && Nat.beq es s.shape.size) (some (len, shiftT off g)) none
    | some (some (.agg [v])) => match s.un v with
      | some ls => cond (Nat.beq off 0 && (Nat.beq len 1 && Nat.beq es s.shape.size)) (some (1, updL z2 0 0 ls)) none
      | none => none
    | _ => none
  | _ => none
def evMakeSliceT (E : Env) (t : TypeId) (ln cp : EV) (H : Heap) (K : EV → Heap → Prop) : Prop :=
  match E.ty t, ln, cp with
  | some ti, .int _ l, .int _ c => match ti.td with
    | .slice e => match E.ty e with
      | some ei => match Sk.of ei.zero with
        | some s => gd (skTy E s 9 e && (Nat.ble ei.bytes 256 && (leI 0 l && (leI l c && leI c 1099511627776))))
            (K (.slice H.length 0 l.toNat (some c.toNat) s.shape.size) (H ++ [some (.arrT c.toNat s z2)]))
        | none => False
      | none => False
    | _ => False
  | _, _, _ => False
def evAppendT (E : Env) (t t' : TypeId) (v x : EV) (H : Heap) (K : EV → Heap → Prop) : Prop :=
  match E.ty t with
  | some ti => match ti.td with
    | .slice e => match E.ty e with
      | some ei => match Sk.of ei.zero with
        | some s => match evWinT H x s with
          | some (m, h) => gd (Nat.beq t t' && (skTy E s 9 e && (Nat.ble 1 ei.bytes && Nat.ble ei.bytes 64))) (match v with
            | .nilSlice => gd (leN (m * ei.bytes) 140737488355328) (br (isZ m) (K .nilSlice H) (K (.slice H.length 0 m none s.shape.size) (H ++ [some (.arrT m s h)])))
            | .slice b off len cap es => match H[b]? with
              | some (some (.arrT n s' g)) => gd (s.beq s' && (Nat.beq es s.shape.size && leN ((len + m) * ei.bytes) 140737488355328)) (K (.slice H.length 0 (len + m) none s.shape.size) (H.set b none ++ [some (.arrT (len + m) s (appT len (shiftT off g) h))]))
              | _ => False
            | _ => False)
          | none => False
        | none => False
      | none => False
    | _ => False
  | none => False
def evSliceT (E : Env) (t : TypeId) (n : Nat) (s : Sk) (g : Nat → Nat → Lf) (lo hi mx : Option EV) (K : EV → Prop) : Prop :=
  match mx, E.ty t with
  | none, some ti => match ti.td with
    | .slice e => match oInt 0 lo, oInt n hi with
      | some l, some h => gd (sizeIs E e s.shape.size && (leI 0 l && (leI l h && leI h n))) (K (.rsT (h.toNat - l.toNat) s (shiftT l.toNat g)))
      | _, _ => False
    | _ => False
  | _, _ => False
def elInt (E : Env) (t : TypeId) : Bool :=
  match E.ty t with
  | some ti => match ti.td with
    | .slice e => match E.ty e with
      | some ei => match ei.zero with
        | .agg _ => false
        | _ => true
      | none => true
    | _ => true
  | none => true
def evMakeSliceA (E : Env) (t : TypeId) (ln cp : EV) (H : Heap) (K : EV → Heap → Prop) : Prop := cond (elInt E t) (evMakeSlice E t ln cp H K) (evMakeSliceT E t ln cp H K)
def evAppendA (E : Env) (t t' : TypeId) (v x : EV) (H : Heap) (K : EV → Heap → Prop) : Prop := cond (elInt E t) (evAppend E t t' v x H K) (evAppendT E t t' v x H K)
def evSliceA (E : Env) (t : TypeId) (x : EV) (lo hi mx : Option EV) (H : Heap) (K : EV → Prop) : Prop :=
  match x with
  | .rsT n s g => evSliceT E t n s g lo hi mx K
  | x => evSlice E t x lo hi mx H K
section sound
variable {P : Program} {E : Env}
theorem rows_tab {n m e : Nat} {s : Shape} (h : (Shape.tab n s).rows m e) : m = n ∧ e = s.size := by
  rcases h with ⟨h, _⟩ | ⟨l, h, _⟩ | ⟨t, h, rfl⟩
  · cases h
  · cases h
  · cases h; exact ⟨rfl, rfl⟩
theorem Sim.winT {ρ : Ren} {H : Heap} {w : World} {x : EV} {X : Value} {s : Sk} {n : Nat} {g : Nat → Nat → Lf} (hf : s.flat = true) (hS : Sim ρ H w) (hx : Rel ρ w x X) (h : evWinT H x s = some (n, g)) :
    ∃ a c, X = .slice a n c ∧ n ≤ c ∧ (n = 0 ∨ ∃ b o, a = some ⟨b, o, none⟩ ∧ CellsAt w b o (tabL s n g)) := by
  unfold evWinT at h
  split at h
  · simp only [Option.some.injEq, Prod.mk.injEq] at h
    obtain ⟨rfl, rfl⟩ := h
    simp only [Rel] at hx; subst hx
    exact ⟨none, 0, rfl, Nat.le_refl _, .inl rfl⟩
  · rename_i n' s' g'
    cases hb : s.beq s' with
    | false => simp [hb] at h
    | true =>
      simp only [hb, cond_true, Option.some.injEq, Prod.mk.injEq] at h
      obtain ⟨rfl, rfl⟩ := h
      have := Sk.eq_of_beq _ _ hb
      subst this
      simp only [Rel] at hx
      obtain ⟨a, c, rfl, h1, h2⟩ := hx
      refine ⟨a, c, rfl, h1, h2.imp id ?_⟩
      rintro ⟨b, o, h3, _, _, h4⟩
      exact ⟨b, o, h3, (tab_rows hf (ρ := ρ)).2 h4⟩
  · rename_i b off len cap es
    split at h
    · rename_i m s' g' hb
      cases hc : (s.beq s' && Nat.beq es s.shape.size) with
      | false => simp [hc] at h
      | true =>
        simp only [hc, cond_true, Option.some.injEq, Prod.mk.injEq] at h
        obtain ⟨rfl, rfl⟩ := h
        simp only [Bool.and_eq_true] at hc
        have e1 := Sk.eq_of_beq _ _ hc.1
        have e2 := Nat.eq_of_beq_eq_true hc.2
        subst e1; subst e2
        simp only [Rel] at hx
        obtain ⟨a, c, rfl, r, hr, hi⟩ := hx
        obtain ⟨r', h1, h2, cs, e', fz, x, h3, h4, h5, h6, h7⟩ := hS.live b _ hb
        rw [h1] at hr; cases hr
        obtain ⟨n, h8, h9, h10, h11, h12⟩ := hi r' rfl
        refine ⟨a, c, rfl, h10, ?_⟩
        rcases h12 with ⟨h12, _⟩ | ⟨h12, _⟩
        · refine .inr ⟨_, _, h12, ?_⟩
          rw [← h2] at h8
          obtain ⟨rfl, _⟩ := rows_tab h8
          have := (rel_tab hf _ g' x).1 h5
          subst this
          have := h7.sub (off * s.shape.size) (len * s.shape.size)
          rw [cells_agg, List.toList_toArray, tabL_part hf _ _ _ _ h9] at this
          exact this
        · exact .inl h12
    · rename_i v hb
      cases hu : s.un v with
      | none => simp [hu] at h
      | some ls =>
        simp only [hu] at h
        cases hc : (Nat.beq off 0 && (Nat.beq len 1 && Nat.beq es s.shape.size)) with
        | false => simp [hc] at h
        | true =>
          simp only [hc, cond_true, Option.some.injEq, Prod.mk.injEq] at h
          obtain ⟨rfl, rfl⟩ := h
          simp only [Bool.and_eq_true] at hc
          have e0 := Nat.eq_of_beq_eq_true hc.1
          have e1 := Nat.eq_of_beq_eq_true hc.2.1
          have e2 := Nat.eq_of_beq_eq_true hc.2.2
          subst e0; subst e1; subst e2
          simp only [Rel] at hx
          obtain ⟨a, c, rfl, r, hr, hi⟩ := hx
          obtain ⟨r', h1, h2, cs, e', fz, x, h3, h4, h5, h6, h7⟩ := hS.live b _ hb
          rw [h1] at hr; cases hr
          obtain ⟨n, h8, h9, h10, h11, h12⟩ := hi r' rfl
          refine ⟨a, c, rfl, h10, ?_⟩
          rcases h12 with ⟨h12, _⟩ | ⟨h12, _⟩
          · refine .inr ⟨_, _, h12, ?_⟩
            simp only [Rel, RelF] at h5
            obtain ⟨xs, rfl, y, ys, hxs, hy, rfl⟩ := h5
            obtain ⟨u1, u2⟩ := un_val s v ls hu
            have hv : s.val 0 (updL z2 0 0 ls 0) = v := u2 0 _ fun q hq => by
              rw [Nat.zero_add, updL_get, if_pos ⟨rfl, Nat.zero_le _, by rw [u1]; omega⟩, Nat.sub_zero]
            have hcel := cel_rel hf (updL z2 0 0 ls 0) y (by rw [hv]; exact hy)
            have e : tabL s 1 (updL z2 0 0 ls) = xs.toList := by
              rw [show (1 : Nat) = 0 + 1 from rfl, tabL_succ hf, show tabL s 0 (updL z2 0 0 ls) = [] from rfl, List.nil_append, ← hcel, hxs, List.append_nil]
            rw [e, Nat.zero_mul, Nat.add_zero]
            rw [cells_agg] at h7
            exact h7
          · exact .inl h12
    · cases h
  · cases h
theorem tab_made {s : Sk} (hf : s.flat = true) {ρ : Ren} {w : World} {z : EV} {ze : Value} (hz : Sk.of z = some s) (hr : Rel ρ w z ze) (n : Nat) : madeCells ze.cells (n * s.shape.size) = (tabL s n z2).toArray := by
  have hv := of_val z s 0 hz
  have hc : ze.cells.toList = s.cel (fun _ => .z 0) := cel_rel hf _ ze (by rw [hv]; exact hr)
  have hl : ze.cells.size = s.shape.size := by rw [← Array.length_toList, hc, cel_length hf]
  apply Array.ext'
  apply List.ext_getElem?
  intro q
  rw [List.toList_toArray]
  by_cases hq : q < n * s.shape.size
  · obtain ⟨i, j, hi, hj, e0, e⟩ := tabL_at hf n z2 q hq
    rw [e]
    have hqj : q % s.shape.size = j := by rw [e0, Nat.mul_comm, Nat.mul_add_mod, Nat.mod_eq_of_lt hj]
    rw [show s.cel (z2 i) = ze.cells.toList from hc.symm]
    simp only [madeCells, Array.toList_map, List.getElem?_map, Array.toList_range, List.getElem?_range hq, Option.map_some, hl, hqj]
    rw [Array.getElem?_toList, Array.getElem?_eq_getElem (by omega), getElem!_pos ze.cells j (by omega)]
  · rw [List.getElem?_eq_none (by simp [madeCells]; omega), List.getElem?_eq_none (by rw [tabL_length hf]; omega)]
theorem evMakeSliceT_sound {ρ : Ren} {w : World} {t : TypeId} {ln cp : EV} {Ln Cp : Value} {H : Heap} {K : EV → Heap → Prop} (hE : ∀ t ti, E.ty t = some ti → OkTI P t ti)
    (hS : Sim ρ H w) (hl : Rel ρ w ln Ln) (hc : Rel ρ w cp Cp) (h : evMakeSliceT E t ln cp H K) :
    ∃ v H' ρ' w' z, K v H' ∧ Sim ρ' H' w' ∧ Ext ρ w ρ' w' ∧ ρ'.F = ρ.F ∧ Rel ρ' w' v z ∧ (Instr.makeSlice t Ln Cp).run P w = .ok z w' := by
  unfold evMakeSliceT at h
  split at h
  case h_2 => exact h.elim
  rename_i ti kl l kc c ht
  obtain ⟨d, it, zt, h1, h2, h3, h4, h5, h6, h7⟩ := hE t ti ht
  simp only [Rel] at hl hc; subst hl; subst hc
  split at h
  case h_2 => exact h.elim
  rename_i e htd
  rw [htd] at h3; cases d <;> simp only [tdOk] at h3
  subst h3
  rename_i e
  split at h
  case h_2 => exact h.elim
  rename_i ei he
  obtain ⟨de, ie, ze, e1, e2, e3, e4, e5, e6, e7⟩ := hE e ei he
  split at h
  case h_2 => exact h.elim
  rename_i s hzk
  rw [gd_iff] at h
  simp only [Bool.and_eq_true, leI, decide_eq_true_eq, Nat.ble_eq] at h
  obtain ⟨⟨g1, g2, g3, g4, g5⟩, hK⟩ := h
  have hf := (skTy_conf s 9 e g1).1
  have hsz : ie.size = s.shape.size := by
    obtain ⟨d', i', k1, k2, k3, k4⟩ := conf_spec hE ((skTy_conf s 9 e g1).2 0 (fun _ => .z 0))
    rw [e2] at k2; cases k2
    rw [k4, shape_val]
  have hby : (ie.bytes : Int) * c ≤ 281474976710656 := by
    rw [e5]
    have h8 : (ei.bytes : Int) * c ≤ 256 * c := Int.mul_le_mul_of_nonneg_right (by omega) (by omega)
    omega
  have hrun := run_make (P := P) w t e ie _ h1 e2 e6 kl kc l c g3 g4 hby (by omega)
  rw [hsz, tab_made hf (ρ := ρ) (w := w) hzk (encV_rel _ _ e7)] at hrun
  have hv : Rel ρ w (.arrT c.toNat s z2) (.agg (tabL s c.toNat z2).toArray) := (rel_tab hf _ _ _).2 rfl
  obtain ⟨ρ', rfl, hS', hE'⟩ := hS.new _ _ e hv
  rw [cells_agg] at hS' hE'
  refine ⟨_, _, _, _, _, hK, hS', hE', rfl, ?_, hrun⟩
  simp only [Rel]
  refine ⟨_, _, rfl, _, by rw [List.getElem?_append_right (by rw [hS.len]; exact Nat.le_refl _), hS.len, Nat.sub_self]; rfl, fun i hi => ?_⟩
  cases hi
  refine ⟨c.toNat, .inr (.inr ⟨_, rfl, rfl⟩), by omega, by omega, fun c0 hc => by cases hc; exact ⟨rfl, by omega⟩, .inl ⟨by simp, e, _, (0, 0), by rw [alloc_heap, if_pos rfl], by simp [tabL_length hf]⟩⟩
theorem evSliceT_sound {ρ : Ren} {w : World} {t : TypeId} {n : Nat} {s : Sk} {g : Nat → Nat → Lf} {X : Value} {lo hi mx : Option EV} {Lo Hi Mx : Option Value} {K : EV → Prop} (hE : ∀ t ti, E.ty t = some ti → OkTI P t ti)
    (hx : Rel ρ w (.rsT n s g) X) (hlo : ORel ρ w lo Lo) (hhi : ORel ρ w hi Hi) (hmx : ORel ρ w mx Mx) (h : evSliceT E t n s g lo hi mx K) :
    ∃ v z, K v ∧ Rel ρ w v z ∧ (Instr.sliceAt t X Lo Hi Mx).run P w = .ok z w := by
  unfold evSliceT at h
  split at h
  case h_2 => exact h.elim
  rename_i ti ht
  have hM : Mx = none := by cases Mx with | none => rfl | some _ => exact hmx.elim
  subst hM
  obtain ⟨d, it, zt, h1, h2, h3, h4, h5, h6, h7⟩ := hE t ti ht
  split at h
  case h_2 => exact h.elim
  rename_i e htd
  rw [htd] at h3; cases d <;> simp only [tdOk] at h3
  subst h3
  split at h
  case h_2 => exact h.elim
  rename_i l hh e1 e2
  rw [gd_iff] at h
  simp only [Bool.and_eq_true, leI, decide_eq_true_eq] at h
  obtain ⟨⟨g0, g1, g2, g3⟩, hK⟩ := h
  simp only [Rel] at hx
  obtain ⟨a, c, rfl, hnc, hc⟩ := hx
  have hb := run_bounds (P := P) (is := true) (cap := c) hlo hhi e1 e2 g1 g2 (by omega)
  refine ⟨_, .slice (if c = l.toNat then a else a.map (·.add (l.toNat * s.shape.size))) (hh.toNat - l.toNat) (c - l.toNat), hK, ?_, ?_⟩
  · simp only [Rel]
    refine ⟨_, _, rfl, by omega, ?_⟩
    by_cases hz : hh.toNat - l.toNat = 0
    · exact .inl hz
    · right
      rcases hc with hc | ⟨b, o, rfl, k1, k2, k3⟩
      · omega
      · rw [if_neg (by omega)]
        refine ⟨b, o + l.toNat * s.shape.size, by simp [add_addr], k1, k2, ?_⟩
        intro i hi
        have := k3 (l.toNat + i) (by omega)
        rw [shiftT_apply]
        have e : (fun j => w.cell? ⟨b, o + l.toNat * s.shape.size + i * s.shape.size + j, none⟩) = fun j => w.cell? ⟨b, o + (l.toNat + i) * s.shape.size + j, none⟩ := by
          funext j; rw [Nat.add_mul]; congr 2; omega
        rw [e]; exact this
  · simp only [Instr.sliceAt, Instr.slice, run_bind, run_underlying h1, hb, sizeIs_run hE g0, run_pure]
theorem Sim.rowT {ρ : Ren} {H : Heap} {w : World} {s : Sk} (hf : s.flat = true) (hS : Sim ρ H w) {b n off len : Nat} {cap : Option Nat} {g : Nat → Nat → Lf} {X : Value} (hb : H[b]? = some (some (.arrT n s g)))
    (hx : Rel ρ w (.slice b off len cap s.shape.size) X) : ∃ r a c cs e fz, X = .slice a len c ∧ ρ.bs[b]? = some (some r) ∧ r.sh = .tab n s.shape ∧ w.heap[r.mb]? = some (.cells cs e fz) ∧
      (∀ o, o < cs.size → ¬ (fz.1 ≤ o ∧ o < fz.2)) ∧ r.base + n * s.shape.size ≤ cs.size ∧ CellsAt w r.mb r.base (tabL s n g) ∧ off + len ≤ n ∧ len ≤ c ∧
      ((a = some ⟨r.mb, r.base + off * s.shape.size, none⟩ ∧ r.base + (off + c) * s.shape.size ≤ cs.size) ∨ (len = 0 ∧ c = 0)) := by
  obtain ⟨r, h1, h2, cs, e, fz, x, h3, h4, h5, h6, h7⟩ := hS.live b _ hb
  have h5 := (rel_tab hf _ _ _).1 h5
  subst h5
  simp only [Rel] at hx
  obtain ⟨a, c, rfl, r', hr', hi⟩ := hx
  rw [h1] at hr'; cases hr'
  obtain ⟨m, q1, q2, q3, q4, q5⟩ := hi r rfl
  have hsh : r.sh = .tab n s.shape := by rw [← h2]; rfl
  rw [hsh] at q1
  obtain ⟨rfl, _⟩ := rows_tab q1
  rw [cells_agg, List.toList_toArray] at h7
  rw [cells_agg, List.toList_toArray, tabL_length hf] at h6
  refine ⟨r, a, c, cs, e, fz, rfl, h1, hsh, h3, h4, h6, h7, q2, q3, q5.imp ?_ id⟩
  rintro ⟨rfl, t, cs', fz', q6, q7⟩
  rw [h3] at q6; cases q6
  exact ⟨rfl, q7⟩
theorem Sim.newTab {ρ : Ren} {H : Heap} {w : World} {s : Sk} (hf : s.flat = true) (hS : Sim ρ H w) (D : List Nat) (n c : Nat) (g : Nat → Nat → Lf) (cs : Array Value) (e : TypeId) (hc : n ≤ c) (hcs : cs.size = c * s.shape.size) (hcells : ∀ i, i < n * s.shape.size → cs[i]? = (tabL s n g)[i]?) :
    ∃ ρ', Sim ρ' (killN D H ++ [some (.arrT n s g)]) (w.drew.alloc (.cells cs e)) ∧ Ext ρ w ρ' (w.drew.alloc (.cells cs e)) ∧ ρ'.F = ρ.F ∧
      Rel ρ' (w.drew.alloc (.cells cs e)) (.slice H.length 0 n none s.shape.size) (.slice (some ⟨w.heap.size, 0, none⟩) n c) := by
  have hle : n * s.shape.size ≤ c * s.shape.size := Nat.mul_le_mul_right _ hc
  have hold : ∀ m, m < w.heap.size → (w.drew.alloc (.cells cs e)).heap[m]? = w.heap[m]? := by
    intro m hm
    rw [alloc_heap]
    show (if m = w.heap.size then _ else w.heap[m]?) = _
    rw [if_neg (by omega)]
  have hnew : (w.drew.alloc (.cells cs e)).heap[w.heap.size]? = some (.cells cs e (0, 0)) := by
    rw [alloc_heap]
    show (if w.heap.size = w.heap.size then _ else _) = _
    rw [if_pos rfl]
  have hsz : (w.drew.alloc (.cells cs e)).heap.size = w.heap.size + 1 := by
    show (w.heap.push _).size = _
    simp
  obtain ⟨h1, h2⟩ := hS.moved (D := D) (w' := w.drew.alloc (.cells cs e)) (bi := ⟨w.heap.size, 0, .tab n s.shape⟩) (v := .arrT n s g) rfl ⟨rfl, rfl, rfl, by omega, Nat.le_succ _⟩ (.inr (Nat.le_refl _)) (by simp only; omega)
    (fun m hm _ => hold m hm) (fun m cs' e' fz' hm => by
      have hlt : m < w.heap.size := by
        rcases Nat.lt_or_ge m w.heap.size with hh | hh
        · exact hh
        · rw [Array.getElem?_eq_none hh] at hm; cases hm
      exact ⟨cs', e', fz', (hold m hlt).trans hm, rfl⟩)
    (fun ρ' hX => by
      refine ⟨cs, e, (0, 0), .agg (tabL s n g).toArray, hnew, by simp, (rel_tab hf _ _ _).2 rfl, by rw [cells_agg, List.toList_toArray, tabL_length hf]; simp only; omega, ?_⟩
      rw [cellsAt_row hnew, cells_agg, List.toList_toArray]
      intro i hi
      rw [tabL_length hf] at hi
      rw [Nat.zero_add, hcells i hi])
  refine ⟨_, h1, h2, rfl, ?_⟩
  simp only [Rel]
  refine ⟨_, _, rfl, _, by rw [List.getElem?_append_right (by rw [killN_length, hS.len]; exact Nat.le_refl _), killN_length, hS.len, Nat.sub_self]; rfl, fun i hi => ?_⟩
  cases hi
  exact ⟨n, .inr (.inr ⟨_, rfl, rfl⟩), by omega, hc, (fun c0 hc => by cases hc), .inl ⟨by simp, e, cs, (0, 0), hnew, by simp only; rw [hcs, Nat.zero_add, Nat.zero_add]; exact Nat.le_refl _⟩⟩
theorem evAppendT_sound {ρ : Ren} {w : World} {t t' ty : TypeId} {v x : EV} {S X : Value} {H : Heap} {K : EV → Heap → Prop} (hE : ∀ t ti, E.ty t = some ti → OkTI P t ti)
    (hS : Sim ρ H w) (hs : Rel ρ w v S) (hx : Rel ρ w x X) (h : evAppendT E t t' v x H K) :
    ∃ v H' ρ' w' z, K v H' ∧ Sim ρ' H' w' ∧ Ext ρ w ρ' w' ∧ ρ'.F = ρ.F ∧ Rel ρ' w' v z ∧ (Builtin.append_ #[t, t'] ty #[S, X]).run P w = .ok z w' := by
  unfold evAppendT at h
  split at h
  case h_2 => exact h.elim
  rename_i ti ht
  obtain ⟨d, it, zt, h1, h2, h3, h4, h5, h6, h7⟩ := hE t ti ht
  split at h
  case h_2 => exact h.elim
  rename_i e htd
  rw [htd] at h3; cases d <;> simp only [tdOk] at h3
  subst h3
  rename_i e
  split at h
  case h_2 => exact h.elim
  rename_i ei he
  obtain ⟨de, ie, ze, e1, e2, e3, e4, e5, e6, e7⟩ := hE e ei he
  split at h
  case h_2 => exact h.elim
  rename_i s hzk
  split at h
  case h_2 => exact h.elim
  rename_i m hh hw
  rw [gd_iff] at h
  simp only [Bool.and_eq_true, Nat.beq_eq, Nat.ble_eq] at h
  obtain ⟨⟨rfl, g1, g2a, g2⟩, h⟩ := h
  have hf := (skTy_conf s 9 e g1).1
  have hsz : ie.size = s.shape.size := by
    obtain ⟨d', i', k1, k2, k3, k4⟩ := conf_spec hE ((skTy_conf s 9 e g1).2 0 (fun _ => .z 0))
    rw [e2] at k2; cases k2
    rw [k4, shape_val]
  obtain ⟨a', c', rfl, _, h8⟩ := hS.winT hf hx hw
  have hmul : ∀ n : Nat, n * ei.bytes ≤ 140737488355328 → n * ie.bytes ≤ 140737488355328 := by
    intro n hn
    rw [e5]; exact hn
  have hlen : ∀ n : Nat, n * ei.bytes ≤ 140737488355328 → n ≤ 140737488355328 := by
    intro n hn
    have : n * 1 ≤ n * ei.bytes := Nat.mul_le_mul (Nat.le_refl n) g2a
    omega
  -- the new cells
  have hnl : (tabL s m hh).length = m * s.shape.size := tabL_length hf _ _
  have hnews : m = 0 ∨ ∃ ad, a' = some ad ∧ ∀ j v, (tabL s m hh)[j]? = some v → w.cell? (ad.add j) = some v := by
    rcases h8 with h8 | ⟨b, o, rfl, h9⟩
    · exact .inl h8
    · right
      refine ⟨_, rfl, fun j v hj => ?_⟩
      have hjl : j < (tabL s m hh).length := by
        rcases Nat.lt_or_ge j (tabL s m hh).length with hq | hq
        · exact hq
        · rw [List.getElem?_eq_none hq] at hj; cases hj
      rw [add_addr, h9 j hjl, hj]
  have hzl : ze.cells.size = s.shape.size := by
    have hv := of_val ei.zero s 0 hzk
    have hc : ze.cells.toList = s.cel (fun _ => .z 0) := cel_rel hf _ ze (ρ := ρ) (w := w) (by rw [hv]; exact encV_rel _ _ e7)
    rw [← Array.length_toList, hc, cel_length hf]
  have hz1 : ∀ n, (Builtin.zeroCells ze.cells n).size = n * s.shape.size := by
    intro n
    simp [Builtin.zeroCells, hzl]
  have hfc0 : m = 0 → (Builtin.firstCells ie.size m (.slice a' m c')).run P w = .ok #[] w := by
    intro hm; subst hm
    cases a' with
    | none => simp [Builtin.firstCells, run_pure]
    | some a => simp [Builtin.firstCells, loadCells, loadCellsFrom, run_pure]
  split at h
  · -- nil
    rw [gd_iff] at h
    obtain ⟨g3, h⟩ := h
    have g3' : m * ei.bytes ≤ 140737488355328 := bleI.1 g3
    have g3l := hlen _ g3'
    rw [br_iff] at h
    simp only [Rel] at hs; subst hs
    cases hm0 : isZ m with
    | true =>
      have hm : m = 0 := Nat.eq_of_beq_eq_true hm0
      subst hm
      refine ⟨_, _, ρ, w, .slice none 0 0, h.1 hm0, hS, Ext.refl _ _, rfl, rfl, ?_⟩
      have e1 : (#[t, t] : Array TypeId)[0]? = some t := rfl
      have e1' : (#[t, t] : Array TypeId)[1]? = some t := rfl
      have e2' : (#[Value.slice none 0 0, Value.slice a' 0 c'] : Array Value)[0]? = some (Value.slice none 0 0) := rfl
      have e3' : (#[Value.slice none 0 0, Value.slice a' 0 c'] : Array Value)[1]? = some (Value.slice a' 0 c') := rfl
      simp only [Builtin.append_, e1, e1', e2', e3', run_bind, run_underlying h1, run_sizeOf e2, run_pure, Builtin.lenOf]
      simp [run_bind, hfc0 rfl, run_pure]
    | false =>
      have hm : m ≠ 0 := by
        intro e; subst e; cases hm0
      rcases hnews with hn | ⟨ad, rfl, hn⟩
      · exact absurd hn hm
      have hrun := run_append_nil (P := P) w t ty e ie _ h1 e2 e6 ad m c' (tabL s m hh) (by rw [hnl, hsz]) hn (by omega) (by omega) (by have := hmul m g3'; omega)
      have hge := grownCap_ge w m 0 e
      obtain ⟨ρ', q1, q2, q3, q4⟩ := hS.newTab hf [] m (grownCap w m 0 e) hh ((tabL s m hh).toArray ++ Builtin.zeroCells ze.cells (grownCap w m 0 e - m)) e hge
        (by rw [Array.size_append, hz1, List.size_toArray, hnl, ← Nat.add_mul]; congr 1; omega) (fun i hi => by
          rw [Array.getElem?_append_left (by rw [List.size_toArray, hnl]; exact hi)]
          simp)
      exact ⟨_, _, ρ', _, _, h.2 hm0, q1, q2, q3, q4, hrun⟩
  · rename_i b off len cap es
    split at h
    case h_2 => exact h.elim
    rename_i n s' g hb
    rw [gd_iff, Bool.and_eq_true, Bool.and_eq_true] at h
    obtain ⟨⟨c1, c2, g3⟩, hK⟩ := h
    have ec1 := Sk.eq_of_beq _ _ c1
    have ec2 := Nat.eq_of_beq_eq_true c2
    subst ec1; subst ec2
    have g3' : (len + m) * ei.bytes ≤ 140737488355328 := bleI.1 g3
    have g3l := hlen _ g3'
    obtain ⟨r, a, c, cs, e', fz, rfl, q1, q2, q3, q4, q5, q6, q7, q8, q9⟩ := hS.rowT hf hb hs
    have hkill : killN [b] H = H.set b none := rfl
    rw [← hkill] at hK
    have hol : (tabL s len (shiftT off g)).length = len * s.shape.size := tabL_length hf _ _
    have hall : (tabL s (len + m) (appT len (shiftT off g) hh)).length = (len + m) * s.shape.size := tabL_length hf _ _
    have hmm : (len + m) * s.shape.size = len * s.shape.size + m * s.shape.size := Nat.add_mul _ _ _
    -- the old cells
    have hold : CellsAt w r.mb (r.base + off * s.shape.size) (tabL s len (shiftT off g)) := by
      have := q6.sub (off * s.shape.size) (len * s.shape.size)
      rwa [tabL_part hf _ _ _ _ q7] at this
    by_cases hroom : len + m ≤ c
    · -- in place
      rcases q9 with ⟨rfl, q10⟩ | ⟨rfl, rfl⟩
      · have hcs : r.base + off * s.shape.size + len * s.shape.size + m * s.shape.size ≤ cs.size := by
          have h9 : (off + (len + m)) * s.shape.size ≤ (off + c) * s.shape.size := Nat.mul_le_mul_right _ (by omega)
          have h10 : (off + (len + m)) * s.shape.size = off * s.shape.size + len * s.shape.size + m * s.shape.size := by rw [Nat.add_mul, Nat.add_mul]; omega
          omega
        have hst := run_storeCells (P := P) (b := r.mb) (tabL s m hh) w (r.base + off * s.shape.size + len * s.shape.size) 0 cs e' fz q3 q4 (by rw [hnl]; omega) (tabL_scal hf _ _)
        rw [Nat.add_zero] at hst
        have hfc : (Builtin.firstCells ie.size m (.slice a' m c')).run P w = .ok (tabL s m hh).toArray w := by
          rcases hnews with hm | ⟨ad, rfl, hn⟩
          · rw [hfc0 hm]; subst hm; rfl
          · exact run_firstCells_some (P := P) w ie.size m ad m c' (tabL s m hh) (by rw [hnl, hsz]) hn
        have hrun : (Builtin.append_ #[t, t] ty #[.slice (some ⟨r.mb, r.base + off * s.shape.size, none⟩) len c, .slice a' m c']).run P w =
            .ok (.slice (some ⟨r.mb, r.base + off * s.shape.size, none⟩) (len + m) c) (putL w r.mb (r.base + off * s.shape.size + len * s.shape.size) (tabL s m hh)) := by
          have e1 : (#[t, t] : Array TypeId)[0]? = some t := rfl
          have e1' : (#[t, t] : Array TypeId)[1]? = some t := rfl
          have e2' : (#[Value.slice (some ⟨r.mb, r.base + off * s.shape.size, none⟩) len c, Value.slice a' m c'] : Array Value)[0]? = some (Value.slice (some ⟨r.mb, r.base + off * s.shape.size, none⟩) len c) := rfl
          have e3' : (#[Value.slice (some ⟨r.mb, r.base + off * s.shape.size, none⟩) len c, Value.slice a' m c'] : Array Value)[1]? = some (Value.slice a' m c') := rfl
          simp only [Builtin.append_, e1, e1', e2', e3', run_bind, run_underlying h1, run_sizeOf e2, run_pure, Builtin.lenOf]
          simp only [Bool.false_eq_true, if_false, run_bind, run_pure, Builtin.lenOf]
          rw [if_pos hroom]
          simp only [Bool.not_false, if_true, run_bind, hfc]
          rw [hsz, add_addr, hst]
          rfl
        obtain ⟨m1, m2, m3, m4, m5⟩ := putL_meta r.mb (tabL s m hh) w (r.base + off * s.shape.size + len * s.shape.size)
        have hrow := putL_row r.mb (tabL s m hh) w (r.base + off * s.shape.size + len * s.shape.size) cs e' fz q3
        obtain ⟨p1, p2⟩ := hS.moved (D := [b]) (w' := putL w r.mb (r.base + off * s.shape.size + len * s.shape.size) (tabL s m hh)) (bi := ⟨r.mb, r.base + off * s.shape.size, .tab (len + m) s.shape⟩) (v := .arrT (len + m) s (appT len (shiftT off g) hh)) rfl ⟨m1, m2, m3, by omega, Nat.le_of_eq m5.symm⟩
          (.inl ⟨b, r, List.mem_cons_self, q1, rfl⟩) (by simp only; rw [m4]; exact hS.lt b r q1)
          (fun m' hm' hne => putL_out _ _ _ _ _ (hne b r List.mem_cons_self q1))
          (fun m' cs' e'' fz' hm' => by
            by_cases hmr : m' = r.mb
            · subst hmr
              rw [q3] at hm'; cases hm'
              exact ⟨_, _, _, hrow, putA_size _ _ _⟩
            · exact ⟨cs', e'', fz', (putL_out _ _ _ _ _ hmr).trans hm', rfl⟩)
          (fun ρ' hX => by
            refine ⟨_, _, _, .agg (tabL s (len + m) (appT len (shiftT off g) hh)).toArray, hrow, by rw [putA_size]; exact q4, (rel_tab hf _ _ _).2 rfl, by rw [putA_size, cells_agg, List.toList_toArray, hall]; simp only; omega, ?_⟩
            rw [cellsAt_row hrow, cells_agg, List.toList_toArray, tabL_app hf]
            dsimp only
            intro i hi
            rw [List.length_append, hol, hnl] at hi
            rw [putA_get _ _ _ _ (by rw [hnl]; omega), hnl, List.getElem?_append, hol]
            by_cases h10 : i < len * s.shape.size
            · rw [if_neg (by omega), if_pos h10]
              have := hold i (by rw [hol]; exact h10)
              simp only [World.cell?, q3] at this
              exact this
            · rw [if_pos (by omega), if_neg h10]
              congr 1; omega)
        refine ⟨_, _, _, _, _, hK, p1, p2, rfl, ?_, hrun⟩
        simp only [Rel]
        refine ⟨_, _, rfl, _, by rw [List.getElem?_append_right (by rw [killN_length, hS.len]; exact Nat.le_refl _), killN_length, hS.len, Nat.sub_self]; rfl, fun i hi => ?_⟩
        cases hi
        exact ⟨len + m, .inr (.inr ⟨_, rfl, rfl⟩), by omega, hroom, (fun c0 hc => by cases hc), .inl ⟨by simp, _, _, _, hrow, by simp only; rw [putA_size, Nat.zero_add]; rw [Nat.add_mul] at q10; omega⟩⟩
      · -- nothing at all
        have hm0 : m = 0 := by omega
        subst hm0
        have hrun : (Builtin.append_ #[t, t] ty #[.slice a 0 0, .slice a' 0 c']).run P w = .ok (.slice a 0 0) w := by
          have hfc := hfc0 rfl
          have e1 : (#[t, t] : Array TypeId)[0]? = some t := rfl
          have e1' : (#[t, t] : Array TypeId)[1]? = some t := rfl
          have e2' : (#[Value.slice a 0 0, Value.slice a' 0 c'] : Array Value)[0]? = some (Value.slice a 0 0) := rfl
          have e3' : (#[Value.slice a 0 0, Value.slice a' 0 c'] : Array Value)[1]? = some (Value.slice a' 0 c') := rfl
          simp only [Builtin.append_, e1, e1', e2', e3', run_bind, run_underlying h1, run_sizeOf e2, run_pure, Builtin.lenOf]
          cases a with
          | none => simp [run_bind, hfc, run_pure, Builtin.lenOf]
          | some a => simp [run_bind, hfc, run_pure, storeCells, Builtin.lenOf]
        have hnil : tabL s (0 + 0) (appT 0 (shiftT off g) hh) = [] := rfl
        obtain ⟨p1, p2⟩ := hS.moved (D := [b]) (w' := w) (bi := ⟨r.mb, r.base, .tab (0 + 0) s.shape⟩) (v := .arrT (0 + 0) s (appT 0 (shiftT off g) hh)) rfl ⟨rfl, rfl, rfl, Nat.le_refl _, Nat.le_refl _⟩
          (.inl ⟨b, r, List.mem_cons_self, q1, rfl⟩) (hS.lt b r q1) (fun m' hm' hne => rfl) (fun m' cs' e'' fz' hm' => ⟨cs', e'', fz', hm', rfl⟩)
          (fun ρ' hX => by
            refine ⟨cs, e', fz, .agg (tabL s (0 + 0) (appT 0 (shiftT off g) hh)).toArray, q3, q4, (rel_tab hf _ _ _).2 rfl, by rw [hnil, cells_agg]; simp; omega, ?_⟩
            rw [hnil, cells_agg]
            intro i hi
            simp at hi)
        refine ⟨_, _, _, _, _, hK, p1, p2, rfl, ?_, hrun⟩
        simp only [Rel]
        refine ⟨_, _, rfl, _, by rw [List.getElem?_append_right (by rw [killN_length, hS.len]; exact Nat.le_refl _), killN_length, hS.len, Nat.sub_self]; rfl, fun i hi => ?_⟩
        cases hi
        exact ⟨0 + 0, .inr (.inr ⟨_, rfl, rfl⟩), by omega, by omega, (fun c0 hc => by cases hc), .inr (by simp)⟩
    · -- anew
      have hm : m ≠ 0 := by omega
      rcases hnews with hn | ⟨ad, rfl, hn⟩
      · exact absurd hn hm
      have hge := grownCap_ge w (len + m) c e
      have hfit := growslice_fits (show c < len + m by omega) (hmul _ g3')
      have hsize : ((tabL s len (shiftT off g)).toArray ++ (tabL s m hh).toArray ++ Builtin.zeroCells ze.cells (grownCap w (len + m) c e - (len + m))).size = grownCap w (len + m) c e * s.shape.size := by
        rw [Array.size_append, Array.size_append, hz1, List.size_toArray, List.size_toArray, hol, hnl, ← Nat.add_mul, ← Nat.add_mul]; congr 1; omega
      obtain ⟨ρ', p1, p2, p3, p4⟩ := hS.newTab hf [b] (len + m) (grownCap w (len + m) c e) (appT len (shiftT off g) hh)
        ((tabL s len (shiftT off g)).toArray ++ (tabL s m hh).toArray ++ Builtin.zeroCells ze.cells (grownCap w (len + m) c e - (len + m))) e hge hsize (fun i hi => by
          rw [Array.getElem?_append_left (by rw [Array.size_append, List.size_toArray, List.size_toArray, hol, hnl]; omega), tabL_app hf]
          simp)
      refine ⟨_, _, ρ', _, _, hK, p1, p2, p3, p4, ?_⟩
      cases a with
      | some a =>
        rcases q9 with ⟨ha, q10⟩ | ⟨hl0, hc0⟩
        · cases ha
          exact run_append_grow (P := P) w t ty e ie _ h1 e2 e6 ⟨r.mb, r.base + off * s.shape.size, none⟩ len c (tabL s len (shiftT off g)) (by rw [hol, hsz]) (fun j v hj => by
            have hjl : j < (tabL s len (shiftT off g)).length := by
              rcases Nat.lt_or_ge j (tabL s len (shiftT off g)).length with hq | hq
              · exact hq
              · rw [List.getElem?_eq_none hq] at hj; cases hj
            rw [add_addr, hold j hjl, hj]) ad m c' (tabL s m hh) (by rw [hnl, hsz]) hn (by omega) (by omega) hfit
        · subst hl0; subst hc0
          exact run_append_grow (P := P) w t ty e ie _ h1 e2 e6 a 0 0 (tabL s 0 (shiftT off g)) (by simp [tabL]) (fun j v hj => by simp [tabL] at hj) ad m c' (tabL s m hh) (by rw [hnl, hsz]) hn (by omega) (by omega) hfit
      | none =>
        rcases q9 with ⟨ha, q10⟩ | ⟨hl0, hc0⟩
        · cases ha
        · subst hl0; subst hc0
          have := run_append_nil (P := P) w t ty e ie _ h1 e2 e6 ad m c' (tabL s m hh) (by rw [hnl, hsz]) hn (by omega) (by omega) (by have := hmul m (by rw [Nat.zero_add] at g3'; exact g3'); omega)
          simp only [Nat.zero_add] at this ⊢
          rw [this]
          simp [tabL]
  · exact h.elim
theorem evMakeSliceA_sound {ρ : Ren} {w : World} {t : TypeId} {ln cp : EV} {Ln Cp : Value} {H : Heap} {K : EV → Heap → Prop} (hE : ∀ t ti, E.ty t = some ti → OkTI P t ti)
    (hS : Sim ρ H w) (hl : Rel ρ w ln Ln) (hc : Rel ρ w cp Cp) (h : evMakeSliceA E t ln cp H K) :
    ∃ v H' ρ' w' z, K v H' ∧ Sim ρ' H' w' ∧ Ext ρ w ρ' w' ∧ ρ'.F = ρ.F ∧ Rel ρ' w' v z ∧ (Instr.makeSlice t Ln Cp).run P w = .ok z w' := by
  unfold evMakeSliceA at h
  rw [cd_iff] at h
  cases he : elInt E t with
  | true => exact evMakeSlice_sound hE hS hl hc (h.1 he)
  | false => exact evMakeSliceT_sound hE hS hl hc (h.2 he)
theorem evAppendA_sound {ρ : Ren} {w : World} {t t' ty : TypeId} {v x : EV} {S X : Value} {H : Heap} {K : EV → Heap → Prop} (hE : ∀ t ti, E.ty t = some ti → OkTI P t ti)
    (hS : Sim ρ H w) (hs : Rel ρ w v S) (hx : Rel ρ w x X) (h : evAppendA E t t' v x H K) :
    ∃ v H' ρ' w' z, K v H' ∧ Sim ρ' H' w' ∧ Ext ρ w ρ' w' ∧ ρ'.F = ρ.F ∧ Rel ρ' w' v z ∧ (Builtin.append_ #[t, t'] ty #[S, X]).run P w = .ok z w' := by
  unfold evAppendA at h
  rw [cd_iff] at h
  cases he : elInt E t with
  | true => exact evAppend_sound hE hS hs hx (h.1 he)
  | false => exact evAppendT_sound hE hS hs hx (h.2 he)
theorem evSliceA_sound {ρ : Ren} {w : World} {t : TypeId} {x : EV} {X : Value} {lo hi mx : Option EV} {Lo Hi Mx : Option Value} {H : Heap} {K : EV → Prop} (hE : ∀ t ti, E.ty t = some ti → OkTI P t ti) (hS : Sim ρ H w)
    (hx : Rel ρ w x X) (hlo : ORel ρ w lo Lo) (hhi : ORel ρ w hi Hi) (hmx : ORel ρ w mx Mx) (h : evSliceA E t x lo hi mx H K) :
    ∃ v z, K v ∧ Rel ρ w v z ∧ (Instr.sliceAt t X Lo Hi Mx).run P w = .ok z w := by
  unfold evSliceA at h
  split at h
  · exact evSliceT_sound hE hx hlo hhi hmx h
  · exact evSlice_sound hE hS hx hlo hhi hmx h
end sound
end Go.Ev

/- The evaluator: operations, regions, code, calls; and that it is sound. -/
set_option linter.unusedVariables false
set_option linter.unusedSimpArgs false
namespace Go.Ev
open Go
def EV.dfd : EV → Bool
  | .undef => false
  | .bool _ => true | .int _ _ => true | .str _ => true | .nilPtr => true | .ptr _ _ => true | .rref _ => true | .nilSlice => true | .slice _ _ _ _ _ => true
  | .rsI _ _ _ => true | .nilFunc => true | .func _ _ => true | .bnd _ _ => true | .agg _ => true | .arr _ _ _ => true | .tuple _ => true | .nilIface => true | .iface _ _ => true
  | .rsT _ _ _ => true | .arrT _ _ _ => true
def dfdL : List EV → Bool
  | [] => true
  | v :: l => v.dfd && dfdL l
theorem dfd_ne {v : EV} (h : v.dfd = true) : v ≠ .undef := by intro e; subst e; cases h
theorem dfdL_ne : ∀ {l : List EV}, dfdL l = true → ∀ v ∈ l, v ≠ .undef
  | v :: l, h, u, hu => by
    simp only [dfdL, Bool.and_eq_true] at h
    rcases List.mem_cons.1 hu with rfl | hu
    · exact dfd_ne h.1
    · exact dfdL_ne h.2 u hu
def dfdO : Option EV → Bool
  | some v => v.dfd
  | none => true
def nilK : Operand → Nat
  | .const (.pointer none) => 1
  | .const .nilIface => 2
  | _ => 0
def tdIs (E : Env) (t : TypeId) (d : Nat) : Bool :=
  match E.ty t with
  | some ti => match ti.td with
    | .iface => Nat.beq d 0
    | .ptr => Nat.beq d 1
    | _ => false
  | none => false
def nilEq (op : BinOp) (b : Bool) (K : EV → Prop) : Prop :=
  match op with
  | .eql => K (.bool b)
  | .neq => K (.bool (!b))
  | _ => False
def evPN (E : Env) (op : BinOp) (t : TypeId) (x : EV) (H : Heap) (K : EV → Prop) : Prop :=
  match x with
  | .nilPtr => cond (tdIs E t 1) (nilEq op true K) False
  | .ptr b q => cond (tdIs E t 1) (evNil (.ptr b q) H fun _ => nilEq op false K) False
  | _ => False
def evIN (E : Env) (op : BinOp) (t : TypeId) (x : EV) (K : EV → Prop) : Prop :=
  match x with
  | .nilIface => cond (tdIs E t 0) (nilEq op true K) False
  | .iface _ _ => cond (tdIs E t 0) (nilEq op false K) False
  | _ => False
def evCmp (E : Env) (op : BinOp) (t : TypeId) (o : Operand) (x y : EV) (H : Heap) (K : EV → Prop) : Prop :=
  cond (Nat.beq (nilK o) 1) (evPN E op t x H K) (cond (Nat.beq (nilK o) 2) (evIN E op t x K) (evBin E op t x y K))
def spl (c : Bool) (v : EV) (K : EV → Prop) : Prop :=
  match c with
  | false => K v
  | true => match v with
    | .int k n => br (eqI n 0) (K (.int k 0)) (br (eqI n 1) (K (.int k 1)) False)
    | _ => False
def isAnd : BinOp → Bool
  | .and => true
  | _ => false
def splO (E : Env) (op : BinOp) : Bool := isAnd op && Nat.beq (E.un 999999) 1
theorem spl_imp {c : Bool} {v : EV} {K : EV → Prop} (h : spl c v K) : K v := by
  cases c
  · exact h
  · cases v <;> simp only [spl] at h
    case int k n =>
      rw [br_iff] at h
      cases h1 : eqI n 0 with
      | true =>
        have e : n = 0 := by simpa [eqI] using h1
        subst e; exact h.1 h1
      | false =>
        have h := h.2 h1
        rw [br_iff] at h
        cases h2 : eqI n 1 with
        | true =>
          have e : n = 1 := by simpa [eqI] using h2
          subst e; exact h.1 h2
        | false => exact (h.2 h2).elim
def evV (E : Env) (o : Op) (s : St) (K : EV → Prop) : Prop :=
  match o with
  | .move x => K ((St.opd E s) x)
  | .assign x => K ((St.opd E s) x)
  | .pick c a b => match (St.opd E s) c with
    | .bool t => br t (K ((St.opd E s) a)) (K ((St.opd E s) b))
    | _ => False
  | .build t ps => gd (dfdL (ps.toList.map fun p => (St.opd E s) p.2)) (evBuild E t (ps.toList.map fun p => (p.1, (St.opd E s) p.2)) K)
  | .load t a => evLoad E t ((St.opd E s) a) s.heap K
  | .binOp op t x y _ => gd (((St.opd E s) x).dfd && ((St.opd E s) y).dfd) (evCmp E op t y ((St.opd E s) x) ((St.opd E s) y) s.heap fun v => spl (splO E op) v K)
  | .unOp op _ x => evUn op ((St.opd E s) x) K
  | .convert src dst x => gd ((St.opd E s) x).dfd (evConv E src dst ((St.opd E s) x) s.heap K)
  | .fieldAddr t x f => gd ((St.opd E s) x).dfd (evFieldAddr E t ((St.opd E s) x) f s.heap K)
  | .field t x f => gd ((St.opd E s) x).dfd (evField E t ((St.opd E s) x) f K)
  | .indexAddr t x i => gd (((St.opd E s) x).dfd && ((St.opd E s) i).dfd) (evIndexAddr E t ((St.opd E s) x) ((St.opd E s) i) s.heap K)
  | .index t x i => gd (((St.opd E s) x).dfd && ((St.opd E s) i).dfd) (evIndex E t ((St.opd E s) x) ((St.opd E s) i) K)
  | .extract x i => evExtract ((St.opd E s) x) i K
  | .makeFunc (.func f) ⟨[]⟩ cs => gd (dfdL (cs.toList.map (St.opd E s))) (K (.func f (cs.toList.map (St.opd E s))))
  | .slice t x lo hi mx => gd (((St.opd E s) x).dfd && (dfdO (lo.map (St.opd E s)) && (dfdO (hi.map (St.opd E s)) && dfdO (mx.map (St.opd E s))))) (evSliceA E t ((St.opd E s) x) (lo.map (St.opd E s)) (hi.map (St.opd E s)) (mx.map (St.opd E s)) s.heap K)
  | .call { callee := .builtin .len, args := ⟨[x]⟩, argTypes := ⟨[t]⟩ } => gd ((St.opd E s) x).dfd (evLen E t ((St.opd E s) x) K)
  | .call { callee := .builtin .max, args := xs, argTypes := _ } => gd (dfdL (xs.toList.map (St.opd E s))) (evMM maxI (xs.toList.map (St.opd E s)) K)
  | .call { callee := .builtin .min, args := xs, argTypes := _ } => gd (dfdL (xs.toList.map (St.opd E s))) (evMM minI (xs.toList.map (St.opd E s)) K)
  | .nilCheck x => gd ((St.opd E s) x).dfd (evNil ((St.opd E s) x) s.heap K)
  | .makeFunc (.func f) fs ⟨[]⟩ => gd (dfdL (fs.toList.map (St.opd E s))) (K (.bnd f (fs.toList.map (St.opd E s))))
  | _ => False
mutual
def EV.free : EV → Bool
  | .ptr _ _ => false
  | .slice _ _ _ _ _ => false
  | .rref _ => false
  | .undef => false
  | .rsI _ _ _ => true | .rsT _ _ _ => true | .arrT _ _ _ => true
  | .bool _ => true | .int _ _ => true | .str _ => true | .nilPtr => true | .nilSlice => true | .nilFunc => true | .arr _ _ _ => true | .nilIface => true
  | .agg l => EV.freeL l
  | .tuple l => EV.freeL l
  | .func _ l => EV.freeL l
  | .bnd _ l => EV.freeL l
  | .iface _ v => v.free
def EV.freeL : List EV → Bool
  | [] => true
  | v :: l => v.free && EV.freeL l
end
def roArg (H : Heap) : Option RK → EV → EV
  | some (.int k), .nilSlice => .rsI k 0 (fun _ => 0)
  | some (.int k), .slice b off len _ _ => match H[b]? with
    | some (some (.arr k' _ g)) => cond (decide (k = k')) (.rsI k len (shift off g)) .undef
    | _ => .undef
  | some (.sk s), .nilSlice => .rsT 0 s z2
  | some (.sk s), .slice b off len _ es => match H[b]? with
    | some (some (.arrT _ s' g)) => cond (s.beq s' && (Nat.beq es s.shape.size && s.flat)) (.rsT len s (shiftT off g)) .undef
    | _ => .undef
  | _, v => v
def roArgs (H : Heap) : List (Option RK) → List EV → List EV
  | m :: ms, v :: vs => roArg H m v :: roArgs H ms vs
  | _, vs => vs
def killArgs : List EV → Heap → Heap
  | [], H => H
  | .slice b _ _ _ _ :: vs, H => killArgs vs (H.set b none)
  | _ :: vs, H => killArgs vs H
def roDead : List (Option RK) → List EV → List Nat
  | some _ :: ms, .slice b _ _ _ _ :: vs => b :: roDead ms vs
  | _ :: ms, _ :: vs => roDead ms vs
  | _, _ => []
def evCallL (en : Entry) (args : List EV) (dead idx : List Nat) (H : Heap) (K : EV → Heap → Prop) : Prop :=
  gd (dfdL args && (EV.inIL idx args && (inIH idx H idx && (allLt H.length idx && noneIn idx dead))))
    (en.spec (EV.renL (pos idx) args) (subH H idx) fun v H' =>
      gd (v.inI (upTo H'.length) && (inIH (upTo H'.length) H' (upTo H'.length) && Nat.ble idx.length H'.length))
        (K (v.ren (backN idx H.length)) (killN (cond (v.noRS && noRSH H') [] dead) (putB idx (renH (backN idx H.length) H') H))))
def newRo : List (Option RK) → Bool
  | [some (.sk (.sl (.sl .bool)))] => true
  | none :: l => newRo l
  | _ => false
def keepRo : List (Option RK) → Bool
  | [some (.sk (.sl (.sl (.sl .bool))))] => true
  | none :: l => keepRo l
  | _ => false
def setRo : List (Option RK) → Bool
  | [some (.sk (.sl (.sl (.sl (.sl .bool)))))] => true
  | none :: l => setRo l
  | _ => false
def noNames : Option (Option EV) → Bool
  | some (some c) => c.inI []
  | _ => false
def setArg (args : List EV) (H : Heap) : Option Nat :=
  match args with
  | .ptr b _ :: l => cond (EV.freeL l && noNames H[b]?) (some b) none
  | _ => none
theorem setArg_inv {args : List EV} {H : Heap} {b : Nat} (h : setArg args H = some b) : ∃ p l, args = .ptr b p :: l ∧ EV.freeL l = true ∧ noNames H[b]? = true := by
  cases args with
  | nil => cases h
  | cons v l =>
    cases v <;> simp only [setArg] at h <;> try (cases h; done)
    rename_i b' p
    cases hx : (EV.freeL l && noNames H[b']?) with
    | false => rw [hx] at h; cases h
    | true =>
      rw [hx] at h
      simp only [cond_true, Option.some.injEq] at h
      subst h
      rw [Bool.and_eq_true] at hx
      exact ⟨p, l, rfl, hx.1, hx.2⟩
theorem setArg_mk {p : List Nat} {l : List EV} {H : Heap} {b : Nat} (h1 : EV.freeL l = true) (h2 : noNames H[b]? = true) : setArg (.ptr b p :: l) H = some b := by
  simp only [setArg, h1, h2]; rfl
def setNew (H H2 : Heap) (b : Nat) : Bool := Nat.beq H2.length H.length && (match H2[b]? with
  | some (some c) => c.inI []
  | _ => false)
def oneNew (H H2 : Heap) : Bool := Nat.beq H2.length (H.length + 1) && (match H2[H.length]? with
  | some (some c) => c.inI []
  | _ => false)
def keepH (A B : Heap) : Prop := A = B
def evCallF (E : Env) (f : FuncId) (args : List EV) (H : Heap) (K : EV → Heap → Prop) : Prop :=
  match E.fn f with
  | some en => cond en.lend
      (cond (newRo en.ro) (gd (EV.freeL args) (evCallL en args [] [] H fun v H2 => gd (oneNew H H2) (K v H2))) (cond (keepRo en.ro) (evCallL en args [] (canI 0 args H) H fun v H2 => keepH H2 H ∧ gd (v.inI []) (K v H)) (cond (setRo en.ro) (match setArg args H with
        | some b => evCallL en args [] [b] H fun v H2 => gd (v.inI [] && setNew H H2 b) (K v H2)
        | none => False) (evCallL en (roArgs H en.ro args) (roDead en.ro args) (canI 0 (roArgs H en.ro args) H) H K))))
      (gd (EV.freeL (roArgs H en.ro args)) (en.spec (roArgs H en.ro args) [] fun v H' =>
        gd (Nat.beq H'.length 0 && v.inI []) (cond v.noRS (K v H) (K v (killArgs args H)))))
  | none => False
def evCall (E : Env) (f : EV) (args : List EV) (H : Heap) (K : EV → Heap → Prop) : Prop :=
  match f with
  | .func f cap => evCallF E f (args ++ cap) H K
  | .bnd f l => evCallF E f (l ++ args) H K
  | _ => False
def evOp (E : Env) (o : Op) (s : St) (K : EV → Heap → Prop) : Prop :=
  match o with
  | .alloc t => match E.ty t with
    | some ti => evNew s.heap ti.zero K
    | none => False
  | .box t x => match (St.opd E s) x with
    | .undef => False
    | v => evNew s.heap v K
  | .buildSlice t n ps => gd (dfdL (ps.toList.map fun p => (St.opd E s) p.2)) (evBuildSlice E t n (ps.toList.map fun p => (p.1, (St.opd E s) p.2)) s.heap K)
  | .store t a x => evStore E t ((St.opd E s) a) ((St.opd E s) x) s.heap (fun H => K .undef H)
  | .makeSlice t ln cp => gd (((St.opd E s) ln).dfd && ((St.opd E s) cp).dfd) (evMakeSliceA E t ((St.opd E s) ln) ((St.opd E s) cp) s.heap K)
  | .call { callee := .value f, args := xs, argTypes := _ } => evCall E ((St.opd E s) f) (xs.toList.map (St.opd E s)) s.heap K
  | .call { callee := .builtin .append, args := ⟨[x, y]⟩, argTypes := ⟨[t, u]⟩ } => gd (((St.opd E s) x).dfd && ((St.opd E s) y).dfd) (evAppendA E t u ((St.opd E s) x) ((St.opd E s) y) s.heap K)
  | .call { callee := .builtin .copy, args := ⟨[x, y]⟩, argTypes := ⟨[t, _]⟩ } => gd (((St.opd E s) x).dfd && ((St.opd E s) y).dfd) (evCopy E t ((St.opd E s) x) ((St.opd E s) y) s.heap K)
  | o => evV E o s (fun v => K v s.heap)
section sound
variable {P : Program} {E : Env}
def GOk (gl : Nat → Option EV) (ρ : Ren) (w : World) : Prop := ∀ g v, gl g = some v → v.inI [] = true ∧ Rel ρ w (.rref v) (.pointer (some ⟨g, 0, none⟩)) ∧
  ∀ k n f, v = .arr k n f → ∃ cs t fz, w.heap[g]? = some (.cells cs t fz) ∧ cs.size = n
theorem GOk.ext {gl : Nat → Option EV} {ρ ρ' : Ren} {w w' : World} (h : GOk gl ρ w) (he : Ext ρ w ρ' w') : GOk gl ρ' w' := fun g v hg => ⟨(h g v hg).1, Rel.ext he _ _ (h g v hg).2.1, fun k n f hv => by
  obtain ⟨cs, t, fz, h1, h2⟩ := (h g v hg).2.2 k n f hv
  obtain ⟨b, o, y, e, _, hb, hm, _⟩ := (h g v hg).2.1
  cases e
  exact ⟨cs, t, fz, (he.out g hb fun hh => hm (List.mem_append.2 (.inr hh))).trans h1, h2⟩⟩
mutual
theorem ren_in {f : Nat → Nat} : ∀ (v : EV), v.inI [] = true → v.ren f = v
  | .ptr b _, h => by simp [EV.inI, memN] at h
  | .slice b _ _ _ _, h => by simp [EV.inI, memN] at h
  | .rref v, h => by simp only [EV.ren, ren_in v (by simpa [EV.inI] using h)]
  | .agg l, h => by simp only [EV.ren, renL_in l (by simpa [EV.inI] using h)]
  | .tuple l, h => by simp only [EV.ren, renL_in l (by simpa [EV.inI] using h)]
  | .func _ l, h => by simp only [EV.ren, renL_in l (by simpa [EV.inI] using h)]
  | .bnd _ l, h => by simp only [EV.ren, renL_in l (by simpa [EV.inI] using h)]
  | .iface _ v, h => by simp only [EV.ren, ren_in v (by simpa [EV.inI] using h)]
  | .rsI _ _ _, _ => rfl | .undef, _ => rfl
  | .bool _, _ => rfl | .int _ _, _ => rfl | .str _, _ => rfl | .nilPtr, _ => rfl | .nilSlice, _ => rfl | .nilFunc, _ => rfl | .arr _ _ _, _ => rfl | .nilIface, _ => rfl
  | .rsT _ _ _, _ => rfl | .arrT _ _ _, _ => rfl
theorem renL_in {f : Nat → Nat} : ∀ (l : List EV), EV.inIL [] l = true → EV.renL f l = l
  | [], _ => rfl
  | v :: l, h => by
    simp only [EV.inIL, Bool.and_eq_true] at h
    simp only [EV.renL, ren_in v h.1, renL_in l h.2]
end
theorem GOk.sub {gl : Nat → Option EV} {ρ ρ' : Ren} {w : World} (h : GOk gl ρ w) (hm : ∀ b, b ∈ ρ'.mbs → b ∈ ρ.mbs) : GOk gl ρ' w := by
  intro g v hg
  obtain ⟨h1, h2, h4⟩ := h g v hg
  refine ⟨h1, ?_, h4⟩
  have h3 : (EV.rref v).inI [] = true := by simpa [EV.inI] using h1
  have := Rel.ren (ρ' := ρ') (f := id) (idx := []) (fun b r hb _ => by cases hb) (.rref v) _ h3 (.inr fun b _ hn hb => hn (hm b hb)) h2
  rwa [ren_in _ h3] at this
def SoundF (P : Program) (gl : Nat → Option EV) (f : FuncId) (en : Entry) : Prop :=
  ∀ (ρ : Ren) (H : Heap) (w : World) (args : List EV) (xs : List Value) (K : EV → Heap → Prop), en.spec args H K → RelL ρ w args xs → Sim ρ H w → GOk gl ρ w →
    Calls P f xs.toArray w fun e w' => ∃ v x H' ρ', e = .returned x ∧ K v H' ∧ Rel ρ' w' v x ∧ Sim ρ' H' w' ∧ Ext ρ w ρ' w' ∧ ρ'.F = ρ.F
theorem SoundF.plain {gl : Nat → Option EV} {f : FuncId} {en : Entry} (h : SoundF P gl f en) {F : List Nat} {w : World} {args : List EV} {xs : List Value} {K : EV → Prop} (hs : en.spec args [] fun v H' => gd (Nat.beq H'.length 0) (K v))
    (hr : RelL ⟨F, []⟩ w args xs) (hF : ∀ b, b ∈ F → b < w.heap.size) (hG : GOk gl ⟨F, []⟩ w) : Calls P f xs.toArray w fun e w' => ∃ v x, e = .returned x ∧ K v ∧ Rel ⟨F, []⟩ w' v x ∧ Ext ⟨F, []⟩ w ⟨F, []⟩ w' := by
  refine (h ⟨F, []⟩ [] w args xs _ hs hr ⟨rfl, hF, by intro b r h; simp at h, by intro b r h; simp at h, by intro b c r s h; simp at h, by intro b v h; simp at h⟩ hG).mono ?_
  rintro e w' ⟨v, x, H', ρ', rfl, hK, hv, hS, hX, hf⟩
  rw [gd_iff] at hK
  have h0 := Nat.eq_of_beq_eq_true hK.1
  have h1 : ρ' = ⟨F, []⟩ := by
    have := hS.len
    rw [h0] at this
    have h2 := List.length_eq_zero_iff.1 this
    cases ρ'
    simp only at hf h2
    rw [hf, h2]
  subst h1
  exact ⟨v, x, rfl, hK.2, hv, hX⟩
theorem SoundF.plainC {gl : Nat → Option EV} {f : FuncId} {en : Entry} (h : SoundF P gl f en) {F : List Nat} {w : World} {args : List EV} {xs : List Value} {K : EV → Prop} (hs : en.spec args [] fun v H' => gd (Nat.beq H'.length 0 && v.inI []) (K v))
    (hr : RelL ⟨F, []⟩ w args xs) (hF : ∀ b, b ∈ F → b < w.heap.size) (hG : GOk gl ⟨F, []⟩ w) : Calls P f xs.toArray w fun e w' => ∃ v x, e = .returned x ∧ K v ∧ Rel ⟨F, []⟩ w' v x ∧ Ext ⟨F, []⟩ w ⟨F, []⟩ w' := by
  refine (h ⟨F, []⟩ [] w args xs _ hs hr ⟨rfl, hF, by intro b r h; simp at h, by intro b r h; simp at h, by intro b c r s h; simp at h, by intro b v h; simp at h⟩ hG).mono ?_
  rintro e w' ⟨v, x, H', ρ', rfl, hK, hv, hS, hX, hf⟩
  rw [gd_iff, Bool.and_eq_true] at hK
  have h0 := Nat.eq_of_beq_eq_true hK.1.1
  have h1 : ρ' = ⟨F, []⟩ := by
    have := hS.len
    rw [h0] at this
    have h2 := List.length_eq_zero_iff.1 this
    cases ρ'
    simp only at hf h2
    rw [hf, h2]
  subst h1
  exact ⟨v, x, rfl, hK.2, hv, hX⟩
mutual
theorem Rel.toFree {ρ ρ' : Ren} {w : World} (hm : ∀ b, b ∈ ρ'.mbs → b ∈ ρ.mbs) : ∀ (v : EV) (x : Value), v.free = true → Rel ρ w v x → Rel ρ' w v x
  | .undef, _, _, hr => hr.elim
  | .bool _, _, _, hr => hr
  | .int _ _, _, _, hr => hr
  | .str _, _, _, hr => hr
  | .nilPtr, _, _, hr => hr
  | .ptr _ _, _, h, _ => by simp [EV.free] at h
  | .rref _, _, h, _ => by simp [EV.free] at h
  | .nilSlice, _, _, hr => hr
  | .slice _ _ _ _ _, _, h, _ => by simp [EV.free] at h
  | .rsI k n g, x, _, hr => by
    simp only [Rel] at hr ⊢
    obtain ⟨a, c, h1, h2, h3⟩ := hr
    refine ⟨a, c, h1, h2, h3.imp id ?_⟩
    rintro ⟨b, o, h4, h5, h6, h7⟩
    exact ⟨b, o, h4, h5, fun h => h6 (hm b h), h7⟩
  | .nilFunc, _, _, hr => hr
  | .func f cap, x, h, hr => by
    simp only [Rel] at hr ⊢
    obtain ⟨vs, h1, h2⟩ := hr
    exact ⟨vs, h1, RelL.toFree hm cap _ (by simpa [EV.free] using h) h2⟩
  | .bnd f cap, x, h, hr => by
    simp only [Rel] at hr ⊢
    obtain ⟨vs, h1, h2⟩ := hr
    exact ⟨vs, h1, RelL.toFree hm cap _ (by simpa [EV.free] using h) h2⟩
  | .agg l, x, h, hr => by
    simp only [Rel] at hr ⊢
    obtain ⟨cs, h1, h2⟩ := hr
    exact ⟨cs, h1, RelF.toFree hm l _ (by simpa [EV.free] using h) h2⟩
  | .arr _ _ _, _, _, hr => hr
  | .tuple l, x, h, hr => by
    simp only [Rel] at hr ⊢
    obtain ⟨vs, h1, h2⟩ := hr
    exact ⟨vs, h1, RelL.toFree hm l _ (by simpa [EV.free] using h) h2⟩
  | .nilIface, _, _, hr => hr
  | .iface t v, x, h, hr => by
    simp only [Rel] at hr ⊢
    obtain ⟨y, h1, h2⟩ := hr
    exact ⟨y, h1, Rel.toFree hm v y (by simpa [EV.free] using h) h2⟩
  | .rsT _ _ _, _, _, hr => rsT_mono (fun b h1 h2 => ⟨h1, fun hb => h2 (hm b hb), fun _ => rfl⟩) hr
  | .arrT _ _ _, _, _, hr => arrT_mono (.inr fun b h1 h2 => ⟨h1, fun hb => h2 (hm b hb), fun _ => rfl⟩) hr
theorem RelL.toFree {ρ ρ' : Ren} {w : World} (hm : ∀ b, b ∈ ρ'.mbs → b ∈ ρ.mbs) : ∀ (l : List EV) (xs : List Value), EV.freeL l = true → RelL ρ w l xs → RelL ρ' w l xs
  | [], _, _, hr => hr
  | v :: l, xs, h, hr => by
    simp only [EV.freeL, Bool.and_eq_true] at h
    simp only [RelL] at hr ⊢
    obtain ⟨x, ys, h1, h2, h3⟩ := hr
    exact ⟨x, ys, h1, Rel.toFree hm v x h.1 h2, RelL.toFree hm l ys h.2 h3⟩
theorem RelF.toFree {ρ ρ' : Ren} {w : World} (hm : ∀ b, b ∈ ρ'.mbs → b ∈ ρ.mbs) : ∀ (l : List EV) (xs : List Value), EV.freeL l = true → RelF ρ w l xs → RelF ρ' w l xs
  | [], _, _, hr => hr
  | v :: l, xs, h, hr => by
    simp only [EV.freeL, Bool.and_eq_true] at h
    simp only [RelF] at hr ⊢
    obtain ⟨x, ys, h1, h2, h3⟩ := hr
    exact ⟨x, ys, h1, Rel.toFree hm v x h.1 h2, RelF.toFree hm l ys h.2 h3⟩
end
mutual
theorem Rel.ofFree {F : List Nat} {ρ : Ren} {w : World} : ∀ (v : EV) (x : Value), (v.noRS = true ∨ ∀ b, b ∈ ρ.mbs → b ∈ F) → Rel ⟨F, []⟩ w v x → Rel ρ w v x
  | .undef, _, _, hr => hr.elim
  | .bool _, _, _, hr => hr
  | .int _ _, _, _, hr => hr
  | .str _, _, _, hr => hr
  | .nilPtr, _, _, hr => hr
  | .ptr _ _, _, _, hr => by simp only [Rel] at hr; obtain ⟨_, _, _, h, _⟩ := hr; simp at h
  | .rref v, x, h, hr => by
    simp only [Rel] at hr ⊢
    obtain ⟨b, o, y, h1, h2, h3, h4, h5⟩ := hr
    rcases h with h | h
    · simp [EV.noRS] at h
    · exact ⟨b, o, y, h1, Rel.ofFree v y (.inr h) h2, h3, fun hb => h4 (List.mem_append.2 (.inl (h b hb))), h5⟩
  | .nilSlice, _, _, hr => hr
  | .slice _ _ _ _ _, _, _, hr => by simp only [Rel] at hr; obtain ⟨_, _, _, _, h, _⟩ := hr; simp at h
  | .rsI k n g, x, h, hr => by
    simp only [Rel] at hr ⊢
    obtain ⟨a, c, h1, h2, h3⟩ := hr
    rcases h with h | h
    · simp [EV.noRS] at h
    · refine ⟨a, c, h1, h2, h3.imp id ?_⟩
      rintro ⟨b, o, h4, h5, h6, h7⟩
      exact ⟨b, o, h4, h5, fun hb => h6 (List.mem_append.2 (.inl (h b hb))), h7⟩
  | .nilFunc, _, _, hr => hr
  | .func f cap, x, h, hr => by
    simp only [Rel] at hr ⊢
    obtain ⟨vs, h1, h2⟩ := hr
    exact ⟨vs, h1, RelL.ofFree cap _ (h.imp (by simp [EV.noRS]) id) h2⟩
  | .bnd f cap, x, h, hr => by
    simp only [Rel] at hr ⊢
    obtain ⟨vs, h1, h2⟩ := hr
    exact ⟨vs, h1, RelL.ofFree cap _ (h.imp (by simp [EV.noRS]) id) h2⟩
  | .agg l, x, h, hr => by
    simp only [Rel] at hr ⊢
    obtain ⟨cs, h1, h2⟩ := hr
    exact ⟨cs, h1, RelF.ofFree l _ (h.imp (by simp [EV.noRS]) id) h2⟩
  | .arr _ _ _, _, _, hr => hr
  | .tuple l, x, h, hr => by
    simp only [Rel] at hr ⊢
    obtain ⟨vs, h1, h2⟩ := hr
    exact ⟨vs, h1, RelL.ofFree l _ (h.imp (by simp [EV.noRS]) id) h2⟩
  | .nilIface, _, _, hr => hr
  | .iface t v, x, h, hr => by
    simp only [Rel] at hr ⊢
    obtain ⟨y, h1, h2⟩ := hr
    exact ⟨y, h1, Rel.ofFree v y (h.imp (by simp [EV.noRS]) id) h2⟩
  | .rsT n s g, x, h, hr => by
    rcases h with h | h
    · simp [EV.noRS] at h
    · exact rsT_mono (fun b h1 h2 => ⟨h1, fun hb => h2 (List.mem_append.2 (.inl (h b hb))), fun _ => rfl⟩) hr
  | .arrT n s g, x, h, hr => arrT_mono (h.imp (by simp [EV.noRS]) fun h b h1 h2 => ⟨h1, fun hb => h2 (List.mem_append.2 (.inl (h b hb))), fun _ => rfl⟩) hr
theorem RelL.ofFree {F : List Nat} {ρ : Ren} {w : World} : ∀ (l : List EV) (xs : List Value), (EV.noRSL l = true ∨ ∀ b, b ∈ ρ.mbs → b ∈ F) → RelL ⟨F, []⟩ w l xs → RelL ρ w l xs
  | [], _, _, hr => hr
  | v :: l, xs, h, hr => by
    simp only [RelL] at hr ⊢
    obtain ⟨x, ys, h1, h2, h3⟩ := hr
    refine ⟨x, ys, h1, Rel.ofFree v x (h.imp ?_ id) h2, RelL.ofFree l ys (h.imp ?_ id) h3⟩ <;> simp +contextual [EV.noRSL]
theorem RelF.ofFree {F : List Nat} {ρ : Ren} {w : World} : ∀ (l : List EV) (xs : List Value), (EV.noRSL l = true ∨ ∀ b, b ∈ ρ.mbs → b ∈ F) → RelF ⟨F, []⟩ w l xs → RelF ρ w l xs
  | [], _, _, hr => hr
  | v :: l, xs, h, hr => by
    simp only [RelF] at hr ⊢
    obtain ⟨x, ys, h1, h2, h3⟩ := hr
    refine ⟨x, ys, h1, Rel.ofFree v x (h.imp ?_ id) h2, RelF.ofFree l ys (h.imp ?_ id) h3⟩ <;> simp +contextual [EV.noRSL]
end
theorem Ext.quiet {F : List Nat} {ρ : Ren} {w w' : World} (h : Ext ⟨F, []⟩ w ⟨F, []⟩ w') : Ext ρ w ρ w' :=
  ⟨h.os, h.tape, h.output, h.size, fun b hb _ => h.out b hb (by simp [Ren.own]), fun _ _ h => h, fun _ _ h => h, fun _ _ h => .inl h, h.row, h.drawn⟩
theorem Sim.quiet {F : List Nat} {ρ : Ren} {H : Heap} {w w' : World} (hS : Sim ρ H w) (h : Ext ⟨F, []⟩ w ⟨F, []⟩ w') : Sim ρ H w' := by
  have hE : Ext ρ w ρ w' := h.quiet
  refine ⟨hS.len, fun b hb => Nat.lt_of_lt_of_le (hS.fl b hb) h.size, fun b r hb => Nat.lt_of_lt_of_le (hS.lt b r hb) h.size, hS.sep, hS.nodup, ?_⟩
  intro b v hb
  obtain ⟨r, h1, h2, cs, e, fz, x, h3, h4, h5, h6, h7⟩ := hS.live b v hb
  have heq := h.out r.mb (hS.lt b r h1) (by simp [Ren.own])
  exact ⟨r, h1, h2, cs, e, fz, x, heq.trans h3, h4, Rel.ext hE _ _ h5, h6, h7.keep heq⟩
def Ren.kill (ρ : Ren) (b : Nat) : Ren := { ρ with bs := ρ.bs.set b none }
theorem kill_own {ρ : Ren} {b m : Nat} (h : m ∈ (ρ.kill b).own) : m ∈ ρ.own := by
  obtain ⟨c, r, h1, h2⟩ := own_mem h
  simp only [Ren.kill] at h1
  by_cases hc : c = b
  · subst hc
    rw [List.getElem?_set] at h1
    simp at h1
  · rw [map_some_ne _ _ _ _ hc] at h1
    exact h2 ▸ mem_own h1
theorem kill_mbs {ρ : Ren} {b m : Nat} (h : m ∈ (ρ.kill b).mbs) : m ∈ ρ.mbs := by
  rcases List.mem_append.1 h with h | h
  · exact List.mem_append.2 (.inl h)
  · exact own_mbs (kill_own h)
theorem Ext.kill (ρ : Ren) (w : World) (b : Nat) : Ext ρ w (ρ.kill b) w :=
  ⟨rfl, rfl, rfl, Nat.le_refl _, fun _ _ _ => rfl, fun c _ h hm => h (kill_mbs hm), fun c _ h hm => h (kill_own hm), fun c r hc => by
    by_cases hcb : c = b
    · subst hcb
      refine .inr ?_
      simp only [Ren.kill]
      have hlt : c < ρ.bs.length := by
        rcases Nat.lt_or_ge c ρ.bs.length with hh | hh
        · exact hh
        · rw [List.getElem?_eq_none hh] at hc; cases hc
      rw [List.getElem?_set_self hlt]
    · exact .inl (by simp only [Ren.kill]; rw [map_some_ne _ _ _ _ hcb]; exact hc),
   fun _ cs e fz h => ⟨cs, e, fz, h, rfl⟩, Nat.le_refl _⟩
theorem Sim.kill {ρ : Ren} {H : Heap} {w : World} (hS : Sim ρ H w) (b : Nat) : Sim (ρ.kill b) (H.set b none) w := by
  have hk : ∀ (c : Nat) r, (ρ.kill b).bs[c]? = some (some r) → ρ.bs[c]? = some (some r) := by
    intro c r h1
    simp only [Ren.kill] at h1
    by_cases hc : c = b
    · subst hc
      rw [List.getElem?_set] at h1
      simp at h1
    · rw [map_some_ne _ _ _ _ hc] at h1; exact h1
  refine ⟨by simp [Ren.kill, hS.len], hS.fl, fun c r hc => hS.lt c r (hk c r hc), fun c r hc => hS.sep c r (hk c r hc), fun c d r s hc hd => hS.nodup c d r s (hk c r hc) (hk d s hd), ?_⟩
  intro c v hc
  by_cases hcb : c = b
  · subst hcb
    rw [List.getElem?_set] at hc
    simp at hc
  · rw [map_some_ne _ _ _ _ hcb] at hc
    obtain ⟨r, h1, h2, cs, e, fz, x, h3, h4, h5, h6, h7⟩ := hS.live c v hc
    exact ⟨r, by simp only [Ren.kill]; rw [map_some_ne _ _ _ _ hcb]; exact h1, h2, cs, e, fz, x, h3, h4, Rel.ext (Ext.kill ρ w b) _ _ h5, h6, h7⟩
def Ren.kills : List EV → Ren → Ren
  | [], ρ => ρ
  | .slice b _ _ _ _ :: vs, ρ => Ren.kills vs (ρ.kill b)
  | _ :: vs, ρ => Ren.kills vs ρ
theorem kills_spec : ∀ (vs : List EV) (ρ : Ren) (H : Heap) (w : World), Sim ρ H w →
    Sim (Ren.kills vs ρ) (killArgs vs H) w ∧ Ext ρ w (Ren.kills vs ρ) w ∧ (∀ m, m ∈ (Ren.kills vs ρ).mbs → m ∈ ρ.mbs) ∧ (Ren.kills vs ρ).F = ρ.F
  | [], ρ, H, w, hS => ⟨hS, Ext.refl _ _, fun _ h => h, rfl⟩
  | v :: vs, ρ, H, w, hS => by
    cases v
    case slice b off len cap e =>
      simp only [Ren.kills, killArgs]
      obtain ⟨h1, h2, h3, h4⟩ := kills_spec vs (ρ.kill b) (H.set b none) w (hS.kill b)
      exact ⟨h1, (Ext.kill ρ w b).trans h2, fun m hm => kill_mbs (h3 m hm), h4⟩
    all_goals exact kills_spec vs ρ H w hS
theorem kills_dead : ∀ (vs : List EV) (ρ : Ren) (H : Heap) (w : World), Sim ρ H w → ∀ b off len cap e, EV.slice b off len cap e ∈ vs → ∀ r, ρ.bs[b]? = some (some r) → r.mb ∉ (Ren.kills vs ρ).own
  | v :: vs, ρ, H, w, hS, b, off, len, cap, e, hm, r, hr => by
    rcases List.mem_cons.1 hm with hm' | hm'
    · subst hm'
      simp only [Ren.kills]
      intro hin
      have hin' : r.mb ∈ (ρ.kill b).own := by
        have := (kills_spec vs (ρ.kill b) (H.set b none) w (hS.kill b)).2.1.newOwn r.mb (hS.lt b r hr)
        exact Classical.byContradiction fun h => this h hin
      obtain ⟨c, s, h1, h2⟩ := own_mem hin'
      simp only [Ren.kill] at h1
      by_cases hc : c = b
      · subst hc
        rw [List.getElem?_set] at h1
        simp at h1
      · rw [map_some_ne _ _ _ _ hc] at h1
        exact hc (hS.nodup c b s r h1 hr h2)
    · cases v
      case slice b' off' len' cap' e' =>
        simp only [Ren.kills]
        by_cases hbb : b = b'
        · subst hbb
          intro hin
          have hin' : r.mb ∈ (ρ.kill b).own := by
            have := (kills_spec vs (ρ.kill b) (H.set b none) w (hS.kill b)).2.1.newOwn r.mb (hS.lt b r hr)
            exact Classical.byContradiction fun h => this h hin
          obtain ⟨c, s, h1, h2⟩ := own_mem hin'
          simp only [Ren.kill] at h1
          by_cases hc : c = b
          · subst hc
            rw [List.getElem?_set] at h1
            simp at h1
          · rw [map_some_ne _ _ _ _ hc] at h1
            exact hc (hS.nodup c b s r h1 hr h2)
        · exact kills_dead vs (ρ.kill b') (H.set b' none) w (hS.kill b') b off len cap e hm' r (by simp only [Ren.kill]; rw [map_some_ne _ _ _ _ hbb]; exact hr)
      all_goals exact kills_dead vs ρ H w hS b off len cap e hm' r hr
theorem roArg_rel {ρ : Ren} {H : Heap} {w : World} {F : List Nat} (hS : Sim ρ H w) (hF : ∀ b, b ∈ F → b ∈ ρ.mbs) {m : Option RK} {v : EV} {x : Value}
    (hd : ∀ b off len cap e, v = EV.slice b off len cap e → ∀ r, ρ.bs[b]? = some (some r) → r.mb ∉ F) (hf : (roArg H m v).free = true) (hr : Rel ρ w v x) : Rel ⟨F, []⟩ w (roArg H m v) x := by
  have hmb : ∀ b, b ∈ (⟨F, []⟩ : Ren).mbs → b ∈ ρ.mbs := by
    intro b hb
    rcases List.mem_append.1 hb with hb | hb
    · exact hF b hb
    · simp [Ren.own] at hb
  unfold roArg at hf ⊢
  split at hf
  · rename_i k
    simp only [Rel] at hr ⊢; subst hr
    exact ⟨none, 0, rfl, Nat.le_refl _, by simp⟩
  · rename_i k b off len cap e
    split at hf
    · rename_i k' n' g hb
      by_cases hk : k = k'
      · subst hk
        simp only [hb, decide_true, cond_true] at hf ⊢
        simp only [Rel] at hr
        obtain ⟨a, c, rfl, r, hr', hi⟩ := hr
        obtain ⟨r', h1, h2, cs, e', fz, x, h3, h4, h5, h6, h7⟩ := hS.live b _ hb
        rw [h1] at hr'; cases hr'
        obtain ⟨n, h8, h9, h10, h11, h12⟩ := hi r' rfl
        simp only [Rel]
        refine ⟨a, c, rfl, h10, ?_⟩
        rcases h12 with ⟨h12, _⟩ | ⟨h12, _⟩
        · have hsh : r'.sh = .row n' := by rw [← h2]; rfl
          have he : e = 1 ∧ n = n' := by
            rcases h8 with ⟨h8, h13⟩ | ⟨l, h8, _⟩ | ⟨t8, h8, _⟩
            · rw [hsh] at h8; cases h8; exact ⟨h13, rfl⟩
            · rw [hsh] at h8; cases h8
            · rw [hsh] at h8; cases h8
          obtain ⟨rfl, rfl⟩ := he
          have hnF : r'.mb ∉ (⟨F, []⟩ : Ren).mbs := by
            intro hb'
            rcases List.mem_append.1 hb' with hb' | hb'
            · exact hd b off len cap 1 rfl r' h1 hb'
            · simp [Ren.own] at hb'
          refine .inr ⟨_, _, h12, hS.lt b r' h1, hnF, ?_⟩
          simp only [Rel] at h5; subst h5
          have := h7.sub off len
          simp only [cells_agg] at this
          intro i hi
          simp only [ints_length] at hi
          have h14 := this i (by simp [ints_length]; omega)
          rw [Nat.mul_one, h14, List.getElem?_take_of_lt hi, List.getElem?_drop, ints_get _ _ _ _ (by omega), ints_get _ _ _ _ hi, shift_apply]
        · exact .inl h12
      · simp [hk, EV.free] at hf
    · simp [EV.free] at hf
  · rename_i s
    simp only [Rel] at hr ⊢; subst hr
    exact ⟨none, 0, rfl, Nat.le_refl _, by simp⟩
  · rename_i s b off len cap es
    split at hf
    · rename_i n' s' g hb
      cases hc : (s.beq s' && (Nat.beq es s.shape.size && s.flat)) with
      | false => simp [hc, EV.free] at hf
      | true =>
        simp only [hb, hc, cond_true] at hf ⊢
        simp only [Bool.and_eq_true] at hc
        have e1 := Sk.eq_of_beq _ _ hc.1
        have e2 := Nat.eq_of_beq_eq_true hc.2.1
        have hfl := hc.2.2
        subst e1; subst e2
        obtain ⟨r, a, c, cs, e', fz, rfl, q1, q2, q3, q4, q5, q6, q7, q8, q9⟩ := hS.rowT hfl hb hr
        simp only [Rel]
        refine ⟨a, c, rfl, q8, ?_⟩
        rcases q9 with ⟨rfl, _⟩ | ⟨q9, _⟩
        · have hnF : r.mb ∉ (⟨F, []⟩ : Ren).mbs := by
            intro hb'
            rcases List.mem_append.1 hb' with hb' | hb'
            · exact hd b off len cap s.shape.size rfl r q1 hb'
            · simp [Ren.own] at hb'
          refine .inr ⟨_, _, rfl, hS.lt b r q1, hnF, ?_⟩
          have := q6.sub (off * s.shape.size) (len * s.shape.size)
          rw [tabL_part hfl _ _ _ _ q7] at this
          exact (tab_rows hfl (ρ := ⟨F, []⟩)).1 this
        · exact .inl q9
    · simp [EV.free] at hf
  · exact Rel.toFree hmb _ _ hf hr
theorem roArgs_rel {ρ : Ren} {H : Heap} {w : World} {F : List Nat} (hS : Sim ρ H w) (hF : ∀ b, b ∈ F → b ∈ ρ.mbs) : ∀ (ms : List (Option RK)) (vs : List EV) (xs : List Value),
    (∀ b off len cap e, EV.slice b off len cap e ∈ vs → ∀ r, ρ.bs[b]? = some (some r) → r.mb ∉ F) → EV.freeL (roArgs H ms vs) = true → RelL ρ w vs xs → RelL ⟨F, []⟩ w (roArgs H ms vs) xs
  | m :: ms, v :: vs, xs, hd, hf, hr => by
    simp only [roArgs, EV.freeL, Bool.and_eq_true] at hf ⊢
    simp only [RelL] at hr ⊢
    obtain ⟨x, ys, rfl, h1, h2⟩ := hr
    exact ⟨x, ys, rfl, roArg_rel hS hF (fun b off len cap e he => hd b off len cap e (by rw [← he]; exact List.mem_cons_self)) hf.1 h1,
      roArgs_rel hS hF ms vs ys (fun b off len cap e he => hd b off len cap e (List.mem_cons_of_mem _ he)) hf.2 h2⟩
  | [], vs, xs, hd, hf, hr => by
    have hmb : ∀ b, b ∈ (⟨F, []⟩ : Ren).mbs → b ∈ ρ.mbs := by
      intro b hb
      rcases List.mem_append.1 hb with hb | hb
      · exact hF b hb
      · simp [Ren.own] at hb
    cases vs <;> exact RelL.toFree hmb _ _ hf hr
  | _ :: _, [], xs, hd, hf, hr => by
    simp only [roArgs, RelL] at hr ⊢; exact hr
theorem RelL.append {ρ : Ren} {w : World} : ∀ {l r : List EV} {xs ys : List Value}, RelL ρ w l xs → RelL ρ w r ys → RelL ρ w (l ++ r) (xs ++ ys)
  | [], r, xs, ys, h1, h2 => by simp only [RelL] at h1; subst h1; exact h2
  | v :: l, r, xs, ys, h1, h2 => by
    simp only [RelL] at h1
    obtain ⟨x, zs, rfl, h3, h4⟩ := h1
    simp only [List.cons_append, RelL]
    exact ⟨x, zs ++ ys, rfl, h3, h4.append h2⟩
def OkFn (P : Program) (E : Env) : Prop :=
  ∀ f en, E.fn f = some en → SoundF P E.gl f en ∧ ∃ fn, P.funcs[f]? = some fn ∧ fn.body.isNone = false ∧ (fn.name == "runtime.NumGoroutine") = false
theorem roArgs_ren {ρ ρ' : Ren} {H : Heap} {w : World} {f : Nat → Nat} {idx : List Nat} (hS : Sim ρ H w) (hb : ∀ (b : Nat) r, b ∈ idx → ρ.bs[b]? = some r → ρ'.bs[f b]? = some r ∨ ρ'.bs[f b]? = some none)
    (hmb : ∀ b, b ∈ ρ'.mbs → b ∈ ρ.mbs) : ∀ (ms : List (Option RK)) (vs : List EV) (xs : List Value), (∀ b, b ∈ roDead ms vs → ∀ r, ρ.bs[b]? = some (some r) → r.mb ∉ ρ'.mbs) →
      dfdL (roArgs H ms vs) = true → EV.inIL idx (roArgs H ms vs) = true → RelL ρ w vs xs → RelL ρ' w (EV.renL f (roArgs H ms vs)) xs := by
  have hq : ∀ b, b < w.heap.size → b ∉ ρ.mbs → b ∉ ρ'.mbs := fun b _ hn hm => hn (hmb b hm)
  have one : ∀ (m : Option RK) (v : EV) (x : Value), (∀ k b off len cap e, m = some k → v = EV.slice b off len cap e → ∀ r, ρ.bs[b]? = some (some r) → r.mb ∉ ρ'.mbs) → (roArg H m v).dfd = true →
      (roArg H m v).inI idx = true → Rel ρ w v x → Rel ρ' w ((roArg H m v).ren f) x := by
    intro m v x hd hdf hi hr
    have free : (roArg H m v).free = true → (∀ b off len cap e, v = EV.slice b off len cap e → ∀ r, ρ.bs[b]? = some (some r) → r.mb ∉ ρ'.mbs) → Rel ρ' w (roArg H m v) x := by
      intro hf hd'
      have := roArg_rel (F := ρ'.mbs) hS hmb hd' hf hr
      refine Rel.toFree ?_ _ _ hf this
      intro b hb'
      exact List.mem_append.2 (.inl hb')
    cases m with
    | none =>
      have e : roArg H none v = v := by cases v <;> rfl
      rw [e] at hi ⊢
      exact Rel.ren hb v x hi (.inr hq) hr
    | some k =>
      cases v
      case slice b off len cap e =>
        have hre : (roArg H (some k) (.slice b off len cap e)).free = true ∧ (roArg H (some k) (.slice b off len cap e)).ren f = roArg H (some k) (.slice b off len cap e) := by
          revert hdf
          cases k with
          | int k =>
            simp only [roArg]
            split
            · rename_i k' n g hq
              by_cases hk : k = k'
              · simp [hk, EV.free, EV.ren]
              · simp [hk, EV.dfd]
            · simp [EV.dfd]
          | sk s =>
            simp only [roArg]
            split
            · rename_i n s' g hq
              cases hc : (s.beq s' && (Nat.beq e s.shape.size && s.flat)) <;> simp [EV.free, EV.ren, EV.dfd]
            · simp [EV.dfd]
        rw [hre.2]
        exact free hre.1 fun b' off' len' cap' e' he r hr' => hd k b' off' len' cap' e' rfl he r hr'
      case nilSlice =>
        simp only [Rel] at hr; subst hr
        cases k with
        | int k => exact ⟨none, 0, rfl, Nat.le_refl _, .inl rfl⟩
        | sk s => exact (show Rel ρ' w (.rsT 0 s z2) (.slice none 0 0) from ⟨none, 0, rfl, Nat.le_refl _, .inl rfl⟩)
      all_goals (cases k <;> exact Rel.ren hb _ x hi (.inr hq) hr)
  intro ms
  induction ms with
  | nil =>
    intro vs xs hd hdf hi hr
    have e : roArgs H [] vs = vs := by cases vs <;> rfl
    rw [e] at hi ⊢
    exact RelL.ren hb vs xs hi (.inr hq) hr
  | cons m ms ih =>
    intro vs xs hd hdf hi hr
    cases vs with
    | nil => exact hr
    | cons v vs =>
      simp only [roArgs, dfdL, EV.inIL, Bool.and_eq_true] at hdf hi
      simp only [RelL] at hr
      obtain ⟨x, ys, rfl, h1, h2⟩ := hr
      simp only [roArgs, EV.renL, RelL]
      refine ⟨x, ys, rfl, one m v x ?_ hdf.1 hi.1 h1, ih vs ys ?_ hdf.2 hi.2 h2⟩
      · intro k b off len cap e hm hv r hr
        subst hm; subst hv
        exact hd b (by simp [roDead]) r hr
      · intro b hb' r hr
        refine hd b ?_ r hr
        cases m with
        | none => simpa [roDead] using hb'
        | some k => cases v <;> simp [roDead, hb']
theorem evCallL_sound {ρ : Ren} {w : World} {H : Heap} {f : FuncId} {en : Entry} {args : List EV} {xs : List Value} {K : EV → Heap → Prop} (hs : SoundF P E.gl f en) (hS : Sim ρ H w) (hG : GOk E.gl ρ w)
    (hr : RelL ρ w args xs) {idx : List Nat} (hn : idx.Nodup) (h : evCallL en (roArgs H en.ro args) (roDead en.ro args) idx H K) :
    Calls P f xs.toArray w fun e w' => ∃ v x H' ρ', e = .returned x ∧ K v H' ∧ Sim ρ' H' w' ∧ Ext ρ w ρ' w' ∧ ρ'.F = ρ.F ∧ Rel ρ' w' v x := by
  unfold evCallL at h
  rw [gd_iff] at h
  simp only [Bool.and_eq_true] at h
  obtain ⟨⟨hd, hi, hcl, hlt, hno⟩, h⟩ := h
  generalize hdd : roDead en.ro args = dead at hno h
  have hno' := noneIn_spec hno
  have hlt' := allLt_spec hlt
  generalize hsm : (⟨[], subBs ρ.bs idx⟩ : Ren).own = sm
  generalize hdm : (⟨[], subBs ρ.bs dead⟩ : Ren).own = dm
  have sm_of : ∀ (b : Nat) (r : BI), b ∈ idx → ρ.bs[b]? = some (some r) → r.mb ∈ sm := fun b r h1 h2 => hsm ▸ own_subBs h1 h2
  have of_sm : ∀ m, m ∈ sm → ∃ b r, b ∈ idx ∧ ρ.bs[b]? = some (some r) ∧ r.mb = m := fun m hm => subBs_own (F := []) (hsm ▸ hm)
  have dm_of : ∀ (b : Nat) (r : BI), b ∈ dead → ρ.bs[b]? = some (some r) → r.mb ∈ dm := fun b r h1 h2 => hdm ▸ own_subBs h1 h2
  have of_dm : ∀ m, m ∈ dm → ∃ b r, b ∈ dead ∧ ρ.bs[b]? = some (some r) ∧ r.mb = m := fun m hm => subBs_own (F := []) (hdm ▸ hm)
  generalize hFs : ρ.mbs.filter (fun m => !memN m sm && !memN m dm) = Fs
  have mem_F : ∀ m, m ∈ Fs ↔ m ∈ ρ.mbs ∧ m ∉ sm ∧ m ∉ dm := by
    intro m
    rw [← hFs, List.mem_filter, Bool.and_eq_true, Bool.not_eq_true', Bool.not_eq_true', memN_not, memN_not]
  have hown : (⟨Fs, subBs ρ.bs idx⟩ : Ren).own = sm := hsm
  have hsub : ∀ b, b ∈ (⟨Fs, subBs ρ.bs idx⟩ : Ren).mbs → b ∈ ρ.mbs := by
    intro b hb
    rcases List.mem_append.1 hb with hb | hb
    · exact ((mem_F b).1 hb).1
    · obtain ⟨c, r, _, h2, h3⟩ := subBs_own hb
      exact h3 ▸ own_mbs (mem_own h2)
  have mlt : ∀ b, b ∈ ρ.mbs → b < w.heap.size := by
    intro b hb
    rcases List.mem_append.1 hb with hb | hb
    · exact hS.fl b hb
    · obtain ⟨c, r, g1, g2⟩ := own_mem hb
      exact g2 ▸ hS.lt c r g1
  have FF : ∀ b, b ∈ ρ.F → b ∈ Fs := by
    intro b hb
    refine (mem_F b).2 ⟨List.mem_append.2 (.inl hb), fun hm => ?_, fun hm => ?_⟩
    · obtain ⟨c, r, _, h2, h3⟩ := of_sm b hm
      exact hS.sep c r h2 (h3 ▸ hb)
    · obtain ⟨c, r, _, h2, h3⟩ := of_dm b hm
      exact hS.sep c r h2 (h3 ▸ hb)
  have FO : ∀ (c : Nat) (r : BI), ρ.bs[c]? = some (some r) → c ∉ idx → c ∉ dead → r.mb ∈ Fs := by
    intro c r h1 h2 h3
    refine (mem_F r.mb).2 ⟨own_mbs (mem_own h1), fun hm => ?_, fun hm => ?_⟩
    · obtain ⟨d, s, g1, g2, g3⟩ := of_sm _ hm
      exact h2 (hS.nodup d c s r g2 h1 g3 ▸ g1)
    · obtain ⟨d, s, g1, g2, g3⟩ := of_dm _ hm
      exact h3 (hS.nodup d c s r g2 h1 g3 ▸ g1)
  have hSs : Sim ⟨Fs, subBs ρ.bs idx⟩ (subH H idx) w := by
    refine hS.sub hn (fun b hb => mlt b ((mem_F b).1 hb).1) ?_ hcl fun b hb hnb hm => hnb (hsub b hm)
    intro b r h1 h2 h3
    exact ((mem_F _).1 h3).2.1 (sm_of b r h1 h2)
  have hrel : RelL ⟨Fs, subBs ρ.bs idx⟩ w (EV.renL (pos idx) (roArgs H en.ro args)) xs := by
    refine roArgs_ren hS (fun b r h1 h2 => .inl (subBs_pos h1 h2)) hsub en.ro args xs ?_ hd hi hr
    rw [hdd]
    intro b hb r h1 h2
    rcases List.mem_append.1 h2 with h2 | h2
    · exact ((mem_F _).1 h2).2.2 (dm_of b r hb h1)
    · obtain ⟨c, s, g1, g2, g3⟩ := subBs_own h2
      exact hno' b hb (hS.nodup c b s r g2 h1 g3 ▸ g1)
  refine (hs _ _ w _ _ _ h hrel hSs (hG.sub hsub)).mono ?_
  rintro e w' ⟨v, x, H', ρ', rfl, hK, hv, hS', hX, hF'⟩
  rw [gd_iff, Bool.and_eq_true, Bool.and_eq_true] at hK
  obtain ⟨⟨hvi, hHi, hle⟩, hK⟩ := hK
  have hle' : idx.length ≤ H'.length := Nat.le_of_ble_eq_true hle
  have hlen := hS'.len
  have hleb : idx.length ≤ ρ'.bs.length := by omega
  have hltb : ∀ b ∈ idx, b < ρ.bs.length := fun b hb => by rw [hS.len]; exact hlt' b hb
  simp only at hF'
  generalize hD : cond (v.noRS && noRSH H') [] dead = D at hK
  have hDn : ∀ b, b ∈ D → b ∉ idx := by
    intro b hb
    cases hc : (v.noRS && noRSH H') with
    | true => rw [hc] at hD; simp at hD; subst hD; cases hb
    | false => rw [hc] at hD; simp at hD; subst hD; exact hno' b hb
  have inv : ∀ (c : Nat) (r : BI), (killN D (putB idx ρ'.bs ρ.bs))[c]? = some (some r) → c ∉ D ∧ ((∃ j, ρ'.bs[j]? = some (some r) ∧ backN idx ρ.bs.length j = c) ∨ (c ∉ idx ∧ ρ.bs[c]? = some (some r))) := by
    intro c r hc
    obtain ⟨h1, h2⟩ := killN_some hc
    exact ⟨h1, putB_inv hn hltb hleb h2⟩
  have newLt : ∀ (j : Nat) (r : BI), ρ'.bs[j]? = some (some r) → r.mb < w.heap.size → r.mb ∈ sm := by
    intro j r hj hlt
    apply Classical.byContradiction
    intro hns
    exact hX.newOwn r.mb hlt (by rw [hown]; exact hns) (mem_own hj)
  have smO : ∀ m, m ∈ sm → m ∈ ρ.own := by
    intro m hm
    obtain ⟨b, r, _, h2, h3⟩ := of_sm m hm
    exact h3 ▸ mem_own h2
  have hE : Ext ρ w ⟨ρ.F, killN D (putB idx ρ'.bs ρ.bs)⟩ w' := by
    refine ⟨hX.os, hX.tape, hX.output, hX.size, ?_, ?_, ?_, ?_, hX.row, hX.drawn⟩
    · intro b hb hnb
      exact hX.out b hb (by rw [hown]; exact fun hm => hnb (smO b hm))
    · intro b hb hnb hm
      rcases List.mem_append.1 hm with hm | hm
      · exact hnb (List.mem_append.2 (.inl hm))
      · obtain ⟨c, r, h1, rfl⟩ := own_mem hm
        rcases (inv c r h1).2 with ⟨j, h2, _⟩ | ⟨_, h2⟩
        · exact hnb (own_mbs (smO _ (newLt j r h2 hb)))
        · exact hnb (own_mbs (mem_own h2))
    · intro b hb hnb hm
      obtain ⟨c, r, h1, rfl⟩ := own_mem hm
      rcases (inv c r h1).2 with ⟨j, h2, _⟩ | ⟨_, h2⟩
      · exact hnb (smO _ (newLt j r h2 hb))
      · exact hnb (mem_own h2)
    · intro b r hb
      have hlt : b < ρ.bs.length := by
        rcases Nat.lt_or_ge b ρ.bs.length with hh | hh
        · exact hh
        · rw [List.getElem?_eq_none hh] at hb; cases hb
      simp only
      by_cases hbD : b ∈ D
      · exact .inr (killN_in _ _ _ (.inl hbD) (by rw [putB_length _ _ _ hleb]; omega))
      · rw [killN_out _ _ _ hbD]
        by_cases hbi : b ∈ idx
        · have hp := pos_get hbi
          have hpl : pos idx b < idx.length := by
            rcases Nat.lt_or_ge (pos idx b) idx.length with hh | hh
            · exact hh
            · rw [List.getElem?_eq_none hh] at hp; cases hp
          have := putB_at idx ρ'.bs ρ.bs (pos idx b) hn hltb hleb (by omega)
          rw [show backN idx ρ.bs.length (pos idx b) = b from by simp [backN, hp]] at this
          rw [this]
          exact hX.keep (pos idx b) r (subBs_pos hbi hb)
        · rw [putB_out _ _ _ _ hbi hlt]; exact .inl hb
  have hback : ∀ (b : Nat) r, b ∈ upTo H'.length → ρ'.bs[b]? = some r → (killN D (putB idx ρ'.bs ρ.bs))[backN idx H.length b]? = some r ∨ (killN D (putB idx ρ'.bs ρ.bs))[backN idx H.length b]? = some none := by
    intro b r hb hr'
    have hbl : b < ρ'.bs.length := by rw [hlen]; exact (mem_upTo _ _).1 hb
    have := putB_at idx ρ'.bs ρ.bs b hn hltb hleb hbl
    rw [hS.len, hr'] at this
    by_cases hbD : backN idx H.length b ∈ D
    · refine .inr (killN_in _ _ _ (.inl hbD) ?_)
      rcases Nat.lt_or_ge (backN idx H.length b) (putB idx ρ'.bs ρ.bs).length with hh | hh
      · exact hh
      · rw [List.getElem?_eq_none hh] at this; cases this
    · rw [killN_out _ _ _ hbD]; exact .inl this
  have hq : ∀ u : EV, ((v.noRS && noRSH H') = true → u.noRS = true) → u.noRS = true ∨ ∀ b, b < w'.heap.size → b ∉ ρ'.mbs → b ∉ (⟨ρ.F, killN D (putB idx ρ'.bs ρ.bs)⟩ : Ren).mbs := by
    intro u hu
    cases hc : (v.noRS && noRSH H') with
    | true => exact .inl (hu hc)
    | false =>
      right
      rw [hc] at hD; simp at hD; subst hD
      intro b hb hnb hm
      rcases List.mem_append.1 hm with hm | hm
      · exact hnb (List.mem_append.2 (.inl (hF' ▸ FF b hm)))
      · obtain ⟨c, r, h1, rfl⟩ := own_mem hm
        obtain ⟨g1, g2⟩ := inv c r h1
        rcases g2 with ⟨j, h2, _⟩ | ⟨h3, h2⟩
        · exact hnb (own_mbs (mem_own h2))
        · exact hnb (List.mem_append.2 (.inl (hF' ▸ FO c r h2 h3 g1)))
  refine ⟨_, x, _, ⟨ρ.F, killN D (putB idx ρ'.bs ρ.bs)⟩, rfl, hK, ?_, hE, rfl, ?_⟩
  · refine ⟨?_, fun b hb => Nat.lt_of_lt_of_le (hS.fl b hb) hX.size, ?_, ?_, ?_, ?_⟩
    · rw [killN_length, killN_length, putB_length _ _ _ hleb, putB_length _ _ _ (by rw [renH_length]; exact hle'), renH_length, hS.len, hlen]
    · intro c r hc
      rcases (inv c r hc).2 with ⟨j, h2, _⟩ | ⟨_, h2⟩
      · exact hS'.lt j r h2
      · exact Nat.lt_of_lt_of_le (hS.lt c r h2) hX.size
    · intro c r hc hm
      rcases (inv c r hc).2 with ⟨j, h2, _⟩ | ⟨_, h2⟩
      · exact hS'.sep j r h2 (hF' ▸ FF _ hm)
      · exact hS.sep c r h2 hm
    · have mixed : ∀ (j d : Nat) (r s : BI), ρ'.bs[j]? = some (some r) → d ∉ idx → ρ.bs[d]? = some (some s) → r.mb = s.mb → False := by
        intro j d r s h1 h2 h3 h4
        obtain ⟨b, r0, g1, g2, g3⟩ := of_sm _ (newLt j r h1 (h4 ▸ hS.lt d s h3))
        exact h2 (hS.nodup b d r0 s g2 h3 (g3.trans h4) ▸ g1)
      intro c d r s hc hd' he
      rcases (inv c r hc).2 with ⟨j, h2, h3⟩ | ⟨h3, h2⟩
      · rcases (inv d s hd').2 with ⟨k, h4, h5⟩ | ⟨h5, h4⟩
        · have := hS'.nodup j k r s h2 h4 he
          subst this
          exact h3.symm.trans h5
        · exact (mixed j d r s h2 h5 h4 he).elim
      · rcases (inv d s hd').2 with ⟨k, h4, h5⟩ | ⟨h5, h4⟩
        · exact (mixed k c s r h4 h3 h2 he.symm).elim
        · exact hS.nodup c d r s h2 h4 he
    · intro c u hc
      obtain ⟨hcD, hc⟩ := killN_some hc
      rcases putB_inv hn hlt' (by rw [renH_length]; exact hle') hc with ⟨j, h1, h2⟩ | ⟨h1, h2⟩
      · rw [renH_get] at h1
        cases hj : H'[j]? with
        | none => simp [hj] at h1
        | some o =>
          cases o with
          | none => simp [hj, renO] at h1
          | some u' =>
            simp only [hj, Option.map_some, renO, Option.some.injEq] at h1
            subst h1
            obtain ⟨r, k1, k2, cs, e, fz, y, k3, k4, k5, k6, k7⟩ := hS'.live j u' hj
            have hjl : j < ρ'.bs.length := by
              rcases Nat.lt_or_ge j ρ'.bs.length with hh | hh
              · exact hh
              · rw [List.getElem?_eq_none hh] at k1; cases k1
            refine ⟨r, ?_, (shape_ren _ _).trans k2, cs, e, fz, y, k3, k4, Rel.ren hback u' y (inIH_spec hHi j ((mem_upTo _ _).2 (by omega)) u' hj) (hq u' fun hc' => ?_) k5, k6, k7⟩
            · simp only
              rw [killN_out _ _ _ hcD, ← h2, ← hS.len, putB_at idx ρ'.bs ρ.bs j hn hltb hleb hjl]
              exact k1
            · simp only [Bool.and_eq_true] at hc'
              exact noRSH_spec hc'.2 j u' hj
      · obtain ⟨r, k1, k2, cs, e, fz, y, k3, k4, k5, k6, k7⟩ := hS.live c u h2
        have hclt : c < ρ.bs.length := by
          rcases Nat.lt_or_ge c ρ.bs.length with hh | hh
          · exact hh
          · rw [List.getElem?_eq_none hh] at k1; cases k1
        have hout : w'.heap[r.mb]? = w.heap[r.mb]? := by
          refine hX.out r.mb (hS.lt c r k1) ?_
          rw [hown]
          intro hm
          obtain ⟨b, r0, g1, g2, g3⟩ := of_sm _ hm
          exact h1 (hS.nodup b c r0 r g2 k1 g3 ▸ g1)
        exact ⟨r, by simp only; rw [killN_out _ _ _ hcD, putB_out _ _ _ _ h1 hclt]; exact k1, k2, cs, e, fz, y, hout.trans k3, k4, Rel.ext hE u y k5, k6, k7.keep hout⟩
  · exact Rel.ren hback v x hvi (hq v fun hc' => by simp only [Bool.and_eq_true] at hc'; exact hc'.1) hv
theorem evCallF_sound {ρ : Ren} {w : World} {H : Heap} {f : FuncId} {args : List EV} {xs : List Value} {K : EV → Heap → Prop} (hFn : OkFn P E) (hS : Sim ρ H w) (hG : GOk E.gl ρ w)
    (hr : RelL ρ w args xs) (h : evCallF E f args H K) :
    ∃ fn, P.funcs[f]? = some fn ∧ fn.body.isNone = false ∧ (fn.name == "runtime.NumGoroutine") = false ∧
      Calls P f xs.toArray w fun e w' => ∃ v x H' ρ', e = .returned x ∧ K v H' ∧ Sim ρ' H' w' ∧ Ext ρ w ρ' w' ∧ ρ'.F = ρ.F ∧ Rel ρ' w' v x := by
  unfold evCallF at h
  split at h
  · rename_i en he
    obtain ⟨hs, fn, hfn, hb, hn⟩ := hFn f en he
    refine ⟨fn, hfn, hb, hn, ?_⟩
    cases hl : en.lend with
    | true =>
      rw [hl] at h
      simp only [cond_true] at h
      cases hw : newRo en.ro with
      | true =>
        rw [hw] at h
        simp only [cond_true] at h
        rw [gd_iff] at h
        have e : ∀ l : List EV, roArgs H [] l = l := fun l => by cases l <;> rfl
        have e2 : ∀ l : List EV, roDead [] l = [] := fun l => by cases l <;> rfl
        have h' : evCallL ⟨[], true, en.spec⟩ args [] [] H fun v H2 => gd (oneNew H H2) (K v H2) := h.2
        refine (evCallL_sound (en := ⟨[], true, en.spec⟩) (idx := []) hs hS hG hr List.nodup_nil (by rw [e, e2]; exact h')).mono ?_
        rintro e w' ⟨v, x, H', ρ', he, hK, h1⟩
        rw [gd_iff] at hK
        exact ⟨v, x, H', ρ', he, hK.2, h1⟩
      | false =>
      rw [hw] at h
      simp only [cond_false] at h
      cases hw2 : keepRo en.ro with
      | true =>
        rw [hw2] at h
        simp only [cond_true] at h
        have e : ∀ l : List EV, roArgs H [] l = l := fun l => by cases l <;> rfl
        have e2 : ∀ l : List EV, roDead [] l = [] := fun l => by cases l <;> rfl
        have h' : evCallL ⟨[], true, en.spec⟩ args [] (canI 0 args H) H fun v H2 => keepH H2 H ∧ gd (v.inI []) (K v H) := h
        refine (evCallL_sound (en := ⟨[], true, en.spec⟩) (idx := canI 0 args H) hs hS hG hr (canI_spec _ _ _).1 (by rw [e, e2]; exact h')).mono ?_
        rintro e w' ⟨v, x, H', ρ', he, hK, h1⟩
        obtain ⟨hh, hK⟩ := hK
        unfold keepH at hh
        subst hh
        rw [gd_iff] at hK
        exact ⟨v, x, H', ρ', he, hK.2, h1⟩
      | false =>
      rw [hw2] at h
      simp only [cond_false] at h
      cases hw3 : setRo en.ro with
      | true =>
        rw [hw3] at h
        simp only [cond_true] at h
        split at h
        · rename_i b _
          have e : ∀ l : List EV, roArgs H [] l = l := fun l => by cases l <;> rfl
          have e2 : ∀ l : List EV, roDead [] l = [] := fun l => by cases l <;> rfl
          have h' : evCallL ⟨[], true, en.spec⟩ args [] [b] H fun v H2 => gd (v.inI [] && setNew H H2 b) (K v H2) := h
          refine (evCallL_sound (en := ⟨[], true, en.spec⟩) (idx := [b]) hs hS hG hr (by simp) (by rw [e, e2]; exact h')).mono ?_
          rintro e w' ⟨v, x, H', ρ', he, hK, h1⟩
          rw [gd_iff] at hK
          exact ⟨v, x, H', ρ', he, hK.2, h1⟩
        · exact h.elim
      | false =>
      rw [hw3] at h
      simp only [cond_false] at h
      exact evCallL_sound hs hS hG hr (canI_spec _ _ _).1 h
    | false =>
    rw [hl] at h
    simp only [cond_false] at h
    rw [gd_iff] at h
    obtain ⟨hfree, h⟩ := h
    obtain ⟨k1, k2, k3, k4⟩ := kills_spec args ρ H w hS
    have hrel := roArgs_rel (F := (Ren.kills args ρ).mbs) hS k3 en.ro args xs (by
      intro b off len cap' e hm r hr' hin
      rcases List.mem_append.1 hin with hin | hin
      · rw [k4] at hin; exact hS.sep b r hr' hin
      · exact kills_dead args ρ H w hS b off len cap' e hm r hr' hin) hfree hr
    have hlt : ∀ b, b ∈ (Ren.kills args ρ).mbs → b < w.heap.size := by
      intro b hb'
      rcases List.mem_append.1 hb' with hb' | hb'
      · exact k1.fl b hb'
      · obtain ⟨c, r, g1, g2⟩ := own_mem hb'
        exact g2 ▸ k1.lt c r g1
    refine (hs.plainC h hrel hlt (hG.sub fun b hb => by
      rcases List.mem_append.1 hb with hb | hb
      · exact k3 b hb
      · simp [Ren.own] at hb)).mono ?_
    rintro e w' ⟨v, x, rfl, hK, hv, hE⟩
    rw [cd_iff] at hK
    cases hrs : v.noRS with
    | true =>
      exact ⟨v, x, H, ρ, rfl, hK.1 hrs, hS.quiet hE, hE.quiet, rfl, Rel.ofFree v x (.inl hrs) hv⟩
    | false =>
      refine ⟨v, x, _, _, rfl, hK.2 hrs, k1.quiet hE, k2.trans hE.quiet, k4, Rel.ofFree v x (.inr fun b hb => hb) hv⟩
  · exact h.elim
theorem evCall_sound {ρ : Ren} {w : World} {H : Heap} {fv : EV} {Fv : Value} {args : List EV} {xs : Array Value} {K : EV → Heap → Prop} (hFn : OkFn P E) (hS : Sim ρ H w) (hG : GOk E.gl ρ w)
    (hf : Rel ρ w fv Fv) (hr : RelL ρ w args xs.toList) (h : evCall E fv args H K) :
    ∃ f ys, (do let d ← Deferred.ofValue Fv xs; invoke d.target d.args : Sem Next).run P w = .ok (.enter f ys) w ∧
      Calls P f ys w fun e w' => ∃ v x H' ρ', e = .returned x ∧ K v H' ∧ Sim ρ' H' w' ∧ Ext ρ w ρ' w' ∧ ρ'.F = ρ.F ∧ Rel ρ' w' v x := by
  unfold evCall at h
  split at h
  · rename_i f cap
    simp only [Rel] at hf
    obtain ⟨vs, rfl, hcap⟩ := hf
    obtain ⟨fn, hfn, hb, hn, hc⟩ := evCallF_sound hFn hS hG (hr.append hcap) h
    refine ⟨f, xs ++ vs, ?_, ?_⟩
    · simp only [Deferred.ofValue, run_bind, run_pure, invoke, callFunc, run_program, hfn]
      rw [hn, hb]
      simp only [Bool.false_eq_true, if_false, run_pure]
      simp
    · rw [show (xs ++ vs) = (xs.toList ++ vs.toList).toArray from by simp]
      exact hc
  · rename_i f l
    simp only [Rel] at hf
    obtain ⟨vs, rfl, hcap⟩ := hf
    obtain ⟨fn, hfn, hb, hn, hc⟩ := evCallF_sound hFn hS hG (hcap.append hr) h
    refine ⟨f, vs ++ xs, ?_, ?_⟩
    · simp only [Deferred.ofValue, run_bind, run_pure, invoke, callFunc, run_program, hfn]
      rw [hn, hb]
      simp only [Bool.false_eq_true, if_false, run_pure]
      simp
    · rw [show (vs ++ xs) = (vs.toList ++ xs.toList).toArray from by simp]
      exact hc
  · exact h.elim
end sound
end Go.Ev

/- The evaluator: regions, code, functions; and that it is sound. -/
set_option linter.unusedVariables false
set_option linter.unusedSimpArgs false
namespace Go.Ev
open Go
def RelT (gl : Nat → Option EV) (ρ : Ren) (w : World) (s : List EV) (a : Array Value) : Prop :=
  s.length = a.size ∧ (∀ (i : Nat) v, s[i]? = some v → v = .undef ∨ ∃ x, a[i]? = some x ∧ Rel ρ w v x) ∧ GOk gl ρ w
section sound
variable {P : Program} {E : Env}
theorem RelT.slot {ρ : Ren} {w : World} {s : St} {a : Act} (h : RelT E.gl ρ w s.tmps a.tmps) (t : Nat) : s.slot t = .undef ∨ Rel ρ w (s.slot t) (a.eval (.tmp t)) := by
  unfold St.slot
  cases hs : s.tmps[t]? with
  | none => exact .inl rfl
  | some v =>
    rcases h.2.1 t v hs with rfl | ⟨x, hx, hr⟩
    · exact .inl rfl
    · refine .inr ?_
      simp only [Option.getD_some, Act.eval, Array.getD_eq_getD_getElem?, hx]
      exact hr
theorem constV_rel {ρ : Ren} {w : World} (v : Value) : constV v = .undef ∨ Rel ρ w (constV v) v := by
  unfold constV
  split
  all_goals first
    | exact .inl rfl
    | exact .inr rfl
    | (refine .inr ?_; rename_i s; show Value.string s = .string ⟨s.data.toList.toArray⟩; simp)
theorem opd_rel {ρ : Ren} {w : World} {s : St} {a : Act} (h : RelT E.gl ρ w s.tmps a.tmps) (x : Operand) : (St.opd E s) x = .undef ∨ Rel ρ w ((St.opd E s) x) (a.eval x) := by
  cases x with
  | tmp t => exact h.slot t
  | const v => exact constV_rel v
  | global g =>
    simp only [St.opd]
    cases hg : E.gl g with
    | none => exact .inl rfl
    | some v => exact .inr (h.2.2 g v hg).2.1
  | func f => refine .inr ?_; simp only [St.opd, Rel, Act.eval]; exact ⟨#[], rfl, rfl⟩
theorem opd_ok {ρ : Ren} {w : World} {s : St} {a : Act} (h : RelT E.gl ρ w s.tmps a.tmps) {x : Operand} {v : EV} (he : (St.opd E s) x = v) (hv : v ≠ .undef) : Rel ρ w v (a.eval x) := by
  rcases opd_rel h x with h' | h'
  · exact absurd (he.symm.trans h') hv
  · exact he ▸ h'
theorem nilEq_run {w : World} {op : BinOp} {t : TypeId} {X Y : Value} {b : Bool} {K : EV → Prop} (h1 : ∀ k n, X ≠ .int k n) (h2 : ∀ s, X ≠ .string s) (h3 : ∀ k n, X ≠ .float k n) (h4 : ∀ k n m, X ≠ .complex k n m)
    (he : (Op.equalIn 10000 t X Y).run P w = .ok b w) (h : nilEq op b K) : ∃ v z, K v ∧ (∀ ρ w, Rel ρ w v z) ∧ (binOp op t X Y).run P w = .ok z w := by
  cases op <;> simp only [nilEq] at h
  case eql => exact ⟨_, _, h, fun ρ w => rfl, run_binOp_eql h1 h2 h3 h4 he⟩
  case neq => exact ⟨_, _, h, fun ρ w => rfl, run_binOp_neq h1 h2 h3 h4 he⟩
theorem nilK_of {o : Operand} : (nilK o = 1 → o = .const (.pointer none)) ∧ (nilK o = 2 → o = .const .nilIface) := by
  unfold nilK
  split <;> simp
theorem tdIs_1 {t : TypeId} (hE : ∀ t ti, E.ty t = some ti → OkTI P t ti) (h : tdIs E t 1 = true) : ∃ e, P.underlying t = some (.pointer e) := by
  unfold tdIs at h
  split at h
  · rename_i ti ht
    obtain ⟨d, i, z, h1, h2, h3, _⟩ := hE t ti ht
    split at h
    · exact absurd h (by decide)
    · rename_i htd; rw [htd] at h3; cases d <;> simp only [tdOk] at h3
      exact ⟨_, h1⟩
    · cases h
  · cases h
theorem tdIs_0 {t : TypeId} (hE : ∀ t ti, E.ty t = some ti → OkTI P t ti) (h : tdIs E t 0 = true) : ∃ e, P.underlying t = some (.interface e) := by
  unfold tdIs at h
  split at h
  · rename_i ti ht
    obtain ⟨d, i, z, h1, h2, h3, _⟩ := hE t ti ht
    split at h
    · rename_i htd; rw [htd] at h3; cases d <;> simp only [tdOk] at h3
      exact ⟨_, h1⟩
    · exact absurd h (by decide)
    · cases h
  · cases h
theorem evCmp_sound {ρ : Ren} {w : World} {op : BinOp} {t : TypeId} {x y : EV} {X Y : Value} {H : Heap} {K : EV → Prop} {ox oy : Operand} (hE : ∀ t ti, E.ty t = some ti → OkTI P t ti) (hS : Sim ρ H w)
    (hx : Rel ρ w x X) (hy : Rel ρ w y Y) (hY : ∀ v, oy = .const v → Y = v) (h : evCmp E op t oy x y H K) :
    ∃ v z, K v ∧ (∀ ρ w, Rel ρ w v z) ∧ (do eqGuard op t ox oy X Y; binOp op t X Y : Sem Value).run P w = .ok z w := by
  unfold evCmp at h
  cases h1 : Nat.beq (nilK oy) 1 with
  | true =>
    rw [h1] at h
    simp only [cond_true] at h
    have ho := nilK_of.1 (Nat.eq_of_beq_eq_true h1)
    obtain rfl := hY _ ho
    unfold evPN at h
    split at h
    · cases h2 : tdIs E t 1 with
      | false => rw [h2] at h; exact h.elim
      | true =>
        rw [h2] at h
        obtain ⟨e, hu⟩ := tdIs_1 hE h2
        simp only [Rel] at hx; subst hx
        have hg : (eqGuard op t ox oy (.pointer none) (.pointer none)).run P w = .ok () w := run_eqGuard_of (by simp)
        simp only [run_bind, hg]
        exact nilEq_run (by simp) (by simp) (by simp) (by simp) (by rw [Op.equalIn]; simp only [run_bind, run_underlying hu]; rfl) h
    · cases h2 : tdIs E t 1 with
      | false => rw [h2] at h; exact h.elim
      | true =>
        rw [h2] at h
        simp only [cond_true] at h
        obtain ⟨e, hu⟩ := tdIs_1 hE h2
        rcases evNil_sound (K := fun _ => nilEq op false K) hS hx h with ⟨h3, a, rfl⟩ | ⟨h3, f, fs, vs, rfl⟩ | ⟨h3, t', y', rfl⟩
        · have hg : (eqGuard op t ox oy (.pointer (some a)) (.pointer none)).run P w = .ok () w := run_eqGuard_of (by simp)
          simp only [run_bind, hg]
          exact nilEq_run (by simp) (by simp) (by simp) (by simp) (by rw [Op.equalIn]; simp only [run_bind, run_underlying hu]; rfl) h3
        · simp only [Rel] at hx; obtain ⟨_, hx, _⟩ := hx; cases hx
        · simp only [Rel] at hx; obtain ⟨_, hx, _⟩ := hx; cases hx
    · exact h.elim
  | false =>
    rw [h1] at h
    simp only [cond_false] at h
    cases h2 : Nat.beq (nilK oy) 2 with
    | false => rw [h2] at h; exact evBin_sound hE hx hy h
    | true =>
      rw [h2] at h
      simp only [cond_true] at h
      have ho := nilK_of.2 (Nat.eq_of_beq_eq_true h2)
      obtain rfl := hY _ ho
      unfold evIN at h
      split at h
      · cases h3 : tdIs E t 0 with
        | false => rw [h3] at h; exact h.elim
        | true =>
          rw [h3] at h
          obtain ⟨e, hu⟩ := tdIs_0 hE h3
          simp only [Rel] at hx; subst hx
          have hg : (eqGuard op t ox oy .nilIface .nilIface).run P w = .ok () w := by
            subst ho
            unfold eqGuard
            cases op <;> first | rfl | (cases ox <;> rfl)
          simp only [run_bind, hg]
          exact nilEq_run (by simp) (by simp) (by simp) (by simp) (by rw [Op.equalIn]; simp only [run_bind, run_underlying hu]; rfl) h
      · cases h3 : tdIs E t 0 with
        | false => rw [h3] at h; exact h.elim
        | true =>
          rw [h3] at h
          obtain ⟨e, hu⟩ := tdIs_0 hE h3
          simp only [Rel] at hx; obtain ⟨y', rfl, _⟩ := hx
          have hg : ∀ t' , (eqGuard op t ox oy (.iface t' y') .nilIface).run P w = .ok () w := fun t' => run_eqGuard_of (by simp)
          simp only [run_bind, hg]
          exact nilEq_run (by simp) (by simp) (by simp) (by simp) (by rw [Op.equalIn]; simp only [run_bind, run_underlying hu]; rfl) h
      · exact h.elim
theorem RelT.ext {ρ ρ' : Ren} {w w' : World} {s : List EV} {a : Array Value} (h : RelT E.gl ρ w s a) (he : Ext ρ w ρ' w') : RelT E.gl ρ' w' s a :=
  ⟨h.1, fun i v hv => (h.2.1 i v hv).imp id fun ⟨x, hx, hr⟩ => ⟨x, hx, hr.ext he⟩, h.2.2.ext he⟩
theorem RelT.set {ρ : Ren} {w : World} {s : List EV} {a : Array Value} (h : RelT E.gl ρ w s a) (d : Nat) (v : EV) (x : Value) (hv : v = .undef ∨ Rel ρ w v x) : RelT E.gl ρ w (s.set d v) (a.setIfInBounds d x) := by
  refine ⟨by simp [h.1], fun i u hu => ?_, h.2.2⟩
  by_cases hi : i = d
  · subst hi
    rw [List.getElem?_set] at hu
    simp at hu
    obtain ⟨hlt, rfl⟩ := hu
    refine hv.imp id fun hr => ⟨x, ?_, hr⟩
    rw [Array.getElem?_setIfInBounds_self_of_lt (by rw [← h.1]; exact hlt)]
  · rw [map_some_ne _ _ _ _ hi] at hu
    refine (h.2.1 i u hu).imp id fun ⟨y, hy, hr⟩ => ⟨y, ?_, hr⟩
    rw [Array.getElem?_setIfInBounds_ne (fun e => hi e.symm)]; exact hy
theorem RelT.put {ρ : Ren} {w : World} {s : St} {a : Act} (h : RelT E.gl ρ w s.tmps a.tmps) (d : Option Nat) (v : EV) (x : Value) (H : Heap) (hv : v = .undef ∨ Rel ρ w v x) :
    RelT E.gl ρ w (s.put d v H).tmps (a.put d x).tmps := by
  cases d with
  | none => exact h
  | some d => exact h.set d v x hv
theorem opdL_rel {ρ : Ren} {w : World} {s : St} {a : Act} (h : RelT E.gl ρ w s.tmps a.tmps) : ∀ (xs : List Operand), (∀ v ∈ xs.map (St.opd E s), v ≠ .undef) → RelL ρ w (xs.map (St.opd E s)) (xs.map a.eval)
  | [], _ => rfl
  | x :: xs, hu => by
    simp only [List.map_cons, RelL]
    exact ⟨_, _, rfl, opd_ok h rfl (hu _ (by simp)), opdL_rel h xs fun v hv => hu v (by simp at hv ⊢; exact .inr hv)⟩
theorem freeL_undef : ∀ (l : List EV), EV.freeL l = true → ∀ v ∈ l, v ≠ .undef
  | v :: l, h, u, hu => by
    simp only [EV.freeL, Bool.and_eq_true] at h
    rcases List.mem_cons.1 hu with rfl | hu
    · intro e; subst e; simp [EV.free] at h
    · exact freeL_undef l h.2 u hu
theorem roArgs_undef {H : Heap} : ∀ (ms : List (Option RK)) (vs : List EV), EV.freeL (roArgs H ms vs) = true → ∀ v ∈ vs, v ≠ .undef
  | m :: ms, v :: vs, h, u, hu => by
    simp only [roArgs, EV.freeL, Bool.and_eq_true] at h
    rcases List.mem_cons.1 hu with rfl | hu
    · intro e; subst e
      cases m <;> simp [roArg, EV.free] at h
    · exact roArgs_undef ms vs h.2 u hu
  | [], vs, h, u, hu => by
    cases vs with
    | nil => cases hu
    | cons v vs => exact freeL_undef _ (by simpa [roArgs] using h) u hu
  | _ :: _, [], h, u, hu => by cases hu
theorem roArgs_dfd {H : Heap} : ∀ (ms : List (Option RK)) (vs : List EV), dfdL (roArgs H ms vs) = true → ∀ v ∈ vs, v ≠ .undef
  | m :: ms, v :: vs, h, u, hu => by
    simp only [roArgs, dfdL, Bool.and_eq_true] at h
    rcases List.mem_cons.1 hu with rfl | hu
    · intro e; subst e
      cases m <;> simp [roArg, EV.dfd] at h
    · exact roArgs_dfd ms vs h.2 u hu
  | [], vs, h, u, hu => by
    cases vs with
    | nil => cases hu
    | cons v vs => exact dfdL_ne (by simpa [roArgs] using h) u hu
  | _ :: _, [], h, u, hu => by cases hu
theorem parts_rel {ρ : Ren} {w : World} {s : St} {a : Act} (hT : RelT E.gl ρ w s.tmps a.tmps) {ps : List (Nat × Operand)} (hd : dfdL (ps.map fun p => (St.opd E s) p.2) = true) :
    ∀ (i : Nat) (u : Nat × EV) (y : Nat × Value), (ps.map fun p => (p.1, (St.opd E s) p.2))[i]? = some u → (ps.map fun p => (p.1, a.eval p.2))[i]? = some y → Rel ρ w u.2 y.2 := by
  intro i u y hu hy
  rw [List.getElem?_map] at hu hy
  cases hp : ps[i]? with
  | none => simp [hp] at hu
  | some p =>
    simp [hp] at hu hy
    subst hu; subst hy
    exact opd_ok hT rfl (dfdL_ne hd _ (List.mem_map.2 ⟨p, List.mem_of_getElem? hp, rfl⟩))
theorem evV_sound {ρ : Ren} {w : World} {s : St} {a : Act} {o : Oper} {K : EV → Prop} (hE : ∀ t ti, E.ty t = some ti → OkTI P t ti)
    (hT : RelT E.gl ρ w s.tmps a.tmps) (hS : Sim ρ s.heap w) (h : evV E o.op s K) :
    ∃ v x, K v ∧ (v = .undef ∨ Rel ρ w v x) ∧ (execOp a.eval o).run P w = .ok (.value x) w := by
  obtain ⟨dst, op, ty, pos, after, guard⟩ := o
  simp only at h
  unfold evV at h
  have hv : ∀ (m : Sem Value) (x : Value), m.run P w = .ok x w → ((do pure (.value (← m)) : Sem Next)).run P w = .ok (.value x) w := by
    intro m x hm
    simp only [run_bind, hm, run_pure]
  split at h
  · exact ⟨_, _, h, opd_rel hT _, rfl⟩
  · exact ⟨_, _, h, opd_rel hT _, rfl⟩
  · rename_i c xa xb
    split at h
    · rename_i t ht
      have hc := opd_ok hT ht (by simp)
      simp only [Rel] at hc
      rw [br_iff] at h
      cases t with
      | true => exact ⟨_, _, h.1 rfl, opd_rel hT xa, by simp [execOp, hc, asBool, run_bind, run_pure]⟩
      | false => exact ⟨_, _, h.2 rfl, opd_rel hT xb, by simp [execOp, hc, asBool, run_bind, run_pure]⟩
    · exact h.elim
  · rename_i t ps
    rw [gd_iff] at h
    obtain ⟨hd, h⟩ := h
    obtain ⟨v, z, h1, h2, h3⟩ := evBuild_sound (qs := ps.toList.map fun p => (p.1, a.eval p.2)) hE (by rw [List.map_map, List.map_map]; rfl) (parts_rel hT hd) h
    refine ⟨v, z, h1, .inr h2, ?_⟩
    have : (ps.map fun (p : Nat × Operand) => (p.1, a.eval p.2)) = (ps.toList.map fun p => (p.1, a.eval p.2)).toArray := by
      apply Array.ext'; rw [Array.toList_map]
    have h4 := hv _ _ h3
    rw [← this] at h4
    exact h4
  · rename_i t x
    by_cases hu : (St.opd E s) x = .undef
    · rw [hu] at h; exact h.elim
    · obtain ⟨u, y, h1, h2, h3⟩ := evLoad_sound hE hS (opd_ok hT rfl hu) h
      exact ⟨u, y, h1, .inr h2, hv _ _ h3⟩
  · rename_i op t x y _
    rw [gd_iff, Bool.and_eq_true] at h
    obtain ⟨v, z, h1, h2, h3⟩ := evCmp_sound (ox := x) (oy := y) hE hS (opd_ok hT rfl (dfd_ne h.1.1)) (opd_ok hT rfl (dfd_ne h.1.2)) (fun v hv => by subst hv; rfl) h.2
    exact ⟨v, z, spl_imp h1, .inr (h2 _ _), hv _ _ h3⟩
  · rename_i op _ x
    by_cases hu : (St.opd E s) x = .undef
    · rw [hu] at h; cases op <;> exact h.elim
    · obtain ⟨v, z, h1, h2, h3⟩ := evUn_sound (opd_ok hT rfl hu) h
      exact ⟨v, z, h1, .inr (h2 _ _), hv _ _ h3⟩
  · rename_i src dst x
    rw [gd_iff] at h
    obtain ⟨v, z, h1, h2, h3⟩ := evConv_sound hE hS (opd_ok hT rfl (dfd_ne h.1)) h.2
    exact ⟨v, z, h1, .inr (h2 _ _), hv _ _ h3⟩
  · rename_i t x f
    rw [gd_iff] at h
    obtain ⟨v, z, h1, h2, h3⟩ := evFieldAddr_sound hE hS (opd_ok hT rfl (dfd_ne h.1)) h.2
    exact ⟨v, z, h1, .inr h2, hv _ _ h3⟩
  · rename_i t x f
    rw [gd_iff] at h
    obtain ⟨v, z, h1, h2, h3⟩ := evField_sound hE (opd_ok hT rfl (dfd_ne h.1)) h.2
    exact ⟨v, z, h1, .inr h2, hv _ _ h3⟩
  · rename_i t x i
    rw [gd_iff, Bool.and_eq_true] at h
    obtain ⟨v, z, h1, h2, h3⟩ := evIndexAddr_sound hE hS (opd_ok hT rfl (dfd_ne h.1.1)) (opd_ok hT rfl (dfd_ne h.1.2)) h.2
    exact ⟨v, z, h1, .inr h2, hv _ _ h3⟩
  · rename_i t x i
    rw [gd_iff, Bool.and_eq_true] at h
    obtain ⟨v, z, h1, h2, h3⟩ := evIndex_sound hE (opd_ok hT rfl (dfd_ne h.1.1)) (opd_ok hT rfl (dfd_ne h.1.2)) h.2
    exact ⟨v, z, h1, .inr h2, hv _ _ h3⟩
  · rename_i x i
    by_cases hu : (St.opd E s) x = .undef
    · rw [hu] at h; exact h.elim
    · obtain ⟨v, z, h1, h2, h3⟩ := evExtract_sound (opd_ok hT rfl hu) h
      exact ⟨v, z, h1, .inr h2, hv _ _ h3⟩
  · rename_i f cs
    rw [gd_iff] at h
    refine ⟨_, .func (.func f) #[] (cs.map a.eval), h.2, .inr ?_, by simp [execOp, Instr.makeFunc, run_bind, run_pure]⟩
    simp only [Rel]
    exact ⟨_, rfl, by rw [Array.toList_map]; exact opdL_rel hT _ (dfdL_ne h.1)⟩
  · rename_i t x lo hi mx
    rw [gd_iff] at h
    simp only [Bool.and_eq_true] at h
    obtain ⟨⟨d1, d2, d3, d4⟩, h⟩ := h
    have ho : ∀ (q : Option Operand), dfdO (q.map (St.opd E s)) = true → ORel ρ w (q.map (St.opd E s)) (q.map a.eval) := by
      intro q hq
      cases q with
      | none => trivial
      | some q => exact opd_ok hT rfl (dfd_ne hq)
    obtain ⟨v, z, h1, h2, h3⟩ := evSliceA_sound hE hS (opd_ok hT rfl (dfd_ne d1)) (ho lo d2) (ho hi d3) (ho mx d4) h
    exact ⟨v, z, h1, .inr h2, hv _ _ h3⟩
  · rename_i x t
    rw [gd_iff] at h
    obtain ⟨v, z, h1, h2, h3⟩ := evLen_sound (ty := ty) hE (opd_ok hT rfl (dfd_ne h.1)) h.2
    refine ⟨v, z, h1, .inr (h2 _ _), ?_⟩
    simp only [execOp, resolve, run_bind, run_pure, invoke, builtin]
    have : (⟨[x]⟩ : Array Operand).map a.eval = #[a.eval x] := by simp
    rw [this, h3]
  · rename_i xs ts
    rw [gd_iff] at h
    obtain ⟨v, z, y, ys', h1, h2, h3, h4⟩ := evMM_sound (P := P) (f2 := Builtin.max2) max2_run (opdL_rel hT xs.toList (dfdL_ne h.1)) h.2
    refine ⟨v, z, h1, .inr h2, ?_⟩
    simp only [execOp, resolve, run_bind, run_pure, invoke, builtin]
    have : (Builtin.max_ ts ty (xs.map a.eval)).run P w = .ok z w := by
      simp only [Builtin.max_, Array.toList_map, h3]
      exact h4
    rw [this]
  · rename_i xs ts
    rw [gd_iff] at h
    obtain ⟨v, z, y, ys', h1, h2, h3, h4⟩ := evMM_sound (P := P) (f2 := Builtin.min2) min2_run (opdL_rel hT xs.toList (dfdL_ne h.1)) h.2
    refine ⟨v, z, h1, .inr h2, ?_⟩
    simp only [execOp, resolve, run_bind, run_pure, invoke, builtin]
    have : (Builtin.min_ ts ty (xs.map a.eval)).run P w = .ok z w := by
      simp only [Builtin.min_, Array.toList_map, h3]
      exact h4
    rw [this]
  · rename_i x
    rw [gd_iff] at h
    have hx := opd_ok hT (x := x) rfl (dfd_ne h.1)
    rcases evNil_sound hS hx h.2 with ⟨h1, b, h2⟩ | ⟨h1, f, fs, vs, h2⟩ | ⟨h1, t, y, h2⟩
    · exact ⟨_, a.eval x, h1, .inr hx, by simp only [execOp]; rw [h2]; rfl⟩
    · exact ⟨_, a.eval x, h1, .inr hx, by simp only [execOp]; rw [h2]; rfl⟩
    · exact ⟨_, a.eval x, h1, .inr hx, by simp only [execOp]; rw [h2]; rfl⟩
  · rename_i f fs _
    rw [gd_iff] at h
    refine ⟨_, .func (.func f) (fs.map a.eval) #[], h.2, .inr ?_, by simp [execOp, Instr.makeFunc, run_bind, run_pure]⟩
    simp only [Rel]
    exact ⟨_, rfl, by rw [Array.toList_map]; exact opdL_rel hT _ (dfdL_ne h.1)⟩
  · exact h.elim
theorem evOp_sound {ρ : Ren} {w : World} {s : St} {a : Act} {o : Oper} {K : EV → Heap → Prop} {next : Act → World → Prop} {Q : Exit → Act → World → Prop}
    (hE : ∀ t ti, E.ty t = some ti → OkTI P t ti) (hFn : OkFn P E) (hT : RelT E.gl ρ w s.tmps a.tmps) (hS : Sim ρ s.heap w) (h : evOp E o.op s K)
    (hn : ∀ v H ρ' w' x, K v H → (v = .undef ∨ Rel ρ' w' v x) → Sim ρ' H w' → Ext ρ w ρ' w' → ρ'.F = ρ.F → next (a.put o.dst x) w') : o.wp P a w next Q := by
  obtain ⟨dst, op, ty, pos, after, guard⟩ := o
  simp only at h hn
  unfold evOp at h
  have hv : ∀ (m : Sem Value) (x : Value) (w' : World), m.run P w = .ok x w' → ((do pure (.value (← m)) : Sem Next)).run P w = .ok (.value x) w' := by
    intro m x w' hm
    simp only [run_bind, hm, run_pure]
  split at h
  · rename_i t
    split at h
    · rename_i ti ht
      obtain ⟨d, it, z, h1, h2, h3, h4, h5, h6, h7⟩ := hE t ti ht
      obtain ⟨u, H', ρ', w', y, k1, k2, k3, k4, k5, k6⟩ := evNew_sound (P := P) t hS (encV_rel ti.zero z h7) h
      have hr : (execOp a.eval { dst, op := .alloc t, type := ty, pos, after, guard }).run P w = .ok (.value (.pointer (some y))) w' := by
        refine hv _ _ _ ?_
        simp only [Instr.alloc, run_bind, run_zeroValue h2 h6, k6, run_pure]
      simp only [Oper.wp, hr, Oper.upon]
      exact hn _ _ _ _ _ k1 (.inr k5) k2 k3 k4
    · exact h.elim
  · rename_i t x
    have hx : (St.opd E s) x ≠ .undef := by
      intro e; rw [e] at h; exact h.elim
    have h' : evNew s.heap ((St.opd E s) x) K := by
      revert h
      cases hq : (St.opd E s) x <;> intro h <;> first | exact absurd hq hx | exact h
    obtain ⟨u, H', ρ', w', y, k1, k2, k3, k4, k5, k6⟩ := evNew_sound (P := P) t hS (opd_ok hT rfl hx) h'
    have hr : (execOp a.eval { dst, op := .box t x, type := ty, pos, after, guard }).run P w = .ok (.value (.pointer (some y))) w' := by
      refine hv _ _ _ ?_
      simp only [Instr.box, run_bind, k6, run_pure]
    simp only [Oper.wp, hr, Oper.upon]
    exact hn _ _ _ _ _ k1 (.inr k5) k2 k3 k4
  · rename_i t n ps
    rw [gd_iff] at h
    obtain ⟨hd, h⟩ := h
    obtain ⟨u, H', ρ', w', y, k1, k2, k3, k4, k5, k6⟩ := evBuildSlice_sound (qs := ps.toList.map fun p => (p.1, a.eval p.2)) hE hS (by rw [List.map_map, List.map_map]; rfl) (parts_rel hT hd) h
    have e1 : (ps.map fun (p : Nat × Operand) => (p.1, a.eval p.2)) = (ps.toList.map fun p => (p.1, a.eval p.2)).toArray := by
      apply Array.ext'; rw [Array.toList_map]
    have hr : (execOp a.eval { dst, op := .buildSlice t n ps, type := ty, pos, after, guard }).run P w = .ok (.value y) w' := by
      have h4 := hv _ _ _ k6
      rw [← e1] at h4
      exact h4
    simp only [Oper.wp, hr, Oper.upon]
    exact hn _ _ _ _ _ k1 (.inr k5) k2 k3 k4
  · rename_i t x y
    have hx : (St.opd E s) x ≠ .undef := by
      intro e; rw [e] at h; exact h.elim
    have hy : (St.opd E s) y ≠ .undef := by
      intro e
      rw [e] at h
      revert h
      cases (St.opd E s) x <;> intro h <;> try exact h.elim
      simp only [evStore] at h
      split at h
      · split at h
        · simp [gd, EV.storable] at h
        · exact h.elim
      · exact h.elim
    obtain ⟨H', w', k1, k2, k3, k4⟩ := evStore_sound hE hS (opd_ok hT rfl hx) (opd_ok hT rfl hy) h
    have hr : (execOp a.eval { dst, op := .store t x y, type := ty, pos, after, guard }).run P w = .ok .skip w' := by
      show ((do Instr.storeAt t (a.eval x) (a.eval y); pure .skip : Sem Next)).run P w = _
      simp only [run_bind, k4, run_pure]
    simp only [Oper.wp, hr, Oper.upon]
    exact hn _ _ _ _ undef k1 (.inl rfl) k2 k3 rfl
  · rename_i t ln cp
    rw [gd_iff, Bool.and_eq_true] at h
    obtain ⟨⟨d1, d2⟩, h⟩ := h
    obtain ⟨u, H', ρ', w', y, k1, k2, k3, k4, k5, k6⟩ := evMakeSliceA_sound (P := P) hE hS (opd_ok hT rfl (dfd_ne d1)) (opd_ok hT rfl (dfd_ne d2)) h
    have hr : (execOp a.eval { dst, op := .makeSlice t ln cp, type := ty, pos, after, guard }).run P w = .ok (.value y) w' := hv _ _ _ k6
    simp only [Oper.wp, hr, Oper.upon]
    exact hn _ _ _ _ _ k1 (.inr k5) k2 k3 k4
  · rename_i f xs ts
    have hf : (St.opd E s) f ≠ .undef := by
      intro e; rw [e] at h; exact h.elim
    have hxs : ∀ v ∈ xs.toList.map (St.opd E s), v ≠ .undef := by
      have key : ∀ (g : FuncId) (l : List EV) (K : EV → Heap → Prop), evCallF E g l s.heap K → ∀ v ∈ l, v ≠ .undef := by
        intro g l K h
        unfold evCallF at h
        split at h
        · rename_i en he
          rw [cd_iff] at h
          intro v hv'
          cases hl : en.lend with
          | true =>
            have h' := h.1 hl
            rw [cd_iff] at h'
            cases hw : newRo en.ro with
            | true =>
              have h2 := h'.1 hw
              rw [gd_iff] at h2
              exact freeL_undef _ h2.1 v hv'
            | false =>
            have h' := h'.2 hw
            rw [cd_iff] at h'
            cases hw2 : keepRo en.ro with
            | true =>
              have h2 := h'.1 hw2
              unfold evCallL at h2
              rw [gd_iff, Bool.and_eq_true] at h2
              exact dfdL_ne h2.1.1 v hv'
            | false =>
            have h' := h'.2 hw2
            rw [cd_iff] at h'
            cases hw3 : setRo en.ro with
            | true =>
              have h2 := h'.1 hw3
              split at h2
              · unfold evCallL at h2
                rw [gd_iff, Bool.and_eq_true] at h2
                exact dfdL_ne h2.1.1 v hv'
              · exact h2.elim
            | false =>
            have h' := h'.2 hw3
            unfold evCallL at h'
            rw [gd_iff, Bool.and_eq_true] at h'
            exact roArgs_dfd _ _ h'.1.1 v hv'
          | false =>
            have h' := h.2 hl
            rw [gd_iff] at h'
            exact roArgs_undef _ _ h'.1 v hv'
        · exact h.elim
      revert h
      cases hq : (St.opd E s) f <;> intro h <;> try exact h.elim
      · intro v hv'; exact key _ _ _ h v (List.mem_append.2 (.inl hv'))
      · intro v hv'; exact key _ _ _ h v (List.mem_append.2 (.inr hv'))
    obtain ⟨g, ys, k1, k2⟩ := evCall_sound (xs := xs.map a.eval) hFn hS hT.2.2 (opd_ok hT rfl hf) (by rw [Array.toList_map]; exact opdL_rel hT _ hxs) h
    have hr : (execOp a.eval { dst, op := .call { callee := .value f, args := xs, argTypes := ts }, type := ty, pos, after, guard }).run P w = .ok (.enter g ys) w := k1
    simp only [Oper.wp, hr, Oper.upon]
    refine k2.mono ?_
    rintro e w' ⟨v, x, H', ρ', rfl, q1, q2, q3, q4, q5⟩
    exact hn _ _ _ _ _ q1 (.inr q5) q2 q3 q4
  · rename_i x y t u
    rw [gd_iff, Bool.and_eq_true] at h
    obtain ⟨⟨d1, d2⟩, h⟩ := h
    obtain ⟨u', H', ρ', w', z, k1, k2, k3, k4, k5, k6⟩ := evAppendA_sound (P := P) (ty := ty) hE hS (opd_ok hT rfl (dfd_ne d1)) (opd_ok hT rfl (dfd_ne d2)) h
    have hr : (execOp a.eval { dst, op := .call { callee := .builtin .append, args := ⟨[x, y]⟩, argTypes := ⟨[t, u]⟩ }, type := ty, pos, after, guard }).run P w = .ok (.value z) w' := by
      simp only [execOp, resolve, run_bind, run_pure, invoke, builtin]
      have : (⟨[x, y]⟩ : Array Operand).map a.eval = #[a.eval x, a.eval y] := by simp
      rw [this, k6]
    simp only [Oper.wp, hr, Oper.upon]
    exact hn _ _ _ _ _ k1 (.inr k5) k2 k3 k4
  · rename_i x y t u
    rw [gd_iff, Bool.and_eq_true] at h
    obtain ⟨⟨d1, d2⟩, h⟩ := h
    obtain ⟨u', H', w', z, k1, k2, k3, k4, k5⟩ := evCopy_sound (P := P) (t' := u) (ty := ty) hE hS (opd_ok hT rfl (dfd_ne d1)) (opd_ok hT rfl (dfd_ne d2)) h
    have hr : (execOp a.eval { dst, op := .call { callee := .builtin .copy, args := ⟨[x, y]⟩, argTypes := ⟨[t, u]⟩ }, type := ty, pos, after, guard }).run P w = .ok (.value z) w' := by
      simp only [execOp, resolve, run_bind, run_pure, invoke, builtin]
      have : (⟨[x, y]⟩ : Array Operand).map a.eval = #[a.eval x, a.eval y] := by simp
      rw [this, k5]
    simp only [Oper.wp, hr, Oper.upon]
    exact hn _ _ _ _ _ k1 (.inr k4) k2 k3 rfl
  · obtain ⟨v, x, k1, k2, k3⟩ := evV_sound (o := { dst, op, type := ty, pos, after, guard }) hE hT hS h
    simp only [Oper.wp, k3, Oper.upon]
    exact hn _ _ _ _ _ k1 k2 hS (Ext.refl _ _) rfl
end sound
def evOne (E : Env) (ops : List Oper) (o : Oper) (s : St) (K : St → Prop) : Prop :=
  match o.guard with
  | none => evOp E o.op s fun v H => K (s.put o.dst v H)
  | some (j, want) => match ops[j]? with
    | some oj => match oj.dst with
      | some d => match s.slot d with
        | .bool b => br b
            (cond (beqB true want) (evOp E o.op (s.put (some d) (.bool true) s.heap) fun v H => K ((s.put (some d) (.bool true) s.heap).put o.dst v H)) (K ((s.put (some d) (.bool true) s.heap).put o.dst (.tuple []) s.heap)))
            (cond (beqB false want) (evOp E o.op (s.put (some d) (.bool false) s.heap) fun v H => K ((s.put (some d) (.bool false) s.heap).put o.dst v H)) (K ((s.put (some d) (.bool false) s.heap).put o.dst (.tuple []) s.heap)))
        | .tuple [] => K (s.put o.dst (.tuple []) s.heap)
        | _ => False
      | none => False
    | none => False
def evOps (E : Env) (ops : List Oper) : List Oper → St → (St → Prop) → Prop
  | [], s, K => K s
  | o :: r, s, K => evOne E ops o s fun s' => evOps E ops r s' K
section sound
variable {P : Program} {E : Env}
theorem put_same {s : List EV} {d : Nat} {v : EV} (h : s[d]? = some v) : s.set d v = s := by
  apply List.ext_getElem?
  intro i
  by_cases hi : i = d
  · subst hi
    have hlt : i < s.length := by
      rcases Nat.lt_or_ge i s.length with hh | hh
      · exact hh
      · rw [List.getElem?_eq_none hh] at h; cases h
    rw [List.getElem?_set_self hlt, h]
  · rw [map_some_ne _ _ _ _ hi]
theorem slot_some {s : St} {d : Nat} {v : EV} (h : s.slot d = v) (hv : v ≠ .undef) : s.tmps[d]? = some v := by
  unfold St.slot at h
  cases hs : s.tmps[d]? with
  | none => rw [hs] at h; exact absurd h.symm hv
  | some u => rw [hs] at h; simpa using h
theorem evOp_defer {c : Call} {s : St} {K : EV → Heap → Prop} (h : evOp E (.defer c) s K) : False := by
  unfold evOp evV at h
  exact h
theorem evOne_gen {ρ : Ren} {w : World} {s : St} {a : Act} {ops : Array Oper} {i : Nat} {o : Oper} {K : St → Prop} {next : Act → World → Prop} {Q : Exit → Act → World → Prop}
    (hE : ∀ t ti, E.ty t = some ti → OkTI P t ti) (hFn : OkFn P E) (hi : ops[i]? = some o) (hT : RelT E.gl ρ w s.tmps a.tmps) (hS : Sim ρ s.heap w) (h : evOne E ops.toList o s K)
    (hn : ∀ s' ρ' w' a', K s' → RelT E.gl ρ' w' s'.tmps a'.tmps → a'.defers = a.defers → Sim ρ' s'.heap w' → Ext ρ w ρ' w' → ρ'.F = ρ.F → next a' w') :
    (Region.wanted o (yielded ops a.tmps) = true ∧ (∀ c, o.op ≠ .defer c) ∧ o.wp P a w next Q) ∨ (Region.wanted o (yielded ops a.tmps) = false ∧ next (a.put o.dst undef) w) := by
  have hput : ∀ (x : Value), (a.put o.dst x).defers = a.defers := by intro x; cases o.dst <;> rfl
  have run : ∀ (s1 : St), s1.heap = s.heap → RelT E.gl ρ w s1.tmps a.tmps → (evOp E o.op s1 fun v H => K (s1.put o.dst v H)) → (∀ c, o.op ≠ .defer c) ∧ o.wp P a w next Q := by
    intro s1 hh hT1 h1
    refine ⟨fun c hc => evOp_defer (hc ▸ h1), ?_⟩
    refine evOp_sound hE hFn hT1 (hh ▸ hS) h1 ?_
    intro v H ρ' w' x hK hv hS' hX hF
    refine hn _ _ _ _ hK ((hT1.ext hX).put o.dst v x H hv) (hput x) ?_ hX hF
    cases o.dst <;> exact hS'
  unfold evOne at h
  split at h
  · rename_i hg
    have : Region.wanted o (yielded ops a.tmps) = true := by simp [Region.wanted, hg]
    exact .inl ⟨this, run s rfl hT h⟩
  · rename_i j want hg
    split at h
    · rename_i oj hj
      split at h
      · rename_i d hd
        split at h
        · rename_i b hb
          have hsl := slot_some hb (by simp)
          have hby : yielded ops a.tmps j = some b := by
            rcases hT.2.1 d _ hsl with h' | ⟨x, hx, hr⟩
            · cases h'
            · simp only [Rel] at hr; subst hr
              have hj' : ops[j]? = some oj := by rw [Array.getElem?_toList] at hj; exact hj
              simp [yielded, hj', hd, hx]
          have hw : Region.wanted o (yielded ops a.tmps) = beqB b want := by
            simp only [Region.wanted, hg, hby]
            cases b <;> cases want <;> rfl
          have hset : s.put (some d) (.bool b) s.heap = s := by
            simp only [St.put, put_same hsl]
          rw [br_iff] at h
          have h2 : cond (beqB b want) (evOp E o.op s fun v H => K (s.put o.dst v H)) (K (s.put o.dst (.tuple []) s.heap)) := by
            cases b with
            | true => have := h.1 rfl; rw [hset] at this; exact this
            | false => have := h.2 rfl; rw [hset] at this; exact this
          rw [cd_iff] at h2
          rw [hw]
          cases hbw : beqB b want with
          | true => exact .inl ⟨rfl, run s rfl hT (h2.1 hbw)⟩
          | false =>
            refine .inr ⟨rfl, ?_⟩
            refine hn _ ρ w _ (h2.2 hbw) (hT.put o.dst (.tuple []) undef s.heap (.inr ⟨#[], rfl, rfl⟩)) (hput _) ?_ (Ext.refl _ _) rfl
            cases o.dst <;> exact hS
        · rename_i hb
          have hsl := slot_some hb (by simp)
          have hby : yielded ops a.tmps j = none := by
            rcases hT.2.1 d _ hsl with h' | ⟨x, hx, hr⟩
            · cases h'
            · simp only [Rel, RelL] at hr
              obtain ⟨vs, rfl, hv⟩ := hr
              have hj' : ops[j]? = some oj := by rw [Array.getElem?_toList] at hj; exact hj
              simp [yielded, hj', hd, hx]
          have hw : Region.wanted o (yielded ops a.tmps) = false := by
            simp only [Region.wanted, hg, hby]
            rfl
          rw [hw]
          refine .inr ⟨rfl, ?_⟩
          refine hn _ ρ w _ h (hT.put o.dst (.tuple []) undef s.heap (.inr ⟨#[], rfl, rfl⟩)) (hput _) ?_ (Ext.refl _ _) rfl
          cases o.dst <;> exact hS
        · exact h.elim
      · exact h.elim
    · exact h.elim
theorem evOne_sound {ρ : Ren} {w : World} {s : St} {a : Act} {ops : Array Oper} {i : Nat} {o : Oper} {K : St → Prop} {next : Act → World → Prop} {Q : Exit → Act → World → Prop}
    (hE : ∀ t ti, E.ty t = some ti → OkTI P t ti) (hFn : OkFn P E) (hi : ops[i]? = some o) (hT : RelT E.gl ρ w s.tmps a.tmps) (hS : Sim ρ s.heap w) (h : evOne E ops.toList o s K)
    (hn : ∀ s' ρ' w' a', K s' → RelT E.gl ρ' w' s'.tmps a'.tmps → a'.defers = a.defers → Sim ρ' s'.heap w' → Ext ρ w ρ' w' → ρ'.F = ρ.F → next a' w') : wpOp P ops Q i next a w := by
  unfold wpOp
  simp only [hi]
  rcases evOne_gen (next := next) (Q := Q) hE hFn hi hT hS h hn with ⟨h1, _, h2⟩ | ⟨h1, h2⟩
  · rw [if_pos h1]; exact .inl h2
  · rw [if_neg (by rw [h1]; exact Bool.false_ne_true)]; exact h2
theorem evOps_sound {ops : Array Oper} {Q : Exit → Act → World → Prop} (hE : ∀ t ti, E.ty t = some ti → OkTI P t ti) (hFn : OkFn P E) :
    ∀ (r : List Oper) (i : Nat), ops.toList.drop i = r → ∀ (ρ : Ren) (w : World) (s : St) (a : Act) (K : St → Prop), RelT E.gl ρ w s.tmps a.tmps → Sim ρ s.heap w → evOps E ops.toList r s K →
      (∀ s' ρ' w' a', K s' → RelT E.gl ρ' w' s'.tmps a'.tmps → a'.defers = a.defers → Sim ρ' s'.heap w' → Ext ρ w ρ' w' → ρ'.F = ρ.F → Q .normal a' w') →
      wpOps P ops Q (List.range' i r.length) a w
  | [], i, hd, ρ, w, s, a, K, hT, hS, h, hn => by
    simp only [List.length_nil, List.range'_zero, wpOps]
    exact hn s ρ w a h hT rfl hS (Ext.refl _ _) rfl
  | o :: r, i, hd, ρ, w, s, a, K, hT, hS, h, hn => by
    have hio : ops[i]? = some o := by
      have := congrArg (fun l => l[0]?) hd
      simpa using this
    have hdr : ops.toList.drop (i + 1) = r := by
      rw [← List.drop_drop, hd]; rfl
    rw [List.length_cons, List.range'_succ, wpOps_cons]
    simp only [evOps] at h
    refine evOne_sound hE hFn hio hT hS h ?_
    intro s' ρ' w' a' hK hT' hD hS' hX hF
    refine evOps_sound hE hFn r (i + 1) hdr ρ' w' s' a' K hT' hS' hK ?_
    intro s'' ρ'' w'' a'' hK' hT'' hD' hS'' hX' hF'
    exact hn s'' ρ'' w'' a'' hK' hT'' (hD'.trans hD) hS'' (hX.trans hX') (hF'.trans hF)
end sound
end Go.Ev

/- The evaluator: what it comes to is one thing alone. -/
set_option linter.unusedVariables false
set_option linter.unusedSimpArgs false
namespace Go.Ev
open Go
def Det {α : Type} (T : (α → Prop) → Prop) : Prop := ∀ K, T K → ∃ v, K v ∧ ∀ K', K' v → T K'
def Det2 {α β : Type} (T : (α → β → Prop) → Prop) : Prop := ∀ K, T K → ∃ v u, K v u ∧ ∀ K', K' v u → T K'
theorem Det.mono {α : Type} {T : (α → Prop) → Prop} (h : Det T) {K K' : α → Prop} (hT : T K) (hK : ∀ v, K v → K' v) : T K' := by
  obtain ⟨v, h1, h2⟩ := h K hT
  exact h2 K' (hK v h1)
theorem det_false {α : Type} : Det (fun _ : α → Prop => False) := fun _ h => h.elim
theorem det_pure {α : Type} (v : α) : Det (fun K => K v) := fun K h => ⟨v, h, fun _ h => h⟩
theorem det_gd {α : Type} {c : Bool} {T : (α → Prop) → Prop} (h : Det T) : Det (fun K => gd c (T K)) := by
  cases c
  · exact det_false
  · exact h
theorem det_and {α : Type} {c : Bool} {T : (α → Prop) → Prop} (h : Det T) : Det (fun K => c = true ∧ T K) := by
  intro K hK
  obtain ⟨v, h1, h2⟩ := h K hK.2
  exact ⟨v, h1, fun K' h' => ⟨hK.1, h2 K' h'⟩⟩
theorem det_br {α : Type} {c : Bool} {T U : (α → Prop) → Prop} (h : Det T) (k : Det U) : Det (fun K => br c (T K) (U K)) := by
  cases c
  · exact k
  · exact h
theorem det_cond {α : Type} {c : Bool} {T U : (α → Prop) → Prop} (h : Det T) (k : Det U) : Det (fun K => cond c (T K) (U K)) := by
  cases c
  · exact k
  · exact h
theorem det_bind {α β : Type} {T : (α → Prop) → Prop} {U : α → (β → Prop) → Prop} (h : Det T) (k : ∀ v, Det (U v)) : Det (fun K => T fun v => U v K) := by
  intro K hT
  obtain ⟨v, h1, h2⟩ := h _ hT
  obtain ⟨u, h3, h4⟩ := k v K h1
  exact ⟨u, h3, fun K' hk => h2 _ (h4 K' hk)⟩
theorem det_map {α β : Type} {T : (α → Prop) → Prop} (f : α → β) (h : Det T) : Det (fun K : β → Prop => T fun v => K (f v)) :=
  det_bind h fun v => det_pure (f v)
variable {E : Env}
theorem det_evLoad {t : TypeId} {v : EV} {H : Heap} : Det (evLoad E t v H) := by
  intro K h
  unfold evLoad at h
  split at h
  · rw [gd_iff] at h
    exact ⟨_, h.2, fun K' hk => by simp only [evLoad, gd_iff]; exact ⟨h.1, hk⟩⟩
  · split at h
    · split at h
      · rename_i h1 _ _ h2
        rw [gd_iff] at h
        exact ⟨_, h.2, fun K' hk => by simp only [evLoad, h1, h2, gd_iff]; exact ⟨h.1, hk⟩⟩
      · exact h.elim
    · exact h.elim
  · exact h.elim
theorem det_intBin {op : BinOp} {k : IntKind} {a b : Int} : Det (intBin op k a b) := by
  cases op
  all_goals first
    | exact det_pure _
    | exact det_gd (det_pure _)
theorem det_strBin {op : BinOp} {a b : List UInt8} : Det (strBin op a b) := by
  cases op
  all_goals first
    | exact det_pure _
    | exact det_gd (det_pure _)
    | exact det_false
theorem det_evBin {op : BinOp} {t : TypeId} {x y : EV} : Det (evBin E op t x y) := by
  have hd : Det (fun K : EV → Prop => match op with
    | .eql => match eqT E 100 t x y with
      | some b => K (.bool b)
      | none => False
    | .neq => match eqT E 100 t x y with
      | some b => K (.bool (!b))
      | none => False
    | _ => False) := by
    generalize eqT E 100 t x y = o
    cases op <;> cases o
    all_goals first
      | exact det_false
      | exact det_pure _
  cases x <;> cases y
  case int.int k a k' b =>
    cases op
    all_goals first
      | exact det_gd (det_pure _)
      | exact det_cond det_intBin det_false
  case str.str => exact det_strBin
  all_goals exact hd
theorem det_evUn {op : UnOp} {x : EV} : Det (evUn op x) := by
  cases op <;> cases x
  all_goals first
    | exact det_false
    | exact det_pure _
theorem det_evConv {src dst : TypeId} {x : EV} {H : Heap} : Det (evConv E src dst x H) := by
  unfold evConv
  cases E.ty src with
  | none => exact det_false
  | some si =>
    cases E.ty dst with
    | none => exact det_false
    | some di =>
      obtain ⟨td, _, _, _⟩ := di
      obtain ⟨sd, _, _, _⟩ := si
      cases td
      case int k => cases x <;> first | exact det_false | exact det_pure _
      case str =>
        cases x
        case str => exact det_pure _
        all_goals
          dsimp only
          cases sd
          case slice e =>
            refine det_cond ?_ det_false
            generalize evWin H _ = o
            rcases o with _ | ⟨k, n, g⟩
            · first | exact det_false | exact det_pure _
            · cases k <;> first | exact det_pure _ | exact det_false
          all_goals exact det_false
      all_goals exact det_false
theorem det_pickL {f : Nat → EV → (EV → Prop) → Prop} (hf : ∀ j u, Det (f j u)) : ∀ (l : List EV) (j : Nat) (i : Int), Det (fun K => pickL (fun j u => f j u K) l j i)
  | [], _, _ => det_false
  | u :: l, j, i => det_br (hf j u) (det_pickL hf l (j + 1) i)
theorem det_evIndex {t : TypeId} {x i : EV} : Det (evIndex E t x i) := by
  unfold evIndex
  cases E.ty t with
  | none => exact det_false
  | some ti =>
    cases i
    case int k i =>
      obtain ⟨td, _, _, _⟩ := ti
      cases td <;> cases x
      case array.arr => exact det_cond (det_gd (det_pure _)) det_false
      case array.agg => exact det_cond (det_pickL (fun _ u => det_gd (det_pure u)) _ _ _) det_false
      case array.arrT => exact det_cond (det_gd (det_pure _)) det_false
      case str.str => exact det_gd (det_pure _)
      all_goals exact det_false
    all_goals exact det_false
theorem det_evField {t : TypeId} {x : EV} {f : Nat} : Det (evField E t x f) := by
  unfold evField
  cases E.ty t with
  | none => exact det_false
  | some ti =>
    obtain ⟨td, _, _, _⟩ := ti
    cases td <;> cases x
    case struct.agg fs l =>
      dsimp only
      cases fs[f]? with
      | none => exact det_false
      | some p =>
        obtain ⟨o, ft⟩ := p
        cases l[f]? with
        | none => exact det_false
        | some u => exact det_gd (det_pure _)
    all_goals exact det_false
theorem det_nilEq {op : BinOp} {b : Bool} : Det (nilEq op b) := by
  unfold nilEq
  cases op <;> first | exact det_pure _ | exact det_false
theorem det_evNil {x : EV} {H : Heap} : Det (evNil x H) := by
  unfold evNil
  cases x
  case ptr b p =>
    dsimp only
    cases H[b]? with
    | none => exact det_false
    | some q =>
      cases q with
      | none => exact det_false
      | some c =>
        dsimp only
        cases EV.get p c with
        | none => exact det_false
        | some _ => exact det_pure _
  case rref v => exact det_pure _
  case func f l => exact det_pure _
  case bnd f l => exact det_pure _
  case iface t v => exact det_pure _
  all_goals exact det_false
theorem det_spl {c : Bool} {v : EV} : Det (spl c v) := by
  cases c
  · exact det_pure v
  · cases v
    case int k n => exact det_br (det_pure _) (det_br (det_pure _) det_false)
    all_goals exact det_false
theorem det_evCmp {op : BinOp} {t : TypeId} {o : Operand} {x y : EV} {H : Heap} : Det (evCmp E op t o x y H) := by
  unfold evCmp
  refine det_cond ?_ (det_cond ?_ det_evBin)
  · unfold evPN
    cases x
    case nilPtr => exact det_cond det_nilEq det_false
    case ptr b q => exact det_cond (fun K hK => by
      obtain ⟨v, h1, h2⟩ := det_evNil _ hK
      obtain ⟨u, h3, h4⟩ := det_nilEq _ h1
      exact ⟨u, h3, fun K' hk => h2 _ (h4 _ hk)⟩) det_false
    all_goals exact det_false
  · unfold evIN
    cases x
    case nilIface => exact det_cond det_nilEq det_false
    case iface => exact det_cond det_nilEq det_false
    all_goals exact det_false
theorem det_evFieldAddr {t : TypeId} {x : EV} {f : Nat} {H : Heap} : Det (evFieldAddr E t x f H) := by
  unfold evFieldAddr
  cases E.ty t with
  | none => exact det_false
  | some ti =>
    obtain ⟨td, _, _, _⟩ := ti
    cases td
    case struct fs =>
      dsimp only
      cases fs[f]? with
      | none => exact det_false
      | some p =>
        obtain ⟨o, ft⟩ := p
        dsimp only
        cases E.ty ft with
        | none => exact det_false
        | some fi =>
          cases x
          case ptr b p =>
            dsimp only
            rcases H[b]? with _ | _ | c
            · exact det_false
            · exact det_false
            · dsimp only
              cases EV.get p c with
              | none => exact det_false
              | some u => exact det_gd (det_pure _)
          case rref v =>
            cases v
            case agg l =>
              dsimp only
              cases l[f]? with
              | none => exact det_false
              | some u => exact det_gd (det_pure _)
            all_goals exact det_false
          all_goals exact det_false
    all_goals exact det_false
theorem det_evIndexAddr {t : TypeId} {x i : EV} {H : Heap} : Det (evIndexAddr E t x i H) := by
  unfold evIndexAddr
  cases E.ty t with
  | none => exact det_false
  | some ti =>
    cases i
    case int k i =>
      obtain ⟨td, _, _, _⟩ := ti
      cases td
      case array n e =>
        dsimp only
        cases E.ty e with
        | none => exact det_false
        | some ei =>
          cases x
          case ptr b p =>
            dsimp only
            rcases H[b]? with _ | _ | c
            · exact det_false
            · exact det_false
            · dsimp only
              rcases EV.get p c with _ | u
              · exact det_false
              · cases u
                case arr => exact det_cond (det_gd (det_pure _)) det_false
                case agg => exact det_cond (det_pickL (fun j _ => det_pure (EV.ptr b (p ++ [j]))) _ _ _) det_false
                case arrT => exact det_cond (det_gd (det_pure _)) det_false
                all_goals exact det_false
          case rref u =>
            cases u
            case arr => exact det_cond (det_and (det_pure _)) det_false
            case arrT => exact det_cond (det_gd (det_pure _)) det_false
            all_goals exact det_false
          all_goals exact det_false
      case slice e =>
        dsimp only
        cases E.ty e with
        | none => exact det_false
        | some ei =>
          cases x
          case slice b off len cap es =>
            dsimp only
            rcases H[b]? with _ | _ | c
            · exact det_false
            · exact det_false
            · refine det_gd ?_
              cases c
              case agg => exact det_pickL (fun j _ => det_pure (EV.ptr b [off + j])) _ _ _
              all_goals exact det_pure _
          case rsI => exact det_gd (det_pure _)
          case rsT => exact det_gd (det_pure _)
          all_goals exact det_false
      all_goals exact det_false
    all_goals exact det_false
theorem det_evExtract {x : EV} {i : Nat} : Det (evExtract x i) := by
  cases x
  case tuple l =>
    unfold evExtract
    dsimp only
    cases l[i]? with
    | none => exact det_false
    | some v => exact det_pure _
  all_goals exact det_false
theorem det_evBuild {t : TypeId} {ps : List (Nat × EV)} : Det (evBuild E t ps) := by
  unfold evBuild
  cases E.ty t with
  | none => exact det_false
  | some ti =>
    obtain ⟨td, _, _, z⟩ := ti
    refine det_gd ?_
    cases td
    case struct fs =>
      dsimp only
      generalize evParts _ ps z = o
      cases o with
      | none => exact det_false
      | some v => exact det_gd (det_pure _)
    case array n e =>
      dsimp only
      cases szOf E e with
      | none => exact det_false
      | some n =>
        dsimp only
        generalize evParts _ ps z = o
        cases o with
        | none => exact det_false
        | some v => exact det_pure _
    all_goals exact det_false
theorem det_evLen {t : TypeId} {x : EV} : Det (evLen E t x) := by
  unfold evLen
  cases E.ty t with
  | none => exact det_false
  | some ti =>
    obtain ⟨td, _, _, _⟩ := ti
    cases td <;> cases x
    all_goals first
      | exact det_false
      | exact det_pure _
theorem det_evMM {f : Int → Int → Int} {xs : List EV} : Det (evMM f xs) := by
  unfold evMM
  cases xs with
  | nil => exact det_false
  | cons x r =>
    dsimp only
    cases foldMM f x r with
    | none => exact det_false
    | some v => exact det_pure _
theorem det_evSlice {t : TypeId} {x : EV} {lo hi mx : Option EV} {H : Heap} : Det (evSlice E t x lo hi mx H) := by
  unfold evSlice
  split
  case h_2 => exact det_false
  split
  · split
    · exact det_gd (det_pure _)
    · exact det_false
  · split
    · exact det_gd (det_pure _)
    · exact det_false
  · split
    · exact det_gd (det_pure _)
    · exact det_false
  · split
    · exact det_gd (det_pure _)
    · exact det_false
  · split
    · exact det_gd (det_pure _)
    · exact det_false
  · exact det_false
theorem det_evSliceA {t : TypeId} {x : EV} {lo hi mx : Option EV} {H : Heap} : Det (evSliceA E t x lo hi mx H) := by
  unfold evSliceA
  split
  · unfold evSliceT
    split
    case h_2 => exact det_false
    split
    case h_2 => exact det_false
    split
    · exact det_gd (det_pure _)
    · exact det_false
  · exact det_evSlice
theorem det_evV {o : Op} {s : St} : Det (evV E o s) := by
  unfold evV
  split
  case h_1 => exact det_pure _
  case h_2 => exact det_pure _
  case h_3 c a b =>
    cases (St.opd E s) c
    case bool t => exact det_br (det_pure _) (det_pure _)
    all_goals exact det_false
  case h_4 => exact det_gd det_evBuild
  case h_5 => exact det_evLoad
  case h_6 => exact det_gd (det_bind det_evCmp fun v => det_spl)
  case h_7 => exact det_evUn
  case h_8 => exact det_gd det_evConv
  case h_9 => exact det_gd det_evFieldAddr
  case h_10 => exact det_gd det_evField
  case h_11 => exact det_gd det_evIndexAddr
  case h_12 => exact det_gd det_evIndex
  case h_13 => exact det_evExtract
  case h_14 => exact det_gd (det_pure _)
  case h_15 => exact det_gd det_evSliceA
  case h_16 => exact det_gd det_evLen
  case h_17 => exact det_gd det_evMM
  case h_18 => exact det_gd det_evMM
  case h_19 => exact det_gd det_evNil
  case h_20 => exact det_gd (det_pure _)
  case h_21 => exact det_false
theorem Det2.of {α β : Type} {T : (α → β → Prop) → Prop} (h : Det (fun K : α × β → Prop => T fun a b => K (a, b))) : Det2 T := by
  intro K hT
  obtain ⟨⟨v, u⟩, h1, h2⟩ := h (fun p => K p.1 p.2) hT
  exact ⟨v, u, h1, fun K' hk => h2 (fun p => K' p.1 p.2) hk⟩
theorem Det2.to {α β : Type} {T : (α → β → Prop) → Prop} (h : Det2 T) : Det (fun K : α × β → Prop => T fun a b => K (a, b)) := by
  intro K hT
  obtain ⟨v, u, h1, h2⟩ := h _ hT
  exact ⟨(v, u), h1, fun K' hk => h2 _ hk⟩
theorem Det2.mono {α β : Type} {T : (α → β → Prop) → Prop} (h : Det2 T) {K K' : α → β → Prop} (hT : T K) (hK : ∀ v u, K v u → K' v u) : T K' := by
  obtain ⟨v, u, h1, h2⟩ := h K hT
  exact h2 K' (hK v u h1)
theorem det_evBuildSlice {t : TypeId} {n : Nat} {ps : List (Nat × EV)} {H : Heap} : Det2 (evBuildSlice E t n ps H) := by
  refine Det2.of ?_
  unfold evBuildSlice
  cases E.ty t with
  | none => exact det_false
  | some ti =>
    obtain ⟨td, _, _, _⟩ := ti
    cases td
    case slice e =>
      dsimp only
      cases E.ty e with
      | none => exact det_false
      | some ei =>
        obtain ⟨_, sz, _, z⟩ := ei
        refine det_gd ?_
        cases z
        all_goals
          refine det_gd ?_
          generalize evParts _ ps _ = o
          cases o with
          | none => exact det_false
          | some v => exact det_pure (_, _)
    all_goals exact det_false
theorem det_evStore {t : TypeId} {a v : EV} {H : Heap} : Det (evStore E t a v H) := by
  unfold evStore
  cases a
  case ptr b p =>
    dsimp only
    rcases H[b]? with _ | _ | c
    · exact det_false
    · exact det_false
    · dsimp only
      cases EV.set p c v with
      | none => exact det_false
      | some c' => exact det_gd (det_pure _)
  all_goals exact det_false
theorem det_evMakeSlice {t : TypeId} {l c : EV} {H : Heap} : Det2 (evMakeSlice E t l c H) := by
  refine Det2.of ?_
  unfold evMakeSlice
  split
  case h_2 => exact det_false
  split
  case h_2 => exact det_false
  split
  case h_2 => exact det_false
  split
  case h_2 => exact det_false
  exact det_gd (det_pure (_, _))
theorem det_evCopy {t : TypeId} {d x : EV} {H : Heap} : Det2 (evCopy E t d x H) := by
  refine Det2.of ?_
  unfold evCopy
  split
  case h_2 => exact det_false
  split
  case h_2 => exact det_false
  exact det_gd (det_pure (_, _))
theorem det_evAppend {t t' : TypeId} {s x : EV} {H : Heap} : Det2 (evAppend E t t' s x H) := by
  refine Det2.of ?_
  unfold evAppend
  split
  case h_2 => exact det_false
  split
  case h_2 => exact det_false
  split
  case h_2 => exact det_false
  split
  case h_2 => exact det_false
  refine det_gd ?_
  split
  · exact det_gd (det_br (det_pure (_, _)) (det_pure (_, _)))
  · split
    · exact det_gd (det_pure (_, _))
    · exact det_false
  · exact det_false
theorem det_evMakeSliceA {t : TypeId} {l c : EV} {H : Heap} : Det2 (evMakeSliceA E t l c H) := by
  refine Det2.of ?_
  unfold evMakeSliceA
  refine det_cond det_evMakeSlice.to ?_
  unfold evMakeSliceT
  split
  case h_2 => exact det_false
  split
  case h_2 => exact det_false
  split
  case h_2 => exact det_false
  split
  case h_2 => exact det_false
  exact det_gd (det_pure (_, _))
theorem det_evAppendA {t t' : TypeId} {s x : EV} {H : Heap} : Det2 (evAppendA E t t' s x H) := by
  refine Det2.of ?_
  unfold evAppendA
  refine det_cond det_evAppend.to ?_
  unfold evAppendT
  split
  case h_2 => exact det_false
  split
  case h_2 => exact det_false
  split
  case h_2 => exact det_false
  split
  case h_2 => exact det_false
  split
  case h_2 => exact det_false
  refine det_gd ?_
  split
  · exact det_gd (det_br (det_pure (_, _)) (det_pure (_, _)))
  · split
    · exact det_gd (det_pure (_, _))
    · exact det_false
  · exact det_false
def DetFn (E : Env) : Prop := ∀ f en, E.fn f = some en → ∀ args H, Det2 (en.spec args H)
theorem det_evCallL {en : Entry} (hD : ∀ args H, Det2 (en.spec args H)) {args : List EV} {dead idx : List Nat} {H : Heap} : Det2 (evCallL en args dead idx H) := by
  refine Det2.of ?_
  unfold evCallL
  refine det_gd ?_
  intro K hK
  obtain ⟨v, u, h1, h2⟩ := hD _ _ _ hK
  rw [gd_iff] at h1
  refine ⟨_, h1.2, fun K' hk => h2 _ ?_⟩
  rw [gd_iff]
  exact ⟨h1.1, hk⟩
theorem det_evCallF (hD : DetFn E) {f : FuncId} {args : List EV} {H : Heap} : Det2 (evCallF E f args H) := by
    refine Det2.of ?_
    unfold evCallF
    cases he : E.fn f with
    | none => exact det_false
    | some en =>
      refine det_cond ?_ ?_
      · refine det_cond (det_gd ?_) (det_cond ?_ (det_cond ?_ (det_evCallL (hD f en he)).to))
        · intro K hK
          obtain ⟨v, u, h1, h2⟩ := det_evCallL (hD f en he) _ hK
          rw [gd_iff] at h1
          exact ⟨(v, u), h1.2, fun K' hk => h2 _ ((gd_iff _ _).2 ⟨h1.1, hk⟩)⟩
        · intro K hK
          obtain ⟨v, u, h1, h2⟩ := det_evCallL (hD f en he) _ hK
          rw [gd_iff] at h1
          refine ⟨(v, H), h1.2.2, fun K' hk => h2 _ ⟨h1.1, ?_⟩⟩
          rw [gd_iff]
          exact ⟨h1.2.1, hk⟩
        · cases hsa : setArg args H with
          | none => exact det_false
          | some b =>
            intro K hK
            obtain ⟨v, u, h1, h2⟩ := det_evCallL (hD f en he) _ hK
            rw [gd_iff] at h1
            exact ⟨(v, u), h1.2, fun K' hk => h2 _ ((gd_iff _ _).2 ⟨h1.1, hk⟩)⟩
      · refine det_gd ?_
        intro K hK
        obtain ⟨v, u, h1, h2⟩ := hD f en he _ _ _ hK
        rw [gd_iff] at h1
        cases hv : v.noRS with
        | true =>
          rw [hv] at h1
          refine ⟨_, h1.2, fun K' hk => h2 _ ?_⟩
          rw [gd_iff, hv]
          exact ⟨h1.1, hk⟩
        | false =>
          rw [hv] at h1
          refine ⟨_, h1.2, fun K' hk => h2 _ ?_⟩
          rw [gd_iff, hv]
          exact ⟨h1.1, hk⟩
theorem det_evCall (hD : DetFn E) {f : EV} {args : List EV} {H : Heap} : Det2 (evCall E f args H) := by
  refine Det2.of ?_
  unfold evCall
  cases f
  case func f cap => exact (det_evCallF hD).to
  case bnd f l => exact (det_evCallF hD).to
  all_goals exact det_false
theorem det_evOp (hD : DetFn E) {o : Op} {s : St} : Det2 (evOp E o s) := by
  refine Det2.of ?_
  unfold evOp
  split
  · cases E.ty _ with
    | none => exact det_false
    | some ti => exact det_pure (_, _)
  · cases (St.opd E s) _
    case undef => exact det_false
    all_goals exact det_pure (_, _)
  · exact det_gd det_evBuildSlice.to
  · exact det_map (fun H => (EV.undef, H)) det_evStore
  · exact det_gd det_evMakeSliceA.to
  · exact (det_evCall hD).to
  · exact det_gd det_evAppendA.to
  · exact det_gd det_evCopy.to
  · exact det_map (fun v => (v, s.heap)) det_evV
theorem det_evOne (hD : DetFn E) {ops : List Oper} {o : Oper} {s : St} : Det (evOne E ops o s) := by
  unfold evOne
  cases o.guard with
  | none => exact det_map (fun p : EV × Heap => s.put o.dst p.1 p.2) (det_evOp hD).to
  | some g =>
    obtain ⟨j, want⟩ := g
    dsimp only
    cases ops[j]? with
    | none => exact det_false
    | some oj =>
      dsimp only
      cases oj.dst with
      | none => exact det_false
      | some d =>
        dsimp only
        cases s.slot d
        case bool b =>
          exact det_br (det_cond (det_map (fun p : EV × Heap => (s.put (some d) (.bool true) s.heap).put o.dst p.1 p.2) (det_evOp hD).to) (det_pure _))
            (det_cond (det_map (fun p : EV × Heap => (s.put (some d) (.bool false) s.heap).put o.dst p.1 p.2) (det_evOp hD).to) (det_pure _))
        case tuple l =>
          cases l with
          | nil => exact det_pure _
          | cons _ _ => exact det_false
        all_goals exact det_false
theorem det_evOps (hD : DetFn E) {ops : List Oper} : ∀ (r : List Oper) (s : St), Det (evOps E ops r s)
  | [], s => det_pure s
  | o :: r, s => by
    show Det (fun K => evOne E ops o s fun s' => evOps E ops r s' K)
    exact det_bind (det_evOne hD) fun s' => det_evOps hD r s'
end Go.Ev
