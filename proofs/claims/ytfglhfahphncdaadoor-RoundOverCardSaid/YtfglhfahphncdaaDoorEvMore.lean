/- The evaluator: parts of slices, new slices, append, copy. -/
import Derived.Test.YtfglhfahphncdaaDoorEvSlice
import Derived.Laws.Append
import Derived.Laws.Strings2
set_option linter.unusedVariables false
set_option linter.unusedSimpArgs false
namespace Go.Ev
open Go

theorem bltI {a b : Nat} : Nat.blt a b = true ↔ a < b := by rw [Nat.blt_eq]
theorem bleI {a b : Nat} : Nat.ble a b = true ↔ a ≤ b := by rw [Nat.ble_eq]

def oInt (d : Nat) : Option EV → Option Int
  | none => some d
  | some (.int _ i) => some i
  | some _ => none
def capN (len : Nat) : Option Nat → Nat
  | some c => c
  | none => len
def capSub (l : Nat) : Option Nat → Option Nat
  | some c => some (c - l)
  | none => none
def leN (a b : Nat) : Bool := Nat.ble a b
def isZ (a : Nat) : Bool := Nat.beq a 0
def minN (a b : Nat) : Nat := Nat.min a b
/-- One row behind another. -/
def app (n : Nat) (g h : Nat → Int) : Nat → Int := fun i => cond (Nat.blt i n) (g i) (h (i - n))
/-- One row over another, from a place on. -/
def ovl (o n : Nat) (h g : Nat → Int) : Nat → Int := fun i => cond (Nat.ble o i && Nat.blt i (o + n)) (h (i - o)) (g i)

def evSlice (E : Env) (t : TypeId) (x : EV) (lo hi mx : Option EV) (H : Heap) (K : EV → Prop) : Prop :=
  match mx, E.ty t with
  | none, some ti => match ti.td, x with
    | .str, .str s => match oInt 0 lo, oInt s.length hi with
      | some l, some h => gd (leI 0 l && (leI l h && leI h s.length)) (K (.str (subS s l.toNat h.toNat)))
      | _, _ => False
    | .slice e, .slice b off len cap es => match oInt 0 lo, oInt len hi, H[b]? with
      | some l, some h, some (some _) => gd (sizeIs E e es && (leI 0 l && (leI l h && leI h (capN len cap)))) (K (.slice b (addOff off l.toNat) (h.toNat - l.toNat) (capSub l.toNat cap) es))
      | _, _, _ => False
    | .slice e, .rsI k n g => match oInt 0 lo, oInt n hi with
      | some l, some h => gd (sizeIs E e 1 && (leI 0 l && (leI l h && leI h n))) (K (.rsI k (h.toNat - l.toNat) (shift l.toNat g)))
      | _, _ => False
    | .slice e, .nilSlice => match oInt 0 lo, oInt 0 hi with
      | some l, some h => gd (sizeIs E e 1 && (eqI l 0 && eqI h 0)) (K .nilSlice)
      | _, _ => False
    | .array na e, .ptr b [] => match oInt 0 lo, oInt na hi, H[b]? with
      | some l, some h, some (some (.arr k n g)) => gd (sizeIs E e 1 && (Nat.beq na n && (leI 0 l && (leI l h && leI h n)))) (K (.slice b l.toNat (h.toNat - l.toNat) (some (n - l.toNat)) 1))
      | _, _, _ => False
    | _, _ => False
  | _, _ => False

def evMakeSlice (E : Env) (t : TypeId) (ln cp : EV) (H : Heap) (K : EV → Heap → Prop) : Prop :=
  match E.ty t, ln, cp with
  | some ti, .int _ l, .int _ c => match ti.td with
    | .slice e => match E.ty e with
      | some ei => match ei.zero with
        | .int k z => gd (Nat.beq ei.size 1 && (Nat.ble ei.bytes 256 && (leI 0 l && (leI l c && leI c 1099511627776))))
            (K (.slice H.length 0 l.toNat (some c.toNat) 1) (H ++ [some (.arr k c.toNat (fun _ => z))]))
        | _ => False
      | none => False
    | _ => False
  | _, _, _ => False

def evCopy (E : Env) (t : TypeId) (d x : EV) (H : Heap) (K : EV → Heap → Prop) : Prop :=
  match E.ty t, d with
  | some ti, .slice b off len cap 1 => match ti.td, H[b]?, evWin H x with
    | .slice e, some (some (.arr k n g)), some (k', m, h) => gd (sizeIs E e 1 && decide (k = k')) (K (.int .i64 (minN m len)) (H.set b (some (.arr k n (ovl off (minN m len) h g)))))
    | _, _, _ => False
  | _, _ => False

def evAppend (E : Env) (t t' : TypeId) (s x : EV) (H : Heap) (K : EV → Heap → Prop) : Prop :=
  match E.ty t, E.ty t' with
  | some ti, some ti' => match ti.td, ti'.td, evWin H x with
    | .slice e, .slice _, some (k, m, h) => match E.ty e with
      | some ei => match ei.zero with
        | .int k0 z => gd (Nat.beq t t' && (Nat.beq ei.size 1 && Nat.ble ei.bytes 64)) (match s with
          | .nilSlice => gd (leN m 1099511627776) (br (isZ m) (K .nilSlice H) (K (.slice H.length 0 m none 1) (H ++ [some (.arr k m h)])))
          | .slice b off len cap 1 => match H[b]? with
            | some (some (.arr k' n g)) => gd (decide (k' = k) && leN (len + m) 1099511627776) (K (.slice H.length 0 (len + m) none 1) (H.set b none ++ [some (.arr k (len + m) (app len (shift off g) h))]))
            | _ => False
          | _ => False)
        | _ => False
      | none => False
    | _, _, _ => False
  | _, _ => False

def ORel (ρ : Ren) (w : World) : Option EV → Option Value → Prop
  | none, none => True
  | some v, some x => Rel ρ w v x
  | _, _ => False

section sound
variable {P : Program} {E : Env}

theorem run_bound {k : IntKind} {i : Int} {y : Nat} {c : BoundsCode} {w : World} (h0 : 0 ≤ i) (h1 : i ≤ y) : (Instr.sliceBound (.int k i) y c).run P w = .ok i.toNat w := by
  simp only [Instr.sliceBound, run_bind, asIntOf, run_pure]
  rw [if_pos ⟨h0, h1⟩]
  rfl

theorem run_bounds {ρ : Ren} {w : World} {is : Bool} {len cap : Nat} {lo hi : Option EV} {Lo Hi : Option Value} (hlo : ORel ρ w lo Lo) (hhi : ORel ρ w hi Hi) {l h : Int}
    (h1 : oInt 0 lo = some l) (h2 : oInt len hi = some h) (h0 : 0 ≤ l) (h3 : l ≤ h) (h4 : h ≤ cap) : (Instr.sliceBounds is len cap Lo Hi none).run P w = .ok (l.toNat, h.toNat, cap) w := by
  have elo : (lo = none ∧ Lo = none ∧ l = 0) ∨ ∃ k, Lo = some (.int k l) := by
    cases lo with
    | none =>
      cases Lo with
      | none => simp only [oInt, Option.some.injEq] at h1; exact .inl ⟨rfl, rfl, h1.symm⟩
      | some X => exact hlo.elim
    | some v =>
      cases Lo with
      | none => exact hlo.elim
      | some X =>
        cases v <;> simp only [oInt] at h1 <;> try (cases h1)
        simp only [ORel, Rel] at hlo; subst hlo
        exact .inr ⟨_, rfl⟩
  have ehi : (hi = none ∧ Hi = none ∧ h = len) ∨ ∃ k, Hi = some (.int k h) := by
    cases hi with
    | none =>
      cases Hi with
      | none => simp only [oInt, Option.some.injEq] at h2; exact .inl ⟨rfl, rfl, h2.symm⟩
      | some X => exact hhi.elim
    | some v =>
      cases Hi with
      | none => exact hhi.elim
      | some X =>
        cases v <;> simp only [oInt] at h2 <;> try (cases h2)
        simp only [ORel, Rel] at hhi; subst hhi
        exact .inr ⟨_, rfl⟩
  rcases ehi with ⟨_, rfl, rfl⟩ | ⟨kh, rfl⟩
  · rcases elo with ⟨_, rfl, rfl⟩ | ⟨kl, rfl⟩
    · simp [Instr.sliceBounds, run_bind, run_pure]
    · simp [Instr.sliceBounds, run_bind, run_pure, run_bound (P := P) (w := w) h0 h3]
  · have hb : ∀ c, (Instr.sliceBound (.int kh h) cap c).run P w = .ok h.toNat w := fun c => run_bound (by omega) h4
    rcases elo with ⟨_, rfl, rfl⟩ | ⟨kl, rfl⟩
    · simp [Instr.sliceBounds, run_bind, run_pure, hb]
    · have hl : ∀ c, (Instr.sliceBound (.int kl l) h.toNat c).run P w = .ok l.toNat w := fun c => run_bound h0 (by omega)
      simp [Instr.sliceBounds, run_bind, run_pure, hb, hl]

theorem sizeIs_run {e : TypeId} {n : Nat} (hE : ∀ t ti, E.ty t = some ti → OkTI P t ti) (h : sizeIs E e n = true) (w : World) : (sizeOf e).run P w = .ok n w := by
  unfold sizeIs at h
  split at h
  · rename_i ti ht
    obtain ⟨d, it, z, h1, h2, h3, h4, _⟩ := hE e ti ht
    rw [run_sizeOf h2, h4, Nat.eq_of_beq_eq_true h]
  · cases h

theorem evSlice_sound {ρ : Ren} {w : World} {t : TypeId} {x : EV} {X : Value} {lo hi mx : Option EV} {Lo Hi Mx : Option Value} {H : Heap} {K : EV → Prop} (hE : ∀ t ti, E.ty t = some ti → OkTI P t ti) (hS : Sim ρ H w)
    (hx : Rel ρ w x X) (hlo : ORel ρ w lo Lo) (hhi : ORel ρ w hi Hi) (hmx : ORel ρ w mx Mx) (h : evSlice E t x lo hi mx H K) :
    ∃ v z, K v ∧ Rel ρ w v z ∧ (Instr.sliceAt t X Lo Hi Mx).run P w = .ok z w := by
  unfold evSlice at h
  split at h
  case h_2 => exact h.elim
  rename_i ti ht
  have hM : Mx = none := by cases Mx with | none => rfl | some _ => exact hmx.elim
  subst hM
  obtain ⟨d, it, zt, h1, h2, h3, h4, h5, h6, h7⟩ := hE t ti ht
  split at h
  · rename_i s htd
    rw [htd] at h3; cases d <;> simp only [tdOk] at h3
    simp only [Rel] at hx; subst hx
    split at h
    case h_2 => exact h.elim
    rename_i l hh e1 e2
    rw [gd_iff] at h
    simp only [Bool.and_eq_true, leI, decide_eq_true_eq] at h
    obtain ⟨⟨g1, g2, g3⟩, hK⟩ := h
    refine ⟨_, _, hK, rfl, ?_⟩
    have hb := run_bounds (P := P) (is := false) (cap := s.length) hlo hhi e1 e2 g1 g2 g3
    simp only [Instr.sliceAt, Instr.slice, run_bind, run_underlying h1, size_mk, hb]
    simp only [Option.isSome_none, Bool.false_eq_true, if_false, run_bind, run_pure, hb]
    rw [ByteArray.extract_mk]
    congr 3
    simp only [subS]
    rw [List.drop_take]
  · rename_i e b off len cap es htd
    rw [htd] at h3; cases d <;> simp only [tdOk] at h3
    subst h3
    split at h
    case h_2 => exact h.elim
    rename_i l hh vb e1 e2 hvb
    rw [gd_iff] at h
    simp only [Bool.and_eq_true, leI, decide_eq_true_eq] at h
    obtain ⟨⟨g0, g1, g2, g3⟩, hK⟩ := h
    obtain ⟨i, hib, _⟩ := hS.live b vb hvb
    simp only [Rel] at hx
    obtain ⟨a, c, rfl, r, hr, hi'⟩ := hx
    rw [hib] at hr; cases hr
    obtain ⟨n, q1, q2, q3, q4, q5⟩ := hi' i rfl
    have hcn : hh ≤ c ∧ off + hh.toNat ≤ n := by
      cases cap with
      | none => simp only [capN] at g3; omega
      | some c0 => simp only [capN] at g3; have := q4 c0 rfl; omega
    have hb := run_bounds (P := P) (is := true) (cap := c) hlo hhi e1 e2 g1 g2 hcn.1
    refine ⟨_, .slice (if c = l.toNat then a else a.map (·.add (l.toNat * es))) (hh.toNat - l.toNat) (c - l.toNat), hK, ?_, ?_⟩
    · simp only [Rel, addOff_eq]
      refine ⟨_, _, rfl, _, hib, fun i' hi'' => ?_⟩
      cases hi''
      refine ⟨n, q1, by omega, by omega, ?_, ?_⟩
      · intro c1 hc1
        cases cap with
        | none => cases hc1
        | some c0 =>
          have := q4 c0 rfl
          simp only [capSub, Option.some.injEq] at hc1
          omega
      · rcases q5 with ⟨rfl, q6⟩ | q5
        · by_cases hc : c = l.toNat
          · right; omega
          · left
            rw [if_neg hc]
            refine ⟨by simp [add_addr, Nat.add_mul, Nat.add_assoc], ?_⟩
            obtain ⟨t', cs, fz, q7, q8⟩ := q6
            refine ⟨t', cs, fz, q7, ?_⟩
            rw [show off + l.toNat + (c - l.toNat) = off + c from by omega]
            exact q8
        · right; omega
    · simp only [Instr.sliceAt, Instr.slice, run_bind, run_underlying h1, hb, sizeIs_run hE g0, run_pure]
  · rename_i e k n g htd
    rw [htd] at h3; cases d <;> simp only [tdOk] at h3
    subst h3
    split at h
    case h_2 => exact h.elim
    rename_i l hh e1 e2
    rw [gd_iff] at h
    simp only [Bool.and_eq_true, leI, decide_eq_true_eq] at h
    obtain ⟨⟨g0, g1, g2, g3⟩, hK⟩ := h
    simp only [Rel] at hx
    obtain ⟨a, c, rfl, hnc, hc⟩ := hx
    have hb := run_bounds (P := P) (is := true) (cap := c) hlo hhi e1 e2 g1 g2 (by omega)
    refine ⟨_, .slice (if c = l.toNat then a else a.map (·.add (l.toNat * 1))) (hh.toNat - l.toNat) (c - l.toNat), hK, ?_, ?_⟩
    · simp only [Rel]
      refine ⟨_, _, rfl, by omega, ?_⟩
      by_cases hz : hh.toNat - l.toNat = 0
      · exact .inl hz
      · right
        rcases hc with hc | ⟨b, o, rfl, k1, k2, k3⟩
        · omega
        · rw [if_neg (by omega)]
          refine ⟨b, o + l.toNat, by simp [add_addr], k1, k2, ?_⟩
          intro i hi
          simp only [ints_length] at hi
          have := k3 (l.toNat + i) (by rw [ints_length]; omega)
          rw [Nat.add_assoc, this, ints_get _ _ _ _ (by omega), ints_get _ _ _ _ hi, shift_apply]
    · simp only [Instr.sliceAt, Instr.slice, run_bind, run_underlying h1, hb, sizeIs_run hE g0, run_pure]
  · rename_i e htd
    rw [htd] at h3; cases d <;> simp only [tdOk] at h3
    subst h3
    split at h
    case h_2 => exact h.elim
    rename_i l hh e1 e2
    rw [gd_iff] at h
    simp only [Bool.and_eq_true, eqI, beq_iff_eq] at h
    obtain ⟨⟨g0, rfl, rfl⟩, hK⟩ := h
    simp only [Rel] at hx; subst hx
    have hb := run_bounds (P := P) (is := true) (cap := 0) hlo hhi e1 e2 (by omega) (by omega) (by omega)
    refine ⟨_, _, hK, rfl, ?_⟩
    simp only [Instr.sliceAt, Instr.slice, run_bind, run_underlying h1, hb, sizeIs_run hE g0, run_pure]
    rfl
  · rename_i na e b htd
    rw [htd] at h3; cases d <;> simp only [tdOk] at h3
    rename_i N ea
    obtain ⟨e3, e4, _⟩ := h3
    subst e3; subst e4
    split at h
    case h_2 => exact h.elim
    rename_i l hh k n g e1 e2 hvb
    rw [gd_iff] at h
    simp only [Bool.and_eq_true, leI, decide_eq_true_eq, Nat.beq_eq] at h
    obtain ⟨⟨g0, rfl, g1, g2, g3⟩, hK⟩ := h
    obtain ⟨i, hib, hsh, cs, e, fz, x, q1, q2, q3, q4, q5⟩ := hS.live b _ hvb
    simp only [Rel] at q3; subst q3
    simp only [cells_agg, ints_length] at q4
    simp only [Rel] at hx
    obtain ⟨a, rfl, r, hr, hi'⟩ := hx
    rw [hib] at hr; cases hr
    obtain ⟨o, ho, rfl⟩ := hi' i rfl
    simp only [Shape.off, Option.some.injEq] at ho
    subst ho
    have hb := run_bounds (P := P) (is := false) (len := N) (cap := N) hlo hhi e1 e2 g1 g2 g3
    refine ⟨_, (.slice (some (if N = l.toNat then ⟨i.mb, i.base + 0, none⟩ else (⟨i.mb, i.base + 0, none⟩ : Addr).add (l.toNat * 1))) (hh.toNat - l.toNat) (N - l.toNat)), hK, ?_, ?_⟩
    rotate_left
    · simp only [Instr.sliceAt, run_bind, run_underlying h1, Instr.sureAddr, run_pure, hb, sizeIs_run hE g0]
    · simp only [Rel]
      refine ⟨_, _, rfl, _, hib, fun i' hi'' => ?_⟩
      cases hi''
      refine ⟨N, .inl ⟨hsh.symm, rfl⟩, by omega, by omega, fun c0 hc => by cases hc; omega, ?_⟩
      split
      · rename_i hq
        right; omega
      · left
        exact ⟨by simp [add_addr], e, cs, fz, q1, by omega⟩
  · exact h.elim

theorem made_ints (k : IntKind) (z : Int) (n : Nat) : madeCells (Value.int k z).cells n = (ints k n fun _ => z).toArray := by
  apply Array.ext'
  rw [← row_ints]
  simp [madeCells, Value.cells]

theorem evMakeSlice_sound {ρ : Ren} {w : World} {t : TypeId} {ln cp : EV} {Ln Cp : Value} {H : Heap} {K : EV → Heap → Prop} (hE : ∀ t ti, E.ty t = some ti → OkTI P t ti)
    (hS : Sim ρ H w) (hl : Rel ρ w ln Ln) (hc : Rel ρ w cp Cp) (h : evMakeSlice E t ln cp H K) :
    ∃ v H' ρ' w' z, K v H' ∧ Sim ρ' H' w' ∧ Ext ρ w ρ' w' ∧ ρ'.F = ρ.F ∧ Rel ρ' w' v z ∧ (Instr.makeSlice t Ln Cp).run P w = .ok z w' := by
  unfold evMakeSlice at h
  split at h
  case h_2 => exact h.elim
  rename_i ti kl l kc c ht
  obtain ⟨d, it, zt, h1, h2, h3, h4, h5, h6, h7⟩ := hE t ti ht
  simp only [Rel] at hl hc; subst hl; subst hc
  split at h
  case h_2 => exact h.elim
  rename_i e htd
  rw [htd] at h3; cases d <;> simp only [tdOk] at h3
  subst h3
  rename_i e
  split at h
  case h_2 => exact h.elim
  rename_i ei he
  obtain ⟨de, ie, ze, e1, e2, e3, e4, e5, e6, e7⟩ := hE e ei he
  split at h
  case h_2 => exact h.elim
  rename_i k z hzk
  rw [gd_iff] at h
  simp only [Bool.and_eq_true, leI, decide_eq_true_eq, Nat.beq_eq, Nat.ble_eq] at h
  obtain ⟨⟨g1, g2, g3, g4, g5⟩, hK⟩ := h
  rw [hzk] at e7
  simp only [encV, Option.some.injEq] at e7
  subst e7
  have hby : (ie.bytes : Int) * c ≤ 281474976710656 := by
    rw [e5]
    have h8 : (ei.bytes : Int) * c ≤ 256 * c := Int.mul_le_mul_of_nonneg_right (by omega) (by omega)
    omega
  have hrun := run_make (P := P) w t e ie _ h1 e2 e6 kl kc l c g3 g4 hby (by omega)
  rw [e4, g1, Nat.mul_one, made_ints] at hrun
  have hv : Rel ρ w (.arr k c.toNat fun _ => z) (.agg (ints k c.toNat fun _ => z).toArray) := rfl
  obtain ⟨ρ', rfl, hS', hE'⟩ := hS.new _ _ e hv
  rw [cells_agg] at hS' hE'
  refine ⟨_, _, _, _, _, hK, hS', hE', rfl, ?_, hrun⟩
  simp only [Rel]
  refine ⟨_, _, rfl, _, by rw [List.getElem?_append_right (by rw [hS.len]; exact Nat.le_refl _), hS.len, Nat.sub_self]; rfl, fun i hi => ?_⟩
  cases hi
  refine ⟨c.toNat, .inl ⟨rfl, rfl⟩, by omega, by omega, fun c0 hc => by cases hc; exact ⟨rfl, by omega⟩, .inl ⟨by simp, e, _, (0, 0), by rw [alloc_heap, if_pos rfl], by simp [ints_length]⟩⟩

theorem run_lenOf_win {ρ : Ren} {w : World} {H : Heap} {x : EV} {X : Value} {k : IntKind} {n : Nat} {g : Nat → Int} (hS : Sim ρ H w) (hx : Rel ρ w x X) (h : evWin H x = some (k, n, g)) :
    ∃ a c, X = .slice a n c ∧ (Builtin.lenOf X).run P w = .ok n w ∧ ∀ m, m ≤ n → (Builtin.firstCells 1 m X).run P w = .ok (ints k m g).toArray w := by
  obtain ⟨a, c, rfl, _, h2⟩ := hS.win hx h
  refine ⟨a, c, rfl, rfl, fun m hm => ?_⟩
  rcases h2 with rfl | ⟨b, o, rfl, h3⟩
  · have : m = 0 := by omega
    subst this
    cases a with
    | none => simp [Builtin.firstCells, run_pure, ints]
    | some a => simp [Builtin.firstCells, loadCells, loadCellsFrom, run_pure, ints]
  · simp only [Builtin.firstCells, Nat.mul_one]
    have h4 : CellsAt w b o (ints k m g) := by
      intro i hi
      rw [ints_length] at hi
      have := h3 i (by rw [ints_length]; omega)
      rw [this, ints_get _ _ _ _ (by omega), ints_get _ _ _ _ hi]
    have := run_loadCells (P := P) (ints k m g) h4
    rwa [ints_length] at this

theorem ovl_ints (k : IntKind) (n o m : Nat) (g h : Nat → Int) (hm : o + m ≤ n) :
    ints k n (ovl o m h g) = (ints k n g).take o ++ ints k m h ++ (ints k n g).drop (o + m) := by
  apply List.ext_getElem?
  intro j
  have hlen := ints_length k n g
  rw [List.append_assoc, List.getElem?_append, List.length_take, hlen, Nat.min_eq_left (by omega)]
  by_cases hj : j < o
  · rw [if_pos hj, List.getElem?_take_of_lt hj, ints_get _ _ _ _ (by omega), ints_get _ _ _ _ (by omega)]
    have : Nat.ble o j = false := by
      cases hb : Nat.ble o j with
      | false => rfl
      | true => have := Nat.le_of_ble_eq_true hb; omega
    simp [ovl, this]
  · rw [if_neg hj, List.getElem?_append, ints_length]
    have hle : Nat.ble o j = true := bleI.2 (by omega)
    by_cases hj2 : j < o + m
    · rw [if_pos (by omega), ints_get _ _ _ _ (by omega), ints_get _ _ _ _ (by omega)]
      have : Nat.blt j (o + m) = true := bltI.2 hj2
      simp [ovl, hle, this]
    · rw [if_neg (by omega), List.getElem?_drop]
      rw [show o + m + (j - o - m) = j from by omega]
      by_cases hjn : j < n
      · rw [ints_get _ _ _ _ hjn, ints_get _ _ _ _ hjn]
        have : Nat.blt j (o + m) = false := by
          cases hb : Nat.blt j (o + m) with
          | false => rfl
          | true => have := bltI.1 hb; omega
        simp [ovl, this]
      · rw [List.getElem?_eq_none (by rw [ints_length]; omega), List.getElem?_eq_none (by rw [ints_length]; omega)]

theorem app_ints (k : IntKind) (n m : Nat) (g h : Nat → Int) : ints k (n + m) (app n g h) = ints k n g ++ ints k m h := by
  apply List.ext_getElem?
  intro j
  rw [List.getElem?_append, ints_length]
  by_cases hj : j < n
  · rw [if_pos hj, ints_get _ _ _ _ (by omega), ints_get _ _ _ _ hj]
    simp [app, bltI.2 hj]
  · rw [if_neg hj]
    have : Nat.blt j n = false := by
      cases hb : Nat.blt j n with
      | false => rfl
      | true => have := bltI.1 hb; omega
    by_cases hj2 : j < n + m
    · rw [ints_get _ _ _ _ hj2, ints_get _ _ _ _ (by omega)]
      simp [app, this]
    · rw [List.getElem?_eq_none (by rw [ints_length]; omega), List.getElem?_eq_none (by rw [ints_length]; omega)]

theorem ints_scal (k : IntKind) (n : Nat) (g : Nat → Int) : (ints k n g).all scal = true := by simp [ints, scal]

/-- A row of ours, and what stands in the machine. -/
theorem Sim.row {ρ : Ren} {H : Heap} {w : World} (hS : Sim ρ H w) {b n off len : Nat} {cap : Option Nat} {k : IntKind} {g : Nat → Int} {X : Value} (hb : H[b]? = some (some (.arr k n g)))
    (hx : Rel ρ w (.slice b off len cap 1) X) : ∃ r a c cs e fz, X = .slice a len c ∧ ρ.bs[b]? = some (some r) ∧ r.sh = .row n ∧ w.heap[r.mb]? = some (.cells cs e fz) ∧
      (∀ o, o < cs.size → ¬ (fz.1 ≤ o ∧ o < fz.2)) ∧ r.base + n ≤ cs.size ∧ CellsAt w r.mb r.base (ints k n g) ∧ off + len ≤ n ∧ len ≤ c ∧
      ((a = some ⟨r.mb, r.base + off, none⟩ ∧ r.base + (off + c) ≤ cs.size) ∨ (len = 0 ∧ c = 0)) := by
  obtain ⟨r, h1, h2, cs, e, fz, x, h3, h4, h5, h6, h7⟩ := hS.live b _ hb
  simp only [Rel] at h5; subst h5
  simp only [Rel] at hx
  obtain ⟨a, c, rfl, r', hr', hi⟩ := hx
  rw [h1] at hr'; cases hr'
  obtain ⟨m, q1, q2, q3, q4, q5⟩ := hi r rfl
  have hsh : r.sh = .row n := by rw [← h2]; rfl
  have hm : m = n := by
    rcases q1 with ⟨q1, _⟩ | ⟨l, q1, _⟩
    · rw [hsh] at q1; cases q1; rfl
    · rw [hsh] at q1; cases q1
  subst hm
  simp only [cells_agg, ints_length] at h6 h7
  refine ⟨r, a, c, cs, e, fz, rfl, h1, hsh, h3, h4, h6, h7, q2, q3, q5.imp ?_ id⟩
  rintro ⟨rfl, t, cs', fz', q6, q7⟩
  rw [h3] at q6; cases q6
  exact ⟨by rw [Nat.mul_one], by simpa using q7⟩

theorem evCopy_sound {ρ : Ren} {w : World} {t t' ty : TypeId} {d x : EV} {D X : Value} {H : Heap} {K : EV → Heap → Prop} (hE : ∀ t ti, E.ty t = some ti → OkTI P t ti)
    (hS : Sim ρ H w) (hd : Rel ρ w d D) (hx : Rel ρ w x X) (h : evCopy E t d x H K) :
    ∃ v H' w' z, K v H' ∧ Sim ρ H' w' ∧ Ext ρ w ρ w' ∧ Rel ρ w' v z ∧ (Builtin.copy_ #[t, t'] ty #[D, X]).run P w = .ok z w' := by
  unfold evCopy at h
  split at h
  case h_2 => exact h.elim
  rename_i ti b off len cap ht
  obtain ⟨dd, it, zt, h1, h2, h3, h4, h5, h6, h7⟩ := hE t ti ht
  split at h
  case h_2 => exact h.elim
  rename_i e k n g k' m hh htd hb hw
  rw [htd] at h3; cases dd <;> simp only [tdOk] at h3
  subst h3
  rw [gd_iff, Bool.and_eq_true, decide_eq_true_eq] at h
  obtain ⟨⟨g1, rfl⟩, hK⟩ := h
  obtain ⟨r, a, c, cs, e', fz, rfl, q1, q2, q3, q4, q5, q6, q7, q8, q9⟩ := hS.row hb hd
  obtain ⟨a', c', rfl, p1, p2⟩ := run_lenOf_win (P := P) hS hx hw
  have hmin : minN m len ≤ len := Nat.min_le_right _ _
  have hcells := p2 (minN m len) (Nat.min_le_left _ _)
  have hlen : (Builtin.copy_ #[t, t'] ty #[.slice a len c, .slice a' m c']).run P w = (match a with
      | some a => match (storeCells a (ints k (minN m len) hh) 0).run P w with
        | .ok _ w' => .ok (goInt (minN m len)) w'
        | .halt h w' => .halt h w'
      | none => .ok (goInt (minN m len)) w) := by
    have e1 : (#[t, t'] : Array TypeId)[0]? = some t := rfl
    have e2 : (#[Value.slice a len c, Value.slice a' m c'] : Array Value)[0]? = some (Value.slice a len c) := rfl
    have e3 : (#[Value.slice a len c, Value.slice a' m c'] : Array Value)[1]? = some (Value.slice a' m c') := rfl
    simp only [Builtin.copy_, e1, e2, e3, run_bind, run_underlying h1, p1, sizeIs_run hE g1]
    have : (Builtin.firstCells 1 (Nat.min m len) (.slice a' m c')).run P w = .ok (ints k (minN m len) hh).toArray w := hcells
    rw [this]
    cases a with
    | none => rfl
    | some a => simp only [run_bind, List.toList_toArray]; cases (storeCells a (ints k (minN m len) hh) 0).run P w <;> rfl
  rcases q9 with ⟨rfl, q10⟩ | ⟨q9, q10⟩
  · have hst := run_storeCells (P := P) (b := r.mb) (ints k (minN m len) hh) w (r.base + off) 0 cs e' fz q3 q4 (by rw [ints_length]; omega) (ints_scal _ _ _)
    rw [Nat.add_zero] at hst
    rw [hlen]
    simp only [hst]
    obtain ⟨m1, m2, m3, m4⟩ := putL_meta r.mb (ints k (minN m len) hh) w (r.base + off)
    have hrow := putL_row r.mb (ints k (minN m len) hh) w (r.base + off) cs e' fz q3
    have hX : Ext ρ w ρ (putL w r.mb (r.base + off) (ints k (minN m len) hh)) := by
      refine ⟨m1, m2, m3, by omega, ?_, fun _ _ h => h, fun _ _ h => h, fun _ _ h => .inl h, ?_⟩
      · intro b' hb' hnb
        exact putL_out _ _ _ _ _ (fun e => hnb (e ▸ mem_own q1))
      · intro b' cs' e'' fz' hb'
        by_cases hbb : b' = r.mb
        · subst hbb
          rw [q3] at hb'; cases hb'
          exact ⟨_, _, _, hrow, by rw [putA_size]⟩
        · exact ⟨cs', e'', fz', (putL_out _ _ _ _ _ hbb).trans hb', rfl⟩
    refine ⟨_, _, _, _, hK, ?_, hX, rfl, rfl⟩
    refine ⟨by simpa using hS.len, fun b' hb' => by rw [m4]; exact hS.fl b' hb', fun b' r' hb' => by rw [m4]; exact hS.lt b' r' hb', hS.sep, hS.nodup, ?_⟩
    intro b' v' hb'
    by_cases hbb : b' = b
    · subst hbb
      have hlt : b' < H.length := by
        rcases Nat.lt_or_ge b' H.length with hh | hh
        · exact hh
        · rw [List.getElem?_eq_none hh] at hb; cases hb
      rw [List.getElem?_set_self hlt] at hb'
      cases hb'
      refine ⟨r, q1, q2.symm, _, _, _, _, hrow, by rw [putA_size]; exact q4, rfl, ?_, ?_⟩
      · rw [putA_size, cells_agg]; simp [ints_length]; exact q5
      · rw [cells_agg]
        show CellsAt _ _ _ (ints k n (ovl off (minN m len) hh g))
        rw [ovl_ints k n off (minN m len) g hh (by omega), cellsAt_row hrow]
        rw [cellsAt_row q3] at q6
        intro i hi
        simp only [List.length_append, List.length_take, List.length_drop, ints_length] at hi
        rw [putA_get _ _ _ _ (by rw [ints_length]; omega), ints_length, List.append_assoc, List.getElem?_append, List.length_take, ints_length, Nat.min_eq_left (by omega)]
        by_cases h10 : i < off
        · rw [if_neg (by omega), if_pos h10, List.getElem?_take_of_lt h10]
          exact q6 i (by rw [ints_length]; omega)
        · rw [if_neg h10, List.getElem?_append, ints_length]
          by_cases h11 : i < off + minN m len
          · rw [if_pos (by omega), if_pos (by omega)]
            congr 1; omega
          · rw [if_neg (by omega), if_neg (by omega), List.getElem?_drop]
            rw [q6 i (by rw [ints_length]; omega)]
            congr 1; omega
    · rw [map_some_ne _ _ _ _ hbb] at hb'
      obtain ⟨s, hs1, hs2, cs', e'', fz', x', h10, h11, h12, h13, h14⟩ := hS.live b' v' hb'
      have hne : s.mb ≠ r.mb := fun e => hbb (hS.nodup b' b s r hs1 q1 e)
      have heq := putL_out r.mb (ints k (minN m len) hh) w (r.base + off) s.mb hne
      exact ⟨s, hs1, hs2, cs', e'', fz', x', heq.trans h10, h11, Rel.ext hX _ _ h12, h13, h14.keep heq⟩
  · have h0 : minN m len = 0 := by omega
    rw [hlen]
    have hg : H.set b (some (.arr k n (ovl off (minN m len) hh g))) = H := by
      have : ovl off (minN m len) hh g = g := by
        funext i
        rw [h0]
        simp only [ovl, Nat.add_zero]
        cases h1 : Nat.ble off i with
        | false => rfl
        | true =>
          have h2 : Nat.blt i off = false := by
            cases hb2 : Nat.blt i off with
            | false => rfl
            | true => have := bltI.1 hb2; have := bleI.1 h1; omega
          simp [h2]
      rw [this]
      apply List.ext_getElem?
      intro i
      by_cases hi : i = b
      · subst hi
        have hlt : i < H.length := by
          rcases Nat.lt_or_ge i H.length with hh | hh
          · exact hh
          · rw [List.getElem?_eq_none hh] at hb; cases hb
        rw [List.getElem?_set_self hlt, hb]
      · rw [map_some_ne _ _ _ _ hi]
    rw [hg] at hK
    refine ⟨_, H, w, goInt (minN m len), hK, hS, Ext.refl _ _, rfl, ?_⟩
    cases a with
    | none => rfl
    | some a => rw [h0]; simp [ints, storeCells, run_pure]

/-- A new block; of those that are given up, one may have gone over into it. -/
theorem Sim.moved {ρ : Ren} {H : Heap} {w w' : World} (hS : Sim ρ H w) {D : List Nat} {bi : BI} {v : EV} (hsh : v.shape = bi.sh)
    (hmeta : w'.os = w.os ∧ w'.tape = w.tape ∧ w'.output = w.output ∧ w.heap.size ≤ w'.heap.size) (hmb : (∃ b r, b ∈ D ∧ ρ.bs[b]? = some (some r) ∧ bi.mb = r.mb) ∨ w.heap.size ≤ bi.mb) (hlt : bi.mb < w'.heap.size)
    (hout : ∀ m, m < w.heap.size → (∀ b r, b ∈ D → ρ.bs[b]? = some (some r) → m ≠ r.mb) → w'.heap[m]? = w.heap[m]?)
    (hrow : ∀ (m : Nat) (cs : Array Value) (e : TypeId) (fz : Nat × Nat), w.heap[m]? = some (.cells cs e fz) → ∃ cs' e' fz', w'.heap[m]? = some (.cells cs' e' fz') ∧ cs'.size = cs.size)
    (hlive : ∀ ρ', Ext ρ w ρ' w' → ∃ cs e fz x, w'.heap[bi.mb]? = some (.cells cs e fz) ∧ (∀ o, o < cs.size → ¬ (fz.1 ≤ o ∧ o < fz.2)) ∧ Rel ρ' w' v x ∧ bi.base + x.cells.toList.length ≤ cs.size ∧ CellsAt w' bi.mb bi.base x.cells.toList) :
    Sim ⟨ρ.F, killN D ρ.bs ++ [some bi]⟩ (killN D H ++ [some v]) w' ∧ Ext ρ w ⟨ρ.F, killN D ρ.bs ++ [some bi]⟩ w' := by
  have inv : ∀ c s, (killN D ρ.bs ++ [some bi])[c]? = some (some s) → (c ∉ D ∧ ρ.bs[c]? = some (some s)) ∨ (c = ρ.bs.length ∧ s = bi) := by
    intro c s hc
    rw [List.getElem?_append, killN_length] at hc
    by_cases hcl : c < ρ.bs.length
    · rw [if_pos hcl] at hc
      exact .inl (killN_some hc)
    · rw [if_neg hcl, List.getElem?_cons] at hc
      split at hc
      · cases hc; exact .inr ⟨by omega, rfl⟩
      · simp at hc
  have hmbO : bi.mb < w.heap.size → bi.mb ∈ ρ.own := by
    intro h
    rcases hmb with ⟨b, r, _, h1, h2⟩ | h1
    · exact h2 ▸ mem_own h1
    · omega
  have hE : Ext ρ w ⟨ρ.F, killN D ρ.bs ++ [some bi]⟩ w' := by
    refine ⟨hmeta.1, hmeta.2.1, hmeta.2.2.1, hmeta.2.2.2, ?_, ?_, ?_, ?_, hrow⟩
    · intro m hm hn
      exact hout m hm fun b r _ hr e => hn (e ▸ mem_own hr)
    · intro m hm hn hin
      rcases List.mem_append.1 hin with hin | hin
      · exact hn (List.mem_append.2 (.inl hin))
      · obtain ⟨c, s, h1, rfl⟩ := own_mem hin
        rcases inv c s h1 with ⟨_, h2⟩ | ⟨_, rfl⟩
        · exact hn (own_mbs (mem_own h2))
        · exact hn (own_mbs (hmbO hm))
    · intro m hm hn hin
      obtain ⟨c, s, h1, rfl⟩ := own_mem hin
      rcases inv c s h1 with ⟨_, h2⟩ | ⟨_, rfl⟩
      · exact hn (mem_own h2)
      · exact hn (hmbO hm)
    · intro c s hc
      have hcl : c < ρ.bs.length := by
        rcases Nat.lt_or_ge c ρ.bs.length with hh | hh
        · exact hh
        · rw [List.getElem?_eq_none hh] at hc; cases hc
      simp only
      rw [List.getElem?_append_left (by rw [killN_length]; exact hcl)]
      by_cases hcb : c ∈ D
      · exact .inr (killN_in _ _ _ (.inl hcb) hcl)
      · rw [killN_out _ _ _ hcb]; exact .inl hc
  refine ⟨⟨by simp [killN_length, hS.len], fun m hm => Nat.lt_of_lt_of_le (hS.fl m hm) hmeta.2.2.2, ?_, ?_, ?_, ?_⟩, hE⟩
  · intro c s hc
    rcases inv c s hc with ⟨_, h2⟩ | ⟨_, rfl⟩
    · exact Nat.lt_of_lt_of_le (hS.lt c s h2) hmeta.2.2.2
    · exact hlt
  · intro c s hc hF
    rcases inv c s hc with ⟨_, h2⟩ | ⟨_, rfl⟩
    · exact hS.sep c s h2 hF
    · have := hS.fl _ hF
      rcases hmb with ⟨b, r, _, h1, h3⟩ | h3
      · exact hS.sep b r h1 (h3 ▸ hF)
      · omega
  · have mixed : ∀ c s, c ∉ D → ρ.bs[c]? = some (some s) → s.mb = bi.mb → False := by
      intro c s h1 h2 h3
      have := hS.lt c s h2
      rcases hmb with ⟨b, r, g1, g2, g3⟩ | h4
      · exact h1 (hS.nodup c b s r h2 g2 (h3.trans g3) ▸ g1)
      · omega
    intro c d s u hc hd he
    rcases inv c s hc with ⟨h1, h2⟩ | ⟨h1, rfl⟩
    · rcases inv d u hd with ⟨h3, h4⟩ | ⟨h3, rfl⟩
      · exact hS.nodup c d s u h2 h4 he
      · exact (mixed c s h1 h2 he).elim
    · rcases inv d u hd with ⟨h3, h4⟩ | ⟨h3, rfl⟩
      · exact (mixed d u h3 h4 he.symm).elim
      · rw [h1, h3]
  · intro c u hc
    rw [List.getElem?_append, killN_length] at hc
    by_cases hcl : c < H.length
    · rw [if_pos hcl] at hc
      obtain ⟨hcD, hc⟩ := killN_some hc
      obtain ⟨s, k1, k2, cs, e, fz, x, k3, k4, k5, k6, k7⟩ := hS.live c u hc
      have heq := hout s.mb (hS.lt c s k1) fun b r hb hr e => hcD (hS.nodup c b s r k1 hr e ▸ hb)
      refine ⟨s, ?_, k2, cs, e, fz, x, heq.trans k3, k4, Rel.ext hE u x k5, k6, k7.keep heq⟩
      simp only
      rw [List.getElem?_append_left (by rw [killN_length, hS.len]; exact hcl), killN_out _ _ _ hcD]
      exact k1
    · rw [if_neg hcl, List.getElem?_cons] at hc
      split at hc
      · rename_i hz
        cases hc
        obtain ⟨cs, e, fz, x, k3, k4, k5, k6, k7⟩ := hlive _ hE
        refine ⟨bi, ?_, hsh, cs, e, fz, x, k3, k4, k5, k6, k7⟩
        simp only
        rw [List.getElem?_append_right (by rw [killN_length, hS.len]; omega), killN_length, hS.len, show c - H.length = 0 from by omega]
        rfl
      · simp at hc

/-- A new row of numbers, maybe with more cells behind it. -/
theorem Sim.newRow {ρ : Ren} {H : Heap} {w : World} (hS : Sim ρ H w) (D : List Nat) (k : IntKind) (n c : Nat) (g : Nat → Int) (cs : Array Value) (e : TypeId) (hc : n ≤ c) (hcs : cs.size = c) (hcells : ∀ i, i < n → cs[i]? = some (.int k (g i))) :
    ∃ ρ', Sim ρ' (killN D H ++ [some (.arr k n g)]) (w.drew.alloc (.cells cs e)) ∧ Ext ρ w ρ' (w.drew.alloc (.cells cs e)) ∧ ρ'.F = ρ.F ∧
      Rel ρ' (w.drew.alloc (.cells cs e)) (.slice H.length 0 n none 1) (.slice (some ⟨w.heap.size, 0, none⟩) n c) := by
  have hold : ∀ m, m < w.heap.size → (w.drew.alloc (.cells cs e)).heap[m]? = w.heap[m]? := by
    intro m hm
    rw [alloc_heap]
    show (if m = w.heap.size then _ else w.heap[m]?) = _
    rw [if_neg (by omega)]
  have hnew : (w.drew.alloc (.cells cs e)).heap[w.heap.size]? = some (.cells cs e (0, 0)) := by
    rw [alloc_heap]
    show (if w.heap.size = w.heap.size then _ else _) = _
    rw [if_pos rfl]
  have hsz : (w.drew.alloc (.cells cs e)).heap.size = w.heap.size + 1 := by
    show (w.heap.push _).size = _
    simp
  obtain ⟨h1, h2⟩ := hS.moved (D := D) (w' := w.drew.alloc (.cells cs e)) (bi := ⟨w.heap.size, 0, .row n⟩) (v := .arr k n g) rfl ⟨rfl, rfl, rfl, by omega⟩ (.inr (Nat.le_refl _)) (by simp only; omega)
    (fun m hm _ => hold m hm) (fun m cs' e' fz' hm => by
      have hlt : m < w.heap.size := by
        rcases Nat.lt_or_ge m w.heap.size with hh | hh
        · exact hh
        · rw [Array.getElem?_eq_none hh] at hm; cases hm
      exact ⟨cs', e', fz', (hold m hlt).trans hm, rfl⟩)
    (fun ρ' hX => by
      refine ⟨cs, e, (0, 0), .agg (ints k n g).toArray, hnew, by simp, rfl, by rw [cells_agg]; simp [ints_length]; omega, ?_⟩
      rw [cellsAt_row hnew, cells_agg]
      intro i hi
      simp only [ints_length] at hi
      rw [Nat.zero_add, hcells i hi]
      exact (ints_get _ _ _ _ hi).symm)
  refine ⟨_, h1, h2, rfl, ?_⟩
  simp only [Rel]
  refine ⟨_, _, rfl, _, by rw [List.getElem?_append_right (by rw [killN_length, hS.len]; exact Nat.le_refl _), killN_length, hS.len, Nat.sub_self]; rfl, fun i hi => ?_⟩
  cases hi
  exact ⟨n, .inl ⟨rfl, rfl⟩, by omega, hc, (fun c0 hc => by cases hc), .inl ⟨by simp, e, cs, (0, 0), hnew, by simp; omega⟩⟩

theorem evAppend_sound {ρ : Ren} {w : World} {t t' ty : TypeId} {s x : EV} {S X : Value} {H : Heap} {K : EV → Heap → Prop} (hE : ∀ t ti, E.ty t = some ti → OkTI P t ti)
    (hS : Sim ρ H w) (hs : Rel ρ w s S) (hx : Rel ρ w x X) (h : evAppend E t t' s x H K) :
    ∃ v H' ρ' w' z, K v H' ∧ Sim ρ' H' w' ∧ Ext ρ w ρ' w' ∧ ρ'.F = ρ.F ∧ Rel ρ' w' v z ∧ (Builtin.append_ #[t, t'] ty #[S, X]).run P w = .ok z w' := by
  unfold evAppend at h
  split at h
  case h_2 => exact h.elim
  rename_i ti ti' ht ht'
  obtain ⟨d, it, zt, h1, h2, h3, h4, h5, h6, h7⟩ := hE t ti ht
  split at h
  case h_2 => exact h.elim
  rename_i e e0 k m hh htd htd' hw
  rw [htd] at h3; cases d <;> simp only [tdOk] at h3
  subst h3
  rename_i e
  split at h
  case h_2 => exact h.elim
  rename_i ei he
  obtain ⟨de, ie, ze, e1, e2, e3, e4, e5, e6, e7⟩ := hE e ei he
  split at h
  case h_2 => exact h.elim
  rename_i k0 z0 hzk
  rw [gd_iff] at h
  simp only [Bool.and_eq_true, Nat.beq_eq, Nat.ble_eq] at h
  obtain ⟨⟨rfl, g1, g2⟩, h⟩ := h
  rw [hzk] at e7
  simp only [encV, Option.some.injEq] at e7
  subst e7
  obtain ⟨a', c', rfl, _, h8⟩ := hS.win hx hw
  have hmul : ∀ n : Nat, n ≤ 1099511627776 → n * ie.bytes ≤ 140737488355328 := by
    intro n hn
    have : n * ie.bytes ≤ 1099511627776 * 64 := Nat.mul_le_mul hn (by omega)
    omega
  -- the new cells
  have hnews : m = 0 ∨ ∃ ad, a' = some ad ∧ ∀ j v, (ints k m hh)[j]? = some v → w.cell? (ad.add j) = some v := by
    rcases h8 with h8 | ⟨b, o, rfl, h9⟩
    · exact .inl h8
    · right
      refine ⟨_, rfl, fun j v hj => ?_⟩
      have hjl : j < (ints k m hh).length := by
        rcases Nat.lt_or_ge j (ints k m hh).length with hq | hq
        · exact hq
        · rw [List.getElem?_eq_none hq] at hj; cases hj
      rw [add_addr, h9 j hjl, hj]
  have hz1 : ∀ n, (Builtin.zeroCells (Value.int k0 z0).cells n).size = n := by intro n; simp [Builtin.zeroCells, Value.cells]
  split at h
  · -- nil
    rw [gd_iff] at h
    obtain ⟨g3, h⟩ := h
    have g3' : m ≤ 1099511627776 := bleI.1 g3
    rw [br_iff] at h
    simp only [Rel] at hs; subst hs
    cases hm0 : isZ m with
    | true =>
      have hm : m = 0 := Nat.eq_of_beq_eq_true hm0
      subst hm
      refine ⟨_, _, ρ, w, .slice none 0 0, h.1 hm0, hS, Ext.refl _ _, rfl, rfl, ?_⟩
      have e1 : (#[t, t] : Array TypeId)[0]? = some t := rfl
      have e1' : (#[t, t] : Array TypeId)[1]? = some t := rfl
      have e2' : (#[Value.slice none 0 0, Value.slice a' 0 c'] : Array Value)[0]? = some (Value.slice none 0 0) := rfl
      have e3' : (#[Value.slice none 0 0, Value.slice a' 0 c'] : Array Value)[1]? = some (Value.slice a' 0 c') := rfl
      have hfc : (Builtin.firstCells ie.size 0 (.slice a' 0 c')).run P w = .ok #[] w := by
        cases a' with
        | none => rfl
        | some a => simp [Builtin.firstCells, loadCells, loadCellsFrom, run_pure]
      simp only [Builtin.append_, e1, e1', e2', e3', run_bind, run_underlying h1, run_sizeOf e2, run_pure, Builtin.lenOf]
      simp [run_bind, hfc, run_pure]
    | false =>
      have hm : m ≠ 0 := by
        intro e; subst e; cases hm0
      rcases hnews with hn | ⟨ad, rfl, hn⟩
      · exact absurd hn hm
      have hrun := run_append_nil (P := P) w t ty e ie _ h1 e2 e6 ad m c' (ints k m hh) (by rw [ints_length, e4, g1, Nat.mul_one]) hn (by omega) (by omega) (by have := hmul m g3'; omega)
      have hge := grownCap_ge w m 0 e
      obtain ⟨ρ', q1, q2, q3, q4⟩ := hS.newRow [] k m (grownCap w m 0 e) hh ((ints k m hh).toArray ++ Builtin.zeroCells (Value.int k0 z0).cells (grownCap w m 0 e - m)) e hge
        (by rw [Array.size_append, hz1]; simp [ints_length]; omega) (fun i hi => by
          rw [Array.getElem?_append_left (by simp [ints_length]; omega)]
          have := ints_get k m hh i hi
          simpa using this)
      exact ⟨_, _, ρ', _, _, h.2 hm0, q1, q2, q3, q4, hrun⟩
  · rename_i b off len cap
    split at h
    case h_2 => exact h.elim
    rename_i k' n g hb
    rw [gd_iff, Bool.and_eq_true, decide_eq_true_eq] at h
    obtain ⟨⟨rfl, g3⟩, hK⟩ := h
    have g3' : len + m ≤ 1099511627776 := bleI.1 g3
    obtain ⟨r, a, c, cs, e', fz, rfl, q1, q2, q3, q4, q5, q6, q7, q8, q9⟩ := hS.row hb hs
    have hkill : killN [b] H = H.set b none := rfl
    rw [← hkill] at hK
    -- the old cells
    have hold : ∀ i, i < len → w.cell? ⟨r.mb, r.base + off + i, none⟩ = some (.int k' (g (off + i))) := by
      intro i hi
      have := q6 (off + i) (by rw [ints_length]; omega)
      rw [Nat.add_assoc, this, ints_get _ _ _ _ (by omega)]
    have hval : ∀ i, i < len + m → (ints k' len (shift off g) ++ ints k' m hh)[i]? = some (.int k' (app len (shift off g) hh i)) := by
      intro i hi
      rw [← app_ints, ints_get _ _ _ _ hi]
    by_cases hroom : len + m ≤ c
    · -- in place
      rcases q9 with ⟨rfl, q10⟩ | ⟨rfl, rfl⟩
      · have hnl : (ints k' m hh).length = m := ints_length _ _ _
        have hst := run_storeCells (P := P) (b := r.mb) (ints k' m hh) w (r.base + off + len) 0 cs e' fz q3 q4 (by rw [hnl]; omega) (ints_scal _ _ _)
        rw [Nat.add_zero] at hst
        have hfc : (Builtin.firstCells ie.size m (.slice a' m c')).run P w = .ok (ints k' m hh).toArray w := by
          rcases hnews with rfl | ⟨ad, rfl, hn⟩
          · cases a' with
            | none => rfl
            | some a => simp [Builtin.firstCells, loadCells, loadCellsFrom, run_pure, ints]
          · exact run_firstCells_some (P := P) w ie.size m ad m c' (ints k' m hh) (by rw [hnl, e4, g1, Nat.mul_one]) hn
        have hrun : (Builtin.append_ #[t, t] ty #[.slice (some ⟨r.mb, r.base + off, none⟩) len c, .slice a' m c']).run P w =
            .ok (.slice (some ⟨r.mb, r.base + off, none⟩) (len + m) c) (putL w r.mb (r.base + off + len) (ints k' m hh)) := by
          have e1 : (#[t, t] : Array TypeId)[0]? = some t := rfl
          have e1' : (#[t, t] : Array TypeId)[1]? = some t := rfl
          have e2' : (#[Value.slice (some ⟨r.mb, r.base + off, none⟩) len c, Value.slice a' m c'] : Array Value)[0]? = some (Value.slice (some ⟨r.mb, r.base + off, none⟩) len c) := rfl
          have e3' : (#[Value.slice (some ⟨r.mb, r.base + off, none⟩) len c, Value.slice a' m c'] : Array Value)[1]? = some (Value.slice a' m c') := rfl
          simp only [Builtin.append_, e1, e1', e2', e3', run_bind, run_underlying h1, run_sizeOf e2, run_pure, Builtin.lenOf]
          simp only [Bool.false_eq_true, if_false, run_bind, run_pure, Builtin.lenOf]
          rw [if_pos hroom]
          simp only [Bool.not_false, if_true, run_bind, hfc]
          rw [e4, g1, Nat.mul_one, add_addr, hst]
          rfl
        obtain ⟨m1, m2, m3, m4⟩ := putL_meta r.mb (ints k' m hh) w (r.base + off + len)
        have hrow := putL_row r.mb (ints k' m hh) w (r.base + off + len) cs e' fz q3
        obtain ⟨p1, p2⟩ := hS.moved (D := [b]) (w' := putL w r.mb (r.base + off + len) (ints k' m hh)) (bi := ⟨r.mb, r.base + off, .row (len + m)⟩) (v := .arr k' (len + m) (app len (shift off g) hh)) rfl ⟨m1, m2, m3, by omega⟩
          (.inl ⟨b, r, List.mem_cons_self, q1, rfl⟩) (by simp only; rw [m4]; exact hS.lt b r q1)
          (fun m' hm' hne => putL_out _ _ _ _ _ (hne b r List.mem_cons_self q1))
          (fun m' cs' e'' fz' hm' => by
            by_cases hmr : m' = r.mb
            · subst hmr
              rw [q3] at hm'; cases hm'
              exact ⟨_, _, _, hrow, putA_size _ _ _⟩
            · exact ⟨cs', e'', fz', (putL_out _ _ _ _ _ hmr).trans hm', rfl⟩)
          (fun ρ' hX => by
            refine ⟨_, _, _, .agg (ints k' (len + m) (app len (shift off g) hh)).toArray, hrow, by rw [putA_size]; exact q4, rfl, by rw [putA_size, cells_agg]; simp [ints_length]; omega, ?_⟩
            rw [cellsAt_row hrow, cells_agg]
            intro i hi
            simp only [ints_length] at hi
            have hgo := ints_get k' (len + m) (app len (shift off g) hh) i hi
            simp only
            rw [hgo, putA_get _ _ _ _ (by rw [hnl]; omega), hnl]
            by_cases h10 : i < len
            · rw [if_neg (by omega)]
              have := hold i h10
              simp only [World.cell?, q3] at this
              have this' : cs[r.base + off + i]? = some (.int k' (g (off + i))) := this
              rw [this']
              simp [app, bltI.2 h10, shift_apply]
            · rw [if_pos (by omega), show r.base + off + i - (r.base + off + len) = i - len from by omega, ints_get _ _ _ _ (by omega)]
              have : Nat.blt i len = false := by
                cases hb2 : Nat.blt i len with
                | false => rfl
                | true => have := bltI.1 hb2; omega
              simp [app, this])
        refine ⟨_, _, _, _, _, hK, p1, p2, rfl, ?_, hrun⟩
        simp only [Rel]
        refine ⟨_, _, rfl, _, by rw [List.getElem?_append_right (by rw [killN_length, hS.len]; exact Nat.le_refl _), killN_length, hS.len, Nat.sub_self]; rfl, fun i hi => ?_⟩
        cases hi
        exact ⟨len + m, .inl ⟨rfl, rfl⟩, by omega, hroom, (fun c0 hc => by cases hc), .inl ⟨by simp, _, _, _, hrow, by simp only; rw [putA_size]; omega⟩⟩
      · -- nothing at all
        have hm0 : m = 0 := by omega
        subst hm0
        have hrun : (Builtin.append_ #[t, t] ty #[.slice a 0 0, .slice a' 0 c']).run P w = .ok (.slice a 0 0) w := by
          have hfc : (Builtin.firstCells ie.size 0 (.slice a' 0 c')).run P w = .ok #[] w := by
            cases a' with
            | none => rfl
            | some a => simp [Builtin.firstCells, loadCells, loadCellsFrom, run_pure]
          have e1 : (#[t, t] : Array TypeId)[0]? = some t := rfl
          have e1' : (#[t, t] : Array TypeId)[1]? = some t := rfl
          have e2' : (#[Value.slice a 0 0, Value.slice a' 0 c'] : Array Value)[0]? = some (Value.slice a 0 0) := rfl
          have e3' : (#[Value.slice a 0 0, Value.slice a' 0 c'] : Array Value)[1]? = some (Value.slice a' 0 c') := rfl
          simp only [Builtin.append_, e1, e1', e2', e3', run_bind, run_underlying h1, run_sizeOf e2, run_pure, Builtin.lenOf]
          cases a with
          | none => simp [run_bind, hfc, run_pure, Builtin.lenOf]
          | some a => simp [run_bind, hfc, run_pure, storeCells, Builtin.lenOf]
        obtain ⟨p1, p2⟩ := hS.moved (D := [b]) (w' := w) (bi := ⟨r.mb, r.base + off, .row (0 + 0)⟩) (v := .arr k' (0 + 0) (app 0 (shift off g) hh)) rfl ⟨rfl, rfl, rfl, Nat.le_refl _⟩
          (.inl ⟨b, r, List.mem_cons_self, q1, rfl⟩) (hS.lt b r q1) (fun m' hm' hne => rfl) (fun m' cs' e'' fz' hm' => ⟨cs', e'', fz', hm', rfl⟩)
          (fun ρ' hX => by
            refine ⟨cs, e', fz, .agg (ints k' (0 + 0) (app 0 (shift off g) hh)).toArray, q3, q4, rfl, by rw [cells_agg]; simp [ints_length]; omega, ?_⟩
            rw [cells_agg]
            intro i hi
            simp [ints_length] at hi)
        refine ⟨_, _, _, _, _, hK, p1, p2, rfl, ?_, hrun⟩
        simp only [Rel]
        refine ⟨_, _, rfl, _, by rw [List.getElem?_append_right (by rw [killN_length, hS.len]; exact Nat.le_refl _), killN_length, hS.len, Nat.sub_self]; rfl, fun i hi => ?_⟩
        cases hi
        exact ⟨0 + 0, .inl ⟨rfl, rfl⟩, by omega, by omega, (fun c0 hc => by cases hc), .inr (by simp)⟩
    · -- anew
      have hm : m ≠ 0 := by omega
      rcases hnews with hn | ⟨ad, rfl, hn⟩
      · exact absurd hn hm
      have hge := grownCap_ge w (len + m) c e
      have hfit := growslice_fits (show c < len + m by omega) (hmul _ g3')
      have hsize : ((ints k' len (shift off g)).toArray ++ (ints k' m hh).toArray ++ Builtin.zeroCells (Value.int k0 z0).cells (grownCap w (len + m) c e - (len + m))).size = grownCap w (len + m) c e := by
        rw [Array.size_append, Array.size_append, hz1]; simp [ints_length]; omega
      obtain ⟨ρ', p1, p2, p3, p4⟩ := hS.newRow [b] k' (len + m) (grownCap w (len + m) c e) (app len (shift off g) hh)
        ((ints k' len (shift off g)).toArray ++ (ints k' m hh).toArray ++ Builtin.zeroCells (Value.int k0 z0).cells (grownCap w (len + m) c e - (len + m))) e hge hsize (fun i hi => by
          rw [Array.getElem?_append_left (by simp [ints_length]; omega)]
          have := hval i hi
          simpa using this)
      refine ⟨_, _, ρ', _, _, hK, p1, p2, p3, p4, ?_⟩
      cases a with
      | some a =>
        rcases q9 with ⟨ha, q10⟩ | ⟨hl0, hc0⟩
        · cases ha
          exact run_append_grow (P := P) w t ty e ie _ h1 e2 e6 ⟨r.mb, r.base + off, none⟩ len c (ints k' len (shift off g)) (by rw [ints_length, e4, g1, Nat.mul_one]) (fun j v hj => by
            have hjl : j < len := by
              rcases Nat.lt_or_ge j (ints k' len (shift off g)).length with hq | hq
              · rwa [ints_length] at hq
              · rw [List.getElem?_eq_none hq] at hj; cases hj
            rw [ints_get _ _ _ _ hjl] at hj
            cases hj
            rw [add_addr, hold j hjl, shift_apply]) ad m c' (ints k' m hh) (by rw [ints_length, e4, g1, Nat.mul_one]) hn (by omega) (by omega) hfit
        · subst hl0; subst hc0
          exact run_append_grow (P := P) w t ty e ie _ h1 e2 e6 a 0 0 (ints k' 0 (shift off g)) (by simp [ints]) (fun j v hj => by simp [ints] at hj) ad m c' (ints k' m hh) (by rw [ints_length, e4, g1, Nat.mul_one]) hn (by omega) (by omega) hfit
      | none =>
        rcases q9 with ⟨ha, q10⟩ | ⟨hl0, hc0⟩
        · cases ha
        · subst hl0; subst hc0
          have := run_append_nil (P := P) w t ty e ie _ h1 e2 e6 ad m c' (ints k' m hh) (by rw [ints_length, e4, g1, Nat.mul_one]) hn (by omega) (by omega) (by have := hmul m (by omega); omega)
          simp only [Nat.zero_add] at this ⊢
          rw [this]
          simp [ints]
  · exact h.elim
end sound
end Go.Ev
