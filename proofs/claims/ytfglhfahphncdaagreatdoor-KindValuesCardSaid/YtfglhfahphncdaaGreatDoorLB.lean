/- The laws of natural numbers that need no quotient: sums, products, a ring. -/
import Derived.Test.YtfglhfahphncdaaGreatDoorLA
import Derived.Test.YtfglhfahphncdaaGreatDoorDA
import Derived.KernelRfl
set_option linter.unusedVariables false
set_option linter.unusedSimpArgs false
set_option maxRecDepth 8000
namespace Go.Ev.S
open Go Go.Ev
theorem eqS_self (a : List UInt8) : eqS a a = true := by simp [eqS]
theorem eqI_self (a : Int) : eqI a a = true := by simp [eqI]
end Go.Ev.S

/- The law of shifts. -/
set_option linter.unusedVariables false
set_option linter.unusedSimpArgs false
set_option maxRecDepth 8000
namespace Go.Ev.S
open Go Go.Ev
theorem may_nz {a : List UInt8} (hm : May a) (h : a ≠ []) : val a ≠ 0 := fun e => by have := hm.nb; rw [e, nb_zero] at this; exact h this.symm
theorem may_blen {a : List UInt8} (hm : May a) : blen (val a) ≤ 131072 := by rw [← len_blen, hm.nb]; exact hm.1
theorem nat_Left_ok (a : List UInt8) (n : Int) (hn : n < 9223372036854775808) (K : List UInt8 → Int → Prop) (h0 : ¬ May a → K [] 2) (h1 : May a → n < 0 → K [] 2) (h2 : May a → 0 ≤ n → a = [] → K [] 0)
    (h3 : May a → 0 ≤ n → a ≠ [] → 131072 < (blen (val a) : Int) + n → K [] 4) (h4 : May a → 0 ≤ n → a ≠ [] → (blen (val a) : Int) + n ≤ 131072 → K (nb (val a * 2 ^ n.toNat)) 0) : nat_Left a n K := by
  rw [nat_Left.is]; unfold nat_Left.d
  rw [nat_Check_ok]
  by_cases hm : May a
  · rw [if_pos hm, br_f (by rfl)]
    by_cases hneg : n < 0
    · rw [br_t (lt_t hneg)]; exact h1 hm hneg
    rw [br_f (lt_f (by omega)), eqS_nil]
    by_cases hz : a = []
    · rw [br_t (by simp [hz])]; exact h2 hm (by omega) hz
    rw [br_f (by simp [hz])]
    refine nat_Len_ok a _ ?_
    have hb := may_blen hm
    rw [if_pos hm, sub_i64 (by omega) (by omega)]
    by_cases hlong : 131072 < (blen (val a) : Int) + n
    · rw [br_t (lt_t (by omega))]; exact h3 hm (by omega) hz hlong
    rw [br_f (lt_f (by omega))]
    obtain ⟨s, rfl⟩ : ∃ s : Nat, n = s := ⟨n.toNat, by omega⟩
    have h4 := h4 hm (by omega) hz (by omega)
    rw [Int.toNat_natCast] at h4
    refine hm.words _ ?_
    have hw := hm.wl
    refine nat_up_ok _ _ s (by omega) (by omega) hm.lt _ _ (fun hc => ?_) fun _ c m => ?_
    · exfalso
      have := hm.lt
      rw [hc] at this
      have h0 := may_nz hm hz
      simp at this; omega
    · refine nat_told_ok _ _ ?_ (lt_wl32 _) _ ?_
      · have hl := nat_up_fin (val a) _ s (by omega) (by omega) hm.lt
        have := (wl_le 32 (by omega) _ _).2 hl
        omega
      · have : (nb (val a * 2 ^ s)).length ≤ 16384 := by
          rw [len_blen, blen_mul _ _ (may_nz hm hz)]; omega
        rw [if_neg (by omega)]; exact h4
  · rw [if_neg hm, br_t (by rfl)]; exact h0 hm
theorem nat_Right_ok (a : List UInt8) (n : Int) (hn : n < 9223372036854775808) (K : List UInt8 → Bool → Int → Prop) (h0 : ¬ May a → K [] false 2) (h1 : May a → n < 0 → K [] false 2) (h2 : May a → 0 ≤ n → a = [] → K [] false 0)
    (h3 : May a → 0 ≤ n → a ≠ [] → K (nb (val a / 2 ^ n.toNat)) (decide ((lowb (val a) : Int) < n)) 0) : nat_Right a n K := by
  rw [nat_Right.is]; unfold nat_Right.d
  rw [nat_Check_ok]
  by_cases hm : May a
  · rw [if_pos hm, br_f (by rfl)]
    by_cases hneg : n < 0
    · rw [br_t (lt_t hneg)]; exact h1 hm hneg
    rw [br_f (lt_f (by omega)), eqS_nil]
    by_cases hz : a = []
    · rw [br_t (by simp [hz])]; exact h2 hm (by omega) hz
    rw [br_f (by simp [hz])]
    obtain ⟨s, rfl⟩ : ∃ s : Nat, n = s := ⟨n.toNat, by omega⟩
    have h3 := h3 hm (by omega) hz
    rw [Int.toNat_natCast] at h3
    refine hm.words _ ?_
    have hw := hm.wl
    refine nat_down_ok _ _ s (by omega) (by omega) hm.lt _ ?_
    have hle : wl 32 (val a / 2 ^ s) ≤ wl 32 (val a) := wl_mono (by omega) (Nat.div_le_self _ _)
    refine nat_number_ok _ _ (by omega) (lt_wl32 _) _ ?_
    refine nat_Low_ok a _ ?_
    rw [if_pos hm, lt_low]; exact h3
  · rw [if_neg hm, br_t (by rfl)]; exact h0 hm
end Go.Ev.S

/- The formats: their numbers, and the encodings that have names. -/
set_option linter.unusedVariables false
set_option linter.unusedSimpArgs false
set_option maxRecDepth 8000
namespace Go.Ev.S
open Go Go.Ev
def fw : Nat → Nat | 0 => 32 | 1 => 64 | 2 => 16 | 3 => 128 | _ => 0
def fp : Nat → Nat | 0 => 24 | 1 => 53 | 2 => 11 | 3 => 113 | _ => 0
def fe : Nat → Nat | 0 => 127 | 1 => 1023 | 2 => 15 | 3 => 16383 | _ => 0
def sg (f : Nat) (neg : Bool) : Nat := cond neg (2 ^ (fw f - 1)) 0
def enc (f : Nat) (neg : Bool) (e t : Nat) : Nat := sg f neg + e * 2 ^ (fp f - 1) + t
theorem four {f : Nat} (h : f ≤ 3) : f = 0 ∨ f = 1 ∨ f = 2 ∨ f = 3 := by omega
theorem shape_Check_ok (f : Nat) (h : f ≤ 3) (K : Int → Prop) : shape_Check f K = K 0 := by
  rw [shape_Check.is]; unfold shape_Check.d; rw [br_f (lt_f (by omega))]
theorem shape_Check_no (f : Nat) (h : 3 < f) (K : Int → Prop) : shape_Check f K = K 2 := by
  rw [shape_Check.is]; unfold shape_Check.d; rw [br_t (lt_t (by omega))]
theorem shape_Width_ok (f : Nat) (h : f ≤ 3) (K : Int → Prop) : shape_Width f K = K (fw f) := by
  rw [shape_Width.is]; unfold shape_Width.d; rw [shape_numbers.is]
  rcases four h with rfl | rfl | rfl | rfl <;> kernel_rfl
theorem shape_Precision_ok (f : Nat) (h : f ≤ 3) (K : Int → Prop) : shape_Precision f K = K (fp f) := by
  rw [shape_Precision.is]; unfold shape_Precision.d; rw [shape_numbers.is]
  rcases four h with rfl | rfl | rfl | rfl <;> kernel_rfl
theorem shape_Emax_ok (f : Nat) (h : f ≤ 3) (K : Int → Prop) : shape_Emax f K = K (fe f) := by
  rw [shape_Emax.is]; unfold shape_Emax.d; rw [shape_numbers.is]
  rcases four h with rfl | rfl | rfl | rfl <;> kernel_rfl
theorem shape_Emin_ok (f : Nat) (h : f ≤ 3) (K : Int → Prop) : shape_Emin f K = K (1 - (fe f : Int)) := by
  rw [shape_Emin.is]; unfold shape_Emin.d; rw [shape_Check_ok f h, shape_Emax_ok f h]
  rcases four h with rfl | rfl | rfl | rfl <;> kernel_rfl
theorem shape_Fits_ok (f x : Nat) (h : f ≤ 3) (hx : x < 2 ^ 128) (K : Bool → Prop) : shape_Fits f (Hi x) (Lo x) K = K (decide (x < 2 ^ fw f)) := by
  rw [shape_Fits.is]; unfold shape_Fits.d
  have ez : eqI (Hi x) 0 = decide (x / 18446744073709551616 = 0) := by
    unfold Hi; rw [show (0 : Int) = ((0 : Nat) : Int) from rfl, eq_nat]
  have es : ∀ w : Nat, w < 64 → eqI (shrI .u64 (Lo x) (w : Int)) 0 = decide (x % 18446744073709551616 < 2 ^ w) := by
    intro w hw
    unfold Lo
    rw [shr_nat _ w hw, Nat.shiftRight_eq_div_pow, show (0 : Int) = ((0 : Nat) : Int) from rfl, eq_nat, decide_eq_decide, Nat.div_eq_zero_iff]
    have := Nat.two_pow_pos w
    omega
  have hx' : x < 340282366920938463463374607431768211456 := hx
  rcases four h with rfl | rfl | rfl | rfl
  · rw [br_f (by decide), br_f (by decide), br_t (by decide), br_t (by decide), ez, shape_Width_ok 0 (by omega)]
    show br (decide (x / 18446744073709551616 = 0)) (gd (!ltI (cvI IntKind.u64 ((32 : Nat) : Int)) 0) (K (eqI (shrI .u64 (Lo x) (cvI IntKind.u64 ((32 : Nat) : Int))) 0))) (K false) = K (decide (x < 2 ^ 32))
    rw [cv_u64 (by omega) (by omega), gd_t (sh_ok (by omega)), es 32 (by omega), show (2 : Nat) ^ 32 = 4294967296 from rfl]
    by_cases hq : x / 18446744073709551616 = 0
    · rw [br_t (by simp [hq])]; congr 1; rw [decide_eq_decide]; omega
    · rw [br_f (by simp [hq])]; congr 1; symm; rw [decide_eq_false_iff_not]; omega
  · rw [br_f (by decide), br_t (by decide), ez]
    show K _ = K (decide (x < 2 ^ 64))
    congr 1; rw [decide_eq_decide, show (2 : Nat) ^ 64 = 18446744073709551616 from rfl]; omega
  · rw [br_f (by decide), br_f (by decide), br_f (by decide), br_t (by decide), ez, shape_Width_ok 2 (by omega)]
    show br (decide (x / 18446744073709551616 = 0)) (gd (!ltI (cvI IntKind.u64 ((16 : Nat) : Int)) 0) (K (eqI (shrI .u64 (Lo x) (cvI IntKind.u64 ((16 : Nat) : Int))) 0))) (K false) = K (decide (x < 2 ^ 16))
    rw [cv_u64 (by omega) (by omega), gd_t (sh_ok (by omega)), es 16 (by omega), show (2 : Nat) ^ 16 = 65536 from rfl]
    by_cases hq : x / 18446744073709551616 = 0
    · rw [br_t (by simp [hq])]; congr 1; rw [decide_eq_decide]; omega
    · rw [br_f (by simp [hq])]; congr 1; symm; rw [decide_eq_false_iff_not]; omega
  · rw [br_t (by decide)]
    congr 1; symm; rw [decide_eq_true_eq]; exact hx
theorem shape_Fits_no (f : Nat) (h : 3 < f) (hi lo : Int) (K : Bool → Prop) : shape_Fits f hi lo K = K false := by
  rw [shape_Fits.is]; unfold shape_Fits.d
  rw [br_f (eq_f (by omega)), br_f (eq_f (by omega)), br_f (eq_f (by omega)), br_f (eq_f (by omega))]
end Go.Ev.S

/- The document's answer on formats: an encoding of its fields, and its fields. -/
set_option linter.unusedVariables false
set_option linter.unusedSimpArgs false
set_option maxRecDepth 8000
namespace Go.Ev.S
open Go Go.Ev
theorem r07_Right_ok (f : Nat) (h : f ≤ 3) (K : Bool → Prop) : r07_Right f K = K true := by
  rw [r07_Right.is]; unfold r07_Right.d; rw [le_t (by omega)]
theorem r07_Right_no (f : Nat) (h : 3 < f) (K : Bool → Prop) : r07_Right f K = K false := by
  rw [r07_Right.is]; unfold r07_Right.d; rw [le_f (by omega)]
theorem r07_Width_ok (f : Nat) (h : f ≤ 3) (K : Int → Prop) : r07_Width f K = K (fw f) := by
  rw [r07_Width.is]
  rcases four h with rfl | rfl | rfl | rfl <;> kernel_rfl
theorem r07_Precision_ok (f : Nat) (h : f ≤ 3) (K : Int → Prop) : r07_Precision f K = K (fp f) := by
  rw [r07_Precision.is]
  rcases four h with rfl | rfl | rfl | rfl <;> kernel_rfl
theorem r07_Emax_ok (f : Nat) (h : f ≤ 3) (K : Int → Prop) : r07_Emax f K = K (fe f) := by
  rw [r07_Emax.is]
  rcases four h with rfl | rfl | rfl | rfl <;> kernel_rfl
theorem r07_Emin_ok (f : Nat) (h : f ≤ 3) (K : Int → Prop) : r07_Emin f K = K (1 - (fe f : Int)) := by
  rw [r07_Emin.is]; unfold r07_Emin.d; rw [r07_Right_ok f h, r07_Emax_ok f h]
  rcases four h with rfl | rfl | rfl | rfl <;> kernel_rfl
theorem r07_Ones_ok (f : Nat) (h : f ≤ 3) (K : Int → Prop) : r07_Ones f K = K ((2 * fe f + 1 : Nat)) := by
  rw [r07_Ones.is]; unfold r07_Ones.d; rw [r07_Emax_ok f h]
  rcases four h with rfl | rfl | rfl | rfl <;> kernel_rfl
theorem fw_eq (f : Nat) (h : f ≤ 3) : 2 ^ (fw f - 1) = (2 * fe f + 2) * 2 ^ (fp f - 1) := by rcases four h with rfl | rfl | rfl | rfl <;> decide
theorem fw_le (f : Nat) (h : f ≤ 3) : 1 ≤ fw f ∧ fw f ≤ 128 ∧ 2 ≤ fp f ∧ fp f ≤ 113 ∧ fp f < fw f ∧ 2 * fe f + 1 < 32768 := by rcases four h with rfl | rfl | rfl | rfl <;> decide
theorem body_lt {f e t : Nat} (h : f ≤ 3) (he : e ≤ 2 * fe f + 1) (ht : t < 2 ^ (fp f - 1)) : e * 2 ^ (fp f - 1) + t < 2 ^ (fw f - 1) := by
  rw [fw_eq f h]
  have : (e + 1) * 2 ^ (fp f - 1) ≤ (2 * fe f + 2) * 2 ^ (fp f - 1) := Nat.mul_le_mul_right _ (by omega)
  rw [Nat.add_mul, Nat.one_mul] at this
  omega
theorem enc_lt {f e t : Nat} (h : f ≤ 3) (he : e ≤ 2 * fe f + 1) (ht : t < 2 ^ (fp f - 1)) (neg : Bool) : enc f neg e t < 2 ^ fw f := by
  have h1 := body_lt h he ht
  have h2 := (fw_le f h).1
  have h3 : 2 ^ fw f = 2 ^ (fw f - 1) + 2 ^ (fw f - 1) := by
    have : fw f = fw f - 1 + 1 := by omega
    conv => lhs; rw [this, Nat.pow_succ]
    omega
  unfold enc sg
  cases neg <;> simp <;> omega
theorem p128 {a : Nat} (h : a ≤ 128) {x : Nat} (hx : x < 2 ^ a) : x < 2 ^ 128 := Nat.lt_of_lt_of_le hx (Nat.pow_le_pow_right (by omega) h)
theorem r07_Build_ok (f e t : Nat) (h : f ≤ 3) (he : e ≤ 2 * fe f + 1) (ht : t < 2 ^ (fp f - 1)) (neg : Bool) (K : Int → Int → Prop) (hK : K (Hi (enc f neg e t)) (Lo (enc f neg e t))) : r07_Build f neg e (W t) K := by
  obtain ⟨w1, w2, w3, w4, w5, w6⟩ := fw_le f h
  have hb := body_lt h he ht
  have hen := enc_lt h he ht neg
  have hb' : e * 2 ^ (fp f - 1) + t < Q6 := p384 (by omega) hb
  have he1 : e * 2 ^ (fp f - 1) < Q6 := by omega
  have ht1 : t < Q6 := p384 (by omega) ht
  rw [r07_Build.is]; unfold r07_Build.d
  rw [r07_Right_ok f h, br_f (by decide), cv_u64 (by omega) (by omega), r02_Of_ok e (by omega), r07_Precision_ok f h, show subI IntKind.i64 (fp f : Int) 1 = ((fp f - 1 : Nat) : Int) from by rw [sub_i64 (by omega) (by omega)]; omega]
  refine r02_Left_ok e (fp f - 1) (p384 (a := 64) (by omega) (by omega)) (by omega) _ ?_
  rw [Nat.mod_eq_of_lt he1]
  refine r02_Add_ok _ _ he1 ht1 _ ?_
  rw [Nat.mod_eq_of_lt hb']
  cases neg with
  | false =>
    rw [br_f rfl]
    rw [r02_ToBits_ok _ (p128 (by omega) hb)]
    have : enc f false e t = e * 2 ^ (fp f - 1) + t := by simp [enc, sg]
    rw [this] at hK; exact hK
  | true =>
    have e1 : enc f true e t = e * 2 ^ (fp f - 1) + t + 2 ^ (fw f - 1) := by simp [enc, sg]; omega
    rw [e1] at hK hen
    have hen' : e * 2 ^ (fp f - 1) + t + 2 ^ (fw f - 1) < Q6 := p384 (by omega) hen
    rw [br_t rfl, show (1 : Int) = ((1 : Nat) : Int) from rfl, r02_Of_ok 1 (by omega), r07_Width_ok f h, show subI IntKind.i64 (fw f : Int) ((1 : Nat) : Int) = ((fw f - 1 : Nat) : Int) from by rw [sub_i64 (by omega) (by omega)]; omega]
    refine r02_Left_ok 1 (fw f - 1) (p384 (a := 64) (by omega) (by omega)) (by omega) _ ?_
    have h1 : 2 ^ (fw f - 1) < Q6 := lt_Q6 (by omega)
    rw [Nat.one_mul, Nat.mod_eq_of_lt h1]
    refine r02_Add_ok _ _ hb' h1 _ ?_
    rw [Nat.mod_eq_of_lt hen', r02_ToBits_ok _ (p128 (by omega) hen)]
    exact hK
theorem r07_Fits_ok (f x : Nat) (h : f ≤ 3) (hx : x < 2 ^ 128) (K : Bool → Prop) (hK : K (decide (x < 2 ^ fw f))) : r07_Fits f (Hi x) (Lo x) K := by
  rw [r07_Fits.is]; unfold r07_Fits.d; rw [r07_Right_ok f h, br_t (by decide), r02_OfBits_ok x hx]
  refine r02_Len_ok x (p384 (a := 128) (by omega) hx) _ ?_
  rw [r07_Width_ok f h, le_nat]
  have : decide (blen x ≤ fw f) = decide (x < 2 ^ fw f) := by rw [decide_eq_decide]; exact blen_le x _
  rw [this]; exact hK
theorem r07_Fits_no (f : Nat) (h : 3 < f) (hi lo : Int) (K : Bool → Prop) : r07_Fits f hi lo K = K false := by
  rw [r07_Fits.is]; unfold r07_Fits.d; rw [r07_Right_no f h]; rfl
end Go.Ev.S

/- The plain law of ShapeMakes, and that of ShapeNumbers. -/
set_option linter.unusedVariables false
set_option linter.unusedSimpArgs false
set_option maxRecDepth 8000
namespace Go.Ev.S
open Go Go.Ev
theorem u8_nat {a : Int} (w : (Lit.int .u8 a).wf = true) : ∃ n : Nat, a = n ∧ n < 256 := by
  obtain ⟨h1, h2⟩ := range_u8 w
  exact ⟨a.toNat, by omega, by omega⟩
theorem u64_nat {a : Int} (w : (Lit.int .u64 a).wf = true) : ∃ n : Nat, a = n ∧ n < 18446744073709551616 := by
  obtain ⟨h1, h2⟩ := range_u64 w
  exact ⟨a.toNat, by omega, by omega⟩
theorem pair_nat {a b : Int} (w : (Lit.int .u64 a).wf = true) (w2 : (Lit.int .u64 b).wf = true) : ∃ x : Nat, x < 2 ^ 128 ∧ a = Hi x ∧ b = Lo x := by
  obtain ⟨n, rfl, h1⟩ := u64_nat w
  obtain ⟨m, rfl, h2⟩ := u64_nat w2
  exact ⟨two n m, two_lt h1 h2, (Hi_two h2).symm, (Lo_two h2).symm⟩
end Go.Ev.S

/- Natural numbers made of words, told as words. -/
set_option linter.unusedVariables false
set_option linter.unusedSimpArgs false
set_option maxRecDepth 8000
namespace Go.Ev.S
open Go Go.Ev
theorem app_put (k n z w : Nat) (hz : z < 2 ^ (k * n)) : app n (G k z) (G k w) = G k (z + w * 2 ^ (k * n)) := by
  funext i
  unfold app
  cases hb : Nat.blt i n with
  | true =>
    have hi : i < n := Nat.le_of_ble_eq_true hb
    rw [cond_true, G_app, G_app]
    have h := dg_mod k (z + w * 2 ^ (k * n)) n i hi
    rw [Nat.add_mul_mod_self_right, Nat.mod_eq_of_lt hz] at h
    rw [h]
  | false =>
    have hi : n ≤ i := by
      apply Classical.byContradiction; intro hc
      have : Nat.blt i n = true := Nat.ble_eq_true_of_le (show i + 1 ≤ n by omega)
      rw [hb] at this; cases this
    rw [cond_false, G_app, G_app]
    have h := dg_div k (z + w * 2 ^ (k * n)) n (i - n)
    rw [Nat.add_mul_div_right _ _ (Nat.two_pow_pos _), Nat.div_eq_of_lt hz, Nat.zero_add, show n + (i - n) = i from by omega] at h
    rw [h]
theorem halves (x : Nat) (hx : x < 18446744073709551616) : upd (upd (fun _ => 0) 0 (cvI .u32 (x : Int))) 1 (cvI .u32 (shrI .u64 (x : Int) 32)) = G 32 x := by
  have e1 : cvI .u32 (x : Int) = ((x % 2 ^ 32 : Nat) : Int) := by rw [cv_u32', show (2 : Nat) ^ 32 = 4294967296 from rfl]; omega
  have e2 : cvI .u32 (shrI .u64 (x : Int) 32) = ((x / 2 ^ 32 : Nat) : Int) := by
    rw [shr_u64_32, cv_u32', show (2 : Nat) ^ 32 = 4294967296 from rfl]; omega
  rw [e1, e2, ← G_zero 32, G_put 32 0 _ 0 (by decide) (Nat.mod_lt _ (Nat.two_pow_pos _)), G_put 32 _ _ 1 (by rw [Nat.zero_add, Nat.mul_zero, Nat.pow_zero, Nat.mul_one, Nat.mul_one]; exact Nat.mod_lt _ (Nat.two_pow_pos _)) (by rw [show (2 : Nat) ^ 32 = 4294967296 from rfl]; omega)]
  refine congrArg (G 32) ?_
  rw [show (2 : Nat) ^ (32 * 0) = 1 from rfl, show (2 : Nat) ^ (32 * 1) = 4294967296 from rfl]; omega
theorem pow_G6 {n : Nat} (h : n = 12) : 2 ^ (32 * n) = Q6 := Q6_at (by omega)
theorem word_up (x m n : Nat) (h : n = 2 * m) : x % 2 ^ (32 * n) + wd x m * 2 ^ (32 * n) = x % 2 ^ (32 * (n + 2)) := by
  have := mod_dg 64 x m
  rw [show 64 * (m + 1) = 32 * (n + 2) from by omega, show 64 * m = 32 * n from by omega] at this
  exact this.symm
theorem app_word (x m n n2 : Nat) (h : n = 2 * m) (h2 : n2 = n + 2) (g : Nat → Int) (hg : g = G 32 (x % 2 ^ (32 * n))) : app n g (upd (upd (fun _ => 0) 0 (cvI .u32 (W x m))) 1 (cvI .u32 (shrI .u64 (W x m) 32))) = G 32 (x % 2 ^ (32 * n2)) := by
  rw [hg, W_app, halves _ (wd_lt x m), app_put 32 n _ _ (Nat.mod_lt _ (Nat.two_pow_pos _)), word_up x m n h, h2]
theorem word_first (x n : Nat) (h : n = 2) : upd (upd (fun _ => 0) 0 (cvI IntKind.u32 (W x 0))) 1 (cvI IntKind.u32 (shrI IntKind.u64 (W x 0) 32)) = G 32 (x % 2 ^ (32 * n)) := by
  subst h
  rw [W_app, halves _ (wd_lt x 0)]
  refine congrArg (G 32) ?_
  unfold wd
  rw [show (2 : Nat) ^ (64 * 0) = 1 from rfl, Nat.div_one]
theorem nat_OfWide_row (x n2 n4 n6 n8 n10 n12 : Nat) (h2 : n2 = 2) (h4 : n4 = n2 + 2) (h6 : n6 = n4 + 2) (h8 : n8 = n6 + 2) (h10 : n10 = n8 + 2) (h12 : n12 = n10 + 2) (hx : x < Q6) :
    app n10 (app n8 (app n6 (app n4 (app n2 (upd (upd (fun _ => 0) 0 (cvI IntKind.u32 (W x 0))) 1 (cvI IntKind.u32 (shrI IntKind.u64 (W x 0) 32))) (upd (upd (fun x => 0) 0 (cvI IntKind.u32 (W x 1))) 1 (cvI IntKind.u32 (shrI IntKind.u64 (W x 1) 32)))) (upd (upd (fun x => 0) 0 (cvI IntKind.u32 (W x 2))) 1 (cvI IntKind.u32 (shrI IntKind.u64 (W x 2) 32)))) (upd (upd (fun x => 0) 0 (cvI IntKind.u32 (W x 3))) 1 (cvI IntKind.u32 (shrI IntKind.u64 (W x 3) 32)))) (upd (upd (fun x => 0) 0 (cvI IntKind.u32 (W x 4))) 1 (cvI IntKind.u32 (shrI IntKind.u64 (W x 4) 32)))) (upd (upd (fun x => 0) 0 (cvI IntKind.u32 (W x 5))) 1 (cvI IntKind.u32 (shrI IntKind.u64 (W x 5) 32))) = G 32 x := by
  have e0 := word_first x n2 h2
  have e1 := app_word x 1 n2 n4 (by omega) h4 _ e0
  have e2 := app_word x 2 n4 n6 (by omega) h6 _ e1
  have e3 := app_word x 3 n6 n8 (by omega) h8 _ e2
  have e4 := app_word x 4 n8 n10 (by omega) h10 _ e3
  have e5 := app_word x 5 n10 n12 (by omega) h12 _ e4
  rw [e5, pow_G6 (by omega), Nat.mod_eq_of_lt hx]
theorem nat_OfWide_ok (x : Nat) (hx : x < Q6) (K : List UInt8 → Prop) (h : K (nb x)) : nat_OfWide (W x) K := by
  rw [nat_OfWide.is]; unfold nat_OfWide.d
  rw [nat_OfWide_row x 2 4 6 8 10 12 rfl rfl rfl rfl rfl rfl hx]
  refine nat_number_ok 12 x (by omega) ?_ _ h
  rw [pow_G6 (n := 12) rfl]; exact hx
theorem nat_ToWide_loop (a : List UInt8) (x : Nat) (n : Nat) (hn : n ≤ 12) (k0 : List UInt8 → (Nat → Int) → Prop) (h : k0 a (G 64 (x % 2 ^ (32 * n)))) :
    ∀ (j i : Nat), i + j = n → nat_ToWide.l4 k0 (j + 1) a n (G 32 x) n i (G 64 (x % 2 ^ (32 * i))) := by
  intro j
  induction j with
  | zero =>
    intro i hi
    unfold nat_ToWide.l4 nat_ToWide.l4.step
    rw [br_f (lt_f (by omega)), show i = n from by omega]
    exact h
  | succ j ih =>
    intro i hi
    have ih := ih (i + 1) (by omega)
    have e : ((i + 1 : Nat) : Int) = (i : Int) + 1 := by omega
    rw [e] at ih
    unfold nat_ToWide.l4 nat_ToWide.l4.step
    simp (disch := omega) only [quo_i64, rem_i, add_i64, mul_i64, cv_u64, lt_t, le_t, lt_f, gd_true, br_true, Bool.and_self, Bool.not_false]
    have e1 : Int.toNat ((i : Int) / 2) = i / 2 := by omega
    have e2 : Int.toNat (i : Int) = i := by omega
    have e3 : 32 * ((i : Int) % 2) = ((32 * (i % 2) : Nat) : Int) := by omega
    have hd := dg_lt 32 x i
    have e8 : (2 : Nat) ^ 32 = 4294967296 := rfl
    have hlow := dg_low 64 (x % 2 ^ (32 * i)) (i / 2) (32 * (i % 2)) (by rw [show 64 * (i / 2) + 32 * (i % 2) = 32 * i from by omega]; exact Nat.mod_lt _ (Nat.two_pow_pos _))
    rw [e1, e2, e3, G_app, G_app, cv_u64 (by omega) (by omega), or_shl64 _ _ _ 32 hlow (by omega) hd]
    rw [G_upd (k := 64) (N' := x % 2 ^ (32 * (i + 1)))]
    · exact ih
    · rw [mod_dg, Nat.add_mul, Nat.mul_assoc, ← Nat.pow_add, show 32 * (i % 2) + 64 * (i / 2) = 32 * i from by omega]; omega
    · exact put_fits hlow (by omega) hd
theorem nat_ToWide_ok (a : List UInt8) (K : (Nat → Int) → Bool → Prop) (h : if May a ∧ a.length ≤ 48 then K (W (val a)) true else K (W 0) false) : nat_ToWide a K := by
  rw [nat_ToWide.is]; unfold nat_ToWide.d
  rw [nat_Check_ok]
  by_cases hm : May a
  · rw [if_pos hm, br_f (by rfl)]
    by_cases hl : a.length ≤ 48
    · rw [if_pos ⟨hm, hl⟩] at h
      rw [br_f (lt_f (by omega))]
      refine nat_words_ok a (by omega) _ ?_
      refine ⟨(a.length + 3) / 4 + 1, ?_⟩
      have hlt : val a < 2 ^ (32 * ((a.length + 3) / 4)) := Nat.lt_of_lt_of_le (val_lt8 a) (Nat.pow_le_pow_right (by omega) (by omega))
      have hQ : val a < Q6 := Nat.lt_of_lt_of_le (val_lt8 a) (le_Q6 (by omega))
      have := nat_ToWide_loop a (val a) ((a.length + 3) / 4) (by omega) (fun y0 y1 => wide_Len y1 fun y0_1 => nat_Len y0 fun y0 => K y1 (eqI y0_1 y0)) ?_ ((a.length + 3) / 4) 0 (by omega)
      · rw [show (2 : Nat) ^ (32 * 0) = 1 from rfl, Nat.mod_one, G_zero] at this
        exact this
      · rw [Nat.mod_eq_of_lt hlt, ← W_G]
        refine wide_Len_ok (val a) hQ _ ?_
        refine nat_Len_ok a _ ?_
        rw [if_pos hm, eq_t rfl]; exact h
    · rw [if_neg (by omega)] at h
      rw [br_t (lt_t (by omega))]
      rw [W_zero] at h; exact h
  · rw [if_neg (by simp [hm])] at h
    rw [if_neg hm, br_t (by rfl)]
    rw [W_zero] at h; exact h
end Go.Ev.S

/- Exact numbers: which may be; made, told. -/
set_option linter.unusedVariables false
set_option linter.unusedSimpArgs false
set_option maxRecDepth 8000
namespace Go.Ev.S
open Go Go.Ev
def fit (x : Nat) : Prop := (nb x).length ≤ 16384
instance (x : Nat) : Decidable (fit x) := by unfold fit; infer_instance
theorem tell_if (K : List UInt8 → Int → Prop) (x : Nat) : tell K x = if fit x then K (nb x) 0 else K [] 4 := by
  unfold tell
  by_cases h : 16384 < (nb x).length
  · rw [if_pos h, if_neg (show ¬ fit x from Nat.not_le.2 h)]
  · rw [if_neg h, if_pos (show fit x from Nat.not_lt.1 h)]
theorem tell_of {K : List UInt8 → Int → Prop} {x : Nat} (h1 : fit x → K (nb x) 0) (h2 : ¬ fit x → K [] 4) : tell K x := by
  rw [tell_if]; split
  · exact h1 ‹_›
  · exact h2 ‹_›
theorem May_nb {x : Nat} (h : fit x) : May (nb x) := ⟨h, lead_nb x⟩
theorem nb_May {a : List UInt8} (h : May a) : nb (val a) = a := nb_val h.2
theorem fit_val {a : List UInt8} (h : May a) : fit (val a) := by unfold fit; rw [nb_May h]; exact h.1
theorem fit_le {x y : Nat} (h : fit y) (hl : x ≤ y) : fit x := (nb_len_le x 16384).2 (Nat.lt_of_le_of_lt hl ((nb_len_le y 16384).1 h))
theorem val_ne {a : List UInt8} (h : May a) : val a ≠ 0 ↔ a ≠ [] := by
  constructor
  · rintro h1 rfl; exact h1 val_nil
  · intro h1 h2
    have := nb_May h
    rw [h2, nb_zero] at this
    exact h1 this.symm
theorem fit_bl (x : Nat) : fit x ↔ blen x ≤ 131072 := len_blen x
theorem blen_pow {x n : Nat} (h : x ≠ 0) : fit (x * 2 ^ n) ↔ blen x + n ≤ 131072 := by
  rw [fit_bl, blen_mul x n h]
theorem nat_Left_t {a : List UInt8} (n : Int) (h0 : 0 ≤ n) (hn : n < 9223372036854775808) (ha : May a) {K : List UInt8 → Int → Prop} (h : tell K (val a * 2 ^ n.toNat)) : nat_Left a n K := by
  refine nat_Left_ok a n hn K (fun hh => absurd ha hh) (fun _ hh => by omega) ?_ ?_ ?_
  · rintro _ _ rfl
    rw [val_nil, Nat.zero_mul, tell_if, nb_zero, if_pos (by unfold fit; rw [nb_zero]; decide)] at h
    exact h
  · intro _ _ h1 h2
    rw [tell_if, if_neg (by rw [blen_pow ((val_ne ha).2 h1)]; omega)] at h
    exact h
  · intro _ _ h1 h2
    rw [tell_if, if_pos (by rw [blen_pow ((val_ne ha).2 h1)]; omega)] at h
    exact h
theorem r05_Left_t {a : List UInt8} (n : Int) (h0 : 0 ≤ n) (hn : n < 9223372036854775808) (ha : May a) {K : List UInt8 → Int → Prop} (h : tell K (val a * 2 ^ n.toNat)) : r05_Left a n K := by
  refine r05_Left_ok a n hn ha K (fun hh => by omega) ?_ ?_ ?_
  · rintro _ rfl
    rw [val_nil, Nat.zero_mul, tell_if, nb_zero, if_pos (by unfold fit; rw [nb_zero]; decide)] at h
    exact h
  · intro _ h1 h2
    rw [tell_if, if_neg (by rw [blen_pow ((val_ne ha).2 h1)]; omega)] at h
    exact h
  · intro _ h1 h2
    rw [tell_if, if_pos (by rw [blen_pow ((val_ne ha).2 h1)]; omega)] at h
    exact h
theorem nat_Right_t {a : List UInt8} (n : Nat) (hn : (n : Int) < 9223372036854775808) (ha : May a) (hne : a ≠ []) {K : List UInt8 → Bool → Int → Prop} (h : K (nb (val a / 2 ^ n)) (decide (lowb (val a) < n)) 0) : nat_Right a n K := by
  refine nat_Right_ok a n hn K (fun hh => absurd ha hh) (fun _ hh => by omega) (fun _ _ hh => absurd hh hne) ?_
  intro _ _ _
  rw [show decide ((lowb (val a) : Int) < (n : Int)) = decide (lowb (val a) < n) from by rw [decide_eq_decide]; omega]
  exact h
theorem r05_Right_t {a : List UInt8} (n : Nat) (hn : (n : Int) < 9223372036854775808) (ha : May a) (hne : a ≠ []) {K : List UInt8 → Bool → Int → Prop} (h : K (nb (val a / 2 ^ n)) (decide (lowb (val a) < n)) 0) : r05_Right a n K := by
  refine r05_Right_ok a n hn ha K (fun hh => by omega) (fun _ hh => absurd hh hne) ?_
  intro _ _
  rw [show decide ((lowb (val a) : Int) < (n : Int)) = decide (lowb (val a) < n) from by rw [decide_eq_decide]; omega]
  exact h
theorem lowb_May {a : List UInt8} (ha : May a) (h : val a ≠ 0) : lowb (val a) < 131072 := by
  have h1 := lowb_lt _ _ h (val_lt8 a)
  have := ha.1; omega
theorem odd_byte (a : List UInt8) (h : a ≠ []) : eqI (andI .u8 (byteAt a (a.length - 1)) 1) 1 = decide (val a % 2 = 1) := by
  have hl : 0 < a.length := List.length_pos_iff.2 h
  have := byteAt_dg a 0 hl
  rw [Nat.sub_zero] at this
  rw [this]
  unfold dg
  rw [Nat.mul_zero, Nat.pow_zero, Nat.div_one]
  have hb : val a % 2 ^ 8 < 256 := Nat.mod_lt _ (by decide)
  have e : val a % 2 = (val a % 2 ^ 8) % 2 := by rw [show (2 : Nat) ^ 8 = 256 from rfl]; omega
  rw [e]
  generalize val a % 2 ^ 8 = v at hb
  revert v
  decide
theorem exact_odd_ok (a : List UInt8) (K : Bool → Prop) (hl : a.length < 9223372036854775808) (h : K (decide (val a % 2 = 1))) : exact_odd a K := by
  rw [exact_odd.is]; unfold exact_odd.d
  rw [eqS_nil]
  by_cases h0 : a = []
  · subst h0
    rw [br_f (by rfl)]; exact h
  · have hp : 0 < a.length := List.length_pos_iff.2 h0
    rw [br_t (by simp [h0]), sub_i64 (by omega) (by omega), le_t (by omega), lt_t (by omega), gd_t (by rfl), show Int.toNat ((a.length : Int) - 1) = a.length - 1 from by omega, odd_byte a h0]
    exact h
theorem r06_odd_ok (a : List UInt8) (K : Bool → Prop) (hl : a.length < 9223372036854775808) (h : K (decide (val a % 2 = 1))) : r06_odd a K := by
  rw [r06_odd.is]; unfold r06_odd.d
  rw [eqS_nil]
  by_cases h0 : a = []
  · subst h0
    rw [br_f (by rfl)]; exact h
  · have hp : 0 < a.length := List.length_pos_iff.2 h0
    rw [br_t (by simp [h0]), sub_i64 (by omega) (by omega), le_t (by omega), lt_t (by omega), gd_t (by rfl), show Int.toNat ((a.length : Int) - 1) = a.length - 1 from by omega, odd_byte a h0]
    exact h
def win (e : Int) : Prop := -1048576 ≤ e ∧ e ≤ 1048576
instance (e : Int) : Decidable (win e) := by unfold win; infer_instance
theorem exact_within_ok (e : Int) (K : Bool → Prop) (h : K (decide (win e))) : exact_within e K := by
  rw [exact_within.is]; unfold exact_within.d
  by_cases h1 : -1048576 ≤ e
  · rw [br_t (le_t h1)]
    refine cast (congrArg K ?_) h
    unfold leI
    rw [decide_eq_decide]; unfold win; omega
  · rw [br_f (le_f (by omega))]
    refine cast (congrArg K ?_) h
    rw [decide_eq_false_iff_not]; unfold win; omega
theorem win_br {e : Int} {p q : Prop} (h1 : ¬ win e → p) (h2 : win e → q) : br (ltI e (-1048576)) p (br (ltI 1048576 e) p q) := by
  by_cases c1 : e < -1048576
  · rw [br_t (lt_t c1)]; exact h1 (by unfold win; omega)
  · rw [br_f (lt_f (by omega))]
    by_cases c2 : 1048576 < e
    · rw [br_t (lt_t c2)]; exact h1 (by unfold win; omega)
    · rw [br_f (lt_f (by omega))]; exact h2 (by unfold win; omega)
structure MayE (n : Bool) (a b : List UInt8) (e : Int) : Prop where
  ma : May a
  mb : May b
  ob : val b % 2 = 1
  we : win e
  z : a = [] → n = false ∧ b = [1] ∧ e = 0
  r : a ≠ [] → val a % 2 = 1 ∧ Nat.gcd (val a) (val b) = 1
theorem nb_one : nb 1 = [1] := by rw [nb_pos (by decide), nb_zero]; decide
theorem eqS_one (g : Nat) : eqS (nb g) [1] = decide (g = 1) := by
  rw [eqS_dec, decide_eq_decide, ← nb_one]
  exact ⟨fun h => nb_inj h, fun h => by rw [h]⟩
noncomputable instance (n : Bool) (a b : List UInt8) (e : Int) : Decidable (MayE n a b e) := Classical.propDecidable _
theorem exact_null_ok (K : Bool → List UInt8 → List UInt8 → Int → Prop) : exact_null K = K false [] [1] 0 := by rw [exact_null.is]; rfl
theorem r06_Null_ok (K : Bool → List UInt8 → List UInt8 → Int → Prop) : r06_Null K = K false [] [1] 0 := by rw [r06_Null.is]; rfl
theorem null_eq (n : Bool) (b : List UInt8) (e : Int) : (beqB n false && (eqS [] [] && (eqS b [1] && eqI e 0))) = decide (n = false ∧ b = [1] ∧ e = 0) := by
  rw [eqS_dec, eqS_dec]
  cases n
  · by_cases h1 : b = [1]
    · by_cases h2 : e = 0
      · simp [h1, h2, beqB, eqI]
      · simp [h1, h2, beqB, eqI]
    · simp [h1, beqB]
  · simp [beqB]
theorem exact_Check_ok (n : Bool) (a b : List UInt8) (e : Int) (K : Int → Prop) (h1 : MayE n a b e → K 0) (h2 : ¬ MayE n a b e → K 2) : exact_Check n a b e K := by
  rw [exact_Check.is]; unfold exact_Check.d
  rw [nat_Check_ok]
  by_cases ma : May a
  rotate_left
  · rw [if_neg ma]; exact h2 fun h => ma h.ma
  rw [if_pos ma, br_f (by rfl), nat_Check_ok]
  by_cases mb : May b
  rotate_left
  · rw [if_neg mb]; exact h2 fun h => mb h.mb
  rw [if_pos mb, br_f (by rfl)]
  have la := ma.1
  have lb := mb.1
  refine exact_odd_ok b _ (by omega) ?_
  by_cases ob : val b % 2 = 1
  rotate_left
  · rw [show decide (val b % 2 = 1) = false from by simpa using ob]; exact h2 fun h => ob h.ob
  rw [show decide (val b % 2 = 1) = true from by simpa using ob, br_f (by rfl)]
  refine exact_within_ok e _ ?_
  by_cases we : win e
  rotate_left
  · rw [show decide (win e) = false from by simpa using we]; exact h2 fun h => we h.we
  rw [show decide (win e) = true from by simpa using we, br_f (by rfl), eqS_nil]
  by_cases ha : a = []
  · subst ha
    rw [br_t (by rfl), exact_null_ok, null_eq]
    by_cases hz : n = false ∧ b = [1] ∧ e = 0
    · rw [br_f (by simp [hz])]; exact h1 ⟨ma, mb, ob, we, fun _ => hz, fun h => absurd rfl h⟩
    · rw [br_t (by simp only [hz, decide_false]; rfl)]; exact h2 fun h => hz (h.z rfl)
  · rw [br_f (by simpa using ha)]
    refine nat_Gcd_ok a b _ (fun h => absurd ⟨ma, mb⟩ h) fun _ _ => ?_
    refine exact_odd_ok a _ (by omega) ?_
    by_cases oa : val a % 2 = 1
    rotate_left
    · rw [show decide (val a % 2 = 1) = false from by simpa using oa]; exact h2 fun h => oa (h.r ha).1
    rw [show decide (val a % 2 = 1) = true from by simpa using oa, br_f (by rfl), eqS_one]
    by_cases hg : Nat.gcd (val a) (val b) = 1
    · rw [br_f (by simp [hg])]; exact h1 ⟨ma, mb, ob, we, fun h => absurd h ha, fun _ => ⟨oa, hg⟩⟩
    · rw [br_t (by simp [hg])]; exact h2 fun h => hg (h.r ha).2
theorem r06_May_ok (n : Bool) (a b : List UInt8) (e : Int) (K : Bool → Prop) (h1 : MayE n a b e → K true) (h2 : ¬ MayE n a b e → K false) : r06_May n a b e K := by
  rw [r06_May.is]; unfold r06_May.d
  rw [r05_May_ok]
  by_cases ma : May a
  rotate_left
  · rw [show decide (May a) = false from by simpa using ma]; exact h2 fun h => ma h.ma
  rw [show decide (May a) = true from by simpa using ma, br_f (by rfl), r05_May_ok]
  by_cases mb : May b
  rotate_left
  · rw [show decide (May b) = false from by simpa using mb]; exact h2 fun h => mb h.mb
  rw [show decide (May b) = true from by simpa using mb, br_f (by rfl)]
  have la := ma.1
  have lb := mb.1
  refine r06_odd_ok b _ (by omega) ?_
  by_cases ob : val b % 2 = 1
  rotate_left
  · rw [show decide (val b % 2 = 1) = false from by simpa using ob]; exact h2 fun h => ob h.ob
  rw [show decide (val b % 2 = 1) = true from by simpa using ob, br_f (by rfl)]
  refine win_br (fun we => h2 fun h => we h.we) fun we => ?_
  rw [eqS_nil]
  by_cases ha : a = []
  · subst ha
    rw [br_t (by rfl), r06_Null_ok, null_eq]
    by_cases hz : n = false ∧ b = [1] ∧ e = 0
    · rw [show decide (n = false ∧ b = [1] ∧ e = 0) = true from by simpa using hz]; exact h1 ⟨ma, mb, ob, we, fun _ => hz, fun h => absurd rfl h⟩
    · rw [show decide (n = false ∧ b = [1] ∧ e = 0) = false from decide_eq_false hz]; exact h2 fun h => hz (h.z rfl)
  · rw [br_f (by simpa using ha)]
    refine r06_odd_ok a _ (by omega) ?_
    by_cases oa : val a % 2 = 1
    rotate_left
    · rw [show decide (val a % 2 = 1) = false from by simpa using oa]; exact h2 fun h => oa (h.r ha).1
    rw [show decide (val a % 2 = 1) = true from by simpa using oa, br_t rfl]
    refine r05_Gcd_ok a b ma mb _ ?_
    rw [eqS_one]
    by_cases hg : Nat.gcd (val a) (val b) = 1
    · rw [show decide (Nat.gcd (val a) (val b) = 1) = true from by simpa using hg]; exact h1 ⟨ma, mb, ob, we, fun h => absurd h ha, fun _ => ⟨oa, hg⟩⟩
    · rw [show decide (Nat.gcd (val a) (val b) = 1) = false from by simpa using hg]; exact h2 fun h => hg (h.r ha).2
def odp (a : Nat) : Nat := a / 2 ^ lowb a
def rdA (a b : Nat) : Nat := odp a / Nat.gcd (odp a) (odp b)
def rdB (a b : Nat) : Nat := odp b / Nat.gcd (odp a) (odp b)
def rdE (a b : Nat) (e : Int) : Int := e + ((lowb a : Int) - lowb b)
def mkE (n : Bool) (a b : Nat) (e : Int) (K : Bool → List UInt8 → List UInt8 → Int → Int → Prop) : Prop :=
  if a = 0 then K false [] [1] 0 0 else if win (rdE a b e) then K n (nb (rdA a b)) (nb (rdB a b)) (rdE a b e) 0 else K false [] [] 0 4
theorem fit_div {x : Nat} (h : fit x) (d : Nat) : fit (x / d) := fit_le h (Nat.div_le_self x d)
theorem odp_spec {a : Nat} (h : a ≠ 0) : a = 2 ^ lowb a * odp a ∧ odp a % 2 = 1 := by
  obtain ⟨q, hq⟩ := lowb_spec a h
  have e : odp a = 2 * q + 1 := by
    unfold odp
    exact Nat.div_eq_of_eq_mul_right (Nat.two_pow_pos _) hq
  rw [e]
  exact ⟨hq, by omega⟩
theorem odp_ne {a : Nat} (h : a ≠ 0) : odp a ≠ 0 := by have := (odp_spec h).2; omega
theorem exact_Make_ok (n : Bool) (x y : List UInt8) (e : Int) (K : Bool → List UInt8 → List UInt8 → Int → Int → Prop) (h1 : ¬ (May x ∧ May y ∧ y ≠ [] ∧ win e) → K false [] [] 0 2)
    (h2 : May x → May y → y ≠ [] → win e → mkE n (val x) (val y) e K) : exact_Make n x y e K := by
  rw [exact_Make.is]; unfold exact_Make.d
  rw [nat_Check_ok]
  by_cases mx : May x
  rotate_left
  · rw [if_neg mx]; exact h1 fun h => mx h.1
  rw [if_pos mx, br_f (by rfl), nat_Check_ok]
  by_cases my : May y
  rotate_left
  · rw [if_neg my]; exact h1 fun h => my h.2.1
  rw [if_pos my, br_f (by rfl), eqS_nil]
  by_cases hy : y = []
  · rw [br_t (by simpa using hy)]; exact h1 fun h => h.2.2.1 hy
  rw [br_f (by simpa using hy)]
  refine exact_within_ok e _ ?_
  by_cases we : win e
  rotate_left
  · rw [show decide (win e) = false from by simpa using we]; exact h1 fun h => we h.2.2.2
  rw [show decide (win e) = true from by simpa using we, br_f (by rfl), eqS_nil]
  have h2 := h2 mx my hy we
  unfold mkE at h2
  by_cases hx : x = []
  · rw [br_t (by simpa using hx), exact_null_ok]
    rw [if_pos (by rw [hx]; rfl)] at h2; exact h2
  rw [br_f (by simpa using hx)]
  have nx := (val_ne mx).2 hx
  have ny := (val_ne my).2 hy
  rw [if_neg nx] at h2
  refine nat_Low_ok x _ ?_
  refine nat_Low_ok y _ ?_
  rw [if_pos mx, if_pos my]
  have bx := lowb_May mx nx
  have by' := lowb_May my ny
  refine nat_Right_t _ (by omega) mx hx ?_
  refine nat_Right_t _ (by omega) my hy ?_
  have fx : fit (odp (val x)) := fit_div (fit_val mx) _
  have fy : fit (odp (val y)) := fit_div (fit_val my) _
  refine nat_Gcd_ok _ _ _ (fun h => absurd ⟨May_nb fx, May_nb fy⟩ h) fun _ _ => ?_
  rw [val_nb, val_nb]
  show br (!eqS (nb (Nat.gcd (odp (val x)) (odp (val y)))) [1]) _ _
  rw [eqS_one]
  have we' := we
  unfold win at we'
  have ee : addI .i64 e (subI .i64 (lowb (val x) : Int) (lowb (val y) : Int)) = rdE (val x) (val y) e := by
    unfold rdE
    rw [sub_i64 (by omega) (by omega), add_i64 (by omega) (by omega)]
  rw [ee]
  have gne : Nat.gcd (odp (val x)) (odp (val y)) ≠ 0 := by
    intro h0; exact odp_ne nx (Nat.gcd_eq_zero_iff.1 h0).1
  have fin : ∀ p q, p = nb (rdA (val x) (val y)) → q = nb (rdB (val x) (val y)) → exact_within (rdE (val x) (val y) e) fun y0_7 => br (!y0_7) (K false [] [] 0 4) (K n p q (rdE (val x) (val y) e) 0) := by
    rintro p q rfl rfl
    refine exact_within_ok _ _ ?_
    by_cases w : win (rdE (val x) (val y) e)
    · rw [if_pos w] at h2
      rw [show decide (win (rdE (val x) (val y) e)) = true from by simpa using w]; exact h2
    · rw [if_neg w] at h2
      rw [show decide (win (rdE (val x) (val y) e)) = false from by simpa using w]; exact h2
  by_cases hg : Nat.gcd (odp (val x)) (odp (val y)) = 1
  · rw [br_f (by simp [hg])]
    refine fin _ _ ?_ ?_
    · unfold rdA; rw [hg, Nat.div_one]; rfl
    · unfold rdB; rw [hg, Nat.div_one]; rfl
  · rw [br_t (by simp [hg])]
    have fg : fit (Nat.gcd (odp (val x)) (odp (val y))) := fit_le fx (Nat.gcd_le_left _ (Nat.pos_of_ne_zero (odp_ne nx)))
    refine nat_Div_ok _ _ _ (fun h => absurd ⟨May_nb fx, May_nb fg⟩ h) (fun h => absurd h (nb_ne gne)) fun _ _ _ => ?_
    refine nat_Div_ok _ _ _ (fun h => absurd ⟨May_nb fy, May_nb fg⟩ h) (fun h => absurd h (nb_ne gne)) fun _ _ _ => ?_
    refine fin _ _ ?_ ?_
    · rw [val_nb, val_nb]; rfl
    · rw [val_nb, val_nb]; rfl
theorem r06_Make_ok (n : Bool) (x y : List UInt8) (e : Int) (K : Bool → List UInt8 → List UInt8 → Int → Int → Prop) (h1 : ¬ (May x ∧ May y ∧ y ≠ [] ∧ win e) → K false [] [] 0 2)
    (h2 : May x → May y → y ≠ [] → win e → mkE n (val x) (val y) e K) : r06_Make n x y e K := by
  rw [r06_Make.is]; unfold r06_Make.d
  rw [r05_May_ok]
  by_cases mx : May x
  rotate_left
  · rw [show decide (May x) = false from by simpa using mx]; exact h1 fun h => mx h.1
  rw [show decide (May x) = true from by simpa using mx, br_f (by rfl), r05_May_ok]
  by_cases my : May y
  rotate_left
  · rw [show decide (May y) = false from by simpa using my]; exact h1 fun h => my h.2.1
  rw [show decide (May y) = true from by simpa using my, br_f (by rfl), eqS_nil]
  by_cases hy : y = []
  · rw [br_t (by simpa using hy)]; exact h1 fun h => h.2.2.1 hy
  rw [br_f (by simpa using hy)]
  refine win_br (fun we => h1 fun h => we h.2.2.2) fun we => ?_
  rw [eqS_nil]
  have h2 := h2 mx my hy we
  unfold mkE at h2
  by_cases hx : x = []
  · rw [br_t (by simpa using hx), r06_Null_ok]
    rw [if_pos (by rw [hx]; rfl)] at h2; exact h2
  rw [br_f (by simpa using hx)]
  have nx := (val_ne mx).2 hx
  have ny := (val_ne my).2 hy
  rw [if_neg nx] at h2
  refine r05_Low_ok x _ ?_
  refine r05_Low_ok y _ ?_
  rw [if_pos mx, if_pos my]
  have bx := lowb_May mx nx
  have by' := lowb_May my ny
  refine r05_Right_t _ (by omega) mx hx ?_
  refine r05_Right_t _ (by omega) my hy ?_
  have fx : fit (odp (val x)) := fit_div (fit_val mx) _
  have fy : fit (odp (val y)) := fit_div (fit_val my) _
  refine r05_Gcd_ok _ _ (May_nb fx) (May_nb fy) _ ?_
  rw [val_nb, val_nb]
  show br (!eqS (nb (Nat.gcd (odp (val x)) (odp (val y)))) [1]) _ _
  rw [eqS_one]
  have we' := we
  unfold win at we'
  have ee : subI .i64 (addI .i64 e (lowb (val x) : Int)) (lowb (val y) : Int) = rdE (val x) (val y) e := by
    unfold rdE
    rw [add_i64 (by omega) (by omega), sub_i64 (by omega) (by omega)]; omega
  rw [ee]
  have gne : Nat.gcd (odp (val x)) (odp (val y)) ≠ 0 := by
    intro h0; exact odp_ne nx (Nat.gcd_eq_zero_iff.1 h0).1
  have fin : ∀ p q, p = nb (rdA (val x) (val y)) → q = nb (rdB (val x) (val y)) → br (ltI (rdE (val x) (val y) e) (-1048576)) (K false [] [] 0 4) (br (ltI 1048576 (rdE (val x) (val y) e)) (K false [] [] 0 4) (K n p q (rdE (val x) (val y) e) 0)) := by
    rintro p q rfl rfl
    refine win_br (fun w => ?_) fun w => ?_
    · rw [if_neg w] at h2; exact h2
    · rw [if_pos w] at h2; exact h2
  by_cases hg : Nat.gcd (odp (val x)) (odp (val y)) = 1
  · rw [br_f (by simp [hg])]
    refine fin _ _ ?_ ?_
    · unfold rdA; rw [hg, Nat.div_one]; rfl
    · unfold rdB; rw [hg, Nat.div_one]; rfl
  · rw [br_t (by simp [hg])]
    have fg : fit (Nat.gcd (odp (val x)) (odp (val y))) := fit_le fx (Nat.gcd_le_left _ (Nat.pos_of_ne_zero (odp_ne nx)))
    refine r05_Div_ok _ _ (May_nb fx) (May_nb fg) _ (fun h => absurd h (nb_ne gne)) fun _ => ?_
    refine r05_Div_ok _ _ (May_nb fy) (May_nb fg) _ (fun h => absurd h (nb_ne gne)) fun _ => ?_
    refine fin _ _ ?_ ?_
    · rw [val_nb, val_nb]; rfl
    · rw [val_nb, val_nb]; rfl
end Go.Ev.S

/- Exact numbers as rational ones. -/
set_option linter.unusedVariables false
set_option linter.unusedSimpArgs false
set_option maxRecDepth 8000
namespace Go.Ev.S
open Go Go.Ev
def p2 (e : Int) : Rat := (2 : Rat) ^ e
theorem two_ne : (2 : Rat) ≠ 0 := by decide
theorem p2_pos (e : Int) : 0 < p2 e := Rat.zpow_pos (by decide)
theorem p2_ne (e : Int) : p2 e ≠ 0 := by have := p2_pos e; grind
theorem p2_add (a b : Int) : p2 (a + b) = p2 a * p2 b := Rat.zpow_add two_ne a b
theorem p2_nat (n : Nat) : p2 (n : Int) = ((2 ^ n : Nat) : Rat) := by
  unfold p2; rw [Rat.zpow_natCast, Rat.natCast_pow]; rfl
def sR (n : Bool) : Rat := if n then -1 else 1
def V (n : Bool) (a b : Nat) (e : Int) : Rat := sR n * ((a : Rat) / (b : Rat)) * p2 e
theorem cast_pos {b : Nat} (h : b ≠ 0) : 0 < (b : Rat) := Rat.natCast_pos.2 (by omega)
theorem cast_ne {b : Nat} (h : b ≠ 0) : (b : Rat) ≠ 0 := by have := cast_pos h; grind
theorem V_zero (n : Bool) (b : Nat) (e : Int) : V n 0 b e = 0 := by
  unfold V; rw [show ((0 : Nat) : Rat) = 0 from rfl]; grind
theorem V_mul (n : Bool) (a b : Nat) (e : Int) (hb : b ≠ 0) : V n a b e * b = sR n * a * p2 e := by
  have := cast_ne hb
  unfold V; grind
theorem V_shift (n : Bool) (a b k : Nat) (e : Int) : V n (a * 2 ^ k) b e = V n a b (e + k) := by
  unfold V
  rw [p2_add, p2_nat, Rat.natCast_mul]; grind
theorem V_cancel (n : Bool) (a b g : Nat) (e : Int) (hg : g ≠ 0) (hb : b ≠ 0) : V n (g * a) (g * b) e = V n a b e := by
  have h1 := cast_ne hg
  have h2 := cast_ne hb
  unfold V
  rw [Rat.natCast_mul, Rat.natCast_mul]
  have : (g : Rat) * a / (g * b) = a / b := by grind
  rw [this]
theorem sR_not (n : Bool) : sR (!n) = -sR n := by cases n <;> rfl
theorem V_neg (n : Bool) (a b : Nat) (e : Int) : V (!n) a b e = -V n a b e := by unfold V; rw [sR_not]; grind
theorem div_pos {a b : Rat} (ha : 0 < a) (hb : 0 < b) : 0 < a / b := by
  rw [Rat.div_def]; exact Rat.mul_pos ha (Rat.inv_pos.2 hb)
theorem V_pos {a b : Nat} (ha : a ≠ 0) (hb : b ≠ 0) (e : Int) : 0 < V false a b e := by
  unfold V; rw [show sR false = 1 from rfl, Rat.one_mul]
  exact Rat.mul_pos (div_pos (cast_pos ha) (cast_pos hb)) (p2_pos e)
theorem V_sign {n : Bool} {a b : Nat} (ha : a ≠ 0) (hb : b ≠ 0) (e : Int) : (n = false ↔ 0 < V n a b e) ∧ (n = true ↔ V n a b e < 0) := by
  have h := V_pos ha hb e
  cases n with
  | false => exact ⟨⟨fun _ => h, fun _ => rfl⟩, ⟨fun h => (by cases h), fun h2 => by grind⟩⟩
  | true =>
    have h2 : V true a b e = -V false a b e := V_neg false a b e
    rw [h2]
    exact ⟨⟨fun h => (by cases h), fun h => by grind⟩, ⟨fun _ => by grind, fun _ => rfl⟩⟩
theorem gcd_odp_ne {a b : Nat} (ha : a ≠ 0) : Nat.gcd (odp a) (odp b) ≠ 0 := by
  intro h0; exact odp_ne ha (Nat.gcd_eq_zero_iff.1 h0).1
theorem rd_parts {a b : Nat} (ha : a ≠ 0) (hb : b ≠ 0) : a = Nat.gcd (odp a) (odp b) * rdA a b * 2 ^ lowb a ∧ b = Nat.gcd (odp a) (odp b) * rdB a b * 2 ^ lowb b := by
  have h1 := (odp_spec ha).1
  have h2 := (odp_spec hb).1
  have h3 : Nat.gcd (odp a) (odp b) * rdA a b = odp a := Nat.mul_div_cancel' (Nat.gcd_dvd_left _ _)
  have h4 : Nat.gcd (odp a) (odp b) * rdB a b = odp b := Nat.mul_div_cancel' (Nat.gcd_dvd_right _ _)
  rw [h3, h4]
  exact ⟨by rw [Nat.mul_comm]; exact h1, by rw [Nat.mul_comm]; exact h2⟩
theorem rd_canon {a b : Nat} (ha : a ≠ 0) (hb : b ≠ 0) : rdA a b % 2 = 1 ∧ rdB a b % 2 = 1 ∧ Nat.gcd (rdA a b) (rdB a b) = 1 := by
  have h1 := (odp_spec ha).2
  have h2 := (odp_spec hb).2
  have h3 : Nat.gcd (odp a) (odp b) * rdA a b = odp a := Nat.mul_div_cancel' (Nat.gcd_dvd_left _ _)
  have h4 : Nat.gcd (odp a) (odp b) * rdB a b = odp b := Nat.mul_div_cancel' (Nat.gcd_dvd_right _ _)
  refine ⟨?_, ?_, ?_⟩
  · rcases Nat.mod_two_eq_zero_or_one (rdA a b) with h | h
    · rw [← h3, Nat.mul_mod, h, Nat.mul_zero, Nat.zero_mod] at h1; cases h1
    · exact h
  · rcases Nat.mod_two_eq_zero_or_one (rdB a b) with h | h
    · rw [← h4, Nat.mul_mod, h, Nat.mul_zero, Nat.zero_mod] at h2; cases h2
    · exact h
  · exact Nat.coprime_div_gcd_div_gcd (Nat.pos_of_ne_zero (gcd_odp_ne ha))
theorem V_rd (n : Bool) {a b : Nat} (e : Int) (ha : a ≠ 0) (hb : b ≠ 0) : V n (rdA a b) (rdB a b) (rdE a b e) = V n a b e := by
  obtain ⟨h1, h2⟩ := rd_parts ha hb
  have hg := gcd_odp_ne (b := b) ha
  have hB : rdB a b ≠ 0 := by have := (rd_canon ha hb).2.1; omega
  have h3 : V n a b e * p2 (lowb b) = V n (rdA a b) (rdB a b) (e + lowb a) := by
    rw [← V_cancel n (rdA a b) (rdB a b) _ _ hg hB, ← V_shift, ← h1]
    have h4 : (b : Rat) = ((Nat.gcd (odp a) (odp b) * rdB a b : Nat) : Rat) * p2 (lowb b) := by
      rw [p2_nat, ← Rat.natCast_mul, ← h2]
    have h5 : ((Nat.gcd (odp a) (odp b) * rdB a b : Nat) : Rat) ≠ 0 := cast_ne (Nat.mul_ne_zero hg hB)
    have h6 := p2_ne (lowb b)
    unfold V
    rw [h4]
    generalize ((Nat.gcd (odp a) (odp b) * rdB a b : Nat) : Rat) = u at h5
    generalize p2 (lowb b) = v at h6
    generalize (a : Rat) = w
    have : w / (u * v) * v = w / u := by grind
    grind
  have h7 : V n (rdA a b) (rdB a b) (e + lowb a) = V n (rdA a b) (rdB a b) (rdE a b e) * p2 (lowb b) := by
    have e1 : e + (lowb a : Int) = rdE a b e + lowb b := by unfold rdE; omega
    rw [e1]
    unfold V
    rw [p2_add]; grind
  have h8 := p2_ne (lowb b)
  rw [h7] at h3
  grind
theorem odd_shift_eq {a b : Nat} {k : Nat} (ha : a % 2 = 1) (h : a = b * 2 ^ k) : k = 0 := by
  rcases Nat.eq_zero_or_pos k with h0 | h0
  · exact h0
  · obtain ⟨j, rfl⟩ : ∃ j, k = j + 1 := ⟨k - 1, by omega⟩
    rw [Nat.pow_succ, ← Nat.mul_assoc] at h
    omega
theorem mul_odd {a b : Nat} (ha : a % 2 = 1) (hb : b % 2 = 1) : a * b % 2 = 1 := by rw [Nat.mul_mod, ha, hb]
theorem V_inj_le {n : Bool} {a b a' b' : Nat} {e e' : Int} (ha : a % 2 = 1) (hb : b % 2 = 1) (ha' : a' % 2 = 1) (hb' : b' % 2 = 1) (hg : Nat.gcd a b = 1) (hg' : Nat.gcd a' b' = 1) (hle : e ≤ e') (h : V n a b e = V n a' b' e') : a = a' ∧ b = b' ∧ e = e' := by
  have hb0 : b ≠ 0 := by omega
  have hb0' : b' ≠ 0 := by omega
  have h1 := V_mul n a b e hb0
  have h2 := V_mul n a' b' e' hb0'
  obtain ⟨k, rfl⟩ : ∃ k : Nat, e' = e + k := ⟨(e' - e).toNat, by omega⟩
  rw [p2_add, p2_nat] at h2
  have hp := p2_ne e
  have hs : sR n ≠ 0 := by cases n <;> decide
  have key : (a : Rat) * b' = a' * b * ((2 ^ k : Nat) : Rat) := by
    rw [← h] at h2
    generalize p2 e = q at *
    generalize ((2 ^ k : Nat) : Rat) = m at *
    generalize V n a b e = v at *
    have h3 : sR n * q ≠ 0 := by
      intro h0
      rcases Rat.mul_eq_zero.1 h0 with h0 | h0
      · exact hs h0
      · exact hp h0
    have h4 : (sR n * q) * ((a : Rat) * b') = (sR n * q) * (a' * b * m) := by grind
    grind
  have key2 : a * b' = a' * b * 2 ^ k := by
    rw [← Rat.natCast_mul, ← Rat.natCast_mul, ← Rat.natCast_mul] at key
    exact Rat.natCast_inj.1 key
  have hk := odd_shift_eq (mul_odd ha hb') key2
  subst hk
  rw [Nat.pow_zero, Nat.mul_one] at key2
  have d1 : a ∣ a' := (Nat.Coprime.dvd_of_dvd_mul_right (show Nat.Coprime a b from hg)) ⟨b', key2.symm⟩
  have d2 : a' ∣ a := (Nat.Coprime.dvd_of_dvd_mul_right (show Nat.Coprime a' b' from hg')) ⟨b, key2⟩
  have ea := Nat.dvd_antisymm d1 d2
  subst ea
  exact ⟨rfl, (Nat.eq_of_mul_eq_mul_left (by omega) key2).symm, by omega⟩
theorem V_inj {n n' : Bool} {a b a' b' : Nat} {e e' : Int} (ha : a % 2 = 1) (hb : b % 2 = 1) (ha' : a' % 2 = 1) (hb' : b' % 2 = 1) (hg : Nat.gcd a b = 1) (hg' : Nat.gcd a' b' = 1) (h : V n a b e = V n' a' b' e') : n = n' ∧ a = a' ∧ b = b' ∧ e = e' := by
  have s1 := V_sign (n := n) (show a ≠ 0 by omega) (show b ≠ 0 by omega) e
  have s2 := V_sign (n := n') (show a' ≠ 0 by omega) (show b' ≠ 0 by omega) e'
  have hn : n = n' := by
    cases n
    · exact (s2.1.2 (h ▸ s1.1.1 rfl)).symm
    · exact (s2.2.2 (h ▸ s1.2.1 rfl)).symm
  subst hn
  refine ⟨rfl, ?_⟩
  by_cases hle : e ≤ e'
  · exact V_inj_le ha hb ha' hb' hg hg' hle h
  · obtain ⟨h1, h2, h3⟩ := V_inj_le ha' hb' ha hb hg' hg (by omega) h.symm
    exact ⟨h1.symm, h2.symm, h3.symm⟩
end Go.Ev.S

/- Exact numbers added, multiplied, compared, measured: the document's. -/
set_option linter.unusedVariables false
set_option linter.unusedSimpArgs false
set_option maxRecDepth 8000
namespace Go.Ev.S
open Go Go.Ev
structure Can (n : Bool) (a b : Nat) (e : Int) : Prop where
  fa : fit a
  fb : fit b
  ob : b % 2 = 1
  we : win e
  z : a = 0 → n = false ∧ b = 1 ∧ e = 0
  r : a ≠ 0 → a % 2 = 1 ∧ Nat.gcd a b = 1
theorem MayE.can {n : Bool} {x y : List UInt8} {e : Int} (h : MayE n x y e) : ∃ a b, x = nb a ∧ y = nb b ∧ Can n a b e := by
  refine ⟨val x, val y, (nb_May h.ma).symm, (nb_May h.mb).symm, fit_val h.ma, fit_val h.mb, h.ob, h.we, ?_, ?_⟩
  · intro h0
    have hx : x = [] := by rw [← nb_May h.ma, h0, nb_zero]
    obtain ⟨h1, h2, h3⟩ := h.z hx
    exact ⟨h1, by rw [h2]; decide, h3⟩
  · intro h0; exact h.r ((val_ne h.ma).1 h0)
theorem nb_nil {a : Nat} : nb a = [] ↔ a = 0 := by
  constructor
  · intro h; rw [← val_nb a, h, val_nil]
  · rintro rfl; exact nb_zero
theorem Can.may {n : Bool} {a b : Nat} {e : Int} (h : Can n a b e) : MayE n (nb a) (nb b) e := by
  refine ⟨May_nb h.fa, May_nb h.fb, by rw [val_nb]; exact h.ob, h.we, ?_, ?_⟩
  · intro h0
    obtain ⟨h1, h2, h3⟩ := h.z (nb_nil.1 h0)
    exact ⟨h1, by rw [h2]; exact nb_one, h3⟩
  · intro h0
    rw [val_nb, val_nb]; exact h.r fun h1 => h0 (nb_nil.2 h1)
theorem Can.b0 {n : Bool} {a b : Nat} {e : Int} (h : Can n a b e) : b ≠ 0 := by have := h.ob; omega
theorem Can.e64 {n : Bool} {a b : Nat} {e : Int} (h : Can n a b e) : -1048576 ≤ e ∧ e ≤ 1048576 := h.we
theorem eqS_nb (a : Nat) : eqS (nb a) [] = decide (a = 0) := by rw [eqS_nil, decide_eq_decide]; exact nb_nil
theorem r05_Left_n {a : Nat} (n : Int) (h0 : 0 ≤ n) (hn : n < 9223372036854775808) (ha : fit a) {K : List UInt8 → Int → Prop} (h : tell K (a * 2 ^ n.toNat)) : r05_Left (nb a) n K := by
  refine r05_Left_t n h0 hn (May_nb ha) ?_; rw [val_nb]; exact h
theorem nat_Left_n {a : Nat} (n : Int) (h0 : 0 ≤ n) (hn : n < 9223372036854775808) (ha : fit a) {K : List UInt8 → Int → Prop} (h : tell K (a * 2 ^ n.toNat)) : nat_Left (nb a) n K := by
  refine nat_Left_t n h0 hn (May_nb ha) ?_; rw [val_nb]; exact h
theorem r05_Cmp_n (a b : Nat) (K : Int → Prop) : r05_Cmp (nb a) (nb b) K = K (sgn a b) := by rw [r05_Cmp_ok _ _ (lead_nb a) (lead_nb b), val_nb, val_nb]
theorem nat_Cmp_n {a b : Nat} (ha : fit a) (hb : fit b) {K : Int → Int → Prop} (h : K (sgn a b) 0) : nat_Cmp (nb a) (nb b) K := by
  refine nat_Cmp_ok _ _ K (fun hn => absurd ⟨May_nb ha, May_nb hb⟩ hn) fun _ _ => ?_
  rw [val_nb, val_nb]; exact h
theorem r05_Div_n {a b : Nat} (ha : fit a) (hb : fit b) (h0 : b ≠ 0) {K : List UInt8 → List UInt8 → Int → Prop} (h : K (nb (a / b)) (nb (a % b)) 0) : r05_Div (nb a) (nb b) K := by
  refine r05_Div_ok _ _ (May_nb ha) (May_nb hb) K (fun hh => absurd (nb_nil.1 hh) h0) fun _ => ?_; rw [val_nb, val_nb]; exact h
theorem nat_Div_n {a b : Nat} (ha : fit a) (hb : fit b) (h0 : b ≠ 0) {K : List UInt8 → List UInt8 → Int → Prop} (h : K (nb (a / b)) (nb (a % b)) 0) : nat_Div (nb a) (nb b) K := by
  refine nat_Div_ok _ _ K (fun hn => absurd ⟨May_nb ha, May_nb hb⟩ hn) (fun hh => absurd (nb_nil.1 hh) h0) fun _ _ _ => ?_; rw [val_nb, val_nb]; exact h
theorem r05_Len_n {a : Nat} (ha : fit a) {K : Int → Prop} (h : K (blen a)) : r05_Len (nb a) K := by
  refine r05_Len_ok _ K ?_; rw [if_pos (May_nb ha), val_nb]; exact h
theorem nat_Len_n {a : Nat} (ha : fit a) {K : Int → Prop} (h : K (blen a)) : nat_Len (nb a) K := by
  refine nat_Len_ok _ K ?_; rw [if_pos (May_nb ha), val_nb]; exact h
theorem r06_Make_n (n : Bool) {a b : Nat} {e : Int} (ha : fit a) (hb : fit b) (h0 : b ≠ 0) (we : win e) {K : Bool → List UInt8 → List UInt8 → Int → Int → Prop} (h : mkE n a b e K) : r06_Make n (nb a) (nb b) e K := by
  refine r06_Make_ok n _ _ e K (fun hn => absurd ⟨May_nb ha, May_nb hb, nb_ne h0, we⟩ hn) fun _ _ _ _ => ?_; rw [val_nb, val_nb]; exact h
theorem exact_Make_n (n : Bool) {a b : Nat} {e : Int} (ha : fit a) (hb : fit b) (h0 : b ≠ 0) (we : win e) {K : Bool → List UInt8 → List UInt8 → Int → Int → Prop} (h : mkE n a b e K) : exact_Make n (nb a) (nb b) e K := by
  refine exact_Make_ok n _ _ e K (fun hn => absurd ⟨May_nb ha, May_nb hb, nb_ne h0, we⟩ hn) fun _ _ _ _ => ?_; rw [val_nb, val_nb]; exact h
def lv (a bd : Nat) (ae n : Int) : Nat := a * bd * 2 ^ (ae - n).toNat
section
variable {n1 n2 : Bool} {a1 b1 a2 b2 : Nat} {e1 e2 : Int}
theorem sgn_le0 (a b : Nat) : leI 0 (sgn a b) = decide (b ≤ a) := by
  unfold sgn leI
  rw [decide_eq_decide]
  (repeat' split) <;> omega
theorem br_dec {c : Prop} [Decidable c] {p q : Prop} (h1 : c → p) (h2 : ¬ c → q) : br (decide c) p q := by
  by_cases h : c
  · rw [br_t (by simpa using h)]; exact h1 h
  · rw [br_f (by simpa using h)]; exact h2 h
theorem br_ndec {c : Prop} [Decidable c] {p q : Prop} (h1 : ¬ c → p) (h2 : c → q) : br (!decide c) p q := by
  by_cases h : c
  · rw [br_f (by simpa using h)]; exact h2 h
  · rw [br_t (by simpa using h)]; exact h1 h
end
end Go.Ev.S

/- Exact numbers scaled, measured, cut: the document's. -/
set_option linter.unusedVariables false
set_option linter.unusedSimpArgs false
set_option maxRecDepth 8000
namespace Go.Ev.S
open Go Go.Ev
def tp (a b : Nat) : Int :=
  if blen b ≤ blen a then (if b * 2 ^ (blen a - blen b) ≤ a then ((blen a - blen b : Nat) : Int) else ((blen a - blen b : Nat) : Int) - 1)
  else (if b ≤ a * 2 ^ (blen b - blen a) then -((blen b - blen a : Nat) : Int) else -((blen b - blen a : Nat) : Int) - 1)
theorem fit_blen {a : Nat} (h : fit a) : blen a ≤ 131072 := (fit_bl a).1 h
theorem fit_up {a b : Nat} (ha : fit a) (hb : b ≠ 0) (hl : blen b ≤ blen a) : fit (b * 2 ^ (blen a - blen b)) := by
  rw [fit_bl, blen_mul _ _ hb]; have := fit_blen ha; omega
theorem sgn_nge (a b : Nat) : (!leI 0 (sgn a b)) = !decide (b ≤ a) := by rw [sgn_le0]
theorem sgn_lt0 (a b : Nat) : ltI (sgn a b) 0 = !decide (b ≤ a) := by
  unfold sgn ltI
  by_cases h : b ≤ a
  · (repeat' split) <;> simp <;> omega
  · rw [if_pos (by omega)]; simp; omega
theorem r06_shifted_ok {a : Nat} (n : Int) (h0 : 0 ≤ n) (hn : n < 9223372036854775808) (ha : fit a) {K : List UInt8 → Prop} (hf : fit (a * 2 ^ n.toNat)) (h : K (nb (a * 2 ^ n.toNat))) : r06_shifted (nb a) n K := by
  rw [r06_shifted.is]; unfold r06_shifted.d
  exact r05_Left_n n h0 hn ha (tell_of (fun _ => h) fun hh => absurd hf hh)
theorem r06_Top_ok (n : Bool) {a b : Nat} {e : Int} (c : Can n a b e) (K : Int → Int → Prop) (h1 : a = 0 → K 0 2) (h2 : a ≠ 0 → K (tp a b + e) 0) : r06_Top n (nb a) (nb b) e K := by
  have w := c.e64
  have la := fit_blen c.fa
  have lb := fit_blen c.fb
  rw [r06_Top.is]; unfold r06_Top.d
  rw [eqS_nb]
  refine br_dec h1 fun h0 => ?_
  have h2 := h2 h0
  refine r05_Len_n c.fa ?_
  refine r05_Len_n c.fb ?_
  rw [sub_i64 (by omega) (by omega)]
  unfold tp at h2
  by_cases hl : blen b ≤ blen a
  · rw [if_pos hl] at h2
    rw [br_t (le_t (by omega))]
    have et : ((blen a : Int) - blen b).toNat = blen a - blen b := by omega
    have hf := fit_up c.fa c.b0 hl
    refine r06_shifted_ok _ (by omega) (by omega) c.fb (by rw [et]; exact hf) ?_
    rw [et, r05_Cmp_n, sgn_nge]
    refine br_ndec (fun h3 => ?_) fun h3 => ?_
    · rw [if_neg h3] at h2
      rw [sub_i64 (by omega) (by omega), add_i64 (by omega) (by omega), show ((blen a : Int) - blen b - 1 + e) = ((blen a - blen b : Nat) : Int) - 1 + e from by omega]; exact h2
    · rw [if_pos h3] at h2
      rw [add_i64 (by omega) (by omega), show ((blen a : Int) - blen b + e) = ((blen a - blen b : Nat) : Int) + e from by omega]; exact h2
  · rw [if_neg hl] at h2
    rw [br_f (le_f (by omega))]
    have en : negI .i64 ((blen a : Int) - blen b) = (blen b : Int) - blen a := by
      show IntKind.wrap .i64 _ = _
      rw [i64_id (by omega) (by omega)]; omega
    have et : ((blen b : Int) - blen a).toNat = blen b - blen a := by omega
    have hf := fit_up c.fb h0 (show blen a ≤ blen b by omega)
    rw [en]
    refine r06_shifted_ok _ (by omega) (by omega) c.fa (by rw [et]; exact hf) ?_
    rw [et, r05_Cmp_n, sgn_nge]
    refine br_ndec (fun h3 => ?_) fun h3 => ?_
    · rw [if_neg h3] at h2
      rw [sub_i64 (by omega) (by omega), add_i64 (by omega) (by omega), show ((blen a : Int) - blen b - 1 + e) = -((blen b - blen a : Nat) : Int) - 1 + e from by omega]; exact h2
    · rw [if_pos h3] at h2
      rw [add_i64 (by omega) (by omega), show ((blen a : Int) - blen b + e) = -((blen b - blen a : Nat) : Int) + e from by omega]; exact h2
theorem blen_le' (a n : Nat) : blen a ≤ n ↔ a < 2 ^ n := blen_le a n
theorem blen_ge {a : Nat} (h : a ≠ 0) : 2 ^ (blen a - 1) ≤ a := by
  have h1 : ¬ blen a ≤ blen a - 1 := by
    have : 0 < blen a := by unfold blen; rw [if_neg h]; omega
    omega
  rw [blen_le'] at h1; omega
theorem tp_spec {a b : Nat} (ha : a ≠ 0) (hb : b ≠ 0) : (0 ≤ tp a b → b * 2 ^ (tp a b).toNat ≤ a ∧ a < b * 2 ^ ((tp a b).toNat + 1)) ∧ (tp a b < 0 → b ≤ a * 2 ^ (-tp a b).toNat ∧ a * 2 ^ ((-tp a b).toNat - 1) < b) := by
  have a1 := blen_ge ha
  have a2 := (blen_le' a _).1 (Nat.le_refl _)
  have b1 := blen_ge hb
  have b2 := (blen_le' b _).1 (Nat.le_refl _)
  have pa : 0 < blen a := by unfold blen; rw [if_neg ha]; omega
  have pb : 0 < blen b := by unfold blen; rw [if_neg hb]; omega
  unfold tp
  by_cases hl : blen b ≤ blen a
  · rw [if_pos hl]
    obtain ⟨d, hd⟩ : ∃ d, d = blen a - blen b := ⟨_, rfl⟩
    rw [← hd]
    -- a < b 2^(d+1)
    have h1 : a < b * 2 ^ (d + 1) := by
      have : 2 ^ (blen b - 1) * 2 ^ (d + 1) ≤ b * 2 ^ (d + 1) := Nat.mul_le_mul_right _ b1
      rw [← Nat.pow_add, show blen b - 1 + (d + 1) = blen a from by omega] at this
      omega
    by_cases h2 : b * 2 ^ d ≤ a
    · rw [if_pos h2]
      refine ⟨fun _ => ?_, fun h => by omega⟩
      rw [show ((d : Int)).toNat = d from by omega]
      exact ⟨h2, h1⟩
    · rw [if_neg h2]
      rcases Nat.eq_zero_or_pos d with h0 | h0
      · refine ⟨fun h => by omega, fun _ => ?_⟩
        rw [h0] at h2 ⊢
        rw [show (-(((0 : Nat) : Int) - 1)).toNat = 1 from by omega, Nat.sub_self]
        refine ⟨?_, by omega⟩
        have : b < a * 2 := by
          have : 2 ^ (blen a - 1) * 2 ≤ a * 2 := Nat.mul_le_mul_right _ a1
          rw [← Nat.pow_succ, show (blen a - 1).succ = blen b from by omega] at this
          omega
        omega
      · refine ⟨fun _ => ?_, fun h => by omega⟩
        rw [show ((d : Int) - 1).toNat = d - 1 from by omega, show d - 1 + 1 = d from by omega]
        refine ⟨?_, by omega⟩
        have : b * 2 ^ (d - 1) ≤ 2 ^ blen b * 2 ^ (d - 1) := Nat.mul_le_mul_right _ (by omega)
        rw [← Nat.pow_add, show blen b + (d - 1) = blen a - 1 from by omega] at this
        omega
  · rw [if_neg hl]
    obtain ⟨d, hd⟩ : ∃ d, d = blen b - blen a := ⟨_, rfl⟩
    rw [← hd]
    have h1 : b < a * 2 ^ (d + 1) := by
      have : 2 ^ (blen a - 1) * 2 ^ (d + 1) ≤ a * 2 ^ (d + 1) := Nat.mul_le_mul_right _ a1
      rw [← Nat.pow_add, show blen a - 1 + (d + 1) = blen b from by omega] at this
      omega
    have h3 : a * 2 ^ (d - 1) < b := by
      have : a * 2 ^ (d - 1) < 2 ^ blen a * 2 ^ (d - 1) := Nat.mul_lt_mul_of_pos_right a2 (Nat.two_pow_pos _)
      rw [← Nat.pow_add, show blen a + (d - 1) = blen b - 1 from by omega] at this
      omega
    by_cases h2 : b ≤ a * 2 ^ d
    · rw [if_pos h2]
      refine ⟨fun h => by omega, fun _ => ?_⟩
      rw [show (- -(d : Int)).toNat = d from by omega]
      exact ⟨h2, h3⟩
    · rw [if_neg h2]
      refine ⟨fun h => by omega, fun _ => ?_⟩
      rw [show (-(-(d : Int) - 1)).toNat = d + 1 from by omega, show d + 1 - 1 = d from by omega]
      exact ⟨by omega, by omega⟩
theorem tp_range {a b : Nat} (ha : fit a) (hb : fit b) : -131073 ≤ tp a b ∧ tp a b ≤ 131072 := by
  have := fit_blen ha
  have := fit_blen hb
  unfold tp; (repeat' split) <;> omega
def floE (a b : Nat) (e n : Int) (K : List UInt8 → Bool → Int → Prop) : Prop :=
  if n < -2097152 ∨ 2097152 < n then K [] false 2 else if a = 0 then K [] true 0 else
  if n ≤ e then (if fit (a * 2 ^ (e - n).toNat) then K (nb (a * 2 ^ (e - n).toNat / b)) (decide (a * 2 ^ (e - n).toNat % b = 0)) 0 else K [] false 4)
  else if tp a b + e < n then K [] false 0 else K (nb (a / (b * 2 ^ (n - e).toNat))) (decide (a % (b * 2 ^ (n - e).toNat) = 0)) 0
theorem fit_den {a b : Nat} {e n : Int} (ha : a ≠ 0) (hb : b ≠ 0) (fa : fit a) (h1 : ¬ n ≤ e) (h2 : ¬ tp a b + e < n) : fit (b * 2 ^ (n - e).toNat) := by
  have h := (tp_spec ha hb).1 (by omega)
  refine fit_le fa (Nat.le_trans (Nat.mul_le_mul_left _ ?_) h.1)
  exact Nat.pow_le_pow_right (by omega) (by omega)
theorem r06_Floor_ok (s : Bool) {a b : Nat} {e : Int} (c : Can s a b e) (n : Int) (hn : -9223372036854775808 ≤ n ∧ n < 9223372036854775808) (K : List UInt8 → Bool → Int → Prop) (h : floE a b e n K) : r06_Floor s (nb a) (nb b) e n K := by
  have w := c.e64
  rw [r06_Floor.is]; unfold r06_Floor.d
  unfold floE at h
  by_cases g1 : n < -2097152
  · rw [br_t (lt_t g1)]; rw [if_pos (.inl g1)] at h; exact h
  rw [br_f (lt_f (by omega))]
  by_cases g2 : 2097152 < n
  · rw [br_t (lt_t g2)]; rw [if_pos (.inr g2)] at h; exact h
  rw [br_f (lt_f (by omega)), eqS_nb]
  rw [if_neg (by omega)] at h
  refine br_dec (fun h0 => ?_) fun h0 => ?_
  · rw [if_pos h0] at h; exact h
  rw [if_neg h0] at h
  by_cases g3 : n ≤ e
  · rw [br_t (le_t g3)]
    rw [if_pos g3] at h
    rw [sub_i64 (by omega) (by omega)]
    refine r05_Left_n _ (by omega) (by omega) c.fa (tell_of (fun f1 => ?_) fun f1 => ?_)
    · rw [if_pos f1] at h
      rw [br_f (by rfl)]
      refine r05_Div_n f1 c.fb c.b0 ?_
      rw [eqS_nb]; exact h
    · rw [if_neg f1] at h
      rw [br_t (by rfl)]; exact h
  · rw [br_f (le_f (by omega))]
    rw [if_neg g3] at h
    refine r06_Top_ok s c _ (fun hh => absurd hh h0) fun _ => ?_
    by_cases g4 : tp a b + e < n
    · rw [br_t (lt_t g4)]; rw [if_pos g4] at h; exact h
    rw [br_f (lt_f (by omega))]
    rw [if_neg g4] at h
    have hf := fit_den h0 c.b0 c.fa g3 g4
    rw [sub_i64 (by omega) (by omega)]
    refine r05_Left_n _ (by omega) (by omega) c.fb (tell_of (fun f1 => ?_) fun f1 => absurd hf f1)
    refine r05_Div_n c.fa hf (Nat.mul_ne_zero c.b0 (Nat.pos_iff_ne_zero.1 (Nat.two_pow_pos _))) ?_
    rw [eqS_nb]; exact h
end Go.Ev.S

/- Encodings, their fields and their signs: the abacus and the document's answer. -/
set_option linter.unusedVariables false
set_option linter.unusedSimpArgs false
set_option maxRecDepth 8000
namespace Go.Ev.S
open Go Go.Ev
def ng (f x : Nat) : Bool := x.testBit (fw f - 1)
def ex (f x : Nat) : Nat := x / 2 ^ (fp f - 1) % (2 * fe f + 2)
def fr (f x : Nat) : Nat := x % 2 ^ (fp f - 1)
theorem ex_le (f x : Nat) : ex f x ≤ 2 * fe f + 1 := by unfold ex; have := Nat.mod_lt (x / 2 ^ (fp f - 1)) (show 0 < 2 * fe f + 2 by omega); omega
theorem fr_lt (f x : Nat) : fr f x < 2 ^ (fp f - 1) := Nat.mod_lt _ (Nat.two_pow_pos _)
theorem pow_ef (f : Nat) (h : f ≤ 3) : 2 * fe f + 2 = 2 ^ (fw f - fp f) := by rcases four h with rfl | rfl | rfl | rfl <;> decide
theorem x128 {f x : Nat} (h : f ≤ 3) (hx : x < 2 ^ fw f) : x < 2 ^ 128 := p128 (fw_le f h).2.1 hx
theorem xQ6 {f x : Nat} (h : f ≤ 3) (hx : x < 2 ^ fw f) : x < Q6 := p384 (by have := (fw_le f h).2.1; omega) hx
theorem and_i64 (a b : Nat) (ha : a < 9223372036854775808) (hb : b < 9223372036854775808) : andI .i64 a b = ((a &&& b : Nat) : Int) := by
  have h1 : (BitVec.ofInt 64 (a : Int)) = BitVec.ofNat 64 a := by simp
  have h2 : (BitVec.ofInt 64 (b : Int)) = BitVec.ofNat 64 b := by simp
  have h3 : a &&& b < 9223372036854775808 := Nat.lt_of_le_of_lt Nat.and_le_left ha
  show IntKind.wrap .i64 (((BitVec.ofInt 64 (a : Int) &&& BitVec.ofInt 64 (b : Int) : BitVec 64).toNat : Nat) : Int) = _
  rw [h1, h2]
  rw [BitVec.toNat_and, BitVec.toNat_ofNat, BitVec.toNat_ofNat, Nat.mod_eq_of_lt (by omega), Nat.mod_eq_of_lt (by omega)]
  exact i64_id (by omega) (by omega)
theorem fw_m1 (f : Nat) (h : f ≤ 3) : subI .i64 (fw f : Int) 1 = ((fw f - 1 : Nat) : Int) := by rcases four h with rfl | rfl | rfl | rfl <;> decide
theorem fp_m1 (f : Nat) (h : f ≤ 3) : subI .i64 (fp f : Int) 1 = ((fp f - 1 : Nat) : Int) := by rcases four h with rfl | rfl | rfl | rfl <;> decide
theorem fp_m2 (f : Nat) (h : f ≤ 3) : subI .i64 (fp f : Int) 2 = ((fp f - 2 : Nat) : Int) := by rcases four h with rfl | rfl | rfl | rfl <;> decide
theorem W_small (x : Nat) (h : x < 18446744073709551616) : W x 0 = (x : Int) := by
  rw [W_app]; unfold wd; rw [Nat.mul_zero, Nat.pow_zero, Nat.div_one, Nat.mod_eq_of_lt h]
theorem ex_word (f x : Nat) (h : f ≤ 3) (hx : x < 2 ^ fw f) : andI .i64 (cvI .i64 (W (x / 2 ^ (fp f - 1)) 0)) ((2 * fe f + 1 : Nat) : Int) = (ex f x : Int) := by
  have h1 : x / 2 ^ (fp f - 1) < 131072 := by
    rw [Nat.div_lt_iff_lt_mul (Nat.two_pow_pos _)]
    have h3 : 2 ^ fw f ≤ 131072 * 2 ^ (fp f - 1) := by rcases four h with rfl | rfl | rfl | rfl <;> decide
    omega
  have h2 := (fw_le f h).2.2.2.2.2
  unfold ex
  generalize x / 2 ^ (fp f - 1) = v at *
  rw [W_small _ (by omega), cv_i64 (by omega) (by omega), and_i64 _ _ (by omega) (by omega), show 2 * fe f + 1 = 2 ^ (fw f - fp f) - 1 from by rw [← pow_ef f h]; omega, Nat.and_two_pow_sub_one_eq_mod, ← pow_ef f h]
theorem r07_Fields_ok (f x : Nat) (h : f ≤ 3) (hx : x < 2 ^ fw f) (K : Bool → Int → (Nat → Int) → Prop) (hK : K (ng f x) (ex f x) (W (fr f x))) : r07_Fields f (Hi x) (Lo x) K := by
  have hw := fw_le f h
  rw [r07_Fields.is]; unfold r07_Fields.d
  rw [r02_OfBits_ok x (x128 h hx), r07_Width_ok f h, fw_m1 f h, r02_Bit_ok x _ (by omega), r07_Precision_ok f h, fp_m1 f h]
  refine r02_Mask_ok _ (by omega) _ ?_
  refine r02_And_ok _ _ (xQ6 h hx) _ ?_
  rw [r07_Precision_ok f h, fp_m1 f h]
  refine r02_Right_ok _ _ (xQ6 h hx) (by omega) _ ?_
  rw [r07_Ones_ok f h, ex_word f x h hx, Nat.and_two_pow_sub_one_eq_mod]
  exact hK
theorem kind_fields_ok (f x : Nat) (h : f ≤ 3) (hx : x < 2 ^ fw f) (K : Bool → Int → (Nat → Int) → Prop) (hK : K (ng f x) (ex f x) (W (fr f x))) : kind_fields f (Hi x) (Lo x) K := by
  have hw := fw_le f h
  rw [kind_fields.is]; unfold kind_fields.d
  rw [wide_OfBits_ok x (x128 h hx), shape_Precision_ok f h, shape_Width_ok f h, fp_m1 f h, fw_m1 f h]
  refine wide_Mask_ok _ (by omega) _ ?_
  refine wide_And_ok _ _ (xQ6 h hx) _ ?_
  refine wide_Right_val _ _ (xQ6 h hx) (by omega) _ fun b => ?_
  rw [wide_Bit_ok x _ (by omega)]
  have e1 : subI IntKind.i64 (shlI IntKind.i64 1 (cvI IntKind.u64 (subI IntKind.i64 (fw f : Int) (fp f : Int)))) 1 = ((2 * fe f + 1 : Nat) : Int) := by rcases four h with rfl | rfl | rfl | rfl <;> decide
  have e2 : (!ltI (cvI IntKind.u64 (subI IntKind.i64 (fw f : Int) (fp f : Int))) 0) = true := by rcases four h with rfl | rfl | rfl | rfl <;> decide
  rw [gd_t e2, e1, ex_word f x h hx, Nat.and_two_pow_sub_one_eq_mod]
  exact hK
theorem r08_Sign_ok (f x : Nat) (h : f ≤ 3) (hx : x < 2 ^ fw f) (K : Bool → Prop) (hK : K (ng f x)) : r08_Sign f (Hi x) (Lo x) K := by
  rw [r08_Sign.is]; unfold r08_Sign.d
  refine r07_Fits_ok f x h (x128 h hx) _ ?_
  rw [br_f (by simpa using hx)]
  exact r07_Fields_ok f x h hx _ hK
def cls (f x : Nat) : Int :=
  if ex f x = 2 * fe f + 1 then (if fr f x ≠ 0 then cond ((fr f x).testBit (fp f - 2)) 9 8 else cond (ng f x) 0 7)
  else if ex f x ≠ 0 then cond (ng f x) 1 6 else if fr f x ≠ 0 then cond (ng f x) 2 5 else cond (ng f x) 3 4
theorem cls_range (f x : Nat) : 0 ≤ cls f x ∧ cls f x ≤ 9 := by
  unfold cls
  cases ng f x <;> cases (fr f x).testBit (fp f - 2) <;> simp only [cond_true, cond_false] <;> (repeat' split) <;> omega
theorem eqN_zero (x : Nat) (hx : x < Q6) : eqN 6 (W x) (fun _ => 0) = decide (x = 0) := by
  rw [Bool.eq_iff_iff, eqN_iff, decide_eq_true_iff]
  constructor
  · intro h
    obtain ⟨n, hn⟩ : ∃ n : Nat, n = 6 := ⟨6, rfl⟩
    refine eq_of_wd (n := n) (by rw [Q6_at (by omega)]; exact hx) (Nat.two_pow_pos _) fun i hi => ?_
    rw [hn] at hi
    have := h i hi
    rw [W_app] at this
    rw [wd_zero 0 i (Nat.two_pow_pos _)]; omega
  · intro h i hi; subst h; rw [W_zero]
theorem br_cond (b : Bool) (K : Int → Prop) (x y : Int) : br b (K x) (K y) = K (cond b x y) := by cases b <;> rfl
theorem two_fe (f : Nat) (h : f ≤ 3) : addI .i64 (mulI .i64 2 (fe f : Int)) 1 = ((2 * fe f + 1 : Nat) : Int) := by rcases four h with rfl | rfl | rfl | rfl <;> decide
theorem fr_Q6 (f x : Nat) (h : f ≤ 3) : fr f x < Q6 := p384 (by have := fw_le f h; omega) (fr_lt f x)
theorem r08_Class_ok (f x : Nat) (h : f ≤ 3) (hx : x < 2 ^ fw f) (K : Int → Prop) (hK : K (cls f x)) : r08_Class f (Hi x) (Lo x) K := by
  have hw := fw_le f h
  rw [r08_Class.is]; unfold r08_Class.d
  refine r07_Fields_ok f x h hx _ ?_
  rw [r07_Ones_ok f h, eq_nat, eqN_zero _ (fr_Q6 f x h), show (0 : Int) = ((0 : Nat) : Int) from rfl, eq_nat]
  unfold cls at hK
  by_cases h1 : ex f x = 2 * fe f + 1
  · rw [if_pos h1] at hK
    rw [br_t (by simpa using h1)]
    by_cases h2 : fr f x = 0
    · rw [if_neg (by simpa using h2)] at hK
      rw [br_f (by simpa using h2), br_cond]; exact hK
    · rw [if_pos h2] at hK
      rw [br_t (by simpa using h2), r07_Precision_ok f h, fp_m2 f h, r02_Bit_ok _ _ (by omega), br_cond]; exact hK
  · rw [if_neg h1] at hK
    rw [br_f (by simpa using h1)]
    by_cases h3 : ex f x = 0
    · rw [if_neg (by simpa using h3)] at hK
      rw [br_f (by simpa using h3)]
      by_cases h2 : fr f x = 0
      · rw [if_neg (by simpa using h2)] at hK
        rw [br_f (by simpa using h2), br_cond]; exact hK
      · rw [if_pos h2] at hK
        rw [br_t (by simpa using h2), br_cond]; exact hK
    · rw [if_pos h3] at hK
      rw [br_t (by simpa using h3), br_cond]; exact hK
theorem kind_class_ok (f x : Nat) (h : f ≤ 3) (hx : x < 2 ^ fw f) (K : Int → Prop) (hK : K (cls f x)) : kind_class f (Hi x) (Lo x) K := by
  have hw := fw_le f h
  rw [kind_class.is]; unfold kind_class.d
  refine kind_fields_ok f x h hx _ ?_
  rw [shape_Emax_ok f h, shape_Emax_ok f h, two_fe f h, eq_nat, eqN_zero _ (fr_Q6 f x h), show (0 : Int) = ((0 : Nat) : Int) from rfl, eq_nat, shape_Precision_ok f h, fp_m2 f h, wide_Bit_ok _ _ (by omega)]
  unfold cls at hK
  by_cases h1 : ex f x = 2 * fe f + 1
  · rw [if_pos h1] at hK
    rw [br_t (by simpa using h1)]
    by_cases h2 : fr f x = 0
    · rw [if_neg (by simpa using h2)] at hK
      have h3 : ex f x ≠ 0 := by omega
      rw [br_f (by simpa using h2), br_t (by simpa using h3), br_t (by simpa using h2), br_t (by simpa using h1), br_cond]; exact hK
    · rw [if_pos h2] at hK
      rw [br_t (by simpa using h2), br_cond]; exact hK
  · rw [if_neg h1] at hK
    rw [br_f (by simpa using h1)]
    by_cases h3 : ex f x = 0
    · rw [if_neg (by simpa using h3)] at hK
      rw [br_f (by simpa using h3), br_f (by simpa using h3)]
      by_cases h2 : fr f x = 0
      · rw [if_neg (by simpa using h2)] at hK
        rw [br_f (by simpa using h2), br_cond]; exact hK
      · rw [if_pos h2] at hK
        rw [br_t (by simpa using h2), br_cond]; exact hK
    · rw [if_pos h3] at hK
      rw [br_t (by simpa using h3)]
      by_cases h2 : fr f x = 0
      · rw [br_t (by simpa using h2), br_f (by simpa using h1), br_t (by simpa using h3), br_cond]; exact hK
      · rw [br_f (by simpa using h2), br_t (by simpa using h3), br_cond]; exact hK
theorem kind_Class_ok (f x : Nat) (h : f ≤ 3) (hx : x < 2 ^ fw f) (K : Int → Int → Prop) (hK : K (cls f x) 0) : kind_Class f (Hi x) (Lo x) K := by
  rw [kind_Class.is]; unfold kind_Class.d
  rw [shape_Fits_ok f x h (x128 h hx), br_f (by simpa using hx)]
  exact kind_class_ok f x h hx _ hK
end Go.Ev.S

/- Differences: of words, bit by bit; of numbers of six words. -/
set_option linter.unusedVariables false
set_option linter.unusedSimpArgs false
set_option maxRecDepth 8000
namespace Go.Ev.S
open Go Go.Ev
end Go.Ev.S

/- Quiet and next encodings: the abacus and the document's answer; the law KindSigns. -/
set_option linter.unusedVariables false
set_option linter.unusedSimpArgs false
set_option maxRecDepth 8000
namespace Go.Ev.S
open Go Go.Ev
def nanOf (f : Nat) : Nat := enc f false (2 * fe f + 1) (2 ^ (fp f - 2))
def quiet (f x : Nat) : Nat := if 8 ≤ cls f x then x ||| nanOf f else x
theorem unpack_one (K : Int → (Nat → Int) → Int → (Nat → Int) → Int → Prop) (hK : K 6 (upd (fun _ => 0) 0 1024) (-10) (fun _ => 0) 0) : kind_Unpack (2 : Int) 0 15360 K := by
  have e1 : kind_Unpack (2 : Int) 0 15360 = kind_Unpack ((2 : Nat) : Int) (Hi 15360) (Lo 15360) := rfl
  rw [e1, kind_Unpack.is]; unfold kind_Unpack.d
  rw [shape_Fits_ok 2 15360 (by omega) (by decide), br_f (by decide), shape_Precision_ok 2 (by omega)]
  refine kind_fields_ok 2 15360 (by omega) (by decide) _ ?_
  refine kind_class_ok 2 15360 (by omega) (by decide) _ ?_
  have e2 : cls 2 15360 = 6 := by decide
  have e3 : ex 2 15360 = 15 := by decide
  have e4 : fr 2 15360 = 0 := by decide
  rw [e2, e3, e4, W_zero, br_f (by decide), br_f (by decide), br_f (by decide), br_t (by decide), gd_t (by decide), gd_t (by decide), gd_t (by decide), shape_Emin_ok 2 (by omega)]
  exact hK
theorem law08_alive_ok (K : Bool → Prop) (hK : K true) : law08_alive K := by
  rw [law08_alive.is]; unfold law08_alive.d
  have e1 : kind_Class (2 : Int) 0 32768 = kind_Class ((2 : Nat) : Int) (Hi 32768) (Lo 32768) := rfl
  rw [e1]
  refine kind_Class_ok 2 32768 (by omega) (by decide) _ ?_
  refine unpack_one _ ?_
  have e2 : kind_Class (4 : Int) 0 0 = kind_Class ((4 : Nat) : Int) 0 0 := rfl
  rw [e2, kind_Class.is]; unfold kind_Class.d
  rw [shape_Fits_no 4 (by omega), br_t (by decide)]
  have e3 : cls 2 32768 = 3 := by decide
  rw [e3]
  exact hK
theorem fits_split (f x : Nat) : (f ≤ 3 ∧ x < 2 ^ fw f) ∨ (f ≤ 3 ∧ 2 ^ fw f ≤ x) ∨ 3 < f := by omega
theorem r07_Fits_not (f x : Nat) (hx : x < 2 ^ 128) (hb : (f ≤ 3 ∧ 2 ^ fw f ≤ x) ∨ 3 < f) (K : Bool → Prop) (hK : K false) : r07_Fits f (Hi x) (Lo x) K := by
  rcases hb with ⟨h, h2⟩ | h
  · refine r07_Fits_ok f x h hx _ ?_
    have : decide (x < 2 ^ fw f) = false := by simpa using h2
    rw [this]; exact hK
  · rw [r07_Fits_no f h]; exact hK
theorem r07_Fits_yes (f x : Nat) (h : f ≤ 3) (hx : x < 2 ^ fw f) (K : Bool → Prop) (hK : K true) : r07_Fits f (Hi x) (Lo x) K := by
  refine r07_Fits_ok f x h (x128 h hx) _ ?_
  have : decide (x < 2 ^ fw f) = true := by simpa using hx
  rw [this]; exact hK
end Go.Ev.S

/- The parts of an encoding: the abacus and the document's answer. -/
set_option linter.unusedVariables false
set_option linter.unusedSimpArgs false
set_option maxRecDepth 8000
namespace Go.Ev.S
open Go Go.Ev
def isN (c : Int) : Bool := eqI c 1 || eqI c 6
def isS (c : Int) : Bool := eqI c 2 || eqI c 5
def isQ (c : Int) : Bool := eqI c 8 || eqI c 9
def usig (f x : Nat) : Nat := cond (isN (cls f x)) (fr f x + 2 ^ (fp f - 1)) (cond (isS (cls f x)) (fr f x) 0)
def uexp (f x : Nat) : Int := cond (isN (cls f x)) ((ex f x : Int) + 1 - fe f - fp f) (cond (isS (cls f x)) (2 - (fe f : Int) - fp f) 0)
def ufr (f x : Nat) : Nat := cond (isQ (cls f x)) (fr f x) 0
theorem cls_ten (f x : Nat) : cls f x = 0 ∨ cls f x = 1 ∨ cls f x = 2 ∨ cls f x = 3 ∨ cls f x = 4 ∨ cls f x = 5 ∨ cls f x = 6 ∨ cls f x = 7 ∨ cls f x = 8 ∨ cls f x = 9 := by
  have := cls_range f x; omega
theorem cls_sub (f x : Nat) (h : isS (cls f x) = true) : ex f x = 0 := by
  unfold isS at h
  apply Classical.byContradiction
  intro he
  unfold cls at h
  rw [if_pos he] at h
  revert h
  cases ng f x <;> cases (fr f x).testBit (fp f - 2) <;> simp only [cond_true, cond_false] <;> (repeat' split) <;> simp [eqI]
theorem kind_Unpack_ok (f x : Nat) (h : f ≤ 3) (hx : x < 2 ^ fw f) (K : Int → (Nat → Int) → Int → (Nat → Int) → Int → Prop) (hK : K (cls f x) (W (usig f x)) (uexp f x) (W (ufr f x)) 0) : kind_Unpack f (Hi x) (Lo x) K := by
  have hw := fw_le f h
  have hz : (fun _ : Nat => (0 : Int)) = W 0 := W_zero.symm
  have hex := ex_le f x
  rw [kind_Unpack.is]; unfold kind_Unpack.d
  rw [shape_Fits_ok f x h (x128 h hx), br_f (by simpa using hx), shape_Precision_ok f h]
  refine kind_fields_ok f x h hx _ ?_
  refine kind_class_ok f x h hx _ ?_
  have q1 : quoI IntKind.i64 (subI IntKind.i64 (fp f : Int) 1) 64 = (((fp f - 1) / 64 : Nat) : Int) := by rw [fp_m1 f h, quo64 _ (by omega)]
  have q2 : cvI IntKind.u64 (remI IntKind.i64 (subI IntKind.i64 (fp f : Int) 1) 64) = (((fp f - 1) % 64 : Nat) : Int) := by rw [fp_m1 f h, rem64, cv_u64 (by omega) (by omega)]
  have g1 : (leI 0 (((fp f - 1) / 64 : Nat) : Int) && ltI (((fp f - 1) / 64 : Nat) : Int) 6) = true := idx_ok (by omega) (by omega)
  have g2 : (!ltI (((fp f - 1) % 64 : Nat) : Int) 0) = true := sh_ok (by omega)
  have e1 : addI IntKind.i64 (subI IntKind.i64 (addI IntKind.i64 (subI IntKind.i64 (ex f x : Int) 1) (1 - (fe f : Int))) (fp f : Int)) 1 = (ex f x : Int) + 1 - fe f - fp f := by
    have s1 : subI .i64 (ex f x : Int) 1 = (ex f x : Int) - 1 := sub_i64 (by omega) (by omega)
    have s2 : addI .i64 ((ex f x : Int) - 1) (1 - (fe f : Int)) = (ex f x : Int) - 1 + (1 - (fe f : Int)) := add_i64 (by omega) (by omega)
    have s3 : subI .i64 ((ex f x : Int) - 1 + (1 - (fe f : Int))) (fp f : Int) = (ex f x : Int) - 1 + (1 - (fe f : Int)) - fp f := sub_i64 (by omega) (by omega)
    have s4 : addI .i64 ((ex f x : Int) - 1 + (1 - (fe f : Int)) - fp f) 1 = (ex f x : Int) - 1 + (1 - (fe f : Int)) - fp f + 1 := add_i64 (by omega) (by omega)
    rw [s1, s2, s3, s4]; omega
  have e2 : isS (cls f x) = true → addI IntKind.i64 (subI IntKind.i64 (addI IntKind.i64 (ex f x : Int) (1 - (fe f : Int))) (fp f : Int)) 1 = 2 - (fe f : Int) - fp f := by
    intro hs
    have := cls_sub f x hs
    have s2 : addI .i64 (ex f x : Int) (1 - (fe f : Int)) = (ex f x : Int) + (1 - (fe f : Int)) := add_i64 (by omega) (by omega)
    have s3 : subI .i64 ((ex f x : Int) + (1 - (fe f : Int))) (fp f : Int) = (ex f x : Int) + (1 - (fe f : Int)) - fp f := sub_i64 (by omega) (by omega)
    have s4 : addI .i64 ((ex f x : Int) + (1 - (fe f : Int)) - fp f) 1 = (ex f x : Int) + (1 - (fe f : Int)) - fp f + 1 := add_i64 (by omega) (by omega)
    rw [s2, s3, s4]; omega
  have hsig : upd (W (fr f x)) ((fp f - 1) / 64) (orI .u64 (W (fr f x) ((fp f - 1) / 64)) (shlI .u64 1 (((fp f - 1) % 64 : Nat) : Int))) = W (fr f x + 2 ^ (fp f - 1)) := by
    rw [W_setbit, or_pow _ _ (fr_lt f x)]
  rw [q1, q2, gd_t g1, gd_t g2, gd_t g1, Int.toNat_natCast, hsig, shape_Emin_ok f h, shape_Emin_ok f h, e1, hz]
  unfold usig uexp ufr at hK
  rcases cls_ten f x with c | c | c | c | c | c | c | c | c | c <;> rw [c] at hK ⊢ <;> rw [c] at e2 <;> first
    | exact hK
    | (rw [e2 rfl]; exact hK)
theorem r08_Unpack_ok (f x : Nat) (h : f ≤ 3) (hx : x < 2 ^ fw f) (K : Int → (Nat → Int) → Int → (Nat → Int) → Prop) (hK : K (cls f x) (W (usig f x)) (uexp f x) (W (ufr f x))) : r08_Unpack f (Hi x) (Lo x) K := by
  have hw := fw_le f h
  have hz : (fun _ : Nat => (0 : Int)) = W 0 := W_zero.symm
  have hex := ex_le f x
  have hpq : 2 ^ (fp f - 1) < Q6 := lt_Q6 (by omega)
  have hsq : fr f x + 2 ^ (fp f - 1) < Q6 := by
    have h1 := fr_lt f x
    have h2 : 2 ^ (fp f - 1 + 1) ≤ Q6 := le_Q6 (by omega)
    rw [Nat.pow_succ] at h2; omega
  have e1 : addI IntKind.i64 (subI IntKind.i64 (subI IntKind.i64 (ex f x : Int) (fe f : Int)) (fp f : Int)) 1 = (ex f x : Int) + 1 - fe f - fp f := by
    have s2 : subI .i64 (ex f x : Int) (fe f : Int) = (ex f x : Int) - fe f := sub_i64 (by omega) (by omega)
    have s3 : subI .i64 ((ex f x : Int) - fe f) (fp f : Int) = (ex f x : Int) - fe f - fp f := sub_i64 (by omega) (by omega)
    have s4 : addI .i64 ((ex f x : Int) - fe f - fp f) 1 = (ex f x : Int) - fe f - fp f + 1 := add_i64 (by omega) (by omega)
    rw [s2, s3, s4]; omega
  have e2 : addI IntKind.i64 (subI IntKind.i64 (1 - (fe f : Int)) (fp f : Int)) 1 = 2 - (fe f : Int) - fp f := by
    have s3 : subI .i64 (1 - (fe f : Int)) (fp f : Int) = 1 - (fe f : Int) - fp f := sub_i64 (by omega) (by omega)
    have s4 : addI .i64 (1 - (fe f : Int) - fp f) 1 = 1 - (fe f : Int) - fp f + 1 := add_i64 (by omega) (by omega)
    rw [s3, s4]; omega
  have hN : ∀ c : Int, K c (W (fr f x + 2 ^ (fp f - 1))) ((ex f x : Int) + 1 - fe f - fp f) (W 0) → (r02_Of 1 fun y0_3 => r02_Left y0_3 (subI IntKind.i64 (fp f : Int) 1) fun y0_4 y1_1 => r02_Add y0_4 (W (fr f x)) fun y0_5 y1_2 => r07_Emax f fun y0_6 => K c y0_5 (addI IntKind.i64 (subI IntKind.i64 (subI IntKind.i64 (ex f x : Int) y0_6) (fp f : Int)) 1) fun x => 0) := by
    intro c hc
    rw [show (1 : Int) = ((1 : Nat) : Int) from rfl, r02_Of_ok 1 (by omega), show subI .i64 (fp f : Int) ((1 : Nat) : Int) = ((fp f - 1 : Nat) : Int) from fp_m1 f h]
    refine r02_Left_ok 1 (fp f - 1) (p384 (a := 64) (by omega) (by omega)) (by omega) _ ?_
    rw [Nat.one_mul, Nat.mod_eq_of_lt hpq]
    refine r02_Add_ok _ _ hpq (fr_Q6 f x h) _ ?_
    rw [r07_Emax_ok f h, show ((1 : Nat) : Int) = 1 from rfl, e1, hz, Nat.add_comm, Nat.mod_eq_of_lt hsq]
    exact hc
  have hS : ∀ c : Int, K c (W (fr f x)) (2 - (fe f : Int) - fp f) (W 0) → (r07_Emin f fun y0_3 => K c (W (fr f x)) (addI IntKind.i64 (subI IntKind.i64 y0_3 (fp f : Int)) 1) fun x => 0) := by
    intro c hc
    rw [r07_Emin_ok f h, e2, hz]; exact hc
  have hO : ∀ c : Int, K c (W 0) 0 (W 0) → K c (fun _ => 0) 0 (fun _ => 0) := fun c hc => by rw [hz]; exact hc
  have hQ : ∀ c : Int, K c (W 0) 0 (W (fr f x)) → K c (fun _ => 0) 0 (W (fr f x)) := fun c hc => by rw [hz]; exact hc
  rw [r08_Unpack.is]; unfold r08_Unpack.d
  refine r08_Class_ok f x h hx _ ?_
  refine r07_Fields_ok f x h hx _ ?_
  rw [r07_Precision_ok f h]
  unfold usig uexp ufr at hK
  rcases cls_ten f x with c | c | c | c | c | c | c | c | c | c <;> rw [c] at hK ⊢
  · exact hO 0 hK
  · exact hN 1 hK
  · exact hS 2 hK
  · exact hO 3 hK
  · exact hO 4 hK
  · exact hS 5 hK
  · exact hN 6 hK
  · exact hO 7 hK
  · exact hQ 8 hK
  · exact hQ 9 hK
end Go.Ev.S

/- Signs put together, words and classes: the abacus and the document's answer; the laws of signs. -/
set_option linter.unusedVariables false
set_option linter.unusedSimpArgs false
set_option maxRecDepth 8000
namespace Go.Ev.S
open Go Go.Ev
end Go.Ev.S

/- The plain laws of SignWords and SignBack. -/
set_option linter.unusedVariables false
set_option linter.unusedSimpArgs false
set_option maxRecDepth 8000
namespace Go.Ev.S
open Go Go.Ev
def ext (w x : Nat) : Nat := cond (x.testBit (w - 1)) (x % 2 ^ w + (18446744073709551616 - 2 ^ w)) (x % 2 ^ w)
end Go.Ev.S

/- Encodings compared: what the functions come to. -/
set_option linter.unusedVariables false
set_option linter.unusedSimpArgs false
set_option maxRecDepth 8000
namespace Go.Ev.S
open Go Go.Ev
end Go.Ev.S

/- The order of all encodings; the lesser and the greater one. -/
set_option linter.unusedVariables false
set_option linter.unusedSimpArgs false
set_option maxRecDepth 8000
namespace Go.Ev.S
open Go Go.Ev
end Go.Ev.S

/- What encodings say: their exact values, in order. -/
set_option linter.unusedVariables false
set_option linter.unusedSimpArgs false
set_option maxRecDepth 8000
namespace Go.Ev.S
open Go Go.Ev
def mg (f x : Nat) : Nat := ex f x * 2 ^ (fp f - 1) + fr f x
theorem mg_zero (f x : Nat) : mg f x = 0 ↔ ex f x = 0 ∧ fr f x = 0 := by
  have hp := Nat.two_pow_pos (fp f - 1)
  unfold mg
  constructor
  · intro h
    have h1 : ex f x * 2 ^ (fp f - 1) = 0 := by omega
    rcases Nat.mul_eq_zero.1 h1 with h2 | h2
    · exact ⟨h2, by omega⟩
    · omega
  · rintro ⟨h1, h2⟩; rw [h1, h2]; omega
def fin (f x : Nat) : Prop := ex f x ≠ 2 * fe f + 1
theorem fin_iff (f x : Nat) : fin f x ↔ (1 ≤ cls f x ∧ cls f x ≤ 6) := by
  unfold fin cls
  cases ng f x <;> cases (fr f x).testBit (fp f - 2) <;> simp only [cond_true, cond_false] <;> (repeat' split) <;> constructor <;> intros <;> first | omega | simp_all
end Go.Ev.S

/- Exact numbers compared, as rational ones; encodings compared by their values. -/
set_option linter.unusedVariables false
set_option linter.unusedSimpArgs false
set_option maxRecDepth 8000
namespace Go.Ev.S
open Go Go.Ev
section
variable {n1 n2 : Bool} {a1 b1 a2 b2 : Nat} {e1 e2 : Int}
end
theorem fit_Q6 {x : Nat} (h : x < Q6) : fit x := by
  unfold fit
  obtain ⟨N, hN⟩ : ∃ N, N = 48 := ⟨_, rfl⟩
  have : (nb x).length ≤ N := by rw [nb_len_le, p256, p384' hN]; exact h
  omega
theorem fit_one : fit 1 := by unfold fit; rw [nb_one]; decide
theorem usig_lt (f x : Nat) (h : f ≤ 3) : usig f x < 2 ^ fp f := by
  have h1 := fr_lt f x
  have h2 : 2 ^ fp f = 2 ^ (fp f - 1) + 2 ^ (fp f - 1) := by
    rcases four h with rfl | rfl | rfl | rfl <;> decide
  have hp := Nat.two_pow_pos (fp f - 1)
  unfold usig
  cases isN (cls f x) <;> cases isS (cls f x) <;> simp only [cond_true, cond_false] <;> omega
theorem usig_Q6 (f x : Nat) (h : f ≤ 3) : usig f x < Q6 := p384 (by have := fw_le f h; omega) (usig_lt f x h)
theorem uexp_range (f x : Nat) (h : f ≤ 3) : -16495 ≤ uexp f x ∧ uexp f x ≤ 16272 := by
  have h1 := ex_le f x
  unfold uexp
  rcases four h with rfl | rfl | rfl | rfl <;> simp only [fe, fp] at * <;> cases isN (cls _ x) <;> cases isS (cls _ x) <;> simp only [cond_true, cond_false] <;> omega
theorem lowb_small {x n : Nat} (h0 : x ≠ 0) (h : x < 2 ^ n) : lowb x < n := lowb_lt x n h0 h
theorem rdE_enc (f x : Nat) (h : f ≤ 3) (h0 : usig f x ≠ 0) : -16495 ≤ rdE (usig f x) 1 (uexp f x) ∧ rdE (usig f x) 1 (uexp f x) ≤ 16385 := by
  have h1 := uexp_range f x h
  have h2 := lowb_small h0 (usig_lt f x h)
  have h3 : lowb 1 = 0 := by rw [lowb]; simp
  have h4 : fp f ≤ 113 := by rcases four h with rfl | rfl | rfl | rfl <;> decide
  unfold rdE; rw [h3]; omega
theorem value_mk (f x : Nat) (h : f ≤ 3) (K : Bool → List UInt8 → List UInt8 → Int → Int → Prop)
    (hK : ∀ n a e, Can n a 1 e → V n a 1 e = V (ng f x) (usig f x) 1 (uexp f x) → a < 2 ^ fp f → -16495 ≤ e → e ≤ 16385 → K n (nb a) [1] e 0) : mkE (ng f x) (usig f x) 1 (uexp f x) K := by
  unfold mkE
  by_cases h0 : usig f x = 0
  · rw [if_pos h0]
    have := hK false 0 0 ⟨by unfold fit; rw [nb_zero]; decide, fit_one, rfl, by unfold win; omega, fun _ => ⟨rfl, rfl, rfl⟩, fun h => absurd rfl h⟩ (by rw [h0, V_zero, V_zero]) (Nat.two_pow_pos _) (by omega) (by omega)
    rwa [nb_zero] at this
  · rw [if_neg h0]
    have w := rdE_enc f x h h0
    rw [if_pos (by unfold win; omega)]
    have e1 : rdB (usig f x) 1 = 1 := by
      have : odp 1 = 1 := by unfold odp; rw [show lowb 1 = 0 from by rw [lowb]; simp]
      unfold rdB; rw [this, Nat.gcd_one_right]
    obtain ⟨r1, r2, r3⟩ := rd_canon h0 (show (1 : Nat) ≠ 0 by omega)
    have hV := V_rd (ng f x) (uexp f x) h0 (show (1 : Nat) ≠ 0 by omega)
    rw [e1] at hV r3 ⊢
    rw [nb_one]
    have hl : rdA (usig f x) 1 ≤ usig f x := Nat.le_trans (Nat.div_le_self _ _) (Nat.div_le_self _ _)
    exact hK _ _ _ ⟨fit_le (fit_Q6 (usig_Q6 f x h)) hl, fit_one, rfl, by unfold win; omega, fun hh => by omega, fun _ => ⟨r1, r3⟩⟩ hV (Nat.lt_of_le_of_lt hl (usig_lt f x h)) w.1 w.2
theorem r08_Value_ok (f x : Nat) (h : f ≤ 3) (hx : x < 2 ^ fw f) (hf : fin f x) (K : Bool → List UInt8 → List UInt8 → Int → Int → Prop)
    (hK : mkE (ng f x) (usig f x) 1 (uexp f x) fun n a b e _ => K n a b e 0) : r08_Value f (Hi x) (Lo x) K := by
  have hc := (fin_iff f x).1 hf
  rw [r08_Value.is]; unfold r08_Value.d
  refine r08_Unpack_ok f x h hx _ ?_
  rw [br_f (eq_f (by omega)), br_f (eq_f (by omega)), br_f (eq_f (by omega)), br_f (eq_f (by omega))]
  refine r08_Sign_ok f x h hx _ ?_
  refine r05_OfWide_ok _ (usig_Q6 f x h) _ ?_
  have we : win (uexp f x) := by have := uexp_range f x h; unfold win; omega
  rw [← nb_one]
  exact r06_Make_n (ng f x) (fit_Q6 (usig_Q6 f x h)) fit_one (by decide) we hK
end Go.Ev.S

/- Exact numbers added, multiplied, compared, measured: the abacus. -/
set_option linter.unusedVariables false
set_option linter.unusedSimpArgs false
set_option maxRecDepth 8000
namespace Go.Ev.S
open Go Go.Ev
section
variable {n1 n2 : Bool} {a1 b1 a2 b2 : Nat} {e1 e2 : Int}
theorem Can.neg {s : Bool} {a b : Nat} {e : Int} (c : Can s a b e) : Can (!s && decide (a ≠ 0)) a b e :=
  ⟨c.fa, c.fb, c.ob, c.we, fun h => ⟨by simp [h], (c.z h).2⟩, c.r⟩
end
theorem exact_top_ok (n : Bool) {a b : Nat} {e : Int} (c : Can n a b e) (h0 : a ≠ 0) (K : Int → Prop) (h2 : K (tp a b + e)) : exact_top n (nb a) (nb b) e K := by
  have w := c.e64
  have la := fit_blen c.fa
  have lb := fit_blen c.fb
  rw [exact_top.is]; unfold exact_top.d
  refine nat_Len_n c.fa ?_
  refine nat_Len_n c.fb ?_
  rw [sub_i64 (by omega) (by omega)]
  unfold tp at h2
  by_cases hl : blen b ≤ blen a
  · rw [if_pos hl] at h2
    rw [br_t (le_t (by omega))]
    have et : ((blen a : Int) - blen b).toNat = blen a - blen b := by omega
    have hf := fit_up c.fa c.b0 hl
    refine nat_Left_n _ (by omega) (by omega) c.fb (tell_of (fun f => ?_) fun f => absurd (by rw [et]; exact hf) f)
    refine nat_Cmp_n c.fa f ?_
    rw [et, sgn_lt0]
    refine br_ndec (fun h3 => ?_) fun h3 => ?_
    · rw [if_neg h3] at h2
      rw [sub_i64 (by omega) (by omega), add_i64 (by omega) (by omega), show ((blen a : Int) - blen b - 1 + e) = ((blen a - blen b : Nat) : Int) - 1 + e from by omega]; exact h2
    · rw [if_pos h3] at h2
      rw [add_i64 (by omega) (by omega), show ((blen a : Int) - blen b + e) = ((blen a - blen b : Nat) : Int) + e from by omega]; exact h2
  · rw [if_neg hl] at h2
    rw [br_f (le_f (by omega))]
    have en : negI .i64 ((blen a : Int) - blen b) = (blen b : Int) - blen a := by
      show IntKind.wrap .i64 _ = _
      rw [i64_id (by omega) (by omega)]; omega
    have et : ((blen b : Int) - blen a).toNat = blen b - blen a := by omega
    have hf := fit_up c.fb h0 (show blen a ≤ blen b by omega)
    rw [en]
    refine nat_Left_n _ (by omega) (by omega) c.fa (tell_of (fun f => ?_) fun f => absurd (by rw [et]; exact hf) f)
    refine nat_Cmp_n f c.fb ?_
    rw [et, sgn_lt0]
    refine br_ndec (fun h3 => ?_) fun h3 => ?_
    · rw [if_neg h3] at h2
      rw [sub_i64 (by omega) (by omega), add_i64 (by omega) (by omega), show ((blen a : Int) - blen b - 1 + e) = -((blen b - blen a : Nat) : Int) - 1 + e from by omega]; exact h2
    · rw [if_pos h3] at h2
      rw [add_i64 (by omega) (by omega), show ((blen a : Int) - blen b + e) = -((blen b - blen a : Nat) : Int) + e from by omega]; exact h2
theorem exact_Top_ok (n : Bool) {a b : Nat} {e : Int} (c : Can n a b e) (K : Int → Int → Prop) (h1 : a = 0 → K 0 2) (h2 : a ≠ 0 → K (tp a b + e) 0) : exact_Top n (nb a) (nb b) e K := by
  rw [exact_Top.is]; unfold exact_Top.d
  refine exact_Check_ok _ _ _ _ _ (fun _ => ?_) fun hh => absurd c.may hh
  rw [br_f (by rfl), eqS_nb]
  refine br_dec h1 fun h0 => ?_
  exact exact_top_ok n c h0 _ (h2 h0)
theorem exact_Floor_ok (s : Bool) {a b : Nat} {e : Int} (c : Can s a b e) (n : Int) (hn : -9223372036854775808 ≤ n ∧ n < 9223372036854775808) (K : List UInt8 → Bool → Int → Prop) (h : floE a b e n K) : exact_Floor s (nb a) (nb b) e n K := by
  have w := c.e64
  rw [exact_Floor.is]; unfold exact_Floor.d
  refine exact_Check_ok _ _ _ _ _ (fun _ => ?_) fun hh => absurd c.may hh
  rw [br_f (by rfl)]
  unfold floE at h
  by_cases g1 : n < -2097152
  · rw [br_t (lt_t g1)]; rw [if_pos (.inl g1)] at h; exact h
  rw [br_f (lt_f (by omega))]
  by_cases g2 : 2097152 < n
  · rw [br_t (lt_t g2)]; rw [if_pos (.inr g2)] at h; exact h
  rw [br_f (lt_f (by omega)), eqS_nb]
  rw [if_neg (by omega)] at h
  refine br_dec (fun h0 => ?_) fun h0 => ?_
  · rw [if_pos h0] at h; exact h
  rw [if_neg h0] at h
  by_cases g3 : n ≤ e
  · rw [br_t (le_t g3)]
    rw [if_pos g3] at h
    rw [sub_i64 (by omega) (by omega)]
    refine nat_Left_n _ (by omega) (by omega) c.fa (tell_of (fun f1 => ?_) fun f1 => ?_)
    · rw [if_pos f1] at h
      rw [br_f (by rfl)]
      refine nat_Div_n f1 c.fb c.b0 ?_
      rw [eqS_nb]; exact h
    · rw [if_neg f1] at h
      rw [br_t (by rfl)]; exact h
  · rw [br_f (le_f (by omega))]
    rw [if_neg g3] at h
    refine exact_top_ok s c h0 _ ?_
    by_cases g4 : tp a b + e < n
    · rw [br_t (lt_t g4)]; rw [if_pos g4] at h; exact h
    rw [br_f (lt_f (by omega))]
    rw [if_neg g4] at h
    have hf := fit_den h0 c.b0 c.fa g3 g4
    rw [sub_i64 (by omega) (by omega)]
    refine nat_Left_n _ (by omega) (by omega) c.fb (tell_of (fun f1 => ?_) fun f1 => absurd hf f1)
    refine nat_Div_n c.fa hf (Nat.mul_ne_zero c.b0 (Nat.pos_iff_ne_zero.1 (Nat.two_pow_pos _))) ?_
    rw [eqS_nb]; exact h
end Go.Ev.S

/- Encodings of exact numbers. -/
set_option linter.unusedVariables false
set_option linter.unusedSimpArgs false
set_option maxRecDepth 8000
namespace Go.Ev.S
open Go Go.Ev
theorem or_lo (e k t : Nat) (ht : t < 2 ^ k) : (e * 2 ^ k) ||| t = e * 2 ^ k + t := by
  rw [Nat.mul_comm]; exact (Nat.two_pow_add_eq_or_of_lt ht e).symm
theorem kind_build_ok (f e t : Nat) (h : f ≤ 3) (he : e ≤ 2 * fe f + 1) (ht : t < 2 ^ (fp f - 1)) (neg : Bool) (K : Int → Int → Prop) (hK : K (Hi (enc f neg e t)) (Lo (enc f neg e t))) : kind_build f neg e (W t) K := by
  obtain ⟨w1, w2, w3, w4, w5, w6⟩ := fw_le f h
  have hb := body_lt h he ht
  have hen := enc_lt h he ht neg
  have hb' : e * 2 ^ (fp f - 1) + t < Q6 := p384 (by omega) hb
  have he1 : e * 2 ^ (fp f - 1) < Q6 := by omega
  have ht1 : t < Q6 := p384 (by omega) ht
  rw [kind_build.is]; unfold kind_build.d
  rw [cv_u64 (by omega) (by omega), wide_Of_ok e (by omega), shape_Precision_ok f h, fp_m1 f h]
  refine wide_Left_val e (fp f - 1) (p384 (a := 64) (by omega) (by omega)) (by omega) _ fun bb => ?_
  rw [Nat.mod_eq_of_lt he1]
  refine wide_Or_ok _ _ he1 ht1 _ ?_
  rw [or_lo _ _ _ ht]
  cases neg with
  | false =>
    rw [br_f rfl]
    rw [wide_ToBits_ok _ (p128 (by omega) hb)]
    have : enc f false e t = e * 2 ^ (fp f - 1) + t := by simp [enc, sg]
    rw [this] at hK; exact hK
  | true =>
    have e1 : enc f true e t = e * 2 ^ (fp f - 1) + t + 2 ^ (fw f - 1) := by simp [enc, sg]; omega
    rw [e1] at hK hen
    have q1 : quoI IntKind.i64 (subI IntKind.i64 (fw f : Int) 1) 64 = (((fw f - 1) / 64 : Nat) : Int) := by rw [fw_m1 f h, quo64 _ (by omega)]
    have q2 : cvI IntKind.u64 (remI IntKind.i64 (subI IntKind.i64 (fw f : Int) 1) 64) = (((fw f - 1) % 64 : Nat) : Int) := by rw [fw_m1 f h, rem64, cv_u64 (by omega) (by omega)]
    have g1 : (leI 0 (((fw f - 1) / 64 : Nat) : Int) && ltI (((fw f - 1) / 64 : Nat) : Int) 6) = true := idx_ok (by omega) (by omega)
    have g2 : (!ltI (((fw f - 1) % 64 : Nat) : Int) 0) = true := sh_ok (by omega)
    rw [br_t rfl, shape_Width_ok f h, q1, q2, gd_t g1, gd_t g2, gd_t g1, Int.toNat_natCast, W_setbit, or_pow _ _ hb, wide_ToBits_ok _ (p128 (by omega) hen)]
    exact hK
def pl (f : Nat) (t : Int) : Int := (if t < 1 - fe f then 1 - (fe f : Int) else t) - fp f + 1
def encA (f : Nat) (n : Bool) (at_ : Int) (w : Nat) : Nat := sg f n + ((at_ + fe f + fp f - 2).toNat * 2 ^ (fp f - 1) + w)
theorem encA_hi {f : Nat} (h : f ≤ 3) (n : Bool) {t : Int} {w : Nat} (h1 : 2 ^ (fp f - 1) ≤ w) (h2 : w < 2 ^ fp f) :
    encA f n (pl f t) w = enc f n ((pl f t + fe f + fp f - 2).toNat + 1) (w % 2 ^ (fp f - 1)) := by
  have e2 : 2 ^ fp f = 2 ^ (fp f - 1) + 2 ^ (fp f - 1) := by rcases four h with rfl | rfl | rfl | rfl <;> decide
  have e3 : w % 2 ^ (fp f - 1) = w - 2 ^ (fp f - 1) := by
    rw [Nat.mod_eq_sub_mod h1, Nat.mod_eq_of_lt (by omega)]
  rw [e3]; unfold encA enc
  rw [Nat.add_mul]; omega
theorem encA_lo {f : Nat} (n : Bool) {t : Int} {w : Nat} (ht : t < 1 - fe f) : encA f n (pl f t) w = enc f n 0 w := by
  unfold encA enc pl
  rw [if_pos ht, show (1 - (fe f : Int) - fp f + 1 + fe f + fp f - 2).toNat = 0 from by omega, Nat.add_assoc]
theorem tp_one {a : Nat} (h : a ≠ 0) : tp a 1 = (blen a : Int) - 1 := by
  have h1 : blen 1 = 1 := by decide
  have h2 := blen_ge h
  have h3 : 1 ≤ blen a := by
    rcases Nat.eq_zero_or_pos (blen a) with h0 | h0
    · have := (blen_le a 0).1 (by omega); omega
    · exact h0
  unfold tp
  rw [h1, if_pos h3, Nat.one_mul, if_pos h2]; omega
def ofE (f : Nat) (n : Bool) (a b : Nat) (e : Int) (K : Int → Int → Bool → Prop) : Prop :=
  if a = 0 then K 0 0 true else if b ≠ 1 ∨ (fe f : Int) < tp a b + e ∨ e < pl f (tp a b + e) then K 0 0 false else
    K (Hi (encA f n (pl f (tp a b + e)) (a * 2 ^ (e - pl f (tp a b + e)).toNat))) (Lo (encA f n (pl f (tp a b + e)) (a * 2 ^ (e - pl f (tp a b + e)).toNat))) true
theorem blen_mul2 {a : Nat} (h : a ≠ 0) (k : Nat) : 2 ^ (blen a - 1 + k) ≤ a * 2 ^ k ∧ a * 2 ^ k < 2 ^ (blen a + k) := by
  rw [Nat.pow_add, Nat.pow_add]
  exact ⟨Nat.mul_le_mul_right _ (blen_ge h), Nat.mul_lt_mul_of_pos_right ((blen_le a _).1 (Nat.le_refl _)) (Nat.two_pow_pos k)⟩
theorem pl_range {f : Nat} (h : f ≤ 3) (t : Int) (h1 : t ≤ fe f) : -16494 ≤ pl f t ∧ pl f t ≤ 16384 ∧ 0 ≤ pl f t + fe f + fp f - 2 := by
  unfold pl
  rcases four h with rfl | rfl | rfl | rfl <;> simp only [fe, fp] at * <;> split <;> omega
theorem wide_nb {w : Nat} (h : w < Q6) : May (nb w) ∧ (nb w).length ≤ 48 := by
  refine ⟨May_nb (fit_Q6 h), ?_⟩
  obtain ⟨N, hN⟩ : ∃ N, N = 48 := ⟨_, rfl⟩
  have : (nb w).length ≤ N := by rw [nb_len_le, p256, p384' hN]; exact h
  omega
theorem nat_ToWide_n {w : Nat} (h : w < Q6) (K : (Nat → Int) → Bool → Prop) (hK : K (W w) true) : nat_ToWide (nb w) K := by
  refine nat_ToWide_ok _ _ ?_
  rw [if_pos (wide_nb h), val_nb]; exact hK
theorem r05_ToWide_n {w : Nat} (h : w < Q6) (K : (Nat → Int) → Bool → Prop) (hK : K (W w) true) : r05_ToWide (nb w) K := by
  refine r05_ToWide_ok _ _ ?_
  rw [if_pos (wide_nb h), val_nb]; exact hK
theorem bit_top {w p : Nat} (hp : 1 ≤ p) (hw : w < 2 ^ p) : w.testBit (p - 1) = decide (2 ^ (p - 1) ≤ w) := by
  have e2 : 2 ^ p = 2 ^ (p - 1) + 2 ^ (p - 1) := by obtain ⟨q, rfl⟩ : ∃ q, p = q + 1 := ⟨p - 1, by omega⟩; rw [Nat.pow_succ, Nat.add_sub_cancel]; omega
  by_cases h : 2 ^ (p - 1) ≤ w
  · rw [decide_eq_true h, show w = 2 ^ (p - 1) + (w - 2 ^ (p - 1)) from by omega, Nat.testBit_two_pow_add_eq, Nat.testBit_lt_two_pow (by omega)]; rfl
  · rw [decide_eq_false h, Nat.testBit_lt_two_pow (by omega)]
section
variable {n : Bool} {a b : Nat} {e : Int}
theorem of_num {f : Nat} (h : f ≤ 3) (h0 : a ≠ 0) (h1 : ¬ (b ≠ 1 ∨ (fe f : Int) < tp a b + e ∨ e < pl f (tp a b + e))) :
    a * 2 ^ (e - pl f (tp a b + e)).toNat < 2 ^ fp f ∧ (1 - (fe f : Int) ≤ tp a b + e ↔ 2 ^ (fp f - 1) ≤ a * 2 ^ (e - pl f (tp a b + e)).toNat) := by
  obtain ⟨w1, w2, w3, w4, w5, w6⟩ := fw_le f h
  have hb : b = 1 := by omega
  subst hb
  have ht := tp_one h0
  have hm := blen_mul2 h0 (e - pl f (tp a 1 + e)).toNat
  have h3 : 1 ≤ blen a := by
    rcases Nat.eq_zero_or_pos (blen a) with hh | hh
    · have := (blen_le a 0).1 (by omega); omega
    · exact hh
  have hpl : pl f (tp a 1 + e) ≤ e := by omega
  by_cases hs : tp a 1 + e < 1 - fe f
  · have hp1 : pl f (tp a 1 + e) = 2 - fe f - fp f := by unfold pl; rw [if_pos hs]; omega
    have l1 : blen a + (e - pl f (tp a 1 + e)).toNat ≤ fp f - 1 := by omega
    have l2 := Nat.pow_le_pow_right (show 0 < 2 by omega) l1
    have l3 := Nat.pow_lt_pow_right (show 1 < 2 by omega) (show fp f - 1 < fp f by omega)
    exact ⟨by omega, by omega, by omega⟩
  · have hp1 : pl f (tp a 1 + e) = tp a 1 + e - fp f + 1 := by unfold pl; rw [if_neg hs]
    have l1 : blen a + (e - pl f (tp a 1 + e)).toNat = fp f := by omega
    have l2 : blen a - 1 + (e - pl f (tp a 1 + e)).toNat = fp f - 1 := by omega
    rw [l1, l2] at hm
    exact ⟨by omega, fun _ => by omega, fun _ => by omega⟩
theorem kind_Of_ok (f : Nat) (h : f ≤ 3) (c : Can n a b e) (K : Int → Int → Bool → Int → Prop) (hK : ofE f n a b e fun y0 y1 y2 => K y0 y1 y2 0) : kind_Of f n (nb a) (nb b) e K := by
  obtain ⟨w1, w2, w3, w4, w5, w6⟩ := fw_le f h
  have we := c.e64
  have hr := tp_range c.fa c.fb
  unfold ofE at hK
  rw [kind_Of.is]; unfold kind_Of.d
  rw [shape_Check_ok f h, br_f (by rfl)]
  refine exact_Check_ok _ _ _ _ _ (fun _ => ?_) (fun hn => absurd c.may hn)
  rw [br_f (by rfl), eqS_nb]
  refine br_dec (fun h0 => ?_) fun h0 => ?_
  · rw [if_pos h0] at hK; exact hK
  rw [if_neg h0] at hK
  rw [shape_Precision_ok f h]
  refine exact_Top_ok n c _ (fun hh => absurd hh h0) fun _ => ?_
  rw [shape_Emin_ok f h, eqS_one]
  refine br_ndec (fun hb => ?_) fun hb => ?_
  · rw [if_pos (.inl hb)] at hK; exact hK
  rw [shape_Emax_ok f h]
  by_cases h2 : (fe f : Int) < tp a b + e
  · rw [br_t (lt_t h2)]; rw [if_pos (.inr (.inl h2))] at hK; exact hK
  rw [br_f (lt_f (by omega))]
  have hp := pl_range h (tp a b + e) (by omega)
  have e1 : addI .i64 (subI .i64 (maxI (tp a b + e) (1 - (fe f : Int))) (fp f : Int)) 1 = pl f (tp a b + e) := by
    have : maxI (tp a b + e) (1 - (fe f : Int)) = if tp a b + e < 1 - fe f then 1 - (fe f : Int) else tp a b + e := maxI_eq _ _
    rw [this]
    unfold pl
    have hh : -200000 ≤ (if tp a b + e < 1 - (fe f : Int) then 1 - (fe f : Int) else tp a b + e) ∧ (if tp a b + e < 1 - (fe f : Int) then 1 - (fe f : Int) else tp a b + e) ≤ 200000 := by split <;> omega
    rw [sub_i64 (by omega) (by omega), add_i64 (by omega) (by omega)]
  rw [e1]
  by_cases h3 : e < pl f (tp a b + e)
  · rw [br_t (lt_t h3)]; rw [if_pos (.inr (.inr h3))] at hK; exact hK
  rw [br_f (lt_f (by omega))]
  have hc : ¬ (b ≠ 1 ∨ (fe f : Int) < tp a b + e ∨ e < pl f (tp a b + e)) := by omega
  rw [if_neg hc] at hK
  have hw := of_num h h0 hc
  generalize hwd : a * 2 ^ (e - pl f (tp a b + e)).toNat = w at hw hK
  have hwQ : w < Q6 := p384 (by omega) hw.1
  refine exact_Floor_ok n c _ (by omega) _ ?_
  unfold floE
  rw [if_neg (by omega), if_neg h0, if_pos (show pl f (tp a b + e) ≤ e by omega), hwd, if_pos (fit_Q6 hwQ), hb, Nat.div_one]
  rw [hb] at hw hK
  refine nat_ToWide_n hwQ _ ?_
  rw [fp_m1 f h, wide_Bit_ok w (fp f - 1) (by omega), bit_top (by omega) hw.1]
  refine br_dec (fun hl => ?_) fun hl => ?_
  · rw [shape_Emin_ok f h]
    refine wide_Mask_ok _ (by omega) _ ?_
    refine wide_And_ok _ _ hwQ _ ?_
    rw [Nat.and_two_pow_sub_one_eq_mod]
    rw [hb] at hp h2
    have e2 : addI .i64 (subI .i64 (pl f (tp a 1 + e)) (1 - (fe f : Int))) (fp f : Int) = (((pl f (tp a 1 + e) + fe f + fp f - 2).toNat + 1 : Nat) : Int) := by
      rw [sub_i64 (by omega) (by omega), add_i64 (by omega) (by omega)]; omega
    rw [e2]
    rw [encA_hi h n hl hw.1] at hK
    refine kind_build_ok f _ _ h ?_ (Nat.mod_lt _ (Nat.two_pow_pos _)) n _ hK
    have hs := hw.2.2 hl
    unfold pl; rw [if_neg (by omega)]; omega
  · refine wide_Mask_ok _ (by omega) _ ?_
    refine wide_And_ok _ _ hwQ _ ?_
    rw [Nat.and_two_pow_sub_one_eq_mod, Nat.mod_eq_of_lt (by omega)]
    rw [encA_lo n (by have := hw.2; omega)] at hK
    exact kind_build_ok f 0 w h (by omega) (by omega) n _ hK
theorem r08_Of_ok (f : Nat) (h : f ≤ 3) (c : Can n a b e) (K : Int → Int → Bool → Prop) (hK : ofE f n a b e K) : r08_Of f n (nb a) (nb b) e K := by
  obtain ⟨w1, w2, w3, w4, w5, w6⟩ := fw_le f h
  have we := c.e64
  have hr := tp_range c.fa c.fb
  unfold ofE at hK
  rw [r08_Of.is]; unfold r08_Of.d
  rw [eqS_nb]
  refine br_dec (fun h0 => ?_) fun h0 => ?_
  · rw [if_pos h0] at hK; exact hK
  rw [if_neg h0] at hK
  rw [r07_Precision_ok f h]
  refine r06_Top_ok n c _ (fun hh => absurd hh h0) fun _ => ?_
  rw [eqS_one]
  refine br_ndec (fun hb => ?_) fun hb => ?_
  · rw [if_pos (.inl hb)] at hK; exact hK
  rw [r07_Emax_ok f h]
  by_cases h2 : (fe f : Int) < tp a b + e
  · rw [br_t (lt_t h2)]; rw [if_pos (.inr (.inl h2))] at hK; exact hK
  rw [br_f (lt_f (by omega)), r07_Emin_ok f h]
  have hp := pl_range h (tp a b + e) (by omega)
  have key : ∀ m : Int, m = pl f (tp a b + e) → br (ltI e m) (K 0 0 false) (r06_Floor n (nb a) (nb b) e m fun y0_4 y1 y2 => r05_ToWide y0_4 fun y0_5 y1 => r02_Len y0_5 fun y0_6 => br (ltI y0_6 (fp f : Int)) (r07_Build f n 0 y0_5 fun y0 y1 => K y0 y1 true) (r02_Mask (subI .i64 (fp f : Int) 1) fun y0_7 => r02_And y0_5 y0_7 fun y0_8 => r07_Emin f fun y0_9 => r07_Build f n (addI .i64 (subI .i64 m y0_9) (fp f : Int)) y0_8 fun y0 y1 => K y0 y1 true)) := by
    intro m hm
    subst hm
    by_cases h3 : e < pl f (tp a b + e)
    · rw [br_t (lt_t h3)]; rw [if_pos (.inr (.inr h3))] at hK; exact hK
    rw [br_f (lt_f (by omega))]
    have hc : ¬ (b ≠ 1 ∨ (fe f : Int) < tp a b + e ∨ e < pl f (tp a b + e)) := by omega
    rw [if_neg hc] at hK
    have hw := of_num h h0 hc
    generalize hwd : a * 2 ^ (e - pl f (tp a b + e)).toNat = w at hw hK
    have hwQ : w < Q6 := p384 (by omega) hw.1
    refine r06_Floor_ok n c _ (by omega) _ ?_
    unfold floE
    rw [if_neg (by omega), if_neg h0, if_pos (show pl f (tp a b + e) ≤ e by omega), hwd, if_pos (fit_Q6 hwQ), hb, Nat.div_one]
    rw [hb] at hw hK
    refine r05_ToWide_n hwQ _ ?_
    refine r02_Len_ok w hwQ _ ?_
    by_cases hl : 2 ^ (fp f - 1) ≤ w
    · have hl' : ¬ blen w ≤ fp f - 1 := by rw [blen_le]; omega
      rw [br_f (lt_f (by omega)), fp_m1 f h]
      refine r02_Mask_ok _ (by omega) _ ?_
      refine r02_And_ok _ _ hwQ _ ?_
      rw [Nat.and_two_pow_sub_one_eq_mod, r07_Emin_ok f h]
      rw [hb] at hp h2
      have e2 : addI .i64 (subI .i64 (pl f (tp a 1 + e)) (1 - (fe f : Int))) (fp f : Int) = (((pl f (tp a 1 + e) + fe f + fp f - 2).toNat + 1 : Nat) : Int) := by
        rw [sub_i64 (by omega) (by omega), add_i64 (by omega) (by omega)]; omega
      rw [e2]
      rw [encA_hi h n hl hw.1] at hK
      refine r07_Build_ok f _ _ h ?_ (Nat.mod_lt _ (Nat.two_pow_pos _)) n _ hK
      have hs := hw.2.2 hl
      unfold pl; rw [if_neg (by omega)]; omega
    · have hl' : blen w ≤ fp f - 1 := by rw [blen_le]; omega
      rw [br_t (lt_t (by omega))]
      rw [encA_lo n (by have := hw.2; omega)] at hK
      exact r07_Build_ok f 0 w h (by omega) (by omega) n _ hK
  by_cases hs : tp a b + e < 1 - fe f
  · rw [br_t (lt_t hs), r07_Emin_ok f h]
    have e1 : addI .i64 (subI .i64 (1 - (fe f : Int)) (fp f : Int)) 1 = pl f (tp a b + e) := by
      unfold pl; rw [if_pos hs, sub_i64 (by omega) (by omega), add_i64 (by omega) (by omega)]
    rw [e1]; exact key _ rfl
  · rw [br_f (lt_f (by omega))]
    have e1 : addI .i64 (subI .i64 (tp a b + e) (fp f : Int)) 1 = pl f (tp a b + e) := by
      unfold pl; rw [if_neg hs, sub_i64 (by omega) (by omega), add_i64 (by omega) (by omega)]
    rw [e1]; exact key _ rfl
end
end Go.Ev.S

/- Exact numbers: made, signs, products, places, sums. -/
set_option linter.unusedVariables false
set_option linter.unusedSimpArgs false
set_option maxRecDepth 8000
namespace Go.Ev.S
open Go Go.Ev
abbrev K5 := Bool → List UInt8 → List UInt8 → Int → Int → Prop
def One5 (T : K5 → Prop) : Prop := ∃ n x y e f, ∀ K : K5, T K = K n x y e f
theorem One5.k (n : Bool) (x y : List UInt8) (e f : Int) : One5 fun K => K n x y e f := ⟨n, x, y, e, f, fun _ => rfl⟩
end Go.Ev.S

/- Exact numbers as rational ones: bounds, sums, products, whole parts. -/
set_option linter.unusedVariables false
set_option linter.unusedSimpArgs false
set_option maxRecDepth 8000
namespace Go.Ev.S
open Go Go.Ev
structure Bd (P E : Nat) (a b : Nat) (e : Int) : Prop where
  a : a < 2 ^ P
  b : b < 2 ^ P
  l : -(E : Int) ≤ e
  u : e ≤ E
theorem Bd.mono {P E P' E' : Nat} {a b : Nat} {e : Int} (h : Bd P E a b e) (hP : P ≤ P') (hE : E ≤ E') : Bd P' E' a b e :=
  ⟨Nat.lt_of_lt_of_le h.a (Nat.pow_le_pow_right (by omega) hP), Nat.lt_of_lt_of_le h.b (Nat.pow_le_pow_right (by omega) hP), by have := h.l; omega, by have := h.u; omega⟩
theorem can_eq {n n' : Bool} {a b a' b' : Nat} {e e' : Int} (c : Can n a b e) (c' : Can n' a' b' e') (h : V n a b e = V n' a' b' e') : n = n' ∧ a = a' ∧ b = b' ∧ e = e' := by
  by_cases h0 : a = 0
  · by_cases h1 : a' = 0
    · obtain ⟨z1, z2, z3⟩ := c.z h0
      obtain ⟨y1, y2, y3⟩ := c'.z h1
      subst z1 z2 z3 y1 y2 y3 h0 h1
      exact ⟨rfl, rfl, rfl, rfl⟩
    · rw [h0, V_zero] at h
      have s := V_sign (n := n') h1 c'.b0 e'
      cases n' with
      | false => have := s.1.1 rfl; grind
      | true => have := s.2.1 rfl; grind
  · by_cases h1 : a' = 0
    · rw [h1, V_zero] at h
      have s := V_sign (n := n) h0 c.b0 e
      cases n with
      | false => have := s.1.1 rfl; grind
      | true => have := s.2.1 rfl; grind
    · obtain ⟨r1, r2⟩ := c.r h0
      obtain ⟨q1, q2⟩ := c'.r h1
      exact V_inj r1 c.ob q1 c'.ob r2 q2 h
section
variable {n1 n2 : Bool} {a1 b1 a2 b2 : Nat} {e1 e2 : Int} {P1 E1 P2 E2 : Nat}
end
structure Flr (X : Rat) (n : Int) (m : Nat) (is : Bool) : Prop where
  le : (m : Rat) * p2 n ≤ X
  lt : X < ((m + 1 : Nat) : Rat) * p2 n
  eq : is = true ↔ (m : Rat) * p2 n = X
end Go.Ev.S

/- Values of encodings and back; the next encoding is next. -/
set_option linter.unusedVariables false
set_option linter.unusedSimpArgs false
set_option maxRecDepth 8000
namespace Go.Ev.S
open Go Go.Ev
theorem cls_fin {f x : Nat} (hf : fin f x) : (ng f x = true → cls f x < 4 ∧ (cls f x = 3 ↔ mg f x = 0)) ∧ (ng f x = false → 4 ≤ cls f x) := by
  have z := mg_zero f x
  unfold fin at hf
  unfold cls
  cases ng f x <;> simp only [cond_true, cond_false] <;> refine ⟨fun hh => ?_, fun hh => ?_⟩ <;> first | exact absurd hh (by decide) | skip
  · rw [if_neg hf]; (repeat' split) <;> omega
  · rw [if_neg hf]
    (repeat' split) <;> omega
def sm (f x : Nat) : Int := cond (ng f x) (-(mg f x : Int)) (mg f x)
theorem kind_Value_ok (f x : Nat) (h : f ≤ 3) (hx : x < 2 ^ fw f) (hf : fin f x) (K : Bool → List UInt8 → List UInt8 → Int → Int → Prop)
    (hK : mkE (ng f x) (usig f x) 1 (uexp f x) K) : kind_Value f (Hi x) (Lo x) K := by
  have hc := (fin_iff f x).1 hf
  have hs := cls_fin hf
  rw [kind_Value.is]; unfold kind_Value.d
  refine kind_Unpack_ok f x h hx _ ?_
  rw [br_f (by rfl), br_f (eq_f (by omega)), br_f (le_f (by omega))]
  refine nat_OfWide_ok _ (usig_Q6 f x h) _ ?_
  have we : win (uexp f x) := by have := uexp_range f x h; unfold win; omega
  have en : ltI (cls f x) 4 = ng f x := by
    cases hn : ng f x
    · exact lt_f (by have := hs.2 hn; omega)
    · exact lt_t (by have := (hs.1 hn).1; omega)
  rw [en, ← nb_one]
  exact exact_Make_n (ng f x) (fit_Q6 (usig_Q6 f x h)) fit_one (by decide) we hK
theorem cls_inf {f x : Nat} (hf : ¬ fin f x) : cls f x = 0 ∨ 7 ≤ cls f x := by
  have h1 := cls_range f x
  have h2 := fin_iff f x
  have h3 : ¬ (1 ≤ cls f x ∧ cls f x ≤ 6) := fun hh => hf (h2.2 hh)
  omega
theorem kind_Value_inf (f x : Nat) (h : f ≤ 3) (hx : x < 2 ^ fw f) (hf : ¬ fin f x) (K : Bool → List UInt8 → List UInt8 → Int → Int → Prop)
    (hK : K false [] [] 0 80) : kind_Value f (Hi x) (Lo x) K := by
  rw [kind_Value.is]; unfold kind_Value.d
  refine kind_Unpack_ok f x h hx _ ?_
  rw [br_f (by rfl)]
  rcases cls_inf hf with c | c
  · rw [br_t (eq_t c)]; exact hK
  · rw [br_f (eq_f (by omega)), br_t (le_t c)]; exact hK
theorem r08_Value_inf (f x : Nat) (h : f ≤ 3) (hx : x < 2 ^ fw f) (hf : ¬ fin f x) (K : Bool → List UInt8 → List UInt8 → Int → Int → Prop)
    (hK : K false [] [] 0 80) : r08_Value f (Hi x) (Lo x) K := by
  have hr := cls_range f x
  rw [r08_Value.is]; unfold r08_Value.d
  refine r08_Unpack_ok f x h hx _ ?_
  have c := cls_inf hf
  have c2 : cls f x = 0 ∨ cls f x = 7 ∨ cls f x = 8 ∨ cls f x = 9 := by omega
  rcases c2 with c | c | c | c <;> rw [c] <;> exact hK
theorem kind_Value_no (f x : Nat) (hx : x < 2 ^ 128) (hb : (f ≤ 3 ∧ 2 ^ fw f ≤ x) ∨ 3 < f) (K : Bool → List UInt8 → List UInt8 → Int → Int → Prop) (hK : K false [] [] 0 2) : kind_Value f (Hi x) (Lo x) K := by
  rw [kind_Value.is]; unfold kind_Value.d
  rw [kind_Unpack.is]; unfold kind_Unpack.d
  rcases hb with ⟨h, h2⟩ | h
  · rw [shape_Fits_ok f x h hx, br_t (by simpa using h2)]; exact hK
  · rw [shape_Fits_no f h, br_t (by rfl)]; exact hK
theorem kind_Of_no (f : Nat) (n : Bool) (a b : List UInt8) (e : Int) (hb : 3 < f ∨ ¬ MayE n a b e) (K : Int → Int → Bool → Int → Prop) (hK : K 0 0 false 2) : kind_Of f n a b e K := by
  rw [kind_Of.is]; unfold kind_Of.d
  by_cases h : 3 < f
  · rw [shape_Check_no f h]; exact hK
  · rw [shape_Check_ok f (by omega), br_f (by rfl)]
    refine exact_Check_ok _ _ _ _ _ (fun g => ?_) fun _ => hK
    exact absurd g (hb.resolve_left h)
theorem ofE_any (f : Nat) (n : Bool) (a b : Nat) (e : Int) : ∃ x y z, ∀ Q : Int → Int → Bool → Prop, ofE f n a b e Q ↔ Q x y z := by
  unfold ofE
  by_cases h1 : a = 0
  · simp only [if_pos h1]; exact ⟨_, _, _, fun Q => Iff.rfl⟩
  · simp only [if_neg h1]
    by_cases h2 : b ≠ 1 ∨ (fe f : Int) < tp a b + e ∨ e < pl f (tp a b + e)
    · simp only [if_pos h2]; exact ⟨_, _, _, fun Q => Iff.rfl⟩
    · simp only [if_neg h2]; exact ⟨_, _, _, fun Q => Iff.rfl⟩
theorem values_tail (f : Nat) (hf : f < 256) (n : Bool) (a b : List UInt8) (e : Int) (K : Bool → Prop) (hK : K true) :
    br (ltI 80 ↑(List.length a)) (law08_alive fun y0 => K y0) (br (ltI 80 ↑(List.length b)) (law08_alive fun y0 => K y0) (kind_Of f n a b e fun y0 y1 y2 y3 => r07_Right f fun y0_2 => br (!y0_2) (br (eqI y0 0 && eqI y1 0) (br (!y2) (br (eqI y3 2) (law08_alive fun y0 => K y0) (K false)) (K false)) (K false)) (r06_May n a b e fun y0_3 => br (!y0_3) (br (eqI y0 0 && eqI y1 0) (br (!y2) (br (eqI y3 2) (law08_alive fun y0 => K y0) (K false)) (K false)) (K false)) (r08_Of f n a b e fun y0_4 y1_1 y2_1 => br (eqI y0 y0_4 && eqI y1 y1_1) (br (beqB y2 y2_1) (br (eqI y3 0) (law08_alive fun y0 => K y0) (K false)) (K false)) (K false))))) := by
  have hal : law08_alive fun y0 => K y0 := law08_alive_ok _ hK
  have spl : ∀ (c : Bool) (p q : Prop), p → q → br c p q := by intro c p q hp hq; cases c <;> assumption
  refine spl _ _ _ hal (spl _ _ _ hal ?_)
  by_cases h : f ≤ 3
  · by_cases hm : MayE n a b e
    · obtain ⟨u, v, rfl, rfl, c⟩ := hm.can
      obtain ⟨x, y, z, hq⟩ := ofE_any f n u v e
      refine kind_Of_ok f h c _ ((hq _).2 ?_)
      rw [r07_Right_ok f h, br_f (by rfl)]
      refine r06_May_ok _ _ _ _ _ (fun _ => ?_) fun g => absurd c.may g
      rw [br_f (by rfl)]
      refine r08_Of_ok f h c _ ((hq _).2 ?_)
      rw [br_t (by rw [eqI_self, eqI_self]; rfl), br_t (by cases z <;> rfl)]
      exact hal
    · refine kind_Of_no f n a b e (.inr hm) _ ?_
      rw [r07_Right_ok f h, br_f (by rfl)]
      refine r06_May_ok _ _ _ _ _ (fun g => absurd g hm) fun _ => ?_
      exact hal
  · refine kind_Of_no f n a b e (.inl (by omega)) _ ?_
    rw [r07_Right_no f (by omega)]
    exact hal
theorem kindValues (a0 a1_0 a1_1 : Int) (a2_0 : Bool) (a2_1 a2_2 : List UInt8) (a2_3 : Int) (w0 : (Lit.int .u8 a0).wf = true) (w1 : (Lit.int .u64 a1_0).wf = true) (w2 : (Lit.int .u64 a1_1).wf = true)
    (w3 : a2_1.length ≤ maxLen) (w4 : a2_2.length ≤ maxLen) (w5 : (Lit.int .i64 a2_3).wf = true) (K : Bool → Prop) (hK : K true) : law08_KindValues a0 a1_0 a1_1 a2_0 a2_1 a2_2 a2_3 K := by
  obtain ⟨f, rfl, hf⟩ := u8_nat w0
  obtain ⟨x, hx, rfl, rfl⟩ := pair_nat w1 w2
  have ht := values_tail f hf a2_0 a2_1 a2_2 a2_3 K hK
  rw [law08_KindValues.is]; unfold law08_KindValues.d
  rcases fits_split f x with ⟨h, hx'⟩ | hb
  · have hfits : ∀ Q : Bool → Prop, Q true → law08_fits f (Hi x) (Lo x) Q := by
      intro Q hQ
      rw [law08_fits.is]; exact r07_Fits_yes f x h hx' _ hQ
    by_cases hfi : fin f x
    · refine kind_Value_ok f x h hx' hfi _ (value_mk f x h _ fun n a e c v l1 l2 l3 => ?_)
      refine hfits _ ?_
      rw [br_f (by rfl)]
      refine r08_Value_ok f x h hx' hfi _ (value_mk f x h _ fun n' a' e' c' v' l1' l2' l3' => ?_)
      obtain ⟨q1, q2, q3, q4⟩ := can_eq c c' (by rw [v, v'])
      rw [q1, q2, q4]
      rw [br_f (by rw [eqS_self, eqS_self, eqI_self]; cases n' <;> rfl), br_f (by rfl)]
      exact ht
    · refine kind_Value_inf f x h hx' hfi _ ?_
      refine hfits _ ?_
      rw [br_f (by rfl)]
      refine r08_Value_inf f x h hx' hfi _ ?_
      rw [br_f (by rfl), br_f (by rfl)]
      exact ht
  · refine kind_Value_no f x hx hb _ ?_
    rw [law08_fits.is]; unfold law08_fits.d
    refine r07_Fits_not f x hx hb _ ?_
    show br (!false) _ _
    rw [br_t (show (!false) = true from rfl)]
    show br (!(beqB false false && (eqS [] [] && (eqS [] [] && eqI 0 0)))) _ _
    rw [br_f (show (!(beqB false false && (eqS [] [] && (eqS [] [] && eqI 0 0)))) = false from rfl)]
    show br (!eqI 2 2) _ _
    rw [br_f (show (!eqI 2 2) = false from rfl)]
    exact ht
end Go.Ev.S
