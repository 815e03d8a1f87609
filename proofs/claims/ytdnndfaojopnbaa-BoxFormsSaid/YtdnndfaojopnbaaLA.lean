/- Numbers of several words as natural ones; bits set one by one. -/
import Derived.Test.YtdnndfaojopnbaaEvD
import Derived.Test.YtdnndfaojopnbaaDA
import Derived.KernelRfl
set_option linter.unusedVariables false
set_option linter.unusedSimpArgs false
namespace Go.Ev.S
open Go Go.Ev
theorem sh_ok {i : Int} (h : 0 ≤ i) : (!ltI i 0) = true := by rw [lt_f h]; rfl
theorem one_shl (i : Nat) (hi : i < 64) : shlI .u64 1 (i : Int) = ((2 ^ i : Nat) : Int) := by
  have := shl_nat 1 i hi
  rw [show (1 : Int) = ((1 : Nat) : Int) from rfl, this, Nat.shiftLeft_eq, Nat.one_mul]
  have h : 2 ^ i < 2 ^ 64 := Nat.pow_lt_pow_right (by omega) hi
  rw [Nat.mod_eq_of_lt h]
theorem pow_lt_64 {i : Nat} (h : i < 64) : 2 ^ i < 18446744073709551616 := Nat.pow_lt_pow_right (a := 2) (m := i) (n := 64) (by omega) h
theorem eq_nat (a b : Nat) : eqI (a : Int) (b : Int) = decide (a = b) := by
  by_cases h : a = b
  · subst h; simp [eqI]
  · rw [eq_f (by omega)]; simp [h]
def wd (x i : Nat) : Nat := x / 2 ^ (64 * i) % 18446744073709551616
theorem wd_zero (x i : Nat) (h : x < 2 ^ (64 * i)) : wd x i = 0 := by
  unfold wd; rw [Nat.div_eq_of_lt h]
def W (x : Nat) : Nat → Int := fun i => ((wd x i : Nat) : Int)
theorem W_app (x i : Nat) : W x i = ((wd x i : Nat) : Int) := rfl
theorem W_zero : W 0 = fun _ => 0 := by
  funext i
  have : wd 0 i = 0 := wd_zero 0 i (Nat.two_pow_pos _)
  simp [W_app, this]
def Hi (x : Nat) : Int := ((x / 18446744073709551616 : Nat) : Int)
def Lo (x : Nat) : Int := ((x % 18446744073709551616 : Nat) : Int)
def two (hi lo : Nat) : Nat := hi * 18446744073709551616 + lo
theorem Hi_two {hi lo : Nat} (h : lo < 18446744073709551616) : Hi (two hi lo) = hi := by unfold Hi two; congr 1; omega
theorem Lo_two {hi lo : Nat} (h : lo < 18446744073709551616) : Lo (two hi lo) = lo := by unfold Lo two; congr 1; omega
theorem two_lt {hi lo : Nat} (h : hi < 18446744073709551616) (h2 : lo < 18446744073709551616) : two hi lo < 2 ^ 128 := by
  unfold two; rw [show (2 : Nat) ^ 128 = 340282366920938463463374607431768211456 from rfl]; omega
theorem hi_lt {x : Nat} (h : x < 2 ^ 128) : x / 18446744073709551616 < 18446744073709551616 := by
  rw [show (2 : Nat) ^ 128 = 340282366920938463463374607431768211456 from rfl] at h; omega
theorem lo_lt (x : Nat) : x % 18446744073709551616 < 18446744073709551616 := Nat.mod_lt _ (by omega)
theorem hi_bit (x j : Nat) : (x / 18446744073709551616).testBit j = x.testBit (64 + j) := by
  rw [show (18446744073709551616 : Nat) = 2 ^ 64 from rfl, Nat.testBit_div_two_pow, Nat.add_comm]
theorem lo_bit (x j : Nat) : (x % 18446744073709551616).testBit j = (decide (j < 64) && x.testBit j) := by
  rw [show (18446744073709551616 : Nat) = 2 ^ 64 from rfl, Nat.testBit_mod_two_pow]
theorem pair_eq (x y : Nat) : (eqI (Hi x) (Hi y) && eqI (Lo x) (Lo y)) = decide (x = y) := by
  unfold Hi Lo
  rw [eq_nat, eq_nat]
  by_cases h : x = y
  · subst h; simp
  · have : ¬ (x / 18446744073709551616 = y / 18446744073709551616 ∧ x % 18446744073709551616 = y % 18446744073709551616) := by omega
    rw [← Bool.decide_and]
    simp [h, this]
theorem op_two (f : Bool → Bool → Bool) (op : Nat → Nat → Nat) (hop : ∀ a b j, (op a b).testBit j = f (a.testBit j) (b.testBit j)) (hf : f false false = false) (x y : Nat) :
    op x y / 18446744073709551616 = op (x / 18446744073709551616) (y / 18446744073709551616) ∧ op x y % 18446744073709551616 = op (x % 18446744073709551616) (y % 18446744073709551616) := by
  constructor
  · apply Nat.eq_of_testBit_eq; intro j; rw [hi_bit, hop, hop, hi_bit, hi_bit]
  · apply Nat.eq_of_testBit_eq; intro j; rw [lo_bit, hop, hop, lo_bit, lo_bit]
    by_cases hj : j < 64
    · simp [hj]
    · simp [hj, hf]
theorem and_two (x y : Nat) (hx : x < 2 ^ 128) (hy : y < 2 ^ 128) : andI .u64 (Hi x) (Hi y) = Hi (x &&& y) ∧ andI .u64 (Lo x) (Lo y) = Lo (x &&& y) := by
  obtain ⟨h1, h2⟩ := op_two (· && ·) (· &&& ·) (fun a b j => Nat.testBit_and a b j) rfl x y
  unfold Hi Lo
  exact ⟨by rw [and_nat _ _ (hi_lt hx) (hi_lt hy)]; exact congrArg _ h1.symm, by rw [and_nat _ _ (lo_lt x) (lo_lt y)]; exact congrArg _ h2.symm⟩
theorem or_two (x y : Nat) (hx : x < 2 ^ 128) (hy : y < 2 ^ 128) : orI .u64 (Hi x) (Hi y) = Hi (x ||| y) ∧ orI .u64 (Lo x) (Lo y) = Lo (x ||| y) := by
  obtain ⟨h1, h2⟩ := op_two (· || ·) (· ||| ·) (fun a b j => Nat.testBit_or a b j) rfl x y
  unfold Hi Lo
  exact ⟨by rw [or_nat _ _ (hi_lt hx) (hi_lt hy)]; exact congrArg _ h1.symm, by rw [or_nat _ _ (lo_lt x) (lo_lt y)]; exact congrArg _ h2.symm⟩
end Go.Ev.S

/- The formats: their numbers, and the encodings that have names. -/
set_option linter.unusedVariables false
set_option linter.unusedSimpArgs false
set_option maxRecDepth 8000
namespace Go.Ev.S
open Go Go.Ev
def fw : Nat → Nat | 0 => 32 | 1 => 64 | 2 => 16 | 3 => 128 | _ => 0
def fp : Nat → Nat | 0 => 24 | 1 => 53 | 2 => 11 | 3 => 113 | _ => 0
def fe : Nat → Nat | 0 => 127 | 1 => 1023 | 2 => 15 | 3 => 16383 | _ => 0
def sg (f : Nat) (neg : Bool) : Nat := cond neg (2 ^ (fw f - 1)) 0
def enc (f : Nat) (neg : Bool) (e t : Nat) : Nat := sg f neg + e * 2 ^ (fp f - 1) + t
theorem four {f : Nat} (h : f ≤ 3) : f = 0 ∨ f = 1 ∨ f = 2 ∨ f = 3 := by omega
theorem shape_Check_ok (f : Nat) (h : f ≤ 3) (K : Int → Prop) : shape_Check f K = K 0 := by
  rw [shape_Check.is]; unfold shape_Check.d; rw [br_f (lt_f (by omega))]
theorem shape_Check_no (f : Nat) (h : 3 < f) (K : Int → Prop) : shape_Check f K = K 2 := by
  rw [shape_Check.is]; unfold shape_Check.d; rw [br_t (lt_t (by omega))]
theorem shape_Width_ok (f : Nat) (h : f ≤ 3) (K : Int → Prop) : shape_Width f K = K (fw f) := by
  rw [shape_Width.is]; unfold shape_Width.d; rw [shape_numbers.is]
  rcases four h with rfl | rfl | rfl | rfl <;> kernel_rfl
theorem shape_NaN_ok (f : Nat) (h : f ≤ 3) (K : Int → Int → Prop) : shape_NaN f K = K (Hi (enc f false (2 * fe f + 1) (2 ^ (fp f - 2)))) (Lo (enc f false (2 * fe f + 1) (2 ^ (fp f - 2)))) := by
  rw [shape_NaN.is]; unfold shape_NaN.d; rw [shape_Check.is, shape_Emax.is, shape_Precision.is, shape_at.is]; unfold shape_Emax.d shape_Precision.d; rw [shape_numbers.is]
  rcases four h with rfl | rfl | rfl | rfl <;> kernel_rfl
theorem shape_Fits_ok (f x : Nat) (h : f ≤ 3) (hx : x < 2 ^ 128) (K : Bool → Prop) : shape_Fits f (Hi x) (Lo x) K = K (decide (x < 2 ^ fw f)) := by
  rw [shape_Fits.is]; unfold shape_Fits.d
  have ez : eqI (Hi x) 0 = decide (x / 18446744073709551616 = 0) := by
    unfold Hi; rw [show (0 : Int) = ((0 : Nat) : Int) from rfl, eq_nat]
  have es : ∀ w : Nat, w < 64 → eqI (shrI .u64 (Lo x) (w : Int)) 0 = decide (x % 18446744073709551616 < 2 ^ w) := by
    intro w hw
    unfold Lo
    rw [shr_nat _ w hw, Nat.shiftRight_eq_div_pow, show (0 : Int) = ((0 : Nat) : Int) from rfl, eq_nat, decide_eq_decide, Nat.div_eq_zero_iff]
    have := Nat.two_pow_pos w
    omega
  have hx' : x < 340282366920938463463374607431768211456 := hx
  rcases four h with rfl | rfl | rfl | rfl
  · rw [br_f (by decide), br_f (by decide), br_t (by decide), br_t (by decide), ez, shape_Width_ok 0 (by omega)]
    show br (decide (x / 18446744073709551616 = 0)) (gd (!ltI (cvI IntKind.u64 ((32 : Nat) : Int)) 0) (K (eqI (shrI .u64 (Lo x) (cvI IntKind.u64 ((32 : Nat) : Int))) 0))) (K false) = K (decide (x < 2 ^ 32))
    rw [cv_u64 (by omega) (by omega), gd_t (sh_ok (by omega)), es 32 (by omega), show (2 : Nat) ^ 32 = 4294967296 from rfl]
    by_cases hq : x / 18446744073709551616 = 0
    · rw [br_t (by simp [hq])]; congr 1; rw [decide_eq_decide]; omega
    · rw [br_f (by simp [hq])]; congr 1; symm; rw [decide_eq_false_iff_not]; omega
  · rw [br_f (by decide), br_t (by decide), ez]
    show K _ = K (decide (x < 2 ^ 64))
    congr 1; rw [decide_eq_decide, show (2 : Nat) ^ 64 = 18446744073709551616 from rfl]; omega
  · rw [br_f (by decide), br_f (by decide), br_f (by decide), br_t (by decide), ez, shape_Width_ok 2 (by omega)]
    show br (decide (x / 18446744073709551616 = 0)) (gd (!ltI (cvI IntKind.u64 ((16 : Nat) : Int)) 0) (K (eqI (shrI .u64 (Lo x) (cvI IntKind.u64 ((16 : Nat) : Int))) 0))) (K false) = K (decide (x < 2 ^ 16))
    rw [cv_u64 (by omega) (by omega), gd_t (sh_ok (by omega)), es 16 (by omega), show (2 : Nat) ^ 16 = 65536 from rfl]
    by_cases hq : x / 18446744073709551616 = 0
    · rw [br_t (by simp [hq])]; congr 1; rw [decide_eq_decide]; omega
    · rw [br_f (by simp [hq])]; congr 1; symm; rw [decide_eq_false_iff_not]; omega
  · rw [br_t (by decide)]
    congr 1; symm; rw [decide_eq_true_eq]; exact hx
end Go.Ev.S

/- What the document's answer reckons with words, bit by bit. -/
set_option linter.unusedVariables false
set_option linter.unusedSimpArgs false
namespace Go.Ev.S
open Go Go.Ev
theorem mod_succ (a i : Nat) : a % 2 ^ (i + 1) = a % 2 ^ i + (a.testBit i).toNat * 2 ^ i := by
  have h : (a.testBit i).toNat = a / 2 ^ i % 2 := by
    rw [Nat.testBit_eq_decide_div_mod_eq]
    rcases Nat.mod_two_eq_zero_or_one (a / 2 ^ i) with h | h <;> rw [h] <;> rfl
  rw [h, Nat.mod_pow_succ, Nat.mul_comm]
theorem or_pow (s i : Nat) (h : s < 2 ^ i) : s ||| 2 ^ i = s + 2 ^ i := by
  have := Nat.two_pow_add_eq_or_of_lt h 1
  rw [Nat.mul_one] at this
  rw [Nat.or_comm, ← this, Nat.add_comm]
end Go.Ev.S

/- Narrow values in wide registers: the program's answers and the document's, as numbers of 128 bits. -/
set_option linter.unusedVariables false
set_option linter.unusedSimpArgs false
set_option maxRecDepth 8000
namespace Go.Ev.S
open Go Go.Ev
def ab (f : Nat) : Nat := 2 ^ 128 - 2 ^ fw f
theorem fw_le2 (f : Nat) (h : f ≤ 3) : 1 ≤ fw f ∧ fw f ≤ 128 := by rcases four h with rfl | rfl | rfl | rfl <;> decide
theorem ab_lt (f : Nat) : ab f < 2 ^ 128 := by
  unfold ab
  have h1 := Nat.two_pow_pos 128
  have h2 := Nat.two_pow_pos (fw f)
  omega
theorem ab_add (f : Nat) (h : f ≤ 3) : ab f + 2 ^ fw f = 2 ^ 128 := by
  unfold ab
  have : 2 ^ fw f ≤ 2 ^ 128 := Nat.pow_le_pow_right (by omega) (fw_le2 f h).2
  omega
theorem and_high (x w n : Nat) (hx : x < 2 ^ (w + n)) : x &&& (2 ^ (w + n) - 2 ^ w) = x - x % 2 ^ w := by
  have e1 : 2 ^ (w + n) - 2 ^ w = (2 ^ n - 1) <<< w := by
    rw [Nat.shiftLeft_eq, Nat.sub_mul, Nat.one_mul, ← Nat.pow_add, Nat.add_comm n w]
  have e2 : x - x % 2 ^ w = (x / 2 ^ w) <<< w := by
    rw [Nat.shiftLeft_eq]
    have := Nat.div_add_mod x (2 ^ w)
    rw [Nat.mul_comm] at this; omega
  have hd : x / 2 ^ w < 2 ^ n := by
    rw [Nat.div_lt_iff_lt_mul (Nat.two_pow_pos w), ← Nat.pow_add, Nat.add_comm n w]; exact hx
  rw [e1, e2]
  apply Nat.eq_of_testBit_eq
  intro j
  rw [Nat.testBit_and, Nat.testBit_shiftLeft, Nat.testBit_shiftLeft, Nat.testBit_two_pow_sub_one, Nat.testBit_div_two_pow]
  by_cases hj : w ≤ j
  · have e3 : j - w + w = j := by omega
    rw [e3]
    by_cases hn : j - w < n
    · simp [hj, hn]
    · have : x.testBit j = false := Nat.testBit_lt_two_pow (Nat.lt_of_lt_of_le hx (Nat.pow_le_pow_right (by omega) (by omega)))
      simp [this]
  · simp [hj]
theorem and_ab (f x : Nat) (h : f ≤ 3) (hx : x < 2 ^ 128) : x &&& ab f = x - x % 2 ^ fw f := by
  obtain ⟨_, h2⟩ := fw_le2 f h
  have := and_high x (fw f) (128 - fw f)
  rw [show fw f + (128 - fw f) = 128 from by omega] at this
  exact this hx
theorem ab_mod (f x : Nat) (h : f ≤ 3) (hx : x < 2 ^ 128) : (x &&& ab f = ab f) ↔ ab f ≤ x := by
  rw [and_ab f x h hx]
  have h1 := ab_add f h
  have h2 : x % 2 ^ fw f < 2 ^ fw f := Nat.mod_lt _ (Nat.two_pow_pos _)
  have h3 := Nat.mod_le x (2 ^ fw f)
  constructor
  · intro e; omega
  · intro e
    -- x lies in the last piece
    have h4 : 2 ^ fw f ∣ ab f := by
      unfold ab
      exact Nat.dvd_sub (Nat.pow_dvd_pow 2 (fw_le2 f h).2) (Nat.dvd_refl _)
    obtain ⟨c, hc⟩ := h4
    have h5 : x = ab f + (x - ab f) := by omega
    have h6 : x % 2 ^ fw f = x - ab f := by
      conv => lhs; rw [h5, hc, Nat.mul_add_mod]
      rw [← hc]
      exact Nat.mod_eq_of_lt (by omega)
    omega
theorem or_ab (f x : Nat) (h : f ≤ 3) (hx : x < 2 ^ fw f) : x ||| ab f = x + ab f := by
  have h4 : 2 ^ fw f ∣ ab f := by
    unfold ab
    exact Nat.dvd_sub (Nat.pow_dvd_pow 2 (fw_le2 f h).2) (Nat.dvd_refl _)
  obtain ⟨c, hc⟩ := h4
  rw [hc, Nat.or_comm, ← Nat.two_pow_add_eq_or_of_lt hx, Nat.add_comm]
theorem andnot_nat (a b : Nat) (ha : a < 18446744073709551616) (hb : b < 18446744073709551616) : andNotI .u64 a b = ((a ^^^ (a &&& b) : Nat) : Int) := by
  have h1 : (BitVec.ofInt 64 (a : Int)) = BitVec.ofNat 64 a := by simp
  have h2 : (BitVec.ofInt 64 (b : Int)) = BitVec.ofNat 64 b := by simp
  have h3 : a &&& b < 2 ^ 64 := Nat.lt_of_le_of_lt Nat.and_le_left ha
  have h4 : a ^^^ (a &&& b) < 18446744073709551616 := Nat.xor_lt_two_pow (n := 64) ha h3
  show IntKind.wrap .u64 (((BitVec.ofInt 64 (a : Int) &&& ~~~BitVec.ofInt 64 (b : Int) : BitVec 64).toNat : Nat) : Int) = _
  rw [h1, h2]
  have h5 : (BitVec.ofNat 64 a &&& ~~~BitVec.ofNat 64 b) = (BitVec.ofNat 64 a ^^^ (BitVec.ofNat 64 a &&& BitVec.ofNat 64 b)) := by
    ext i hi
    simp only [BitVec.getElem_and, BitVec.getElem_not, BitVec.getElem_xor]
    cases (BitVec.ofNat 64 a)[i] <;> cases (BitVec.ofNat 64 b)[i] <;> rfl
  rw [h5, BitVec.toNat_xor, BitVec.toNat_and, BitVec.toNat_ofNat, BitVec.toNat_ofNat, Nat.mod_eq_of_lt ha, Nat.mod_eq_of_lt hb]
  exact u64_id (by omega) (by omega)
theorem andnot_two (x y : Nat) (hx : x < 2 ^ 128) (hy : y < 2 ^ 128) : andNotI .u64 (Hi x) (Hi y) = Hi (x ^^^ (x &&& y)) ∧ andNotI .u64 (Lo x) (Lo y) = Lo (x ^^^ (x &&& y)) := by
  obtain ⟨h1, h2⟩ := op_two (fun a b => a ^^ (a && b)) (fun a b => a ^^^ (a &&& b)) (fun a b j => by rw [Nat.testBit_xor, Nat.testBit_and]) rfl x y
  unfold Hi Lo
  exact ⟨by rw [andnot_nat _ _ (hi_lt hx) (hi_lt hy)]; exact congrArg _ h1.symm, by rw [andnot_nat _ _ (lo_lt x) (lo_lt y)]; exact congrArg _ h2.symm⟩
theorem low_ab (f x : Nat) (h : f ≤ 3) (hx : x < 2 ^ 128) : x ^^^ (x &&& ab f) = x % 2 ^ fw f := by
  apply Nat.eq_of_testBit_eq
  intro j
  have h1 : (x &&& ab f).testBit j = (decide (fw f ≤ j) && x.testBit j) := by
    rw [and_ab f x h hx]
    have e2 : x - x % 2 ^ fw f = (x / 2 ^ fw f) <<< fw f := by
      rw [Nat.shiftLeft_eq]
      have := Nat.div_add_mod x (2 ^ fw f)
      rw [Nat.mul_comm] at this; omega
    rw [e2, Nat.testBit_shiftLeft, Nat.testBit_div_two_pow]
    by_cases hj : fw f ≤ j
    · rw [show j - fw f + fw f = j from by omega]
    · simp [hj]
  rw [Nat.testBit_xor, h1, Nat.testBit_mod_two_pow]
  by_cases hj : fw f ≤ j
  · have : ¬ j < fw f := by omega
    simp [hj, this]
  · have : j < fw f := by omega
    simp [hj, this]
def nanf (f : Nat) : Nat := enc f false (2 * fe f + 1) (2 ^ (fp f - 2))
theorem nanf_eq (f : Nat) (h : f ≤ 3) : nanf f = 2 ^ (fw f - 1) - 2 ^ (fp f - 2) ∧ nanf f < 2 ^ fw f ∧ fp f - 2 ≤ fw f - 1 := by
  rcases four h with rfl | rfl | rfl | rfl <;> decide
def boxed (f x : Nat) : Bool := decide (ab f ≤ x)
def unbox (f x : Nat) : Nat := cond (boxed f x) (x % 2 ^ fw f) (nanf f)
theorem box_above_ok (f : Nat) (h : f ≤ 3) (K : Int → Int → Prop) : box_above f K = K (Hi (ab f)) (Lo (ab f)) := by
  rw [box_above.is]
  rcases four h with rfl | rfl | rfl | rfl <;> kernel_rfl
theorem box_Above_ok (f : Nat) (h : f ≤ 3) (K : Int → Int → Int → Prop) : box_Above f K = K (Hi (ab f)) (Lo (ab f)) 0 := by
  rw [box_Above.is]; unfold box_Above.d; rw [shape_Check_ok f h, br_f (by decide), box_above_ok f h]
theorem box_Above_no (f : Nat) (h : 3 < f) (K : Int → Int → Int → Prop) : box_Above f K = K 0 0 2 := by
  rw [box_Above.is]; unfold box_Above.d; rw [shape_Check_no f h]; rfl
theorem box_IsBoxed_ok (f x : Nat) (h : f ≤ 3) (hx : x < 2 ^ 128) (K : Bool → Prop) : box_IsBoxed f (Hi x) (Lo x) K = K (boxed f x) := by
  rw [box_IsBoxed.is]; unfold box_IsBoxed.d
  obtain ⟨h1, h2⟩ := and_two x (ab f) hx (ab_lt f)
  rw [box_Above_ok f h, br_t (by decide), h1, h2, pair_eq]
  have : decide (x &&& ab f = ab f) = boxed f x := by unfold boxed; rw [decide_eq_decide]; exact ab_mod f x h hx
  rw [this]
theorem box_Low_ok (f x : Nat) (h : f ≤ 3) (hx : x < 2 ^ 128) (K : Int → Int → Int → Prop) : box_Low f (Hi x) (Lo x) K = K (Hi (x % 2 ^ fw f)) (Lo (x % 2 ^ fw f)) 0 := by
  rw [box_Low.is]; unfold box_Low.d
  obtain ⟨h1, h2⟩ := andnot_two x (ab f) hx (ab_lt f)
  rw [box_Above_ok f h, br_f (by decide), h1, h2, low_ab f x h hx]
theorem box_Low_no (f : Nat) (h : 3 < f) (hi lo : Int) (K : Int → Int → Int → Prop) : box_Low f hi lo K = K 0 0 2 := by
  rw [box_Low.is]; unfold box_Low.d; rw [box_Above_no f h]; rfl
theorem box_Unbox_ok (f x : Nat) (h : f ≤ 3) (hx : x < 2 ^ 128) (K : Int → Int → Int → Prop) : box_Unbox f (Hi x) (Lo x) K = K (Hi (unbox f x)) (Lo (unbox f x)) 0 := by
  rw [box_Unbox.is]; unfold box_Unbox.d
  rw [box_Low_ok f x h hx, br_f (by decide), box_IsBoxed_ok f x h hx, shape_NaN_ok f h]
  unfold unbox nanf
  cases boxed f x <;> rfl
theorem box_Unbox_no (f : Nat) (h : 3 < f) (hi lo : Int) (K : Int → Int → Int → Prop) : box_Unbox f hi lo K = K 0 0 2 := by
  rw [box_Unbox.is]; unfold box_Unbox.d; rw [box_Low_no f h]; rfl
theorem box_Box_ok (f x : Nat) (h : f ≤ 3) (hx : x < 2 ^ 128) (K : Int → Int → Int → Prop) : box_Box f (Hi x) (Lo x) K = br (decide (x < 2 ^ fw f)) (K (Hi (x + ab f)) (Lo (x + ab f)) 0) (K 0 0 2) := by
  rw [box_Box.is]; unfold box_Box.d
  rw [shape_Fits_ok f x h hx]
  by_cases hf : x < 2 ^ fw f
  · obtain ⟨h1, h2⟩ := or_two x (ab f) hx (ab_lt f)
    rw [br_f (by simp [hf]), br_t (by simp [hf]), box_above_ok f h, h1, h2, or_ab f x h hf]
  · rw [br_t (by simp [hf]), br_f (by simp [hf])]
theorem unbox_lt (f x : Nat) (h : f ≤ 3) : unbox f x < 2 ^ fw f := by
  unfold unbox
  cases boxed f x with
  | true => exact Nat.mod_lt _ (Nat.two_pow_pos _)
  | false => exact (nanf_eq f h).2.1
theorem fw_128 {f x : Nat} (h : f ≤ 3) (hx : x < 2 ^ fw f) : x < 2 ^ 128 := Nat.lt_of_lt_of_le hx (Nat.pow_le_pow_right (by omega) (fw_le2 f h).2)
theorem box_lt {f x : Nat} (h : f ≤ 3) (hx : x < 2 ^ fw f) : x + ab f < 2 ^ 128 := by have := ab_add f h; omega
theorem box_Within_ok (f g x : Nat) (h : f ≤ 3) (hg : g ≤ 3) (hx : x < 2 ^ 128) (K : Int → Int → Int → Prop) :
    box_Within f (Hi x) (Lo x) g K = K (Hi (unbox g (unbox f x + ab f))) (Lo (unbox g (unbox f x + ab f))) 0 := by
  rw [box_Within.is]; unfold box_Within.d
  have hu := unbox_lt f x h
  rw [box_Unbox_ok f x h hx, br_f (by decide), box_Box_ok f _ h (fw_128 h hu), br_t (by simp [hu]), br_f (by decide), box_Unbox_ok g _ hg (box_lt h hu)]
theorem r22_Width_ok (f : Nat) (h : f ≤ 3) (K : Int → Prop) : r22_Width f K = K (fw f) := by
  rw [r22_Width.is]
  rcases four h with rfl | rfl | rfl | rfl <;> kernel_rfl
theorem r22_Width_no (f : Nat) (h : 3 < f) (K : Int → Prop) : r22_Width f K = K 0 := by
  rw [r22_Width.is]; unfold r22_Width.d
  rw [br_f (eq_f (by omega)), br_f (eq_f (by omega)), br_f (eq_f (by omega)), br_f (eq_f (by omega))]
theorem pair_bit (x k : Nat) (hx : x < 2 ^ 128) (hk : k < 128) (K : Bool → Prop) : (br (ltI k 64) (gd (!ltI k 0) (K (eqI (andI IntKind.u64 (shrI IntKind.u64 (Lo x) k) 1) 1))) (gd (!ltI (subI IntKind.i64 k 64) 0) (K (eqI (andI IntKind.u64 (shrI IntKind.u64 (Hi x) (subI IntKind.i64 k 64)) 1) 1)))) = K (x.testBit k) := by
  by_cases h : k < 64
  · rw [br_t (lt_t (by omega)), gd_t (sh_ok (by omega))]
    unfold Lo
    rw [test_nat _ k (lo_lt x) h, lo_bit]
    simp [h]
  · rw [br_f (lt_f (by omega)), show subI IntKind.i64 (k : Int) 64 = ((k - 64 : Nat) : Int) from by rw [sub_i64 (by omega) (by omega)]; omega, gd_t (sh_ok (by omega))]
    unfold Hi
    rw [test_nat _ (k - 64) (hi_lt hx) (by omega), hi_bit, show 64 + (k - 64) = k from by omega]
theorem r22_Bit_ok (x k : Nat) (hx : x < 2 ^ 128) (hk : k < 128) (K : Bool → Prop) : r22_Bit (Hi x) (Lo x) k K = K (x.testBit k) := by
  rw [r22_Bit.is]; exact pair_bit x k hx hk K
theorem r22_with_ok (x k : Nat) (hx : x < 2 ^ 128) (hk : k < 128) (K : Int → Int → Prop) : r22_with (Hi x) (Lo x) k K = K (Hi (x ||| 2 ^ k)) (Lo (x ||| 2 ^ k)) := by
  rw [r22_with.is]; unfold r22_with.d
  obtain ⟨e1, e2⟩ := op_two (· || ·) (· ||| ·) (fun a b j => Nat.testBit_or a b j) rfl x (2 ^ k)
  by_cases h : k < 64
  · have h1 : 2 ^ k / 18446744073709551616 = 0 := Nat.div_eq_of_lt (pow_lt_64 h)
    have h2 : 2 ^ k % 18446744073709551616 = 2 ^ k := Nat.mod_eq_of_lt (pow_lt_64 h)
    rw [br_t (lt_t (by omega)), gd_t (sh_ok (by omega)), one_shl k h]
    unfold Hi Lo
    rw [e1, e2, h1, h2, Nat.or_zero, or_nat _ _ (lo_lt x) (pow_lt_64 h)]
  · have hp : 2 ^ k = 2 ^ (k - 64) * 18446744073709551616 := by
      rw [show (18446744073709551616 : Nat) = 2 ^ 64 from rfl, ← Nat.pow_add]; congr 1; omega
    have h1 : 2 ^ k / 18446744073709551616 = 2 ^ (k - 64) := by rw [hp, Nat.mul_div_cancel _ (by omega)]
    have h2 : 2 ^ k % 18446744073709551616 = 0 := by rw [hp, Nat.mul_mod_left]
    rw [br_f (lt_f (by omega)), show subI IntKind.i64 (k : Int) 64 = ((k - 64 : Nat) : Int) from by rw [sub_i64 (by omega) (by omega)]; omega, gd_t (sh_ok (by omega)), one_shl (k - 64) (by omega)]
    unfold Hi Lo
    rw [e1, e2, h1, h2, Nat.or_zero, or_nat _ _ (hi_lt hx) (pow_lt_64 (by omega))]
theorem r22_Box_loop (w b : Nat) (hw : w ≤ 128) (hb : b < 2 ^ w) (k0 : Int → Int → Int → Int → Prop) (u v : Int) (h : k0 (Hi (b + (2 ^ 128 - 2 ^ w))) (Lo (b + (2 ^ 128 - 2 ^ w))) u v) :
    ∀ (j i : Nat), w ≤ i → i + j = 128 → r22_Box.l2 k0 (j + 1) i (Hi (b + (2 ^ i - 2 ^ w))) (Lo (b + (2 ^ i - 2 ^ w))) u v := by
  intro j
  induction j with
  | zero =>
    intro i hwi hij
    have : i = 128 := by omega
    subst this
    unfold r22_Box.l2 r22_Box.l2.step
    rw [br_f (by decide)]
    exact h
  | succ j ih =>
    intro i hwi hij
    have hp := Nat.two_pow_pos w
    have hle : 2 ^ w ≤ 2 ^ i := Nat.pow_le_pow_right (by omega) hwi
    have hlt : 2 ^ i < 2 ^ 128 := Nat.pow_lt_pow_right (by omega) (by omega)
    have ih := ih (i + 1) (by omega) (by omega)
    have e : ((i + 1 : Nat) : Int) = (i : Int) + 1 := by omega
    rw [e] at ih
    unfold r22_Box.l2 r22_Box.l2.step
    rw [br_t (lt_t (by omega)), r22_with_ok _ i (by omega) (by omega), or_pow _ _ (by omega), add_i64 (by omega) (by omega)]
    rw [show b + (2 ^ (i + 1) - 2 ^ w) = b + (2 ^ i - 2 ^ w) + 2 ^ i from by rw [Nat.pow_succ]; omega] at ih
    exact ih
theorem r22_Box_ok (f b : Nat) (h : f ≤ 3) (hb : b < 2 ^ fw f) (K : Int → Int → Prop) (hK : K (Hi (b + ab f)) (Lo (b + ab f))) : r22_Box f (Hi b) (Lo b) K := by
  obtain ⟨h1, h2⟩ := fw_le2 f h
  rw [r22_Box.is]; unfold r22_Box.d; rw [r22_Width_ok f h]
  refine ⟨128 - fw f + 1, ?_⟩
  have := r22_Box_loop (fw f) b h2 hb (fun y0 y1 y2 y3 => K y0 y1) 0 0 hK (128 - fw f) (fw f) (Nat.le_refl _) (by omega)
  rw [Nat.sub_self, Nat.add_zero] at this
  exact this
theorem ab_bits (f x : Nat) (h : f ≤ 3) (hx : x < 2 ^ 128) : ab f ≤ x ↔ ∀ i, fw f ≤ i → i < 128 → x.testBit i = true := by
  rw [← ab_mod f x h hx]
  have hb : ∀ i, (ab f).testBit i = (decide (fw f ≤ i) && decide (i < 128)) := by
    intro i
    have e1 : ab f = (2 ^ (128 - fw f) - 1) <<< fw f := by
      unfold ab
      rw [Nat.shiftLeft_eq, Nat.sub_mul, Nat.one_mul, ← Nat.pow_add, show 128 - fw f + fw f = 128 from by have := (fw_le2 f h).2; omega]
    rw [e1, Nat.testBit_shiftLeft, Nat.testBit_two_pow_sub_one]
    by_cases hi : fw f ≤ i
    · have : decide (i - fw f < 128 - fw f) = decide (i < 128) := by rw [decide_eq_decide]; omega
      simp [hi, this]
    · simp [hi]
  constructor
  · intro he i h1 h2
    have := congrArg (fun z => Nat.testBit z i) he
    simp only [Nat.testBit_and, hb, h1, h2, decide_true, Bool.and_true] at this
    exact this
  · intro he
    apply Nat.eq_of_testBit_eq
    intro i
    rw [Nat.testBit_and, hb]
    by_cases h1 : fw f ≤ i
    · by_cases h2 : i < 128
      · simp [h1, h2, he i h1 h2]
      · simp [h2]
    · simp [h1]
theorem r22_IsBoxed_loop (f x : Nat) (h : f ≤ 3) (hx : x < 2 ^ 128) (k0 : Bool → Prop) (k1 : Int → Prop) (h0 : ¬ ab f ≤ x → k0 false) (h1 : ab f ≤ x → k1 f) :
    ∀ (j i : Nat), fw f ≤ i → i + j = 128 → (∀ k, fw f ≤ k → k < i → x.testBit k = true) → r22_IsBoxed.l2 k0 k1 (j + 1) f i (Hi x) (Lo x) := by
  intro j
  induction j with
  | zero =>
    intro i hwi hij hb
    have : i = 128 := by omega
    subst this
    unfold r22_IsBoxed.l2 r22_IsBoxed.l2.step
    rw [br_f (by decide)]
    exact h1 ((ab_bits f x h hx).2 hb)
  | succ j ih =>
    intro i hwi hij hb
    have ih := ih (i + 1) (by omega) (by omega)
    have e : ((i + 1 : Nat) : Int) = (i : Int) + 1 := by omega
    rw [e] at ih
    unfold r22_IsBoxed.l2 r22_IsBoxed.l2.step
    rw [br_t (lt_t (by omega)), r22_Bit_ok x i hx (by omega), add_i64 (by omega) (by omega)]
    cases ht : x.testBit i with
    | false =>
      rw [br_t (by decide)]
      refine h0 fun hle => ?_
      rw [(ab_bits f x h hx).1 hle i hwi (by omega)] at ht
      cases ht
    | true =>
      rw [br_f (by decide)]
      refine ih fun k hk hki => ?_
      by_cases he : k = i
      · subst he; exact ht
      · exact hb k hk (by omega)
theorem r22_IsBoxed_ok (f x : Nat) (h : f ≤ 3) (hx : x < 2 ^ 128) (K : Bool → Prop) (hK : K (boxed f x)) : r22_IsBoxed f (Hi x) (Lo x) K := by
  obtain ⟨h1, h2⟩ := fw_le2 f h
  rw [r22_IsBoxed.is]; unfold r22_IsBoxed.d; rw [r22_Width_ok f h]
  unfold boxed at hK
  refine ⟨128 - fw f + 1, r22_IsBoxed_loop f x h hx _ _ (fun hn => ?_) (fun hy => ?_) (128 - fw f) (fw f) (Nat.le_refl _) (by omega) (by intro k h3 h4; omega)⟩
  · rw [show decide (ab f ≤ x) = false from by simp [hn]] at hK; exact hK
  · rw [r22_Width_ok f h, lt_t (by omega)]
    rw [show decide (ab f ≤ x) = true from by simp [hy]] at hK; exact hK
theorem r22_Low_loop (f x : Nat) (h : f ≤ 3) (hx : x < 2 ^ 128) (k0 : Int → Int → Int → Int → Prop) (u v : Int) (hk : k0 u v (Hi (x % 2 ^ fw f)) (Lo (x % 2 ^ fw f))) :
    ∀ (j i : Nat), i + j = fw f → r22_Low.l3 k0 (j + 1) f i (Hi x) (Lo x) u v (Hi (x % 2 ^ i)) (Lo (x % 2 ^ i)) := by
  obtain ⟨w1, w2⟩ := fw_le2 f h
  intro j
  induction j with
  | zero =>
    intro i hij
    have : i = fw f := by omega
    subst this
    unfold r22_Low.l3 r22_Low.l3.step
    rw [r22_Width_ok f h, br_f (lt_f (by omega))]
    exact hk
  | succ j ih =>
    intro i hij
    have ih := ih (i + 1) (by omega)
    have e : ((i + 1 : Nat) : Int) = (i : Int) + 1 := by omega
    rw [e] at ih
    have hlt : x % 2 ^ i < 2 ^ i := Nat.mod_lt _ (Nat.two_pow_pos _)
    have hlt2 : x % 2 ^ i < 2 ^ 128 := Nat.lt_of_lt_of_le hlt (Nat.pow_le_pow_right (by omega) (by omega))
    unfold r22_Low.l3 r22_Low.l3.step
    rw [r22_Width_ok f h, br_t (lt_t (by omega)), r22_Bit_ok x i hx (by omega), add_i64 (by omega) (by omega)]
    cases ht : x.testBit i with
    | true =>
      rw [br_t rfl, r22_with_ok _ i hlt2 (by omega), or_pow _ _ hlt]
      rw [mod_succ, ht, Bool.toNat_true, Nat.one_mul] at ih
      exact ih
    | false =>
      rw [br_f rfl]
      rw [mod_succ, ht, Bool.toNat_false, Nat.zero_mul, Nat.add_zero] at ih
      exact ih
theorem r22_Low_ok (f x : Nat) (h : f ≤ 3) (hx : x < 2 ^ 128) (K : Int → Int → Prop) (hK : K (Hi (x % 2 ^ fw f)) (Lo (x % 2 ^ fw f))) : r22_Low f (Hi x) (Lo x) K := by
  rw [r22_Low.is]
  refine ⟨fw f + 1, ?_⟩
  have := r22_Low_loop f x h hx (fun y0 y1 y2 y3 => K y2 y3) 0 0 hK (fw f) 0 (by omega)
  rw [Nat.pow_zero, Nat.mod_one] at this
  exact this
theorem r22_NaN_loop (f s : Nat) (h : f ≤ 3) (k0 : Int → Int → Int → Int → Prop) (u v : Int) (hk : k0 u v (Hi (2 ^ (fw f - 1) - 2 ^ s)) (Lo (2 ^ (fw f - 1) - 2 ^ s))) :
    ∀ (j i : Nat), s ≤ i → i + j = fw f - 1 → r22_NaN.l11 k0 (j + 1) f i u v (Hi (2 ^ i - 2 ^ s)) (Lo (2 ^ i - 2 ^ s)) := by
  obtain ⟨w1, w2⟩ := fw_le2 f h
  intro j
  induction j with
  | zero =>
    intro i hs hij
    have : i = fw f - 1 := by omega
    subst this
    unfold r22_NaN.l11 r22_NaN.l11.step
    rw [r22_Width_ok f h, sub_i64 (by omega) (by omega), br_f (lt_f (by omega))]
    exact hk
  | succ j ih =>
    intro i hs hij
    have ih := ih (i + 1) (by omega) (by omega)
    have e : ((i + 1 : Nat) : Int) = (i : Int) + 1 := by omega
    rw [e] at ih
    have hp := Nat.two_pow_pos s
    have hle : 2 ^ s ≤ 2 ^ i := Nat.pow_le_pow_right (by omega) hs
    have hlt : 2 ^ i < 2 ^ 128 := Nat.pow_lt_pow_right (by omega) (by omega)
    unfold r22_NaN.l11 r22_NaN.l11.step
    rw [r22_Width_ok f h, sub_i64 (by omega) (by omega), br_t (lt_t (by omega)), r22_with_ok _ i (by omega) (by omega), or_pow _ _ (by omega), add_i64 (by omega) (by omega)]
    rw [show 2 ^ (i + 1) - 2 ^ s = 2 ^ i - 2 ^ s + 2 ^ i from by rw [Nat.pow_succ]; omega] at ih
    exact ih
theorem r22_NaN_ok (f : Nat) (h : f ≤ 3) (K : Int → Int → Prop) (hK : K (Hi (nanf f)) (Lo (nanf f))) : r22_NaN f K := by
  obtain ⟨n1, n2, n3⟩ := nanf_eq f h
  have key : ∃ n, r22_NaN.l11 (fun y0 y1 y2 y3 => K y2 y3) n f ((fp f - 2 : Nat) : Int) 0 0 0 0 := by
    refine ⟨fw f - 1 - (fp f - 2) + 1, ?_⟩
    have := r22_NaN_loop f (fp f - 2) h (fun y0 y1 y2 y3 => K y2 y3) 0 0 (by rw [← n1]; exact hK) (fw f - 1 - (fp f - 2)) (fp f - 2) (Nat.le_refl _) (by omega)
    rw [Nat.sub_self] at this
    exact this
  rw [r22_NaN.is]; unfold r22_NaN.d
  rcases four h with rfl | rfl | rfl | rfl
  · rw [br_t (by decide)]; exact key
  · rw [br_f (by decide), br_t (by decide)]; exact key
  · rw [br_f (by decide), br_f (by decide), br_f (by decide)]; exact key
  · rw [br_f (by decide), br_f (by decide), br_t (by decide)]; exact key
theorem r22_Unbox_ok (f x : Nat) (h : f ≤ 3) (hx : x < 2 ^ 128) (K : Int → Int → Prop) (hK : K (Hi (unbox f x)) (Lo (unbox f x))) : r22_Unbox f (Hi x) (Lo x) K := by
  rw [r22_Unbox.is]; unfold r22_Unbox.d
  refine r22_IsBoxed_ok f x h hx _ ?_
  unfold unbox at hK
  cases hb : boxed f x with
  | true => rw [br_t rfl]; rw [hb] at hK; exact r22_Low_ok f x h hx _ hK
  | false => rw [br_f rfl]; rw [hb] at hK; exact r22_NaN_ok f h _ hK
end Go.Ev.S

/- The plain laws of BoxReads, BoxWithin and BoxBack. -/
set_option linter.unusedVariables false
set_option linter.unusedSimpArgs false
set_option maxRecDepth 8000
namespace Go.Ev.S
open Go Go.Ev
theorem u8_of {a : Int} (w : (Lit.int .u8 a).wf = true) : ∃ n : Nat, a = n ∧ n < 256 := by
  obtain ⟨h1, h2⟩ := range_u8 w
  exact ⟨a.toNat, by omega, by omega⟩
theorem pair_of {a b : Int} (w : (Lit.int .u64 a).wf = true) (w2 : (Lit.int .u64 b).wf = true) : ∃ x : Nat, x < 2 ^ 128 ∧ a = Hi x ∧ b = Lo x := by
  obtain ⟨h1, h2⟩ := range_u64 w
  obtain ⟨h3, h4⟩ := range_u64 w2
  refine ⟨two a.toNat b.toNat, two_lt (by omega) (by omega), ?_, ?_⟩
  · rw [Hi_two (by omega)]; omega
  · rw [Lo_two (by omega)]; omega
theorem bx {x : Nat} : (eqI (Hi x) (Hi x) && eqI (Lo x) (Lo x)) = true := by rw [pair_eq]; simp
theorem law22_lives_ok (K : Bool → Prop) (h : K true) : law22_lives K := by
  have : law22_lives K = K true := by
    rw [law22_lives.is]
    simp only [law22_lives.d, box_Box.is, box_Box.d, box_Unbox.is, box_Unbox.d, box_Low.is, box_Low.d, box_IsBoxed.is, box_IsBoxed.d, box_Above.is, box_Above.d, box_above.is, shape_Fits.is, shape_Fits.d, shape_Check.is, shape_NaN.is, shape_NaN.d,
      shape_Width.is, shape_Width.d, shape_Emax.is, shape_Emax.d, shape_Precision.is, shape_Precision.d, shape_numbers.is, shape_at.is]
    kernel_rfl
  rw [this]; exact h
end Go.Ev.S

/- What the document's answer reckons with numbers of six words. -/
set_option linter.unusedVariables false
set_option linter.unusedSimpArgs false
set_option maxRecDepth 8000
namespace Go.Ev.S
open Go Go.Ev
end Go.Ev.S

/- The document's answer on formats: an encoding of its fields, and its fields. -/
set_option linter.unusedVariables false
set_option linter.unusedSimpArgs false
set_option maxRecDepth 8000
namespace Go.Ev.S
open Go Go.Ev
theorem W0 : (fun _ => (0 : Int)) = W 0 := W_zero.symm
end Go.Ev.S

/- The plain law of ShapeMakes, and that of ShapeNumbers. -/
set_option linter.unusedVariables false
set_option linter.unusedSimpArgs false
set_option maxRecDepth 8000
namespace Go.Ev.S
open Go Go.Ev
end Go.Ev.S

/- The plain laws of ShapeNames and BoxForms. -/
set_option linter.unusedVariables false
set_option linter.unusedSimpArgs false
set_option maxRecDepth 8000
namespace Go.Ev.S
open Go Go.Ev
theorem eqI_refl (n : Int) : eqI n n = true := by simp [eqI]
/-! ### BoxForms -/
theorem bxm_ok (f : Nat) (h : f ≤ 3) : bxm f = (Hi (ab f), Lo (ab f)) := by rcases four h with rfl | rfl | rfl | rfl <;> decide +kernel
theorem isBoxed_gen (f : Nat) (h : f ≤ 3) (hi lo : Int) (K : Bool → Prop) (hK : K (isb f hi lo)) : box_IsBoxed f hi lo K := by
  rw [box_IsBoxed.is]; unfold box_IsBoxed.d
  rw [box_Above_ok f h, br_t (eqI_refl 0)]
  unfold isb at hK; rw [bxm_ok f h] at hK
  exact hK
theorem isb_ok (f x : Nat) (h : f ≤ 3) (hx : x < 2 ^ 128) : isb f (Hi x) (Lo x) = boxed f x := by
  obtain ⟨h1, h2⟩ := and_two x (ab f) hx (ab_lt f)
  unfold isb
  rw [bxm_ok f h, h1, h2, pair_eq]
  unfold boxed; rw [decide_eq_decide]; exact ab_mod f x h hx
theorem box_Within_no1 (f : Nat) (h : 3 < f) (hi lo g : Int) (K : Int → Int → Int → Prop) : box_Within f hi lo g K = K 0 0 2 := by
  rw [box_Within.is]; unfold box_Within.d; rw [box_Unbox_no f h]; rfl
theorem box_Within_no2 (f g x : Nat) (h : f ≤ 3) (hg : 3 < g) (hx : x < 2 ^ 128) (K : Int → Int → Int → Prop) : box_Within f (Hi x) (Lo x) g K = K 0 0 2 := by
  rw [box_Within.is]; unfold box_Within.d
  have hu := unbox_lt f x h
  rw [box_Unbox_ok f x h hx, br_f (by decide), box_Box_ok f _ h (fw_128 h hu), br_t (by simp [hu]), br_f (by decide), box_Unbox_no g hg]
theorem forms_fin (f g x : Nat) (hx : x < 2 ^ 128) (a : Nat → Int) (e0 : a 0 = f) (e1 : a 1 = g) (K : Bool → Prop) (hK : K true) : law22_BoxForms.j2 a (Hi x) (Lo x) K := by
  have hal : law22_lives fun y0 => K y0 := law22_lives_ok _ hK
  unfold law22_BoxForms.j2
  rw [e0, e1]
  by_cases h : f ≤ 3
  · obtain ⟨w1, w2⟩ := fw_le2 f h
    by_cases hg : g ≤ 3
    · obtain ⟨w3, w4⟩ := fw_le2 g hg
      rw [box_Within_ok f g x h hg hx, r22_Width_ok f h, br_f (eq_f (by omega)), r22_Width_ok g hg, br_f (eq_f (by omega)), br_t (eqI_refl 0)]
      have hu := unbox_lt f x h
      refine r22_Unbox_ok f x h hx _ ?_
      refine r22_Box_ok f _ h hu _ ?_
      refine r22_Unbox_ok g _ hg (box_lt h hu) _ ?_
      rw [br_t bx]; exact hal
    · rw [box_Within_no2 f g x h (by omega) hx, r22_Width_ok f h, br_f (eq_f (by omega)), r22_Width_no g (by omega), br_t (eqI_refl 0)]; exact hal
  · rw [box_Within_no1 f (by omega), r22_Width_no f (by omega), br_t (eqI_refl 0)]; exact hal
theorem bt {c : Bool} {p q : Prop} (h : c = true) (hp : p) : br c p q := by subst h; exact hp
theorem bf {c : Bool} {p q : Prop} (h : c = false) (hq : q) : br c p q := by subst h; exact hq
theorem gt' {c : Bool} {p : Prop} (h : c = true) (hp : p) : gd c p := by subst h; exact hp
set_option maxHeartbeats 4000000 in
theorem boxForms (b0 b1 : Int) (a1 : Nat → Int) (a2 : Int) (w0 : (Lit.int .u64 b0).wf = true) (w1 : (Lit.int .u64 b1).wf = true) (w2 : ∀ i, i < 2 → (Lit.int .u8 (a1 i)).wf = true) (_ : ∀ i, 2 ≤ i → a1 i = 0) (_ : (Lit.int .i64 a2).wf = true) (K : Bool → Prop) (hK : K true) : law22_BoxForms b0 b1 a1 a2 K := by
  obtain ⟨x, hx, rfl, rfl⟩ := pair_of w0 w1
  obtain ⟨f, ef, _⟩ := u8_of (w2 0 (by omega))
  obtain ⟨g, eg, _⟩ := u8_of (w2 1 (by omega))
  have fin := forms_fin f g x hx a1 ef eg K hK
  have i2 : isb 2 (Hi x) (Lo x) = boxed 2 x := isb_ok 2 x (by omega) hx
  have i0 : isb 0 (Hi x) (Lo x) = boxed 0 x := isb_ok 0 x (by omega) hx
  have i1 : isb 1 (Hi x) (Lo x) = boxed 1 x := isb_ok 1 x (by omega) hx
  have i3 : isb 3 (Hi x) (Lo x) = boxed 3 x := isb_ok 3 x (by omega) hx
  have q2 := r22_IsBoxed_ok 2 x (by omega) hx
  have q0 := r22_IsBoxed_ok 0 x (by omega) hx
  have q1 := r22_IsBoxed_ok 1 x (by omega) hx
  have q3 := r22_IsBoxed_ok 3 x (by omega) hx
  generalize boxed 2 x = c2 at i2 q2
  generalize boxed 0 x = c0 at i0 q0
  generalize boxed 1 x = c1 at i1 q1
  generalize boxed 3 x = c3 at i3 q3
  obtain ⟨d1, d2, d3, d4, hd, e1, e2, e3, e4⟩ : ∃ d1 d2 d3 d4 : Bool, ((d1, d2, d3, d4) = (true, false, false, false) ∨ (d1, d2, d3, d4) = (false, true, false, false) ∨ (d1, d2, d3, d4) = (false, false, true, false) ∨ (d1, d2, d3, d4) = (false, false, false, true) ∨ (d1, d2, d3, d4) = (false, false, false, false)) ∧
      eqI 1 a2 = d1 ∧ eqI 2 a2 = d2 ∧ eqI 3 a2 = d3 ∧ eqI 4 a2 = d4 := by
    by_cases k1 : a2 = 1
    · subst k1; exact ⟨_, _, _, _, .inl rfl, rfl, rfl, rfl, rfl⟩
    by_cases k2 : a2 = 2
    · subst k2; exact ⟨_, _, _, _, .inr (.inl rfl), rfl, rfl, rfl, rfl⟩
    by_cases k3 : a2 = 3
    · subst k3; exact ⟨_, _, _, _, .inr (.inr (.inl rfl)), rfl, rfl, rfl, rfl⟩
    by_cases k4 : a2 = 4
    · subst k4; exact ⟨_, _, _, _, .inr (.inr (.inr (.inl rfl))), rfl, rfl, rfl, rfl⟩
    exact ⟨_, _, _, _, .inr (.inr (.inr (.inr rfl))), eq_f (by omega), eq_f (by omega), eq_f (by omega), eq_f (by omega)⟩
  have n1 : (!eqI 1 a2) = !d1 := by rw [e1]
  have n2 : (!eqI 2 a2) = !d2 := by rw [e2]
  have n3 : (!eqI 3 a2) = !d3 := by rw [e3]
  have n4 : (!eqI 4 a2) = !d4 := by rw [e4]
  rw [law22_BoxForms.is]; unfold law22_BoxForms.d
  refine law22_lives_ok _ ?_
  rw [br_f (show (!true) = false from rfl), r22_Forms.is, box_Forms.is]; unfold r22_Forms.d box_Forms.d
  refine q2 _ ?_
  cases c2 <;> first | refine bt rfl ?_ | refine bf rfl ?_
  all_goals refine q0 _ ?_
  all_goals cases c0 <;> first | refine bt rfl ?_ | refine bf rfl ?_
  all_goals refine q1 _ ?_
  all_goals cases c1 <;> first | refine bt rfl ?_ | refine bf rfl ?_
  all_goals refine q3 _ ?_
  all_goals cases c3 <;> first | refine bt rfl ?_ | refine bf rfl ?_
  all_goals clear q0 q1 q2 q3
  all_goals rcases hd with hd | hd | hd | hd | hd <;> cases hd
  all_goals repeat (first
    | exact fin
    | refine bt i2 ?_ | refine bf i2 ?_ | refine bt i0 ?_ | refine bf i0 ?_ | refine bt i1 ?_ | refine bf i1 ?_ | refine bt i3 ?_ | refine bf i3 ?_
    | refine bt e1 ?_ | refine bf e1 ?_ | refine bt e2 ?_ | refine bf e2 ?_ | refine bt e3 ?_ | refine bf e3 ?_ | refine bt e4 ?_ | refine bf e4 ?_
    | refine bt n1 ?_ | refine bf n1 ?_ | refine bt n2 ?_ | refine bf n2 ?_ | refine bt n3 ?_ | refine bf n3 ?_ | refine bt n4 ?_ | refine bf n4 ?_
    | refine bt rfl ?_ | refine bf rfl ?_ | refine gt' rfl ?_)
end Go.Ev.S
