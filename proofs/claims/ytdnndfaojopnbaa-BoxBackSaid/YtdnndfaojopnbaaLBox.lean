/- Narrow values in wide registers: the program's answers and the document's, as numbers of 128 bits. -/
import Derived.Test.YtdnndfaojopnbaaLShape
import Derived.Test.YtdnndfaojopnbaaLR01
import Derived.Test.YtdnndfaojopnbaaDBox
import Derived.Test.YtdnndfaojopnbaaDR22
set_option linter.unusedVariables false
set_option linter.unusedSimpArgs false
set_option maxRecDepth 8000
namespace Go.Ev.S
open Go Go.Ev

/-- The bits above a format. -/
def ab (f : Nat) : Nat := 2 ^ 128 - 2 ^ fw f
theorem fw_le2 (f : Nat) (h : f ≤ 3) : 1 ≤ fw f ∧ fw f ≤ 128 := by rcases four h with rfl | rfl | rfl | rfl <;> decide
theorem ab_lt (f : Nat) : ab f < 2 ^ 128 := by
  unfold ab
  have h1 := Nat.two_pow_pos 128
  have h2 := Nat.two_pow_pos (fw f)
  omega
theorem ab_add (f : Nat) (h : f ≤ 3) : ab f + 2 ^ fw f = 2 ^ 128 := by
  unfold ab
  have : 2 ^ fw f ≤ 2 ^ 128 := Nat.pow_le_pow_right (by omega) (fw_le2 f h).2
  omega
theorem and_high (x w n : Nat) (hx : x < 2 ^ (w + n)) : x &&& (2 ^ (w + n) - 2 ^ w) = x - x % 2 ^ w := by
  have e1 : 2 ^ (w + n) - 2 ^ w = (2 ^ n - 1) <<< w := by
    rw [Nat.shiftLeft_eq, Nat.sub_mul, Nat.one_mul, ← Nat.pow_add, Nat.add_comm n w]
  have e2 : x - x % 2 ^ w = (x / 2 ^ w) <<< w := by
    rw [Nat.shiftLeft_eq]
    have := Nat.div_add_mod x (2 ^ w)
    rw [Nat.mul_comm] at this; omega
  have hd : x / 2 ^ w < 2 ^ n := by
    rw [Nat.div_lt_iff_lt_mul (Nat.two_pow_pos w), ← Nat.pow_add, Nat.add_comm n w]; exact hx
  rw [e1, e2]
  apply Nat.eq_of_testBit_eq
  intro j
  rw [Nat.testBit_and, Nat.testBit_shiftLeft, Nat.testBit_shiftLeft, Nat.testBit_two_pow_sub_one, Nat.testBit_div_two_pow]
  by_cases hj : w ≤ j
  · have e3 : j - w + w = j := by omega
    rw [e3]
    by_cases hn : j - w < n
    · simp [hj, hn]
    · have : x.testBit j = false := Nat.testBit_lt_two_pow (Nat.lt_of_lt_of_le hx (Nat.pow_le_pow_right (by omega) (by omega)))
      simp [this]
  · simp [hj]
theorem and_ab (f x : Nat) (h : f ≤ 3) (hx : x < 2 ^ 128) : x &&& ab f = x - x % 2 ^ fw f := by
  obtain ⟨_, h2⟩ := fw_le2 f h
  have := and_high x (fw f) (128 - fw f)
  rw [show fw f + (128 - fw f) = 128 from by omega] at this
  exact this hx
theorem ab_mod (f x : Nat) (h : f ≤ 3) (hx : x < 2 ^ 128) : (x &&& ab f = ab f) ↔ ab f ≤ x := by
  rw [and_ab f x h hx]
  have h1 := ab_add f h
  have h2 : x % 2 ^ fw f < 2 ^ fw f := Nat.mod_lt _ (Nat.two_pow_pos _)
  have h3 := Nat.mod_le x (2 ^ fw f)
  constructor
  · intro e; omega
  · intro e
    -- x lies in the last piece
    have h4 : 2 ^ fw f ∣ ab f := by
      unfold ab
      exact Nat.dvd_sub (Nat.pow_dvd_pow 2 (fw_le2 f h).2) (Nat.dvd_refl _)
    obtain ⟨c, hc⟩ := h4
    have h5 : x = ab f + (x - ab f) := by omega
    have h6 : x % 2 ^ fw f = x - ab f := by
      conv => lhs; rw [h5, hc, Nat.mul_add_mod]
      rw [← hc]
      exact Nat.mod_eq_of_lt (by omega)
    omega
theorem or_ab (f x : Nat) (h : f ≤ 3) (hx : x < 2 ^ fw f) : x ||| ab f = x + ab f := by
  have h4 : 2 ^ fw f ∣ ab f := by
    unfold ab
    exact Nat.dvd_sub (Nat.pow_dvd_pow 2 (fw_le2 f h).2) (Nat.dvd_refl _)
  obtain ⟨c, hc⟩ := h4
  rw [hc, Nat.or_comm, ← Nat.two_pow_add_eq_or_of_lt hx, Nat.add_comm]

theorem andnot_nat (a b : Nat) (ha : a < 18446744073709551616) (hb : b < 18446744073709551616) : andNotI .u64 a b = ((a ^^^ (a &&& b) : Nat) : Int) := by
  have h1 : (BitVec.ofInt 64 (a : Int)) = BitVec.ofNat 64 a := by simp
  have h2 : (BitVec.ofInt 64 (b : Int)) = BitVec.ofNat 64 b := by simp
  have h3 : a &&& b < 2 ^ 64 := Nat.lt_of_le_of_lt Nat.and_le_left ha
  have h4 : a ^^^ (a &&& b) < 18446744073709551616 := Nat.xor_lt_two_pow (n := 64) ha h3
  show IntKind.wrap .u64 (((BitVec.ofInt 64 (a : Int) &&& ~~~BitVec.ofInt 64 (b : Int) : BitVec 64).toNat : Nat) : Int) = _
  rw [h1, h2]
  have h5 : (BitVec.ofNat 64 a &&& ~~~BitVec.ofNat 64 b) = (BitVec.ofNat 64 a ^^^ (BitVec.ofNat 64 a &&& BitVec.ofNat 64 b)) := by
    ext i hi
    simp only [BitVec.getElem_and, BitVec.getElem_not, BitVec.getElem_xor]
    cases (BitVec.ofNat 64 a)[i] <;> cases (BitVec.ofNat 64 b)[i] <;> rfl
  rw [h5, BitVec.toNat_xor, BitVec.toNat_and, BitVec.toNat_ofNat, BitVec.toNat_ofNat, Nat.mod_eq_of_lt ha, Nat.mod_eq_of_lt hb]
  exact u64_id (by omega) (by omega)
theorem andnot_two (x y : Nat) (hx : x < 2 ^ 128) (hy : y < 2 ^ 128) : andNotI .u64 (Hi x) (Hi y) = Hi (x ^^^ (x &&& y)) ∧ andNotI .u64 (Lo x) (Lo y) = Lo (x ^^^ (x &&& y)) := by
  obtain ⟨h1, h2⟩ := op_two (fun a b => a ^^ (a && b)) (fun a b => a ^^^ (a &&& b)) (fun a b j => by rw [Nat.testBit_xor, Nat.testBit_and]) rfl x y
  unfold Hi Lo
  exact ⟨by rw [andnot_nat _ _ (hi_lt hx) (hi_lt hy)]; exact congrArg _ h1.symm, by rw [andnot_nat _ _ (lo_lt x) (lo_lt y)]; exact congrArg _ h2.symm⟩
theorem low_ab (f x : Nat) (h : f ≤ 3) (hx : x < 2 ^ 128) : x ^^^ (x &&& ab f) = x % 2 ^ fw f := by
  apply Nat.eq_of_testBit_eq
  intro j
  have h1 : (x &&& ab f).testBit j = (decide (fw f ≤ j) && x.testBit j) := by
    rw [and_ab f x h hx]
    have e2 : x - x % 2 ^ fw f = (x / 2 ^ fw f) <<< fw f := by
      rw [Nat.shiftLeft_eq]
      have := Nat.div_add_mod x (2 ^ fw f)
      rw [Nat.mul_comm] at this; omega
    rw [e2, Nat.testBit_shiftLeft, Nat.testBit_div_two_pow]
    by_cases hj : fw f ≤ j
    · rw [show j - fw f + fw f = j from by omega]
    · simp [hj]
  rw [Nat.testBit_xor, h1, Nat.testBit_mod_two_pow]
  by_cases hj : fw f ≤ j
  · have : ¬ j < fw f := by omega
    simp [hj, this]
  · have : j < fw f := by omega
    simp [hj, this]

/-- The canonical NaN. -/
def nanf (f : Nat) : Nat := enc f false (2 * fe f + 1) (2 ^ (fp f - 2))
theorem nanf_eq (f : Nat) (h : f ≤ 3) : nanf f = 2 ^ (fw f - 1) - 2 ^ (fp f - 2) ∧ nanf f < 2 ^ fw f ∧ fp f - 2 ≤ fw f - 1 := by
  rcases four h with rfl | rfl | rfl | rfl <;> decide
def boxed (f x : Nat) : Bool := decide (ab f ≤ x)
def unbox (f x : Nat) : Nat := cond (boxed f x) (x % 2 ^ fw f) (nanf f)

theorem box_above_ok (f : Nat) (h : f ≤ 3) (K : Int → Int → Prop) : box_above f K = K (Hi (ab f)) (Lo (ab f)) := by
  rw [box_above.is]
  rcases four h with rfl | rfl | rfl | rfl <;> kernel_rfl
theorem box_Above_ok (f : Nat) (h : f ≤ 3) (K : Int → Int → Int → Prop) : box_Above f K = K (Hi (ab f)) (Lo (ab f)) 0 := by
  rw [box_Above.is]; unfold box_Above.d; rw [shape_Check_ok f h, br_f (by decide), box_above_ok f h]
theorem box_Above_no (f : Nat) (h : 3 < f) (K : Int → Int → Int → Prop) : box_Above f K = K 0 0 2 := by
  rw [box_Above.is]; unfold box_Above.d; rw [shape_Check_no f h]; rfl
theorem box_IsBoxed_ok (f x : Nat) (h : f ≤ 3) (hx : x < 2 ^ 128) (K : Bool → Prop) : box_IsBoxed f (Hi x) (Lo x) K = K (boxed f x) := by
  rw [box_IsBoxed.is]; unfold box_IsBoxed.d
  obtain ⟨h1, h2⟩ := and_two x (ab f) hx (ab_lt f)
  rw [box_Above_ok f h, br_t (by decide), h1, h2, pair_eq]
  have : decide (x &&& ab f = ab f) = boxed f x := by unfold boxed; rw [decide_eq_decide]; exact ab_mod f x h hx
  rw [this]
theorem box_IsBoxed_no (f : Nat) (h : 3 < f) (hi lo : Int) (K : Bool → Prop) : box_IsBoxed f hi lo K = K false := by
  rw [box_IsBoxed.is]; unfold box_IsBoxed.d; rw [box_Above_no f h]; rfl
theorem box_Low_ok (f x : Nat) (h : f ≤ 3) (hx : x < 2 ^ 128) (K : Int → Int → Int → Prop) : box_Low f (Hi x) (Lo x) K = K (Hi (x % 2 ^ fw f)) (Lo (x % 2 ^ fw f)) 0 := by
  rw [box_Low.is]; unfold box_Low.d
  obtain ⟨h1, h2⟩ := andnot_two x (ab f) hx (ab_lt f)
  rw [box_Above_ok f h, br_f (by decide), h1, h2, low_ab f x h hx]
theorem box_Low_no (f : Nat) (h : 3 < f) (hi lo : Int) (K : Int → Int → Int → Prop) : box_Low f hi lo K = K 0 0 2 := by
  rw [box_Low.is]; unfold box_Low.d; rw [box_Above_no f h]; rfl
theorem box_Unbox_ok (f x : Nat) (h : f ≤ 3) (hx : x < 2 ^ 128) (K : Int → Int → Int → Prop) : box_Unbox f (Hi x) (Lo x) K = K (Hi (unbox f x)) (Lo (unbox f x)) 0 := by
  rw [box_Unbox.is]; unfold box_Unbox.d
  rw [box_Low_ok f x h hx, br_f (by decide), box_IsBoxed_ok f x h hx, shape_NaN_ok f h]
  unfold unbox nanf
  cases boxed f x <;> rfl
theorem box_Unbox_no (f : Nat) (h : 3 < f) (hi lo : Int) (K : Int → Int → Int → Prop) : box_Unbox f hi lo K = K 0 0 2 := by
  rw [box_Unbox.is]; unfold box_Unbox.d; rw [box_Low_no f h]; rfl
theorem box_Box_ok (f x : Nat) (h : f ≤ 3) (hx : x < 2 ^ 128) (K : Int → Int → Int → Prop) : box_Box f (Hi x) (Lo x) K = br (decide (x < 2 ^ fw f)) (K (Hi (x + ab f)) (Lo (x + ab f)) 0) (K 0 0 2) := by
  rw [box_Box.is]; unfold box_Box.d
  rw [shape_Fits_ok f x h hx]
  by_cases hf : x < 2 ^ fw f
  · obtain ⟨h1, h2⟩ := or_two x (ab f) hx (ab_lt f)
    rw [br_f (by simp [hf]), br_t (by simp [hf]), box_above_ok f h, h1, h2, or_ab f x h hf]
  · rw [br_t (by simp [hf]), br_f (by simp [hf])]
theorem box_Box_no (f : Nat) (h : 3 < f) (hi lo : Int) (K : Int → Int → Int → Prop) : box_Box f hi lo K = K 0 0 2 := by
  rw [box_Box.is]; unfold box_Box.d; rw [shape_Fits_no f h]; rfl
theorem unbox_lt (f x : Nat) (h : f ≤ 3) : unbox f x < 2 ^ fw f := by
  unfold unbox
  cases boxed f x with
  | true => exact Nat.mod_lt _ (Nat.two_pow_pos _)
  | false => exact (nanf_eq f h).2.1
theorem fw_128 {f x : Nat} (h : f ≤ 3) (hx : x < 2 ^ fw f) : x < 2 ^ 128 := Nat.lt_of_lt_of_le hx (Nat.pow_le_pow_right (by omega) (fw_le2 f h).2)
theorem box_lt {f x : Nat} (h : f ≤ 3) (hx : x < 2 ^ fw f) : x + ab f < 2 ^ 128 := by have := ab_add f h; omega
theorem box_Within_ok (f g x : Nat) (h : f ≤ 3) (hg : g ≤ 3) (hx : x < 2 ^ 128) (K : Int → Int → Int → Prop) :
    box_Within f (Hi x) (Lo x) g K = K (Hi (unbox g (unbox f x + ab f))) (Lo (unbox g (unbox f x + ab f))) 0 := by
  rw [box_Within.is]; unfold box_Within.d
  have hu := unbox_lt f x h
  rw [box_Unbox_ok f x h hx, br_f (by decide), box_Box_ok f _ h (fw_128 h hu), br_t (by simp [hu]), br_f (by decide), box_Unbox_ok g _ hg (box_lt h hu)]

theorem r22_Width_ok (f : Nat) (h : f ≤ 3) (K : Int → Prop) : r22_Width f K = K (fw f) := by
  rw [r22_Width.is]
  rcases four h with rfl | rfl | rfl | rfl <;> kernel_rfl
theorem r22_Width_no (f : Nat) (h : 3 < f) (K : Int → Prop) : r22_Width f K = K 0 := by
  rw [r22_Width.is]; unfold r22_Width.d
  rw [br_f (eq_f (by omega)), br_f (eq_f (by omega)), br_f (eq_f (by omega)), br_f (eq_f (by omega))]
theorem pair_bit (x k : Nat) (hx : x < 2 ^ 128) (hk : k < 128) (K : Bool → Prop) : (br (ltI k 64) (gd (!ltI k 0) (K (eqI (andI IntKind.u64 (shrI IntKind.u64 (Lo x) k) 1) 1))) (gd (!ltI (subI IntKind.i64 k 64) 0) (K (eqI (andI IntKind.u64 (shrI IntKind.u64 (Hi x) (subI IntKind.i64 k 64)) 1) 1)))) = K (x.testBit k) := by
  by_cases h : k < 64
  · rw [br_t (lt_t (by omega)), gd_t (sh_ok (by omega))]
    unfold Lo
    rw [test_nat _ k (lo_lt x) h, lo_bit]
    simp [h]
  · rw [br_f (lt_f (by omega)), show subI IntKind.i64 (k : Int) 64 = ((k - 64 : Nat) : Int) from by rw [sub_i64 (by omega) (by omega)]; omega, gd_t (sh_ok (by omega))]
    unfold Hi
    rw [test_nat _ (k - 64) (hi_lt hx) (by omega), hi_bit, show 64 + (k - 64) = k from by omega]
theorem r22_Bit_ok (x k : Nat) (hx : x < 2 ^ 128) (hk : k < 128) (K : Bool → Prop) : r22_Bit (Hi x) (Lo x) k K = K (x.testBit k) := by
  rw [r22_Bit.is]; exact pair_bit x k hx hk K
theorem r22_with_ok (x k : Nat) (hx : x < 2 ^ 128) (hk : k < 128) (K : Int → Int → Prop) : r22_with (Hi x) (Lo x) k K = K (Hi (x ||| 2 ^ k)) (Lo (x ||| 2 ^ k)) := by
  rw [r22_with.is]; unfold r22_with.d
  obtain ⟨e1, e2⟩ := op_two (· || ·) (· ||| ·) (fun a b j => Nat.testBit_or a b j) rfl x (2 ^ k)
  by_cases h : k < 64
  · have h1 : 2 ^ k / 18446744073709551616 = 0 := Nat.div_eq_of_lt (pow_lt_64 h)
    have h2 : 2 ^ k % 18446744073709551616 = 2 ^ k := Nat.mod_eq_of_lt (pow_lt_64 h)
    rw [br_t (lt_t (by omega)), gd_t (sh_ok (by omega)), one_shl k h]
    unfold Hi Lo
    rw [e1, e2, h1, h2, Nat.or_zero, or_nat _ _ (lo_lt x) (pow_lt_64 h)]
  · have hp : 2 ^ k = 2 ^ (k - 64) * 18446744073709551616 := by
      rw [show (18446744073709551616 : Nat) = 2 ^ 64 from rfl, ← Nat.pow_add]; congr 1; omega
    have h1 : 2 ^ k / 18446744073709551616 = 2 ^ (k - 64) := by rw [hp, Nat.mul_div_cancel _ (by omega)]
    have h2 : 2 ^ k % 18446744073709551616 = 0 := by rw [hp, Nat.mul_mod_left]
    rw [br_f (lt_f (by omega)), show subI IntKind.i64 (k : Int) 64 = ((k - 64 : Nat) : Int) from by rw [sub_i64 (by omega) (by omega)]; omega, gd_t (sh_ok (by omega)), one_shl (k - 64) (by omega)]
    unfold Hi Lo
    rw [e1, e2, h1, h2, Nat.or_zero, or_nat _ _ (hi_lt hx) (pow_lt_64 (by omega))]

theorem r22_Above_loop (w : Nat) (hw : w ≤ 128) (k0 : Int → Int → Int → Int → Prop) (u v : Int) (h : k0 u v (Hi (2 ^ 128 - 2 ^ w)) (Lo (2 ^ 128 - 2 ^ w))) :
    ∀ (j i : Nat), w ≤ i → i + j = 128 → r22_Above.l3 k0 (j + 1) i u v (Hi (2 ^ i - 2 ^ w)) (Lo (2 ^ i - 2 ^ w)) := by
  intro j
  induction j with
  | zero =>
    intro i hwi hij
    have : i = 128 := by omega
    subst this
    unfold r22_Above.l3 r22_Above.l3.step
    rw [br_f (by decide)]
    exact h
  | succ j ih =>
    intro i hwi hij
    have hp := Nat.two_pow_pos w
    have hle : 2 ^ w ≤ 2 ^ i := Nat.pow_le_pow_right (by omega) hwi
    have hlt : 2 ^ i < 2 ^ 128 := Nat.pow_lt_pow_right (by omega) (by omega)
    have ih := ih (i + 1) (by omega) (by omega)
    have e : ((i + 1 : Nat) : Int) = (i : Int) + 1 := by omega
    rw [e] at ih
    unfold r22_Above.l3 r22_Above.l3.step
    rw [br_t (lt_t (by omega)), r22_with_ok _ i (by omega) (by omega), or_pow _ _ (by omega), add_i64 (by omega) (by omega)]
    rw [show 2 ^ (i + 1) - 2 ^ w = 2 ^ i - 2 ^ w + 2 ^ i from by rw [Nat.pow_succ]; omega] at ih
    exact ih
theorem r22_Above_ok (f : Nat) (h : f ≤ 3) (K : Int → Int → Prop) (hK : K (Hi (ab f)) (Lo (ab f))) : r22_Above f K := by
  obtain ⟨h1, h2⟩ := fw_le2 f h
  rw [r22_Above.is]; unfold r22_Above.d; rw [r22_Width_ok f h]
  refine ⟨128 - fw f + 1, ?_⟩
  have := r22_Above_loop (fw f) h2 (fun y0 y1 y2 y3 => K y2 y3) 0 0 hK (128 - fw f) (fw f) (Nat.le_refl _) (by omega)
  rw [Nat.sub_self] at this
  exact this
theorem r22_Box_loop (w b : Nat) (hw : w ≤ 128) (hb : b < 2 ^ w) (k0 : Int → Int → Int → Int → Prop) (u v : Int) (h : k0 (Hi (b + (2 ^ 128 - 2 ^ w))) (Lo (b + (2 ^ 128 - 2 ^ w))) u v) :
    ∀ (j i : Nat), w ≤ i → i + j = 128 → r22_Box.l2 k0 (j + 1) i (Hi (b + (2 ^ i - 2 ^ w))) (Lo (b + (2 ^ i - 2 ^ w))) u v := by
  intro j
  induction j with
  | zero =>
    intro i hwi hij
    have : i = 128 := by omega
    subst this
    unfold r22_Box.l2 r22_Box.l2.step
    rw [br_f (by decide)]
    exact h
  | succ j ih =>
    intro i hwi hij
    have hp := Nat.two_pow_pos w
    have hle : 2 ^ w ≤ 2 ^ i := Nat.pow_le_pow_right (by omega) hwi
    have hlt : 2 ^ i < 2 ^ 128 := Nat.pow_lt_pow_right (by omega) (by omega)
    have ih := ih (i + 1) (by omega) (by omega)
    have e : ((i + 1 : Nat) : Int) = (i : Int) + 1 := by omega
    rw [e] at ih
    unfold r22_Box.l2 r22_Box.l2.step
    rw [br_t (lt_t (by omega)), r22_with_ok _ i (by omega) (by omega), or_pow _ _ (by omega), add_i64 (by omega) (by omega)]
    rw [show b + (2 ^ (i + 1) - 2 ^ w) = b + (2 ^ i - 2 ^ w) + 2 ^ i from by rw [Nat.pow_succ]; omega] at ih
    exact ih
theorem r22_Box_ok (f b : Nat) (h : f ≤ 3) (hb : b < 2 ^ fw f) (K : Int → Int → Prop) (hK : K (Hi (b + ab f)) (Lo (b + ab f))) : r22_Box f (Hi b) (Lo b) K := by
  obtain ⟨h1, h2⟩ := fw_le2 f h
  rw [r22_Box.is]; unfold r22_Box.d; rw [r22_Width_ok f h]
  refine ⟨128 - fw f + 1, ?_⟩
  have := r22_Box_loop (fw f) b h2 hb (fun y0 y1 y2 y3 => K y0 y1) 0 0 hK (128 - fw f) (fw f) (Nat.le_refl _) (by omega)
  rw [Nat.sub_self, Nat.add_zero] at this
  exact this

theorem lt_of_bits {x w n : Nat} (hx : x < 2 ^ n) (h : ∀ i, w ≤ i → i < n → x.testBit i = false) : x < 2 ^ w := by
  apply Nat.lt_pow_two_of_testBit
  intro i hi
  by_cases hin : i < n
  · exact h i hi hin
  · exact Nat.testBit_lt_two_pow (Nat.lt_of_lt_of_le hx (Nat.pow_le_pow_right (by omega) (by omega)))
theorem r22_Fits_loop (x w : Nat) (a : Int) (hx : x < 2 ^ 128) (k0 : Bool → Prop) (k1 : Int → Prop) (h0 : ¬ x < 2 ^ w → k0 false) (h1 : x < 2 ^ w → k1 a) :
    ∀ (j i : Nat), w ≤ i → i + j = 128 → (∀ k, w ≤ k → k < i → x.testBit k = false) → r22_Fits.l2 k0 k1 (j + 1) a i (Hi x) (Lo x) := by
  intro j
  induction j with
  | zero =>
    intro i hwi hij hb
    have : i = 128 := by omega
    subst this
    unfold r22_Fits.l2 r22_Fits.l2.step
    rw [br_f (by decide)]
    exact h1 (lt_of_bits hx hb)
  | succ j ih =>
    intro i hwi hij hb
    have ih := ih (i + 1) (by omega) (by omega)
    have e : ((i + 1 : Nat) : Int) = (i : Int) + 1 := by omega
    rw [e] at ih
    unfold r22_Fits.l2 r22_Fits.l2.step
    rw [br_t (lt_t (by omega)), r22_Bit_ok x i hx (by omega), add_i64 (by omega) (by omega)]
    cases ht : x.testBit i with
    | true =>
      rw [br_t rfl]
      refine h0 fun hlt => ?_
      rw [Nat.testBit_lt_two_pow (Nat.lt_of_lt_of_le hlt (Nat.pow_le_pow_right (by omega) hwi))] at ht
      cases ht
    | false =>
      rw [br_f rfl]
      refine ih fun k hk hki => ?_
      by_cases he : k = i
      · subst he; exact ht
      · exact hb k hk (by omega)
theorem r22_Fits_ok (f x : Nat) (h : f ≤ 3) (hx : x < 2 ^ 128) (K : Bool → Prop) (hK : K (decide (x < 2 ^ fw f))) : r22_Fits f (Hi x) (Lo x) K := by
  obtain ⟨h1, h2⟩ := fw_le2 f h
  rw [r22_Fits.is]; unfold r22_Fits.d; rw [r22_Width_ok f h]
  refine ⟨128 - fw f + 1, r22_Fits_loop x (fw f) f hx _ _ (fun hn => ?_) (fun hy => ?_) (128 - fw f) (fw f) (Nat.le_refl _) (by omega) (by intro k h3 h4; omega)⟩
  · rw [show decide (x < 2 ^ fw f) = false from by simp [hn]] at hK; exact hK
  · rw [r22_Width_ok f h, lt_t (by omega)]
    rw [show decide (x < 2 ^ fw f) = true from by simp [hy]] at hK; exact hK

theorem ab_bits (f x : Nat) (h : f ≤ 3) (hx : x < 2 ^ 128) : ab f ≤ x ↔ ∀ i, fw f ≤ i → i < 128 → x.testBit i = true := by
  rw [← ab_mod f x h hx]
  have hb : ∀ i, (ab f).testBit i = (decide (fw f ≤ i) && decide (i < 128)) := by
    intro i
    have e1 : ab f = (2 ^ (128 - fw f) - 1) <<< fw f := by
      unfold ab
      rw [Nat.shiftLeft_eq, Nat.sub_mul, Nat.one_mul, ← Nat.pow_add, show 128 - fw f + fw f = 128 from by have := (fw_le2 f h).2; omega]
    rw [e1, Nat.testBit_shiftLeft, Nat.testBit_two_pow_sub_one]
    by_cases hi : fw f ≤ i
    · have : decide (i - fw f < 128 - fw f) = decide (i < 128) := by rw [decide_eq_decide]; omega
      simp [hi, this]
    · simp [hi]
  constructor
  · intro he i h1 h2
    have := congrArg (fun z => Nat.testBit z i) he
    simp only [Nat.testBit_and, hb, h1, h2, decide_true, Bool.and_true] at this
    exact this
  · intro he
    apply Nat.eq_of_testBit_eq
    intro i
    rw [Nat.testBit_and, hb]
    by_cases h1 : fw f ≤ i
    · by_cases h2 : i < 128
      · simp [h1, h2, he i h1 h2]
      · simp [h2]
    · simp [h1]
theorem r22_IsBoxed_loop (f x : Nat) (h : f ≤ 3) (hx : x < 2 ^ 128) (k0 : Bool → Prop) (k1 : Int → Prop) (h0 : ¬ ab f ≤ x → k0 false) (h1 : ab f ≤ x → k1 f) :
    ∀ (j i : Nat), fw f ≤ i → i + j = 128 → (∀ k, fw f ≤ k → k < i → x.testBit k = true) → r22_IsBoxed.l2 k0 k1 (j + 1) f i (Hi x) (Lo x) := by
  intro j
  induction j with
  | zero =>
    intro i hwi hij hb
    have : i = 128 := by omega
    subst this
    unfold r22_IsBoxed.l2 r22_IsBoxed.l2.step
    rw [br_f (by decide)]
    exact h1 ((ab_bits f x h hx).2 hb)
  | succ j ih =>
    intro i hwi hij hb
    have ih := ih (i + 1) (by omega) (by omega)
    have e : ((i + 1 : Nat) : Int) = (i : Int) + 1 := by omega
    rw [e] at ih
    unfold r22_IsBoxed.l2 r22_IsBoxed.l2.step
    rw [br_t (lt_t (by omega)), r22_Bit_ok x i hx (by omega), add_i64 (by omega) (by omega)]
    cases ht : x.testBit i with
    | false =>
      rw [br_t (by decide)]
      refine h0 fun hle => ?_
      rw [(ab_bits f x h hx).1 hle i hwi (by omega)] at ht
      cases ht
    | true =>
      rw [br_f (by decide)]
      refine ih fun k hk hki => ?_
      by_cases he : k = i
      · subst he; exact ht
      · exact hb k hk (by omega)
theorem r22_IsBoxed_ok (f x : Nat) (h : f ≤ 3) (hx : x < 2 ^ 128) (K : Bool → Prop) (hK : K (boxed f x)) : r22_IsBoxed f (Hi x) (Lo x) K := by
  obtain ⟨h1, h2⟩ := fw_le2 f h
  rw [r22_IsBoxed.is]; unfold r22_IsBoxed.d; rw [r22_Width_ok f h]
  unfold boxed at hK
  refine ⟨128 - fw f + 1, r22_IsBoxed_loop f x h hx _ _ (fun hn => ?_) (fun hy => ?_) (128 - fw f) (fw f) (Nat.le_refl _) (by omega) (by intro k h3 h4; omega)⟩
  · rw [show decide (ab f ≤ x) = false from by simp [hn]] at hK; exact hK
  · rw [r22_Width_ok f h, lt_t (by omega)]
    rw [show decide (ab f ≤ x) = true from by simp [hy]] at hK; exact hK
/-- Of no format: whatever the bits, the width is 0 in the end. -/
theorem r22_IsBoxed_none (f x : Nat) (h : 3 < f) (hx : x < 2 ^ 128) (k0 : Bool → Prop) (k1 : Int → Prop) (h0 : k0 false) (h1 : k1 f) :
    ∀ (j i : Nat), i + j = 128 → r22_IsBoxed.l2 k0 k1 (j + 1) f i (Hi x) (Lo x) := by
  intro j
  induction j with
  | zero =>
    intro i hij
    have : i = 128 := by omega
    subst this
    unfold r22_IsBoxed.l2 r22_IsBoxed.l2.step
    rw [br_f (by decide)]
    exact h1
  | succ j ih =>
    intro i hij
    have ih := ih (i + 1) (by omega)
    have e : ((i + 1 : Nat) : Int) = (i : Int) + 1 := by omega
    rw [e] at ih
    unfold r22_IsBoxed.l2 r22_IsBoxed.l2.step
    rw [br_t (lt_t (by omega)), r22_Bit_ok x i hx (by omega), add_i64 (by omega) (by omega)]
    cases ht : x.testBit i with
    | false => rw [br_t (by decide)]; exact h0
    | true => rw [br_f (by decide)]; exact ih
theorem r22_IsBoxed_no (f x : Nat) (h : 3 < f) (hx : x < 2 ^ 128) (K : Bool → Prop) (hK : K false) : r22_IsBoxed f (Hi x) (Lo x) K := by
  rw [r22_IsBoxed.is]; unfold r22_IsBoxed.d; rw [r22_Width_no f h]
  refine ⟨128 + 1, r22_IsBoxed_none f x h hx _ _ hK ?_ 128 0 (by omega)⟩
  rw [r22_Width_no f h]; exact hK

theorem r22_Low_loop (f x : Nat) (h : f ≤ 3) (hx : x < 2 ^ 128) (k0 : Int → Int → Int → Int → Prop) (u v : Int) (hk : k0 u v (Hi (x % 2 ^ fw f)) (Lo (x % 2 ^ fw f))) :
    ∀ (j i : Nat), i + j = fw f → r22_Low.l3 k0 (j + 1) f i (Hi x) (Lo x) u v (Hi (x % 2 ^ i)) (Lo (x % 2 ^ i)) := by
  obtain ⟨w1, w2⟩ := fw_le2 f h
  intro j
  induction j with
  | zero =>
    intro i hij
    have : i = fw f := by omega
    subst this
    unfold r22_Low.l3 r22_Low.l3.step
    rw [r22_Width_ok f h, br_f (lt_f (by omega))]
    exact hk
  | succ j ih =>
    intro i hij
    have ih := ih (i + 1) (by omega)
    have e : ((i + 1 : Nat) : Int) = (i : Int) + 1 := by omega
    rw [e] at ih
    have hlt : x % 2 ^ i < 2 ^ i := Nat.mod_lt _ (Nat.two_pow_pos _)
    have hlt2 : x % 2 ^ i < 2 ^ 128 := Nat.lt_of_lt_of_le hlt (Nat.pow_le_pow_right (by omega) (by omega))
    unfold r22_Low.l3 r22_Low.l3.step
    rw [r22_Width_ok f h, br_t (lt_t (by omega)), r22_Bit_ok x i hx (by omega), add_i64 (by omega) (by omega)]
    cases ht : x.testBit i with
    | true =>
      rw [br_t rfl, r22_with_ok _ i hlt2 (by omega), or_pow _ _ hlt]
      rw [mod_succ, ht, Bool.toNat_true, Nat.one_mul] at ih
      exact ih
    | false =>
      rw [br_f rfl]
      rw [mod_succ, ht, Bool.toNat_false, Nat.zero_mul, Nat.add_zero] at ih
      exact ih
theorem r22_Low_ok (f x : Nat) (h : f ≤ 3) (hx : x < 2 ^ 128) (K : Int → Int → Prop) (hK : K (Hi (x % 2 ^ fw f)) (Lo (x % 2 ^ fw f))) : r22_Low f (Hi x) (Lo x) K := by
  rw [r22_Low.is]
  refine ⟨fw f + 1, ?_⟩
  have := r22_Low_loop f x h hx (fun y0 y1 y2 y3 => K y2 y3) 0 0 hK (fw f) 0 (by omega)
  rw [Nat.pow_zero, Nat.mod_one] at this
  exact this
theorem r22_NaN_loop (f s : Nat) (h : f ≤ 3) (k0 : Int → Int → Int → Int → Prop) (u v : Int) (hk : k0 u v (Hi (2 ^ (fw f - 1) - 2 ^ s)) (Lo (2 ^ (fw f - 1) - 2 ^ s))) :
    ∀ (j i : Nat), s ≤ i → i + j = fw f - 1 → r22_NaN.l11 k0 (j + 1) f i u v (Hi (2 ^ i - 2 ^ s)) (Lo (2 ^ i - 2 ^ s)) := by
  obtain ⟨w1, w2⟩ := fw_le2 f h
  intro j
  induction j with
  | zero =>
    intro i hs hij
    have : i = fw f - 1 := by omega
    subst this
    unfold r22_NaN.l11 r22_NaN.l11.step
    rw [r22_Width_ok f h, sub_i64 (by omega) (by omega), br_f (lt_f (by omega))]
    exact hk
  | succ j ih =>
    intro i hs hij
    have ih := ih (i + 1) (by omega) (by omega)
    have e : ((i + 1 : Nat) : Int) = (i : Int) + 1 := by omega
    rw [e] at ih
    have hp := Nat.two_pow_pos s
    have hle : 2 ^ s ≤ 2 ^ i := Nat.pow_le_pow_right (by omega) hs
    have hlt : 2 ^ i < 2 ^ 128 := Nat.pow_lt_pow_right (by omega) (by omega)
    unfold r22_NaN.l11 r22_NaN.l11.step
    rw [r22_Width_ok f h, sub_i64 (by omega) (by omega), br_t (lt_t (by omega)), r22_with_ok _ i (by omega) (by omega), or_pow _ _ (by omega), add_i64 (by omega) (by omega)]
    rw [show 2 ^ (i + 1) - 2 ^ s = 2 ^ i - 2 ^ s + 2 ^ i from by rw [Nat.pow_succ]; omega] at ih
    exact ih
theorem r22_NaN_ok (f : Nat) (h : f ≤ 3) (K : Int → Int → Prop) (hK : K (Hi (nanf f)) (Lo (nanf f))) : r22_NaN f K := by
  obtain ⟨n1, n2, n3⟩ := nanf_eq f h
  have key : ∃ n, r22_NaN.l11 (fun y0 y1 y2 y3 => K y2 y3) n f ((fp f - 2 : Nat) : Int) 0 0 0 0 := by
    refine ⟨fw f - 1 - (fp f - 2) + 1, ?_⟩
    have := r22_NaN_loop f (fp f - 2) h (fun y0 y1 y2 y3 => K y2 y3) 0 0 (by rw [← n1]; exact hK) (fw f - 1 - (fp f - 2)) (fp f - 2) (Nat.le_refl _) (by omega)
    rw [Nat.sub_self] at this
    exact this
  rw [r22_NaN.is]; unfold r22_NaN.d
  rcases four h with rfl | rfl | rfl | rfl
  · rw [br_t (by decide)]; exact key
  · rw [br_f (by decide), br_t (by decide)]; exact key
  · rw [br_f (by decide), br_f (by decide), br_f (by decide)]; exact key
  · rw [br_f (by decide), br_f (by decide), br_t (by decide)]; exact key
theorem r22_Unbox_ok (f x : Nat) (h : f ≤ 3) (hx : x < 2 ^ 128) (K : Int → Int → Prop) (hK : K (Hi (unbox f x)) (Lo (unbox f x))) : r22_Unbox f (Hi x) (Lo x) K := by
  rw [r22_Unbox.is]; unfold r22_Unbox.d
  refine r22_IsBoxed_ok f x h hx _ ?_
  unfold unbox at hK
  cases hb : boxed f x with
  | true => rw [br_t rfl]; rw [hb] at hK; exact r22_Low_ok f x h hx _ hK
  | false => rw [br_f rfl]; rw [hb] at hK; exact r22_NaN_ok f h _ hK
end Go.Ev.S
