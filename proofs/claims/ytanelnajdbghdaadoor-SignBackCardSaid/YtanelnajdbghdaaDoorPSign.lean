/- The plain laws of SignWords and SignBack. -/
import Derived.Test.YtanelnajdbghdaaDoorLSign
set_option linter.unusedVariables false
set_option linter.unusedSimpArgs false
set_option maxRecDepth 8000
namespace Go.Ev.S
open Go Go.Ev

theorem eq3 (f : Nat) : eqI (f : Int) 3 = decide (f = 3) := by
  rw [show (3 : Int) = ((3 : Nat) : Int) from rfl, eq_nat]
theorem fw_64 (f : Nat) (h : f ≤ 3) (h3 : f ≠ 3) : 1 ≤ fw f ∧ fw f ≤ 64 := by
  rcases four h with rfl | rfl | rfl | rfl
  · decide
  · decide
  · decide
  · exact absurd rfl h3

theorem sign_OfWord_no (f : Nat) (hb : f = 3 ∨ 3 < f) (a : Int) (K : Int → Int → Int → Prop) : sign_OfWord f a K = K 0 0 2 := by
  rw [sign_OfWord.is]; unfold sign_OfWord.d
  rw [eq3]
  by_cases h : f = 3
  · rw [br_t (by simpa using h)]
  · rw [br_f (by simpa using h), shape_Check_no f (by omega)]; rfl
theorem r17_OfWord_no (f : Nat) (hb : f = 3 ∨ 3 < f) (a : Int) (K : Int → Int → Int → Prop) : r17_OfWord f a K = K 0 0 2 := by
  rw [r17_OfWord.is]; unfold r17_OfWord.d
  rw [eq3]
  by_cases h : f = 3
  · rw [br_t (by simpa using h)]
  · rw [br_f (by simpa using h), r07_Right_no f (by omega)]; rfl
theorem sign_OfWord_ok (f a : Nat) (h : f ≤ 3) (h3 : f ≠ 3) (ha : a < 18446744073709551616) (K : Int → Int → Int → Prop) : sign_OfWord f a K = K 0 ((a % 2 ^ fw f : Nat) : Int) 0 := by
  have hw := fw_64 f h h3
  have hm : 2 ^ fw f - 1 < 18446744073709551616 := by
    have := Nat.pow_le_pow_right (n := 2) (by omega) hw.2
    have := Nat.two_pow_pos (fw f)
    omega
  rw [sign_OfWord.is]; unfold sign_OfWord.d
  rw [eq3, br_f (by simpa using h3), shape_Check_ok f h, br_f (by decide), shape_Width_ok f h, word_Mask_ok _ hw.2, and_nat _ _ ha hm, Nat.and_two_pow_sub_one_eq_mod]
theorem HiLo_of (a : Nat) (ha : a < 18446744073709551616) : Hi a = 0 ∧ Lo a = a := by
  unfold Hi Lo; constructor <;> omega
theorem r17_OfWord_ok (f a : Nat) (h : f ≤ 3) (h3 : f ≠ 3) (ha : a < 18446744073709551616) (K : Int → Int → Int → Prop) (hK : K 0 ((a % 2 ^ fw f : Nat) : Int) 0) : r17_OfWord f a K := by
  have hw := fw_64 f h h3
  have hq : a < Q6 := p384 (a := 64) (by omega) ha
  have hl : a % 2 ^ fw f < 18446744073709551616 := Nat.lt_of_le_of_lt (Nat.mod_le _ _) ha
  rw [r17_OfWord.is]; unfold r17_OfWord.d
  rw [eq3, br_f (by simpa using h3), r07_Right_ok f h, br_f (by decide), r02_Of_ok a ha, r07_Width_ok f h]
  refine r02_Mask_ok _ (by omega) _ ?_
  refine r02_And_ok _ _ hq _ ?_
  rw [Nat.and_two_pow_sub_one_eq_mod, r02_ToBits_ok _ (p128 (a := 64) (by omega) hl), (HiLo_of _ hl).1, (HiLo_of _ hl).2]
  exact hK

/-- The word that a pattern comes to, its sign drawn out. -/
def ext (w x : Nat) : Nat := cond (x.testBit (w - 1)) (x % 2 ^ w + (18446744073709551616 - 2 ^ w)) (x % 2 ^ w)
theorem word_Extend_ok (w x : Nat) (h1 : 1 ≤ w) (h2 : w ≤ 64) (hx : x < 18446744073709551616) (K : Int → Prop) : word_Extend x w K = K (ext w x : Nat) := by
  rw [word_Extend.is]; unfold word_Extend.d
  have e1 : minI (maxI (w : Int) 1) 64 = (w : Int) := by rw [maxI_eq, minI_eq]; split <;> split <;> omega
  rw [e1]
  have e2 : subI .i64 64 (w : Int) = ((64 - w : Nat) : Int) := by rw [sub_i64 (by omega) (by omega)]; omega
  rw [e2, cv_u64 (by omega) (by omega), gd_t (sh_ok (by omega)), gd_t (sh_ok (by omega))]
  congr 1
  obtain ⟨n, hn0⟩ : ∃ n, n = 64 - w := ⟨_, rfl⟩
  rw [← hn0]
  have hn : n < 64 := by omega
  rw [shl_nat x n hn, Nat.shiftLeft_eq]
  have hP : 2 ^ w * 2 ^ n = 18446744073709551616 := by rw [← Nat.pow_add, show w + n = 64 from by omega]
  have hw2 : 2 ^ w = 2 * 2 ^ (w - 1) := by rw [show w = (w - 1) + 1 from by omega, Nat.pow_succ]; simp; omega
  have hm : x * 2 ^ n % 18446744073709551616 = (x % 2 ^ w) * 2 ^ n := by rw [← hP, Nat.mul_mod_mul_right]
  rw [hm]
  have hr : x % 2 ^ w < 2 ^ w := Nat.mod_lt _ (Nat.two_pow_pos _)
  have hmin : min (Int.toNat (n : Int)) (IntKind.bits .i64) = n := by simp [IntKind.bits]; omega
  simp only [shrI, hmin]
  rw [Int.fdiv_eq_ediv_of_nonneg _ (Int.le_of_lt (Int.pow_pos (by omega)))]
  have hbit : x.testBit (w - 1) = decide (2 ^ (w - 1) ≤ x % 2 ^ w) := by
    have h3 := mod_succ x (w - 1)
    rw [show w - 1 + 1 = w from by omega] at h3
    have h4 : x % 2 ^ (w - 1) < 2 ^ (w - 1) := Nat.mod_lt _ (Nat.two_pow_pos _)
    cases hb : x.testBit (w - 1) <;> rw [hb] at h3 <;> simp at h3 <;> simp <;> omega
  have hN : 0 < 2 ^ n := Nat.two_pow_pos n
  unfold ext
  rw [hbit]
  have hv : (x % 2 ^ w) * 2 ^ n < 18446744073709551616 := by rw [← hP]; exact (Nat.mul_lt_mul_right hN).2 hr
  have hhalf : 2 ^ (w - 1) * 2 ^ n = 9223372036854775808 := by
    have : 2 * (2 ^ (w - 1) * 2 ^ n) = 18446744073709551616 := by rw [← Nat.mul_assoc, ← hw2, hP]
    omega
  have hcast : ((2 : Int) ^ n) = ((2 ^ n : Nat) : Int) := by simp
  rw [hcast]
  generalize hr0 : x % 2 ^ w = r at *
  by_cases hc : 2 ^ (w - 1) ≤ r
  · have hge : 9223372036854775808 ≤ r * 2 ^ n := by rw [← hhalf]; exact Nat.mul_le_mul_right _ hc
    have e3 : cvI .i64 ((r * 2 ^ n : Nat) : Int) = ((r * 2 ^ n : Nat) : Int) - 18446744073709551616 := by
      show IntKind.wrap .i64 _ = _
      rw [wrap_i64]; omega
    have e4 : ((r * 2 ^ n : Nat) : Int) - 18446744073709551616 = ((r : Int) - ((2 ^ w : Nat) : Int)) * ((2 ^ n : Nat) : Int) := by
      rw [Int.sub_mul]
      have h5 : ((2 ^ w : Nat) : Int) * ((2 ^ n : Nat) : Int) = 18446744073709551616 := by rw [← Int.natCast_mul, hP]; rfl
      rw [h5, Int.natCast_mul]
    rw [e3, e4, Int.mul_ediv_cancel _ (by omega)]
    have hwle : 2 ^ w ≤ 18446744073709551616 := by rw [← hP]; exact Nat.le_mul_of_pos_right _ hN
    show IntKind.wrap .u64 _ = _
    simp only [hc, decide_true, cond_true]
    rw [wrap_u64]
    generalize 2 ^ w = p at *
    omega
  · have hlt : r * 2 ^ n < 9223372036854775808 := by rw [← hhalf]; exact (Nat.mul_lt_mul_right hN).2 (by omega)
    have e3 : cvI .i64 ((r * 2 ^ n : Nat) : Int) = ((r * 2 ^ n : Nat) : Int) := cv_i64 (by omega) (by omega)
    rw [e3, Int.natCast_mul, Int.mul_ediv_cancel _ (by omega)]
    have hwle : 2 ^ w ≤ 18446744073709551616 := by rw [← hP]; exact Nat.le_mul_of_pos_right _ hN
    simp only [hc, decide_false, cond_false]
    exact cv_u64 (by omega) (by generalize 2 ^ w = p at *; omega)
theorem not_mask (w : Nat) (h2 : w ≤ 64) : notI .u64 ((2 ^ w - 1 : Nat) : Int) = ((18446744073709551616 - 2 ^ w : Nat) : Int) := by
  have hwle : 2 ^ w ≤ 18446744073709551616 := Nat.pow_le_pow_right (n := 2) (by omega) h2
  have hp := Nat.two_pow_pos w
  show xorI .u64 ((18446744073709551615 : Nat) : Int) _ = _
  rw [xor_nat _ _ (by omega) (by omega)]
  congr 1
  have hP : 18446744073709551616 - 2 ^ w = 2 ^ w * (2 ^ (64 - w) - 1) := by
    rw [Nat.mul_sub, ← Nat.pow_add, show w + (64 - w) = 64 from by omega, Nat.mul_one]
  rw [hP]
  apply Nat.eq_of_testBit_eq; intro j
  rw [Nat.testBit_xor, show (18446744073709551615 : Nat) = 2 ^ 64 - 1 from rfl, Nat.testBit_two_pow_sub_one, Nat.testBit_two_pow_sub_one, Nat.testBit_two_pow_mul, Nat.testBit_two_pow_sub_one]
  by_cases h3 : j < w
  · have h4 : j < 64 := by omega
    have h5 : ¬ w ≤ j := by omega
    simp [h3, h4, h5]
  · have h5 : w ≤ j := by omega
    by_cases h4 : j < 64
    · have h6 : j - w < 64 - w := by omega
      simp [h3, h4, h5, h6]
    · have h6 : ¬ j - w < 64 - w := by omega
      simp [h3, h4, h5, h6]
theorem r01_Extend_ok (w x : Nat) (h1 : 1 ≤ w) (h2 : w ≤ 64) (hx : x < 18446744073709551616) (K : Int → Prop) (hK : K (ext w x : Nat)) : r01_Extend x w K := by
  have hwle : 2 ^ w ≤ 18446744073709551616 := Nat.pow_le_pow_right (n := 2) (by omega) h2
  have hp := Nat.two_pow_pos w
  have hr : x % 2 ^ w < 2 ^ w := Nat.mod_lt _ hp
  rw [r01_Extend.is]; unfold r01_Extend.d
  rw [r01_count_ok w h2, br_f (lt_f (by omega))]
  refine r01_Mask_ok w h2 _ ?_
  rw [show subI .i64 (w : Int) 1 = ((w - 1 : Nat) : Int) from by rw [sub_i64 (by omega) (by omega)]; omega, r01_Bit_ok x _ hx (by omega)]
  have e1 : andI .u64 (x : Int) ((2 ^ w - 1 : Nat) : Int) = ((x % 2 ^ w : Nat) : Int) := by rw [and_nat _ _ hx (by omega), Nat.and_two_pow_sub_one_eq_mod]
  unfold ext at hK
  cases hb : x.testBit (w - 1) with
  | false => rw [hb] at hK; rw [br_f rfl, e1]; exact hK
  | true =>
    rw [hb] at hK
    rw [br_t rfl]
    refine r01_Mask_ok w h2 _ ?_
    rw [e1, not_mask w h2, or_nat _ _ (by omega) (by omega)]
    have e2 : x % 2 ^ w ||| (18446744073709551616 - 2 ^ w) = x % 2 ^ w + (18446744073709551616 - 2 ^ w) := by
      have hP : 18446744073709551616 - 2 ^ w = 2 ^ w * (2 ^ (64 - w) - 1) := by
        rw [Nat.mul_sub, ← Nat.pow_add, show w + (64 - w) = 64 from by omega, Nat.mul_one]
      rw [hP, Nat.or_comm, ← Nat.two_pow_add_eq_or_of_lt hr, Nat.add_comm]
    rw [e2]; exact hK
theorem ext_lt (w x : Nat) (h2 : w ≤ 64) : ext w x < 18446744073709551616 := by
  have hwle : 2 ^ w ≤ 18446744073709551616 := Nat.pow_le_pow_right (n := 2) (by omega) h2
  have hr : x % 2 ^ w < 2 ^ w := Nat.mod_lt _ (Nat.two_pow_pos w)
  unfold ext
  cases x.testBit (w - 1) <;> simp only [cond_true, cond_false] <;> omega
theorem ext_mod (w x : Nat) (h2 : w ≤ 64) : ext w x % 2 ^ w = x % 2 ^ w := by
  have hP : 18446744073709551616 - 2 ^ w = 2 ^ w * (2 ^ (64 - w) - 1) := by
    rw [Nat.mul_sub, ← Nat.pow_add, show w + (64 - w) = 64 from by omega, Nat.mul_one]
  unfold ext
  rw [hP]
  cases x.testBit (w - 1) <;> simp [Nat.add_mul_mod_self_left]
/-- What both come to where a word is asked for. -/
theorem bad_cases {f x : Nat} (hb : bad2 f x x) : 3 < f ∨ (f ≤ 3 ∧ 2 ^ fw f ≤ x) := by unfold bad2 at hb; omega
theorem sign_ToWord_no (f x : Nat) (hx : x < 2 ^ 128) (hb : f = 3 ∨ bad2 f x x) (K : Int → Int → Prop) : sign_ToWord f (Hi x) (Lo x) K = K 0 2 := by
  rw [sign_ToWord.is]; unfold sign_ToWord.d
  rw [eq3]
  by_cases h : f = 3
  · rw [br_t (by simpa using h)]
  · rw [br_f (by simpa using h)]
    rcases bad_cases (hb.resolve_left h) with h3 | ⟨h3, h4⟩
    · rw [shape_Fits_no f h3]; rfl
    · rw [shape_Fits_ok f x h3 hx, br_t (by simpa using h4)]
theorem r17_ToWord_no (f x : Nat) (hx : x < 2 ^ 128) (hb : f = 3 ∨ bad2 f x x) (K : Int → Int → Prop) (hK : K 0 2) : r17_ToWord f (Hi x) (Lo x) K := by
  rw [r17_ToWord.is]; unfold r17_ToWord.d
  rw [eq3]
  by_cases h : f = 3
  · rw [br_t (by simpa using h)]; exact hK
  · rw [br_f (by simpa using h)]
    exact r07_Fits_bad f x hx (hb.resolve_left h) _ hK
theorem x64 {f x : Nat} (h : f ≤ 3) (h3 : f ≠ 3) (hx : x < 2 ^ fw f) : x < 18446744073709551616 :=
  Nat.lt_of_lt_of_le hx (Nat.pow_le_pow_right (n := 2) (by omega) (fw_64 f h h3).2)
theorem sign_ToWord_ok (f x : Nat) (h : f ≤ 3) (h3 : f ≠ 3) (hx : x < 2 ^ fw f) (K : Int → Int → Prop) : sign_ToWord f (Hi x) (Lo x) K = K (ext (fw f) x : Nat) 0 := by
  have hw := fw_64 f h h3
  rw [sign_ToWord.is]; unfold sign_ToWord.d
  rw [eq3, br_f (by simpa using h3), shape_Fits_ok f x h (x128 h hx), br_f (by simpa using hx), shape_Width_ok f h, (HiLo_of x (x64 h h3 hx)).2, word_Extend_ok _ _ hw.1 hw.2 (x64 h h3 hx)]
theorem r17_ToWord_ok (f x : Nat) (h : f ≤ 3) (h3 : f ≠ 3) (hx : x < 2 ^ fw f) (K : Int → Int → Prop) (hK : K (ext (fw f) x : Nat) 0) : r17_ToWord f (Hi x) (Lo x) K := by
  have hw := fw_64 f h h3
  rw [r17_ToWord.is]; unfold r17_ToWord.d
  rw [eq3, br_f (by simpa using h3)]
  refine r07_Fits_good f x h hx _ ?_
  rw [br_f (show (!true) = false from rfl), r07_Width_ok f h, (HiLo_of x (x64 h h3 hx)).2]
  exact r01_Extend_ok _ _ hw.1 hw.2 (x64 h h3 hx) _ hK

theorem words_tail (f x a : Nat) (hx : x < 2 ^ 128) (ha : a < 18446744073709551616) (K : Bool → Prop) (hK : K true) :
    sign_ToWord f (Hi x) (Lo x) fun y0 y1 => r17_ToWord f (Hi x) (Lo x) fun y0_2 y1_1 => sign_OfWord f a fun y0_3 y1_2 y2 => r17_OfWord f a fun y0_4 y1_3 y2_1 => br (eqI y0 y0_2) (br (eqI y1 y1_1) (br (eqI y0_3 y0_4 && eqI y1_2 y1_3) (br (eqI y2 y2_1) (law17_alive fun y0 => K y0) (K false)) (K false)) (K false)) (K false) := by
  have hal : law17_alive fun y0 => K y0 := law17_alive_ok _ hK
  have part2 : ∀ y0 y1 : Int, sign_OfWord f a fun y0_3 y1_2 y2 => r17_OfWord f a fun y0_4 y1_3 y2_1 => br (eqI y0 y0) (br (eqI y1 y1) (br (eqI y0_3 y0_4 && eqI y1_2 y1_3) (br (eqI y2 y2_1) (law17_alive fun y0 => K y0) (K false)) (K false)) (K false)) (K false) := by
    intro y0 y1
    by_cases hb : f = 3 ∨ 3 < f
    · rw [sign_OfWord_no f hb, r17_OfWord_no f hb]
      exact br_eq (br_eq (br_00 (br_eq hal)))
    · rw [sign_OfWord_ok f a (by omega) (by omega) ha]
      refine r17_OfWord_ok f a (by omega) (by omega) ha _ ?_
      refine br_eq (br_eq ?_)
      rw [br_t (by rw [eq_t rfl, eq_t rfl]; rfl)]
      exact br_eq hal
  by_cases hb : f = 3 ∨ bad2 f x x
  · rw [sign_ToWord_no f x hx hb]
    exact r17_ToWord_no f x hx hb _ (part2 _ _)
  · have h : f ≤ 3 := by unfold bad2 at hb; omega
    have h3 : f ≠ 3 := by omega
    have hx' : x < 2 ^ fw f := by unfold bad2 at hb; omega
    rw [sign_ToWord_ok f x h h3 hx']
    exact r17_ToWord_ok f x h h3 hx' _ (part2 _ _)

theorem signWords (a0 a1_0 a1_1 a2 : Int) (w0 : (Lit.int .u8 a0).wf = true) (w1 : (Lit.int .u64 a1_0).wf = true) (w2 : (Lit.int .u64 a1_1).wf = true) (w3 : (Lit.int .u64 a2).wf = true)
    (K : Bool → Prop) (hK : K true) : law17_SignWords a0 a1_0 a1_1 a2 K := by
  obtain ⟨f, rfl, hf⟩ := u8_nat w0
  obtain ⟨x, hx, rfl, rfl⟩ := pair_nat w1 w2
  obtain ⟨a, rfl, ha⟩ := u64_nat w3
  rw [law17_SignWords.is]; unfold law17_SignWords.d
  by_cases hb : bad2 f x x
  · rw [sign_Classify_no f x hx hb]
    refine r07_Fits_bad f x hx hb _ ?_
    rw [br_t (show (!false) = true from rfl), br_f (by decide), br_f (by decide)]
    exact words_tail f x a hx ha K hK
  · have h : f ≤ 3 := by unfold bad2 at hb; omega
    have hx' : x < 2 ^ fw f := by unfold bad2 at hb; omega
    refine sign_Classify_ok f x h hx' _ ?_
    refine r07_Fits_good f x h hx' _ ?_
    rw [br_f (show (!true) = false from rfl)]
    refine r17_Classify_ok f x h hx' _ ?_
    rw [br_f (by rw [eq_t rfl]; rfl), br_f (by decide)]
    exact words_tail f x a hx ha K hK

theorem cls_bits (c : Int) (h0 : 0 ≤ c) (h : c ≤ 9) : eqI (shlI .u64 1 c) 0 = false ∧ (!eqI (andI .u64 (shlI .u64 1 c) (subI .u64 (shlI .u64 1 c) 1)) 0) = false ∧ ltI 512 (shlI .u64 1 c) = false := by
  obtain ⟨n, rfl⟩ : ∃ n : Nat, c = n := ⟨c.toNat, by omega⟩
  have hn : n ≤ 9 := by omega
  clear h0 h
  match n, hn with
  | 0, _ => decide
  | 1, _ => decide
  | 2, _ => decide
  | 3, _ => decide
  | 4, _ => decide
  | 5, _ => decide
  | 6, _ => decide
  | 7, _ => decide
  | 8, _ => decide
  | 9, _ => decide
theorem setS_own (f x : Nat) : setS f x (ng f x) = x := by unfold setS; rw [beq_self_eq_true]; rfl
theorem setS_not (f x : Nat) : setS f x (!ng f x) = flip f x := by unfold setS; cases ng f x <;> rfl
theorem setS_setS (f x : Nat) (s : Bool) : setS f (setS f x s) (ng f x) = x := by
  rcases Bool.eq_false_or_eq_true (ng f x == s) with h | h
  · have e : setS f x s = x := by unfold setS; rw [h]; rfl
    rw [e]; exact setS_own f x
  · have e : setS f x s = flip f x := by unfold setS; rw [h]; rfl
    rw [e]
    have e2 := setS_not f (flip f x)
    rw [ng_flip, Bool.not_not, flip_flip] at e2
    exact e2
theorem xor_xor (a b : Bool) : (!beqB (!beqB a b) b) = a := by cases a <;> cases b <;> rfl

theorem signBack (a0 a1_0 a1_1 a2_0 a2_1 : Int) (w0 : (Lit.int .u8 a0).wf = true) (w1 : (Lit.int .u64 a1_0).wf = true) (w2 : (Lit.int .u64 a1_1).wf = true) (w3 : (Lit.int .u64 a2_0).wf = true) (w4 : (Lit.int .u64 a2_1).wf = true)
    (K : Bool → Prop) (hK : K true) : law17_SignBack a0 a1_0 a1_1 a2_0 a2_1 K := by
  obtain ⟨f, rfl, hf⟩ := u8_nat w0
  obtain ⟨x, hx, rfl, rfl⟩ := pair_nat w1 w2
  obtain ⟨y, hy, rfl, rfl⟩ := pair_nat w3 w4
  have hal : law17_alive fun y0 => K y0 := law17_alive_ok _ hK
  rw [law17_SignBack.is]; unfold law17_SignBack.d
  by_cases hb : bad2 f x x
  · have hb2 : bad2 f x y := by unfold bad2 at *; omega
    rw [sign_Copy_no f x x hx hx hb, sign_Not_no f x x hx hx hb, sign_Xor_no f x y hx hy hb2]
    exact hal
  · have h : f ≤ 3 := by unfold bad2 at hb; omega
    have hx' : x < 2 ^ fw f := by unfold bad2 at hb; omega
    rw [sign_Copy_ok f x x h hx' hx', sign_Not_ok f x x h hx' hx', setS_own, setS_not]
    by_cases hy' : y < 2 ^ fw f
    · rw [sign_Xor_ok f x y h hx' hy']
      have hz := setS_lt f x (!beqB (ng f x) (ng f y)) h hx'
      rw [br_f (by decide), br_f (by decide), sign_Xor_ok f _ y h hz hy', ng_setS, xor_xor, setS_setS]
      refine sign_Classify_ok f x h hx' _ ?_
      obtain ⟨c1, c2, c3⟩ := cls_bits _ (cls_range f x).1 (cls_range f x).2
      rw [br_f (by rw [eq_t rfl, eq_t rfl]; rfl), br_f (by decide), kind_Flip_ok f x h hx', br_f (by rw [eq_t rfl, eq_t rfl]; rfl), br_f (by rw [eq_t rfl, eq_t rfl]; rfl), br_f c1, br_f c2, br_f c3, eq3]
      by_cases h3 : f = 3
      · rw [sign_ToWord_no f x hx (.inl h3), sign_OfWord_no f (.inl h3), br_t (by simpa using h3)]
        exact hal
      · rw [sign_ToWord_ok f x h h3 hx', sign_OfWord_ok f _ h h3 (ext_lt _ _ (fw_64 f h h3).2), br_f (by simpa using h3), ext_mod _ _ (fw_64 f h h3).2, Nat.mod_eq_of_lt hx', (HiLo_of x (x64 h h3 hx')).1, (HiLo_of x (x64 h h3 hx')).2]
        refine br_eq (br_eq ?_)
        rw [br_t (by rw [eq_t rfl, eq_t rfl]; rfl)]
        exact hal
    · have hb2 : bad2 f x y := by unfold bad2 at *; omega
      rw [sign_Xor_no f x y hx hy hb2]
      exact hal
end Go.Ev.S
