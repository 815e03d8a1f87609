/- The plain law of ShapeNumbers. -/
import Derived.Test.YtdnndfaojopnbaaFnShapeNumbers
import Derived.Test.YtdnndfaojopnbaaEvNum
set_option linter.unusedVariables false
set_option linter.unusedSimpArgs false
namespace Go.Ev.S
open Go Go.Ev

theorem n68_0 (K : Int → Int → Int → List UInt8 → Prop) : f68 0 K = K 32 24 127 [115] := by rw [f68.is]; kernel_rfl
theorem n68_1 (K : Int → Int → Int → List UInt8 → Prop) : f68 1 K = K 64 53 1023 [100] := by rw [f68.is]; kernel_rfl
theorem n68_2 (K : Int → Int → Int → List UInt8 → Prop) : f68 2 K = K 16 11 15 [104] := by rw [f68.is]; kernel_rfl
theorem n68_3 (K : Int → Int → Int → List UInt8 → Prop) : f68 3 K = K 128 113 16383 [113] := by rw [f68.is]; kernel_rfl
theorem n68_4 {a : Int} (h : 4 ≤ a) (h2 : a < 256) (K : Int → Int → Int → List UInt8 → Prop) : f68 a K = K 0 0 0 [] := by
  rw [f68.is]; unfold f68.d
  rw [br_t (le_t (by rw [cv_i64 (by omega) (by omega)]; exact h))]

theorem q11 (a : Int) (K : Int → Prop) : f11 a K = br (ltI 3 a) (K 2) (K 0) := by rw [f11.is]; rfl
theorem q12 (a : Int) (K : Bool → Prop) : f12 a K = K (leI a 3) := by rw [f12.is]; rfl
theorem q13 (a : Int) (K : Int → Prop) : f13 a K = br (ltI 4 a) (K 2) (K 0) := by rw [f13.is]; rfl
theorem q14 (a : Int) (K : Bool → Prop) : f14 a K = K (leI a 4) := by rw [f14.is]; rfl
theorem q15 (a : Int) (K : Int → Prop) : f15 a K = f68 a fun r0 r1 r2 r3 => K r0 := by rw [f15.is]; rfl
theorem q17 (a : Int) (K : Int → Prop) : f17 a K = f68 a fun r0 r1 r2 r3 => K r1 := by rw [f17.is]; rfl
theorem q19 (a : Int) (K : Int → Prop) : f19 a K = f68 a fun r0 r1 r2 r3 => K r2 := by rw [f19.is]; rfl
theorem q16 (a : Int) (K : Int → Prop) : f16 a K = br (eqI a 2) (K 16) (br (eqI a 0) (K 32) (br (eqI a 1) (K 64) (br (eqI a 3) (K 128) (K 0)))) := by rw [f16.is]; rfl
theorem q18 (a : Int) (K : Int → Prop) : f18 a K = br (eqI a 2) (K 11) (br (eqI a 0) (K 24) (br (eqI a 1) (K 53) (br (eqI a 3) (K 113) (K 0)))) := by rw [f18.is]; rfl
theorem q20 (a : Int) (K : Int → Prop) : f20 a K = br (eqI a 2) (K 15) (br (eqI a 0) (K 127) (br (eqI a 1) (K 1023) (br (eqI a 3) (K 16383) (K 0)))) := by rw [f20.is]; rfl
theorem q21 (a : Int) (K : Int → Prop) : f21 a K = f11 a fun r0 => br (!eqI r0 0) (K 0) (f19 a fun r0 => K (subI IntKind.i64 1 r0)) := by rw [f21.is]; rfl
theorem q22 (a : Int) (K : Int → Prop) : f22 a K = f12 a fun r0 => br (!r0) (K 0) (f20 a fun r0 => K (subI IntKind.i64 1 r0)) := by rw [f22.is]; rfl

/-- Some answers that the document fixes. -/
theorem alive (K : Bool → Prop) (h : K true) : f25 K := by
  rw [f25.is]; unfold f25.d
  rw [q15, n68_2, q19, n68_3, f32.is]; unfold f32.d
  simp only [q11, q19, q17, n68_2, f71.is, q13]
  exact h

/-- The place of the highest bit below n, and one more. -/
def lenTo (a : Nat) : Nat → Nat
  | 0 => 0
  | i + 1 => cond (a.testBit i) (i + 1) (lenTo a i)
theorem lenTo_le (a w : Nat) : ∀ n, lenTo a n ≤ w ↔ ∀ i, i < n → w ≤ i → a.testBit i = false
  | 0 => by simp [lenTo]
  | n + 1 => by
    have ih := lenTo_le a w n
    cases hb : a.testBit n with
    | true =>
      simp only [lenTo, hb, cond_true]
      constructor
      · intro h i hi hw; omega
      · intro h
        apply Classical.byContradiction
        intro hc
        have := h n (by omega) (by omega)
        rw [hb] at this; cases this
    | false =>
      simp only [lenTo, hb, cond_false]
      rw [ih]
      constructor
      · intro h i hi hw
        by_cases hin : i = n
        · subst hin; exact hb
        · exact h i (by omega) hw
      · intro h i hi hw; exact h i (by omega) hw
theorem lenTo_bound (a : Nat) : ∀ n, lenTo a n ≤ n
  | 0 => by simp [lenTo]
  | n + 1 => by
    have := lenTo_bound a n
    simp only [lenTo]
    cases a.testBit n <;> simp <;> omega
theorem lenTo_lt (a w : Nat) (ha : a < 18446744073709551616) : lenTo a 64 ≤ w ↔ a < 2 ^ w := by
  rw [lenTo_le]
  constructor
  · intro h
    apply Nat.lt_pow_two_of_testBit
    intro i hi
    by_cases h64 : i < 64
    · exact h i h64 hi
    · exact Nat.testBit_lt_two_pow (Nat.lt_of_lt_of_le (show a < 2 ^ 64 from ha) (Nat.pow_le_pow_right (by omega) (by omega)))
  · intro h i _ hw
    exact Nat.testBit_lt_two_pow (Nat.lt_of_lt_of_le h (Nat.pow_le_pow_right (by omega) hw))

theorem bit87 (a i : Nat) (ha : a < 18446744073709551616) (hi : i < 64) (K : Bool → Prop) : f87 a i K = K (a.testBit i) := by
  rw [f87.is]; unfold f87.d
  rw [br_t (le_t (by omega)), br_t (lt_t (by omega)), cv_u64 (by omega) (by omega), gd_t (by rw [lt_f (by omega)]; rfl), test_nat a i ha hi]

theorem len85 (a : Nat) (ha : a < 18446744073709551616) (k0 : Int → Prop) (h : k0 (lenTo a 64)) : ∀ (j i : Nat), i + j = 64 → f85.l3 k0 (j + 1) a (lenTo a i) i
  | 0, i, hij => by
    have : i = 64 := by omega
    subst this
    unfold f85.l3 f85.l3.step
    rw [br_f (by decide)]
    exact h
  | j + 1, i, hij => by
    show br (ltI i 64) (f87 a i fun r0 => br r0 (f85.l3 k0 (j + 1) a (addI .i64 i 1) (addI .i64 i 1)) (f85.l3 k0 (j + 1) a (lenTo a i) (addI .i64 i 1))) (k0 (lenTo a i))
    rw [br_t (lt_t (by omega)), bit87 a i ha (by omega), add_i64 (by omega) (by omega)]
    have ih := len85 a ha k0 h j (i + 1) (by omega)
    have e : ((i + 1 : Nat) : Int) = (i : Int) + 1 := by omega
    rw [e] at ih
    cases hb : a.testBit i with
    | true =>
      rw [br_t rfl]
      simp only [lenTo, hb, cond_true] at ih
      rw [e] at ih
      exact ih
    | false =>
      rw [br_f rfl]
      simp only [lenTo, hb, cond_false] at ih
      exact ih
theorem l85 (a : Nat) (ha : a < 18446744073709551616) (K : Int → Prop) (h : K (lenTo a 64)) : f85 a K := by
  rw [f85.is]
  exact ⟨65, len85 a ha K h 64 0 rfl⟩

/-- The length of two words. -/
def len2 (hi lo : Nat) : Nat := cond (Nat.beq hi 0) (lenTo lo 64) (64 + lenTo hi 64)

theorem st69 (k0 : Int → (Nat → Int) → Prop) (k1 : (Nat → Int) → Prop) (n : Nat) (x0 : Int) (g : Nat → Int) : f69.l2 k0 k1 (n + 1) x0 g = f69.l2.step (f69.l2 k0 k1 n) k0 k1 x0 g := rfl

theorem down69 (k0 : Int → (Nat → Int) → Prop) (k1 : (Nat → Int) → Prop) (n : Nat) (i : Nat) (g : Nat → Int) (hi : i < 6) (hg : g i = 0) (h : f69.l2 k0 k1 n (i - 1 : Int) g) : f69.l2 k0 k1 (n + 1) i g := by
  rw [st69]; unfold f69.l2.step
  rw [br_t (le_t (by omega)), gd_t (by rw [le_t (by omega), lt_t (by omega)]; rfl), br_f (by simp [Int.toNat_natCast, hg, eqI]), sub_i64 (by omega) (by omega)]
  exact h

theorem hit69 (k0 : Int → (Nat → Int) → Prop) (k1 : (Nat → Int) → Prop) (n : Nat) (i a : Nat) (g : Nat → Int) (hi : i < 6) (hg : g i = a) (ha : a < 18446744073709551616) (h0 : a ≠ 0) (h : k0 (64 * i + lenTo a 64) g) : f69.l2 k0 k1 (n + 1) i g := by
  have hb := lenTo_bound a 64
  rw [st69]; unfold f69.l2.step
  rw [br_t (le_t (by omega)), gd_t (by rw [le_t (by omega), lt_t (by omega)]; rfl), br_t (by simp [Int.toNat_natCast, hg, eqI, h0]), gd_t (by rw [le_t (by omega), lt_t (by omega)]; rfl), Int.toNat_natCast, hg]
  refine l85 a ha _ ?_
  rw [mul_i64 (by omega) (by omega), add_i64 (by omega) (by omega)]
  exact h

theorem l69 (hi lo : Nat) (hh : hi < 18446744073709551616) (hl : lo < 18446744073709551616) (K : Int → Prop) (h : K (len2 hi lo)) : f69 (upd (upd (fun _ => 0) 0 lo) 1 hi) K := by
  rw [f69.is]
  refine ⟨7, ?_⟩
  refine down69 _ _ 6 5 _ (by omega) rfl ?_
  refine down69 _ _ 5 4 _ (by omega) rfl ?_
  refine down69 _ _ 4 3 _ (by omega) rfl ?_
  refine down69 _ _ 3 2 _ (by omega) rfl ?_
  by_cases h1 : hi = 0
  · subst h1
    refine down69 _ _ 2 1 _ (by omega) rfl ?_
    by_cases h2 : lo = 0
    · subst h2
      refine down69 _ _ 1 0 _ (by omega) rfl ?_
      rw [st69]; unfold f69.l2.step
      rw [br_f (by decide)]
      have : len2 0 0 = 0 := by decide
      rw [this] at h
      exact h
    · refine hit69 _ _ 1 0 lo _ (by omega) rfl hl h2 ?_
      have : len2 0 lo = lenTo lo 64 := rfl
      rw [this] at h
      simpa using h
  · refine hit69 _ _ 2 1 hi _ (by omega) rfl hh h1 ?_
    have : len2 hi lo = 64 + lenTo hi 64 := by
      unfold len2
      cases hb : Nat.beq hi 0 with
      | true => exact absurd (Nat.eq_of_beq_eq_true hb) h1
      | false => rfl
    rw [this] at h
    simpa using h

theorem q65 (hi lo : Int) (K : (Nat → Int) → Prop) : f65 hi lo K = K (upd (upd (fun _ => 0) 0 lo) 1 hi) := by rw [f65.is]; rfl

theorem l24 (a : Int) (hi lo : Nat) (hh : hi < 18446744073709551616) (hl : lo < 18446744073709551616) (w : Int) (hw : ∀ K, f16 a K = K w) (ha : a ≤ 3) (K : Bool → Prop) (h : K (leI (len2 hi lo) w)) : f24 a hi lo K := by
  rw [f24.is]; unfold f24.d
  rw [q12, br_t (le_t ha), q65]
  refine l69 hi lo hh hl _ ?_
  rw [hw]; exact h

theorem len2_le (hi lo w : Nat) (hl : lo < 18446744073709551616) (hh : hi < 18446744073709551616) (hw : w ≤ 64) : len2 hi lo ≤ w ↔ hi = 0 ∧ lo < 2 ^ w := by
  unfold len2
  cases hb : Nat.beq hi 0 with
  | true =>
    have := Nat.eq_of_beq_eq_true hb
    simp only [cond_true, lenTo_lt lo w hl, this, true_and]
  | false =>
    have h0 : hi ≠ 0 := by intro h; subst h; cases hb
    have h1 : ¬ lenTo hi 64 ≤ 0 := by rw [lenTo_lt hi 0 hh]; omega
    simp only [cond_false]
    constructor
    · intro h; omega
    · intro h; exact absurd h.1 h0
theorem len2_all (hi lo : Nat) : len2 hi lo ≤ 128 := by
  have h1 := lenTo_bound hi 64
  have h2 := lenTo_bound lo 64
  unfold len2
  cases Nat.beq hi 0 <;> simp <;> omega

theorem shr_zero (lo w : Nat) (hw : w < 64) : eqI (shrI .u64 lo w) 0 = decide (lo < 2 ^ w) := by
  rw [shr_nat lo w hw, Nat.shiftRight_eq_div_pow]
  by_cases h : lo < 2 ^ w
  · rw [Nat.div_eq_of_lt h]; simp [h, eqI]
  · have : lo / 2 ^ w ≠ 0 := by
      intro h0
      rcases (Nat.div_eq_zero_iff).1 h0 with h1 | h1
      · have := Nat.two_pow_pos w; omega
      · exact h h1
    rw [eq_f (by omega)]
    simp [h]

/-- Which encodings fit: both say the same. -/
theorem fits (a : Int) (h0 : 0 ≤ a) (h3 : a ≤ 3) (hi lo : Nat) (hh : hi < 18446744073709551616) (hl : lo < 18446744073709551616) (p q : Prop) (h : p) :
    f23 a hi lo fun r0 => f24 a hi lo fun r1 => br (beqB r0 r1) p q := by
  have fin : ∀ (w : Nat) (c : Bool), (∀ K, f16 a K = K (w : Int)) → (c = decide (len2 hi lo ≤ w)) → f24 a hi lo fun r1 => br (beqB c r1) p q := by
    intro w c hw hc
    refine l24 a hi lo hh hl w hw h3 _ ?_
    have : leI (len2 hi lo) w = c := by
      rw [hc]; unfold leI
      by_cases hq : len2 hi lo ≤ w
      · simp [hq]
      · simp [hq]
    rw [this, br_t (by cases c <;> rfl)]
    exact h
  have hcase : a = 0 ∨ a = 1 ∨ a = 2 ∨ a = 3 := by omega
  rw [f23.is]; unfold f23.d
  have ez : eqI (hi : Int) 0 = decide (hi = 0) := by
    by_cases hq : hi = 0
    · simp [hq, eqI]
    · rw [eq_f (by omega)]; simp [hq]
  rcases hcase with rfl | rfl | rfl | rfl
  · rw [br_f (by decide), br_f (by decide), br_t (by decide), br_t (by decide), ez]
    by_cases hq : hi = 0
    · rw [br_t (by simp [hq]), q15, n68_0, gd_t (by decide)]
      have hs := shr_zero lo 32 (by omega)
      rw [show cvI .u64 32 = ((32 : Nat) : Int) from by decide, hs]
      refine fin 32 _ (fun K => by rw [q16]; rfl) ?_
      rw [decide_eq_decide, len2_le hi lo 32 hl hh (by omega)]
      simp [hq]
    · rw [br_f (by simp [hq])]
      refine fin 32 _ (fun K => by rw [q16]; rfl) ?_
      simp only [len2_le hi lo 32 hl hh (by omega), hq, false_and, decide_false]
  · rw [br_f (by decide), br_t (by decide), ez]
    refine fin 64 _ (fun K => by rw [q16]; rfl) ?_
    have : lo < 2 ^ 64 := hl
    simp only [len2_le hi lo 64 hl hh (by omega), this, and_true]
  · rw [br_f (by decide), br_f (by decide), br_f (by decide), br_t (by decide), ez]
    by_cases hq : hi = 0
    · rw [br_t (by simp [hq]), q15, n68_2, gd_t (by decide)]
      have hs := shr_zero lo 16 (by omega)
      rw [show cvI .u64 16 = ((16 : Nat) : Int) from by decide, hs]
      refine fin 16 _ (fun K => by rw [q16]; rfl) ?_
      rw [decide_eq_decide, len2_le hi lo 16 hl hh (by omega)]
      simp [hq]
    · rw [br_f (by simp [hq])]
      refine fin 16 _ (fun K => by rw [q16]; rfl) ?_
      simp only [len2_le hi lo 16 hl hh (by omega), hq, false_and, decide_false]
  · rw [br_t (by decide)]
    refine fin 128 _ (fun K => by rw [q16]; rfl) ?_
    simp [len2_all hi lo]

theorem shapeNumbers (a0 a1 b0 b1 : Int) (w0 : (Lit.int .u8 a0).wf = true) (w1 : (Lit.int .u8 a1).wf = true) (w2 : (Lit.int .u64 b0).wf = true) (w3 : (Lit.int .u64 b1).wf = true) (K : Bool → Prop) (hK : K true) : f3 a0 a1 b0 b1 K := by
  obtain ⟨r0, r1⟩ := range_u8 w0
  obtain ⟨r2, r3⟩ := range_u64 w2
  obtain ⟨r4, r5⟩ := range_u64 w3
  obtain ⟨hi, rfl⟩ := Int.eq_ofNat_of_zero_le r2
  obtain ⟨lo, rfl⟩ := Int.eq_ofNat_of_zero_le r4
  have hal : f25 fun r0 => K r0 := alive _ hK
  rw [f3.is]; unfold f3.d
  by_cases h3 : a0 ≤ 3
  · have tail := fits a0 r0 h3 hi lo (by omega) (by omega) _ (K false) hal
    have main : ∀ (w p e : Int) (s : List UInt8), (∀ K, f68 a0 K = K w p e s) → (∀ K, f16 a0 K = K w) → (∀ K, f18 a0 K = K p) → (∀ K, f20 a0 K = K e) →
        f15 a0 fun r0 => f16 a0 fun r0_3 => br (eqI r0 r0_3) (f17 a0 fun r0 => f18 a0 fun r0_4 => br (eqI r0 r0_4) (f19 a0 fun r0 => f20 a0 fun r0_5 => br (eqI r0 r0_5) (f21 a0 fun r0 => f22 a0 fun r0_6 => br (eqI r0 r0_6) (f23 a0 hi lo fun r0 => f24 a0 hi lo fun r0_7 => br (beqB r0 r0_7) (f25 fun r0 => K r0) (K false)) (K false)) (K false)) (K false)) (K false) := by
      intro w p e s h1 h2 h4 h5
      rw [q15, h1, h2, br_t (eq_t rfl), q17, h1, h4, br_t (eq_t rfl), q19, h1, h5, br_t (eq_t rfl), q21, q11, br_f (lt_f h3), br_f (by decide), q19, h1, q22, q12, le_t h3, br_f (by decide), h5, br_t (eq_t rfl)]
      exact tail
    have hm : f15 a0 fun r0 => f16 a0 fun r0_3 => br (eqI r0 r0_3) (f17 a0 fun r0 => f18 a0 fun r0_4 => br (eqI r0 r0_4) (f19 a0 fun r0 => f20 a0 fun r0_5 => br (eqI r0 r0_5) (f21 a0 fun r0 => f22 a0 fun r0_6 => br (eqI r0 r0_6) (f23 a0 hi lo fun r0 => f24 a0 hi lo fun r0_7 => br (beqB r0 r0_7) (f25 fun r0 => K r0) (K false)) (K false)) (K false)) (K false)) (K false) := by
      have hcase : a0 = 0 ∨ a0 = 1 ∨ a0 = 2 ∨ a0 = 3 := by omega
      rcases hcase with rfl | rfl | rfl | rfl
      · exact main _ _ _ _ n68_0 (fun K => by rw [q16]; rfl) (fun K => by rw [q18]; rfl) (fun K => by rw [q20]; rfl)
      · exact main _ _ _ _ n68_1 (fun K => by rw [q16]; rfl) (fun K => by rw [q18]; rfl) (fun K => by rw [q20]; rfl)
      · exact main _ _ _ _ n68_2 (fun K => by rw [q16]; rfl) (fun K => by rw [q18]; rfl) (fun K => by rw [q20]; rfl)
      · exact main _ _ _ _ n68_3 (fun K => by rw [q16]; rfl) (fun K => by rw [q18]; rfl) (fun K => by rw [q20]; rfl)
    rw [q11, br_f (lt_f h3), q12, le_t h3, br_f (by decide), q13]
    by_cases h4 : a1 ≤ 4
    · rw [br_f (lt_f h4), q14, le_t h4, br_f (by decide)]; exact hm
    · rw [br_t (lt_t (by omega)), q14, le_f (by omega), br_f (by decide)]; exact hm
  · have e0 : eqI a0 0 = false := eq_f (by omega)
    have e1 : eqI a0 1 = false := eq_f (by omega)
    have e2 : eqI a0 2 = false := eq_f (by omega)
    have e3 : eqI a0 3 = false := eq_f (by omega)
    have n := n68_4 (a := a0) (by omega) r1
    have hm : f15 a0 fun r0 => f16 a0 fun r0_3 => br (eqI r0 r0_3) (f17 a0 fun r0 => f18 a0 fun r0_4 => br (eqI r0 r0_4) (f19 a0 fun r0 => f20 a0 fun r0_5 => br (eqI r0 r0_5) (f21 a0 fun r0 => f22 a0 fun r0_6 => br (eqI r0 r0_6) (f23 a0 hi lo fun r0 => f24 a0 hi lo fun r0_7 => br (beqB r0 r0_7) (f25 fun r0 => K r0) (K false)) (K false)) (K false)) (K false)) (K false) := by
      have h16 : ∀ K, f16 a0 K = K 0 := fun K => by rw [q16, e0, e1, e2, e3]; rfl
      have h18 : ∀ K, f18 a0 K = K 0 := fun K => by rw [q18, e0, e1, e2, e3]; rfl
      have h20 : ∀ K, f20 a0 K = K 0 := fun K => by rw [q20, e0, e1, e2, e3]; rfl
      have h23 : ∀ K, f23 a0 hi lo K = K false := fun K => by rw [f23.is]; unfold f23.d; rw [e0, e1, e2, e3]; rfl
      have h24 : ∀ K, f24 a0 hi lo K = K false := fun K => by rw [f24.is]; unfold f24.d; rw [q12, le_f (by omega)]; rfl
      rw [q15, n, h16, br_t (by decide), q17, n, h18, br_t (by decide), q19, n, h20, br_t (by decide), q21, q11, br_t (lt_t (by omega)), br_t (by decide), q22, q12, le_f (by omega), br_t (by decide), br_t (by decide), h23, h24, br_t (by decide)]
      exact hal
    rw [q11, br_t (lt_t (by omega)), q12, le_f (by omega), br_f (by decide), q13]
    by_cases h4 : a1 ≤ 4
    · rw [br_f (lt_f h4), q14, le_t h4, br_f (by decide)]; exact hm
    · rw [br_t (lt_t (by omega)), q14, le_f (by omega), br_f (by decide)]; exact hm
end Go.Ev.S
