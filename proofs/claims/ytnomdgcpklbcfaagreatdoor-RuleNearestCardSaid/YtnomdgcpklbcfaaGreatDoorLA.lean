/- Numbers of several words as natural ones; bits set one by one. -/
import Derived.Test.YtnomdgcpklbcfaaGreatDoorEvC
import Derived.Test.YtnomdgcpklbcfaaGreatDoorDA
import Derived.KernelRfl
set_option linter.unusedVariables false
set_option linter.unusedSimpArgs false
namespace Go.Ev.S
open Go Go.Ev
theorem ybN {i n : Int} (h : 0 ≤ i) (h2 : i < n) : (leI 0 i && ltI i n) = true := by rw [ybb h, ya9 h2]; rfl
theorem yhY {i : Int} (h : 0 ≤ i) : (!ltI i 0) = true := by rw [ybq h]; rfl
theorem yr5 (a b : Nat) (ha : a < 9223372036854775808) (hb : 0 < b) : yaG .i64 (a : Int) (b : Int) = ((a / b : Nat) : Int) := by
 have h : a / b ≤ a := Nat.div_le_self a b
 show IntKind.wrap .i64 ((a : Int).tdiv b) = _
 rw [Int.tdiv_eq_ediv_of_nonneg (by omega)]
 have : (a : Int) / (b : Int) = ((a / b : Nat) : Int) := by simp
 rw [this]
 generalize a / b = q at h ⊢
 exact yd0 (by omega) (by omega)
theorem ysR (k : IntKind) (a b : Nat) : ycg k (a : Int) (b : Int) = ((a % b : Nat) : Int) := by
 show (a : Int).tmod b = _
 rw [Int.tmod_eq_emod_of_nonneg (by omega)]
 simp
theorem ypU (a : Nat) (ha : a < 9223372036854775808) : yaG .i64 (a : Int) 64 = ((a / 64 : Nat) : Int) := yr5 a 64 ha (by omega)
theorem yo3 (a : Nat) : ycg .i64 (a : Int) 64 = ((a % 64 : Nat) : Int) := ysR .i64 a 64
theorem ypx (i : Nat) (hi : i < 64) : ybD .u64 1 (i : Int) = ((2 ^ i : Nat) : Int) := by
 have := ymz 1 i hi
 rw [show (1 : Int) = ((1 : Nat) : Int) from rfl, this, Nat.shiftLeft_eq, Nat.one_mul]
 have h : 2 ^ i < 2 ^ 64 := Nat.pow_lt_pow_right (by omega) hi
 rw [Nat.mod_eq_of_lt h]
theorem ylB {i : Nat} (h : i < 64) : 2 ^ i < 18446744073709551616 := Nat.pow_lt_pow_right (a := 2) (m := i) (n := 64) (by omega) h
theorem yhi (a b : Nat) : eqI (a : Int) (b : Int) = decide (a = b) := by
 by_cases h : a = b
 ·subst h; simp [eqI]
 ·rw [yfN (by omega)]; simp [h]
theorem yrP (a b : Nat) : ltI (a : Int) (b : Int) = decide (a < b) := by simp [ltI]
theorem yeS {a b : Int} (h : 0 ≤ a - b) (h2 : a - b < 18446744073709551616) : yan .u64 a b = a - b := yhC h h2
theorem yfT {a b : Int} (h : 0 ≤ a + b) (h2 : a + b < 18446744073709551616) : yaj .u64 a b = a + b := yhC h h2
def Q6 : Nat := 2 ^ 192 * 2 ^ 192
theorem yfv {n : Nat} (h : n = 384) : 2 ^ n = Q6 := by
 obtain ⟨a, ha⟩ : ∃ a, a = 192 := ⟨_, rfl⟩
 have : n = a + a := by omega
 rw [this, Nat.pow_add, ha]; exact rfl
theorem ytT : 0 < Q6 := Nat.mul_pos (Nat.two_pow_pos _) (Nat.two_pow_pos _)
theorem ytf {a : Nat} (h : a ≤ 384) : 2 ^ a ≤ Q6 := by
 obtain ⟨n, hn⟩ : ∃ n, n = 384 := ⟨_, rfl⟩
 rw [← yfv hn]; exact Nat.pow_le_pow_right (by omega) (by omega)
theorem yus {a : Nat} (h : a < 384) : 2 ^ a < Q6 := by
 obtain ⟨n, hn⟩ : ∃ n, n = 384 := ⟨_, rfl⟩
 rw [← yfv hn]; exact Nat.pow_lt_pow_right (by omega) (by omega)
theorem yr2 {a : Nat} (h : a ≤ 384) {x : Nat} (hx : x < 2 ^ a) : x < Q6 := Nat.lt_of_lt_of_le hx (ytf h)
def wd (x i : Nat) : Nat := x / 2 ^ (64 * i) % 18446744073709551616
theorem ydU (x i : Nat) : wd x i < 18446744073709551616 := Nat.mod_lt _ (by omega)
theorem ybK (x i j : Nat) : (wd x i).testBit j = (decide (j < 64) && x.testBit (64 * i + j)) := by
 unfold wd
 rw [show (18446744073709551616 : Nat) = 2 ^ 64 from rfl, Nat.testBit_mod_two_pow, Nat.testBit_div_two_pow, Nat.add_comm]
theorem ycG (x i : Nat) (h : x < 2 ^ (64 * i)) : wd x i = 0 := by
 unfold wd; rw [Nat.div_eq_of_lt h]
def W (x : Nat) : Nat → Int := fun i => ((wd x i : Nat) : Int)
theorem ybc (x i : Nat) : W x i = ((wd x i : Nat) : Int) := rfl
theorem W_zero : W 0 = fun _ => 0 := by
 funext i
 have : wd 0 i = 0 := ycG 0 i (Nat.two_pow_pos _)
 simp [ybc, this]
theorem yrn {x y : Nat} {n : Nat} (hx : x < 2 ^ (64 * n)) (hy : y < 2 ^ (64 * n)) (h : ∀ i, i < n → wd x i = wd y i) : x = y := by
 apply Nat.eq_of_testBit_eq
 intro j
 by_cases hj : j < 64 * n
 ·have h1 := congrArg (fun z => Nat.testBit z (j % 64)) (h (j / 64) (by omega))
  simp only [ybK] at h1
  have h2 : j % 64 < 64 := Nat.mod_lt _ (by omega)
  simp only [h2, decide_true, Bool.true_and] at h1
  rwa [show 64 * (j / 64) + j % 64 = j from by omega] at h1
 ·rw [Nat.testBit_lt_two_pow (Nat.lt_of_lt_of_le hx (Nat.pow_le_pow_right (by omega) (by omega))), Nat.testBit_lt_two_pow (Nat.lt_of_lt_of_le hy (Nat.pow_le_pow_right (by omega) (by omega)))]
theorem ytG (hi lo : Nat) (hh : hi < 18446744073709551616) (hl : lo < 18446744073709551616) : upd (upd (fun _ => 0) 0 (lo : Int)) 1 (hi : Int) = W (hi * 18446744073709551616 + lo) := by
 funext i
 by_cases h1 : i = 1
 ·subst h1
  rw [yb2, ybc]
  congr 1
  unfold wd
  rw [show 2 ^ (64 * 1) = 18446744073709551616 from rfl]; omega
 ·rw [ycI _ _ _ _ h1]
  by_cases h0 : i = 0
  ·subst h0
   rw [yb2, ybc]
   congr 1
   unfold wd
   rw [show 2 ^ (64 * 0) = 1 from rfl]; omega
  ·rw [ycI _ _ _ _ h0, ybc, ycG]
   ·rfl
   ·refine Nat.lt_of_lt_of_le (show _ < 2 ^ 128 from ?_) (Nat.pow_le_pow_right (by omega) (by omega))
    rw [show (2 : Nat) ^ 128 = 340282366920938463463374607431768211456 from rfl]; omega
theorem yuz (lo : Nat) (hl : lo < 18446744073709551616) : upd (fun _ => 0) 0 (lo : Int) = W lo := by
 have h := ytG 0 lo (by omega) hl
 have h2 : upd (upd (fun _ => (0 : Int)) 0 (lo : Int)) 1 ((0 : Nat) : Int) = upd (fun _ => 0) 0 (lo : Int) := by
  funext i
  by_cases h1 : i = 1
  ·subst h1; rw [yb2, ycI _ _ _ _ (by omega)]; rfl
  ·rw [ycI _ _ _ _ h1]
 rw [h2] at h
 rw [h]; congr 1; omega
theorem ykz (x n i : Nat) : wd (x ||| 2 ^ n) i = if i = n / 64 then wd x i ||| 2 ^ (n % 64) else wd x i := by
 apply Nat.eq_of_testBit_eq
 intro j
 have hm : n % 64 < 64 := Nat.mod_lt _ (by omega)
 rw [ybK, Nat.testBit_or, Nat.testBit_two_pow]
 by_cases hi : i = n / 64
 ·rw [if_pos hi, Nat.testBit_or, ybK, Nat.testBit_two_pow]
  by_cases hj : j < 64
  ·have : decide (n = 64 * i + j) = decide (n % 64 = j) := by rw [decide_eq_decide]; omega
   simp [hj, this]
  ·have : ¬ (n % 64 = j) := by omega
   simp [hj, this]
 ·rw [if_neg hi, ybK]
  by_cases hj : j < 64
  ·have : ¬ (n = 64 * i + j) := by omega
   simp [this]
  ·simp [hj]
theorem ymR (x n : Nat) : upd (W x) (n / 64) (orI .u64 (W x (n / 64)) (ybD .u64 1 ((n % 64 : Nat) : Int))) = W (x ||| 2 ^ n) := by
 have hm : n % 64 < 64 := Nat.mod_lt _ (by omega)
 rw [ypx _ hm, ybc, yg9 _ _ (ydU _ _) (Nat.pow_lt_pow_right (by omega) hm)]
 funext i
 by_cases hi : i = n / 64
 ·subst hi
  rw [yb2, ybc, ykz, if_pos rfl]
 ·rw [ycI _ _ _ _ hi, ybc, ybc, ykz, if_neg hi]
def Hi (x : Nat) : Int := ((x / 18446744073709551616 : Nat) : Int)
def Lo (x : Nat) : Int := ((x % 18446744073709551616 : Nat) : Int)
def two (hi lo : Nat) : Nat := hi * 18446744073709551616 + lo
theorem yrk {x : Nat} (h : x < 2 ^ 128) : x / 18446744073709551616 < 18446744073709551616 := by
 rw [show (2 : Nat) ^ 128 = 340282366920938463463374607431768211456 from rfl] at h; omega
theorem ysy (x : Nat) : x % 18446744073709551616 < 18446744073709551616 := Nat.mod_lt _ (by omega)
theorem yp5 (x j : Nat) : (x / 18446744073709551616).testBit j = x.testBit (64 + j) := by
 rw [show (18446744073709551616 : Nat) = 2 ^ 64 from rfl, Nat.testBit_div_two_pow, Nat.add_comm]
theorem ypu (x j : Nat) : (x % 18446744073709551616).testBit j = (decide (j < 64) && x.testBit j) := by
 rw [show (18446744073709551616 : Nat) = 2 ^ 64 from rfl, Nat.testBit_mod_two_pow]
theorem yoX (x y : Nat) : (eqI (Hi x) (Hi y) && eqI (Lo x) (Lo y)) = decide (x = y) := by
 unfold Hi Lo
 rw [yhi, yhi]
 by_cases h : x = y
 ·subst h; simp
 ·have : ¬ (x / 18446744073709551616 = y / 18446744073709551616 ∧ x % 18446744073709551616 = y % 18446744073709551616) := by omega
  rw [← Bool.decide_and]
  simp [h, this]
theorem ytH (x : Nat) (h : x < 2 ^ 128) : upd (upd (fun _ => 0) 0 (Lo x)) 1 (Hi x) = W x := by
 have := ytG (x / 18446744073709551616) (x % 18446744073709551616) (yrk h) (ysy x)
 unfold Lo Hi
 rw [this]; congr 1; omega
theorem yuH (x : Nat) (h : x < 2 ^ 128) : W x 1 = Hi x := by
 rw [ybc]; unfold Hi wd
 congr 1
 rw [show 2 ^ (64 * 1) = 18446744073709551616 from rfl]
 exact Nat.mod_eq_of_lt (yrk h)
theorem yuL (x : Nat) : W x 0 = Lo x := by
 rw [ybc]; unfold Lo wd
 rw [show 2 ^ (64 * 0) = 1 from rfl, Nat.div_one]
theorem ynG (x i : Nat) (h : x < 2 ^ 128) (hi : 2 ≤ i) : W x i = 0 := by
 rw [ybc, ycG x i (Nat.lt_of_lt_of_le h (Nat.pow_le_pow_right (by omega) (by omega)))]; rfl
theorem ytZ (f : Bool → Bool → Bool) (op : Nat → Nat → Nat) (hop : ∀ a b j, (op a b).testBit j = f (a.testBit j) (b.testBit j)) (hf : f false false = false) (x y : Nat) :
  op x y / 18446744073709551616 = op (x / 18446744073709551616) (y / 18446744073709551616) ∧ op x y % 18446744073709551616 = op (x % 18446744073709551616) (y % 18446744073709551616) := by
 constructor
 ·apply Nat.eq_of_testBit_eq; intro j; rw [yp5, hop, hop, yp5, yp5]
 ·apply Nat.eq_of_testBit_eq; intro j; rw [ypu, hop, hop, ypu, ypu]
  by_cases hj : j < 64
  ·simp [hj]
  ·simp [hj, hf]
theorem yt1 (x y : Nat) (hx : x < 2 ^ 128) (hy : y < 2 ^ 128) : orI .u64 (Hi x) (Hi y) = Hi (x ||| y) ∧ orI .u64 (Lo x) (Lo y) = Lo (x ||| y) := by
 obtain ⟨h1, h2⟩ := ytZ (· || ·) (· ||| ·) (fun a b j => Nat.testBit_or a b j) rfl x y
 unfold Hi Lo
 exact ⟨by rw [yg9 _ _ (yrk hx) (yrk hy)]; exact congrArg _ h1.symm, by rw [yg9 _ _ (ysy x) (ysy y)]; exact congrArg _ h2.symm⟩
end Go.Ev.S

/- What the document's answer reckons with words, bit by bit. -/
set_option linter.unusedVariables false
set_option linter.unusedSimpArgs false
namespace Go.Ev.S
open Go Go.Ev
theorem yf1 (a i : Nat) (ha : a < 18446744073709551616) (hi : i < 64) (K : Bool → Prop) : zcj a i K = K (a.testBit i) := by
 rw [zcj.is]; unfold zcj.d
 rw [yaA (ybb (by omega)), yaA (ya9 (by omega)), yaU (by omega) (by omega), yby (yhY (by omega)), ymM a i ha hi]
theorem yrq (a i : Nat) : a % 2 ^ (i + 1) = a % 2 ^ i + (a.testBit i).toNat * 2 ^ i := by
 have h : (a.testBit i).toNat = a / 2 ^ i % 2 := by
  rw [Nat.testBit_eq_decide_div_mod_eq]
  rcases Nat.mod_two_eq_zero_or_one (a / 2 ^ i) with h | h <;> rw [h] <;> rfl
 rw [h, Nat.mod_pow_succ, Nat.mul_comm]
theorem yrJ (s i : Nat) (h : s < 2 ^ i) : s ||| 2 ^ i = s + 2 ^ i := by
 have := Nat.two_pow_add_eq_or_of_lt h 1
 rw [Nat.mul_one] at this
 rw [Nat.or_comm, ← this, Nat.add_comm]
def ygH (a : Nat) : Nat → Nat
 | 0 => 0
 | i + 1 => cond (a.testBit i) (i + 1) (ygH a i)
theorem yjv (a w : Nat) : ∀ n, ygH a n ≤ w ↔ ∀ i, i < n → w ≤ i → a.testBit i = false
 | 0 => by simp [ygH]
 | n + 1 => by
  have ih := yjv a w n
  cases hb : a.testBit n with
  | true =>
   simp only [ygH, hb, cond_true]
   constructor
   ·intro h i hi hw; omega
   ·intro h
    apply Classical.byContradiction
    intro hc
    have := h n (by omega) (by omega)
    rw [hb] at this; cases this
  | false =>
   simp only [ygH, hb, cond_false]
   rw [ih]
   constructor
   ·intro h i hi hw
    by_cases hin : i = n
    ·subst hin; exact hb
    ·exact h i (by omega) hw
   ·intro h i hi hw; exact h i (by omega) hw
def yaw (a : Nat) : Nat := if a = 0 then 0 else a.log2 + 1
theorem yaT (a w : Nat) : yaw a ≤ w ↔ a < 2 ^ w := by
 unfold yaw
 by_cases h : a = 0
 ·subst h; simp [Nat.two_pow_pos]
 ·rw [if_neg h]
  rw [← Nat.log2_lt h]; omega
theorem yju (a : Nat) : a < 2 ^ yaw a := (yaT a _).1 (Nat.le_refl _)
theorem ymP {a : Nat} (h : a ≠ 0) : 0 < yaw a := by unfold yaw; rw [if_neg h]; omega
theorem ypr {a : Nat} (h : a ≠ 0) : 2 ^ (yaw a - 1) ≤ a := by
 unfold yaw; rw [if_neg h]
 exact Nat.log2_self_le h
theorem yoe (a n : Nat) (ha : a < 2 ^ n) : ygH a n = yaw a := by
 apply Nat.le_antisymm
 ·rw [yjv]
  intro i _ hw
  exact Nat.testBit_lt_two_pow (Nat.lt_of_lt_of_le (yju a) (Nat.pow_le_pow_right (by omega) hw))
 ·rw [yaT]
  apply Nat.lt_pow_two_of_testBit
  intro i hi
  by_cases hin : i < n
  ·exact (yjv a _ n).1 (Nat.le_refl _) i hin hi
  ·exact Nat.testBit_lt_two_pow (Nat.lt_of_lt_of_le ha (Nat.pow_le_pow_right (by omega) (by omega)))
theorem ygA (a : Nat) (ha : a < 18446744073709551616) (k0 : Int → Prop) (h : k0 (ygH a 64)) : ∀ (j i : Nat), i + j = 64 → zck.l3 k0 (j + 1) a (ygH a i) i
 | 0, i, hij => by
  have : i = 64 := by omega
  subst this
  unfold zck.l3 zck.l3.step
  rw [yau (by decide)]
  exact h
 | j + 1, i, hij => by
  show br (ltI i 64) (zcj a i fun r0 => br r0 (zck.l3 k0 (j + 1) a (yaj .i64 i 1) (yaj .i64 i 1)) (zck.l3 k0 (j + 1) a (ygH a i) (yaj .i64 i 1))) (k0 (ygH a i))
  rw [yaA (ya9 (by omega)), yf1 a i ha (by omega), yas (by omega) (by omega)]
  have ih := ygA a ha k0 h j (i + 1) (by omega)
  have e : ((i + 1 : Nat) : Int) = (i : Int) + 1 := by omega
  rw [e] at ih
  cases hb : a.testBit i with
  | true =>
   rw [yaA rfl]
   simp only [ygH, hb, cond_true] at ih
   rw [e] at ih
   exact ih
  | false =>
   rw [yau rfl]
   simp only [ygH, hb, cond_false] at ih
   exact ih
theorem yoi (a : Nat) (ha : a < 18446744073709551616) (K : Int → Prop) (h : K (yaw a)) : zck a K := by
 rw [zck.is]
 refine ⟨65, ygA a ha K ?_ 64 0 rfl⟩
 rw [yoe a 64 ha]; exact h
end Go.Ev.S

/- What the document's answer reckons with numbers of six words. -/
set_option linter.unusedVariables false
set_option linter.unusedSimpArgs false
set_option maxRecDepth 8000
namespace Go.Ev.S
open Go Go.Ev
theorem ys4 (z w i : Nat) (hz : z < 2 ^ (64 * i)) (hw : w < 18446744073709551616) : upd (W z) i (w : Int) = W (z + w * 2 ^ (64 * i)) := by
 funext j
 have hP := Nat.two_pow_pos (64 * i)
 by_cases hj : j = i
 ·subst hj
  rw [yb2, ybc]
  congr 1
  unfold wd
  rw [Nat.add_mul_div_right _ _ hP, Nat.div_eq_of_lt hz, Nat.zero_add, Nat.mod_eq_of_lt hw]
 ·rw [ycI _ _ _ _ hj, ybc, ybc]
  congr 1
  by_cases hlt : j < i
  ·unfold wd
   have e : 2 ^ (64 * i) = 2 ^ (64 * j) * (18446744073709551616 * 2 ^ (64 * (i - j - 1))) := by
    rw [show (18446744073709551616 : Nat) = 2 ^ 64 from rfl, ← Nat.pow_add, ← Nat.pow_add]; congr 1; omega
   rw [e, Nat.mul_comm w, Nat.mul_assoc, Nat.add_mul_div_left _ _ (Nat.two_pow_pos _), Nat.mul_assoc, Nat.add_mul_mod_self_left]
  ·rw [ycG z j (Nat.lt_of_lt_of_le hz (Nat.pow_le_pow_right (by omega) (by omega))), ycG]
   have h1 : z + w * 2 ^ (64 * i) < 2 ^ (64 * (i + 1)) := by
    rw [show 64 * (i + 1) = 64 * i + 64 from by omega, Nat.pow_add, show (2 : Nat) ^ 64 = 18446744073709551616 from rfl]
    have : (w + 1) * 2 ^ (64 * i) ≤ 18446744073709551616 * 2 ^ (64 * i) := Nat.mul_le_mul_right _ (by omega)
    rw [Nat.add_mul, Nat.one_mul] at this
    rw [Nat.mul_comm (2 ^ (64 * i))]
    omega
   exact Nat.lt_of_lt_of_le h1 (Nat.pow_le_pow_right (by omega) (by omega))
theorem ym0 (x i : Nat) : x % 2 ^ (64 * (i + 1)) = x % 2 ^ (64 * i) + wd x i * 2 ^ (64 * i) := by
 unfold wd
 rw [show 64 * (i + 1) = 64 * i + 64 from by omega, Nat.pow_add, show (2 : Nat) ^ 64 = 18446744073709551616 from rfl, Nat.mod_mul, Nat.mul_comm (2 ^ (64 * i))]
def mix (i : Nat) (x y : Nat) : Nat → Int := fun j => cond (Nat.blt j i) (W x j) (W y j)
theorem ynF (x y : Nat) : mix 0 x y = W y := by
 funext j
 have h1 : Nat.blt j 0 = false := by
  cases hb : Nat.blt j 0 with
  | false => rfl
  | true => have := bltI.1 hb; omega
 simp [mix, h1]
theorem ypl (x y n : Nat) (hx : x < 2 ^ (64 * n)) (hy : y < 2 ^ (64 * n)) : mix n x y = W x := by
 funext j
 unfold mix
 cases hb : Nat.blt j n with
 | true => rfl
 | false =>
  have hj : n ≤ j := by
   rcases Nat.lt_or_ge j n with h | h
   ·rw [bltI.2 h] at hb; cases hb
   ·exact h
  simp only [cond_false]
  rw [ybc, ybc, ycG x j (Nat.lt_of_lt_of_le hx (Nat.pow_le_pow_right (by omega) (by omega))), ycG y j (Nat.lt_of_lt_of_le hy (Nat.pow_le_pow_right (by omega) (by omega)))]
theorem ymU (x y i : Nat) : upd (mix i x y) i (W x i) = mix (i + 1) x y := by
 funext j
 by_cases hj : j = i
 ·subst hj; rw [yb2]; simp [mix, bltI.2 (show j < j + 1 by omega)]
 ·rw [ycI _ _ _ _ hj]
  unfold mix
  by_cases h : j < i
  ·rw [bltI.2 h, bltI.2 (show j < i + 1 by omega)]
  ·have h1 : Nat.blt j i = false := by
    cases hb : Nat.blt j i with
    | false => rfl
    | true => exact absurd (bltI.1 hb) h
   have h2 : Nat.blt j (i + 1) = false := by
    cases hb : Nat.blt j (i + 1) with
    | false => rfl
    | true => have := bltI.1 hb; omega
   rw [h1, h2]
theorem yrV (x y i : Nat) : mix i x y i = W y i := by
 have h1 : Nat.blt i i = false := by
  cases hb : Nat.blt i i with
  | false => rfl
  | true => have := bltI.1 hb; omega
 simp [mix, h1]
theorem ytO (x y i : Nat) : wd (x &&& y) i = wd x i &&& wd y i := by
 apply Nat.eq_of_testBit_eq; intro j
 rw [Nat.testBit_and, ybK, ybK, ybK, Nat.testBit_and]
 by_cases hj : j < 64 <;> simp [hj]
theorem yui (x y i : Nat) : wd (x ||| y) i = wd x i ||| wd y i := by
 apply Nat.eq_of_testBit_eq; intro j
 rw [Nat.testBit_or, ybK, ybK, ybK, Nat.testBit_or]
 by_cases hj : j < 64 <;> simp [hj]
theorem ytK {x y m : Nat} (h : x < 2 ^ m) : x &&& y < 2 ^ m := Nat.lt_of_le_of_lt Nat.and_le_left h
theorem yen {x i : Nat} (h : x / 2 ^ i ≠ 0) : yaw x = i + yaw (x / 2 ^ i) := by
 apply Nat.le_antisymm
 ·rw [yaT, Nat.pow_add, Nat.mul_comm, ← Nat.div_lt_iff_lt_mul (Nat.two_pow_pos i)]
  exact yju _
 ·have h1 := ypr h
  have h2 : 2 ^ (i + (yaw (x / 2 ^ i) - 1)) ≤ x := by
   rw [Nat.pow_add, Nat.mul_comm]
   exact (Nat.le_div_iff_mul_le (Nat.two_pow_pos i)).1 h1
  have hp := ymP h
  apply Classical.byContradiction
  intro hc
  have h3 : yaw x ≤ i + (yaw (x / 2 ^ i) - 1) := by omega
  have := (yaT x _).1 h3
  omega
end Go.Ev.S

/- What the abacus reckons with words and with numbers of six words. -/
set_option linter.unusedVariables false
set_option linter.unusedSimpArgs false
set_option maxRecDepth 8000
namespace Go.Ev.S
open Go Go.Ev
theorem yoR (g : Nat → Int) (i : Nat) (a b : Int) : upd (upd g i a) i b = upd g i b := by
 funext j
 simp only [upd]
 cases Nat.beq j i <;> rfl
theorem yrU (g : Nat → Int) (i : Nat) (a : Int) : upd g i a i = a := by
 simp only [upd]
 have : Nat.beq i i = true := by simp
 rw [this]; rfl
theorem ysn (x y : Int) : ∃ m : Nat, m < 18446744073709551616 ∧ ybY .u64 x y = (m : Int) := by
 refine ⟨(ybY .u64 x y).toNat, ?_, ?_⟩ <;> (show _; simp only [ybY]; rw [ydn]; omega)
theorem ytx (a : Int) (K : Int → Prop) (h : ∀ v, K v) : zab a K := by
 rw [zab.is]; unfold zab.d
 obtain ⟨m, hm, e⟩ := ysn (ycp IntKind.u64 a (yrG IntKind.u64 a)) 285870213051353865
 rw [e, show (58 : Int) = ((58 : Nat) : Int) from rfl, ydW m 58 (by omega)]
 have h1 : m >>> 58 < 64 := by rw [Nat.shiftRight_eq_div_pow]; omega
 by_cases h0 : eqI a 0 = true
 ·rw [yaA h0]; exact h _
 ·rw [yau (by simpa using h0)]; exact ⟨ybN (by omega) (by omega), h _⟩
theorem ykH (a : Int) (K : Int → Prop) (h : ∀ v, K v) : zeo a K := by
 rw [zeo.is]; exact ytx a _ fun v => h v
theorem ygd (x : Nat → Int) (k0 : Int → Prop) (k1 : Prop) (h0 : ∀ v, k0 v) (h1 : k1) : ∀ (j i : Nat), i + j = 6 → zef.l2 k0 k1 (j + 1) x i := by
 intro j
 induction j with
 | zero =>
  intro i hij
  unfold zef.l2 zef.l2.step
  rw [yau (ybq (by omega))]; exact h1
 | succ j ih =>
  intro i hij
  have ih := ih (i + 1) (by omega)
  have e : ((i + 1 : Nat) : Int) = (i : Int) + 1 := by omega
  rw [e] at ih
  unfold zef.l2 zef.l2.step
  rw [yaA (ya9 (by omega)), yby (ybN (by omega) (by omega)), yas (by omega) (by omega)]
  by_cases hz : (!eqI (x (Int.toNat (i : Int))) 0) = true
  ·rw [yaA hz]; exact ykH _ _ fun v => h0 _
  ·rw [yau (by simpa using hz)]; exact ih
theorem ylp (x : Nat → Int) (K : Int → Prop) (h : ∀ v, K v) : zef x K := by
 rw [zef.is]
 exact ⟨7, ygd x _ _ (fun v => h v) (h _) 6 0 rfl⟩
theorem yga (n m : Int) : yia n m = if n < m then m else n := by
 unfold yia ltI; by_cases h : n < m <;> simp [h]
theorem yhS (n m : Int) : ylF n m = if m < n then m else n := by
 unfold ylF ltI; by_cases h : m < n <;> simp [h]
theorem ykV (n : Nat) (h : n ≤ 64) (K : Int → Prop) : zep n K = K ((2 ^ n - 1 : Nat)) := by
 rw [zep.is]; unfold zep.d; rw [zeq.is]; unfold zeq.d
 have e : ylF (yia (n : Int) 0) 64 = (n : Int) := by
  rw [yga, yhS]; split <;> split <;> omega
 rw [e, yaU (by omega) (by omega)]
 show gd (!ltI (n : Int) 0) (K (yan IntKind.u64 (ybD IntKind.u64 1 (n : Int)) 1)) = _
 rw [yby (yhY (by omega))]
 by_cases hn : n = 64
 ·subst hn; rfl
 ·have hlt : 2 ^ n < 18446744073709551616 := ylB (by omega)
  have hp := Nat.two_pow_pos n
  rw [ypx n (by omega)]
  generalize 2 ^ n = p at *
  rw [yeS (by omega) (by omega), show ((p : Int) - 1) = ((p - 1 : Nat) : Int) from by omega]
theorem yj0 (n : Int) (h : n ≤ 0) (h2 : -9223372036854775808 ≤ n) (K : Int → Prop) : zep n K = K 0 := by
 rw [zep.is]; unfold zep.d; rw [zeq.is]; unfold zeq.d
 have e : ylF (yia n 0) 64 = 0 := by
  rw [yga, yhS]; split <;> split <;> omega
 rw [e]; rfl
theorem yjo (n : Int) (h : 64 ≤ n) (K : Int → Prop) : zep n K = K ((2 ^ 64 - 1 : Nat)) := by
 rw [zep.is]; unfold zep.d; rw [zeq.is]; unfold zeq.d
 have e : ylF (yia n 0) 64 = 64 := by
  rw [yga, yhS]; split <;> split <;> omega
 rw [e]; rfl
theorem ydG (n : Nat) (h : n ≤ 384) (K : Int → Prop) : zem n K = K n := by
 rw [zem.is]; unfold zem.d
 have e : ylF (yia (n : Int) 0) 384 = (n : Int) := by
  rw [yga, yhS]; split <;> split <;> omega
 rw [e]
theorem yeE (x : Nat) (h : x < 2 ^ 128) (K : (Nat → Int) → Prop) : zei (Hi x) (Lo x) K = K (W x) := by
 rw [zei.is]; unfold zei.d; rw [ytH x h]
theorem ydt (x i : Nat) (hi : i < 384) (K : Bool → Prop) : zec (W x) i K = K (x.testBit i) := by
 rw [zec.is]; unfold zec.d
 have h1 : i % 64 < 64 := Nat.mod_lt _ (by omega)
 rw [yaA (ybb (by omega)), yaA (ya9 (by omega)), ypU i (by omega), yo3 i, yby (ybN (by omega) (by omega)), yaU (by omega) (by omega), yby (yhY (by omega)), Int.toNat_natCast, ybc, ymM _ _ (ydU _ _) h1, ybK]
 rw [show 64 * (i / 64) + i % 64 = i from by omega]
 simp [h1]
theorem yke (x y : Nat) (hx : x < Q6) (k0 : (Nat → Int) → (Nat → Int) → Prop) (z : Nat → Int) (h : k0 (W (x &&& y)) z) :
  ∀ (j i : Nat), i + j = 6 → zeb.l2 k0 (j + 1) i (mix i (x &&& y) x) (W y) z := by
 intro j
 induction j with
 | zero =>
  intro i hij
  have h6 : i = 6 := by omega
  have hx' : x < 2 ^ (64 * i) := by rw [yfv (show 64 * i = 384 by omega)]; exact hx
  unfold zeb.l2 zeb.l2.step
  rw [yau (ybq (by omega)), ypl _ _ i (ytK hx') hx']
  exact h
 | succ j ih =>
  intro i hij
  have ih := ih (i + 1) (by omega)
  have e : ((i + 1 : Nat) : Int) = (i : Int) + 1 := by omega
  rw [e] at ih
  unfold zeb.l2 zeb.l2.step
  have hi : (leI 0 (i : Int) && ltI (i : Int) 6) = true := ybN (by omega) (by omega)
  rw [yaA (ya9 (by omega)), yby hi, yby hi, yby hi, Int.toNat_natCast, yrV, ybc, ybc, ylS _ _ (ydU _ _) (ydU _ _), ← ytO, ← ybc, ymU, yas (by omega) (by omega)]
  exact ih
theorem yeR (x y : Nat) (hx : x < Q6) (K : (Nat → Int) → Prop) (h : K (W (x &&& y))) : zeb (W x) (W y) K := by
 rw [zeb.is]
 refine ⟨7, ?_⟩
 have := yke x y hx (fun y0 y1 => K y0) (fun _ => 0) h 6 0 rfl
 rw [ynF] at this
 exact this
theorem ysj (n i : Nat) : ((wd (2 ^ n - 1) i : Nat) : Int) = if 64 * i + 64 ≤ n then ((2 ^ 64 - 1 : Nat) : Int) else if n ≤ 64 * i then 0 else ((2 ^ (n - 64 * i) - 1 : Nat) : Int) := by
 have key : ∀ m, m ≤ 64 → (∀ j, j < 64 → (decide (64 * i + j < n) = decide (j < m))) → wd (2 ^ n - 1) i = 2 ^ m - 1 := by
  intro m hm hj
  apply Nat.eq_of_testBit_eq; intro j
  rw [ybK, Nat.testBit_two_pow_sub_one, Nat.testBit_two_pow_sub_one]
  by_cases h : j < 64
  ·rw [hj j h]; simp [h]
  ·have : ¬ j < m := by omega
   simp [h, this]
 split
 ·rw [key 64 (Nat.le_refl _) (by intro j hj; apply decide_eq_decide.2; omega)]
 ·split
  ·rw [key 0 (by omega) (by intro j hj; apply decide_eq_decide.2; omega)]; rfl
  ·rw [key (n - 64 * i) (by omega) (by intro j hj; apply decide_eq_decide.2; omega)]
theorem ypM (n i : Nat) (hn : n ≤ 384) (hi : i < 6) (K : Int → Prop) : zep (yan .i64 n (ybY .i64 64 i)) K = K (W (2 ^ n - 1) i) := by
 have e : yan .i64 (n : Int) (ybY .i64 64 (i : Int)) = (n : Int) - 64 * i := by
  rw [ycw (by omega) (by omega), yat (by omega) (by omega)]
 rw [e, ybc, ysj]
 split
 ·rw [yjo _ (by omega)]
 ·split
  ·rw [yj0 _ (by omega) (by omega)]
  ·rw [show (n : Int) - 64 * i = ((n - 64 * i : Nat) : Int) from by omega, ykV _ (by omega)]
theorem yid (n : Nat) (hn : n ≤ 384) (k0 : (Nat → Int) → (Nat → Int) → Prop) (z : Nat → Int) (h : k0 z (W (2 ^ n - 1))) :
  ∀ (j i : Nat), i + j = 6 → zeg.l4 k0 (j + 1) n i z (W ((2 ^ n - 1) % 2 ^ (64 * i))) := by
 intro j
 induction j with
 | zero =>
  intro i hij
  have : i = 6 := by omega
  have hp := Nat.two_pow_pos n
  have hlt : 2 ^ n - 1 < 2 ^ (64 * i) := by
   have := Nat.pow_le_pow_right (n := 2) (by omega) (show n ≤ 64 * i by omega)
   omega
  unfold zeg.l4 zeg.l4.step
  rw [yau (ybq (by omega)), Nat.mod_eq_of_lt hlt]
  exact h
 | succ j ih =>
  intro i hij
  have ih := ih (i + 1) (by omega)
  have e : ((i + 1 : Nat) : Int) = (i : Int) + 1 := by omega
  rw [e, ym0] at ih
  unfold zeg.l4 zeg.l4.step
  rw [yaA (ya9 (by omega)), ypM n i hn (by omega), yby (ybN (by omega) (by omega)), Int.toNat_natCast, ybc, ys4 _ _ i (Nat.mod_lt _ (Nat.two_pow_pos _)) (ydU _ _), yas (by omega) (by omega)]
  exact ih
theorem yd4 (n : Nat) (hn : n ≤ 384) (K : (Nat → Int) → Prop) (h : K (W (2 ^ n - 1))) : zeg n K := by
 rw [zeg.is]; unfold zeg.d
 rw [ydG n hn]
 refine ⟨7, ?_⟩
 have := yid n hn (fun y0 y1 => K y1) (fun _ => 0) h 6 0 rfl
 rw [Nat.mul_zero, Nat.pow_zero, Nat.mod_one, W_zero] at this
 exact this
theorem ytQ (a : Nat) : ybD .u64 (a : Int) 64 = 0 := by
 have h1 : min (Int.toNat 64) (IntKind.bits .u64) = 64 := rfl
 simp only [ybD, h1]
 rw [ydn]; omega
theorem yi2 (x i q r : Nat) (hr : r < 64) : orI .u64 (yaP .u64 (W x (i + q)) (r : Int)) (ybD .u64 (W x (i + q + 1)) (yan .u64 64 (r : Int))) = W (x / 2 ^ (64 * q + r)) i := by
 rw [yeS (by omega) (by omega), show (64 : Int) - r = ((64 - r : Nat) : Int) from by omega, ybc, ybc, ydW _ _ hr, ybc]
 have hs : wd x (i + q) >>> r < 18446744073709551616 := Nat.lt_of_le_of_lt (Nat.shiftRight_le _ _) (ydU _ _)
 have e : ybD .u64 ((wd x (i + q + 1) : Nat) : Int) ((64 - r : Nat) : Int) = ((wd x (i + q + 1) <<< (64 - r) % 18446744073709551616 : Nat) : Int) := by
  by_cases h0 : r = 0
  ·subst h0
   show ybD .u64 _ 64 = _
   rw [ytQ, Nat.shiftLeft_eq]; simp
  ·exact ymz _ _ (by omega)
 rw [e, yg9 _ _ hs (Nat.mod_lt _ (by omega))]
 congr 1
 apply Nat.eq_of_testBit_eq; intro j
 rw [Nat.testBit_or, Nat.testBit_shiftRight, show (18446744073709551616 : Nat) = 2 ^ 64 from rfl, Nat.testBit_mod_two_pow, Nat.testBit_shiftLeft, ybK, ybK, ybK, Nat.testBit_div_two_pow]
 by_cases hj : j < 64
 ·by_cases h2 : r + j < 64
  ·have h3 : ¬ (64 - r ≤ j) := by omega
   simp [hj, h2, h3]
   congr 1; omega
  ·have h3 : 64 - r ≤ j := by omega
   have h4 : j - (64 - r) < 64 := by omega
   simp [hj, h2, h3, h4]
   congr 1; omega
 ·have h2 : ¬ r + j < 64 := by omega
  simp [hj, h2]
theorem ynM (x q r i : Nat) (hr : r < 64) (hx : x < Q6) (hi : i + q = 5) : yaP .u64 (W x (i + q)) (r : Int) = W (x / 2 ^ (64 * q + r)) i := by
 rw [← yi2 x i q r hr]
 have h0 : wd x (i + q + 1) = 0 := ycG x _ (by rw [yfv (by omega)]; exact hx)
 rw [ybc x (i + q + 1), h0]
 have e : ybD .u64 ((0 : Nat) : Int) (yan .u64 64 (r : Int)) = 0 := by
  rw [yeS (by omega) (by omega)]
  show IntKind.wrap .u64 _ = _
  rw [ydn]; simp
 have hs : wd x (i + q) >>> r < 18446744073709551616 := Nat.lt_of_le_of_lt (Nat.shiftRight_le _ _) (ydU _ _)
 rw [e, ybc, ydW _ _ hr, show (0 : Int) = ((0 : Nat) : Int) from rfl, yg9 _ _ hs (by omega), Nat.or_zero]
theorem yh6 (x q r : Nat) (hx : x < Q6) (hr : r < 64) (hq : q ≤ 6) (b : Bool) (k0 : Bool → (Nat → Int) → Prop) (h : k0 b (W (x / 2 ^ (64 * q + r)))) :
  ∀ (j i : Nat), i + q + j = 6 → zek.l5 k0 (j + 1) b q r i (W x) (W (x / 2 ^ (64 * q + r) % 2 ^ (64 * i))) := by
 intro j
 induction j with
 | zero =>
  intro i hij
  have hlt : x / 2 ^ (64 * q + r) < 2 ^ (64 * i) := by
   rw [Nat.div_lt_iff_lt_mul (Nat.two_pow_pos _), ← Nat.pow_add]
   exact Nat.lt_of_lt_of_le hx (by rw [← yfv (show 64 * i + 64 * q = 384 by omega)]; exact Nat.pow_le_pow_right (by omega) (by omega))
  unfold zek.l5 zek.l5.step
  rw [yas (by omega) (by omega), yau (ybq (by omega)), Nat.mod_eq_of_lt hlt]
  exact h
 | succ j ih =>
  intro i hij
  have ih := ih (i + 1) (by omega)
  have e : ((i + 1 : Nat) : Int) = (i : Int) + 1 := by omega
  rw [e, ym0] at ih
  unfold zek.l5 zek.l5.step
  have e1 : yaj .i64 (i : Int) (q : Int) = ((i + q : Nat) : Int) := by rw [yas (by omega) (by omega)]; omega
  rw [e1, yaA (ya9 (by omega)), yby (ybN (by omega) (by omega)), yby (yhY (by omega)), yby (ybN (by omega) (by omega)), Int.toNat_natCast, Int.toNat_natCast]
  rw [show yaj .i64 (i : Int) 1 = (i : Int) + 1 from yas (by omega) (by omega)]
  have e2 : yaj .i64 ((i + q : Nat) : Int) 1 = ((i + q + 1 : Nat) : Int) := by rw [yas (by omega) (by omega)]; omega
  have hsub : yan .u64 64 (r : Int) = 64 - (r : Int) := yeS (by omega) (by omega)
  by_cases h5 : i + q < 5
  ·rw [yaA (ya9 (by omega)), yby (ybN (by omega) (by omega)), e2, yby (ybN (by omega) (by omega)), yby (yhY (by rw [hsub]; omega)), yby (ybN (by omega) (by omega)), Int.toNat_natCast, yoR, yrU, yi2 x i q r hr, ybc, ys4 _ _ i (Nat.mod_lt _ (Nat.two_pow_pos _)) (ydU _ _)]
   exact ih
  ·rw [yau (ybq (by omega)), ynM x q r i hr hx (by omega), ybc, ys4 _ _ i (Nat.mod_lt _ (Nat.two_pow_pos _)) (ydU _ _)]
   exact ih
theorem yif (x n : Nat) (hx : x < Q6) (hn : n ≤ 384) (K : (Nat → Int) → Bool → Prop) (h : ∀ b, K (W (x / 2 ^ n)) b) : zek (W x) n K := by
 rw [zek.is]; unfold zek.d
 have key : ∀ b, ∃ m, zek.l5 (fun y0 y1 => K y1 y0) m b (yaG IntKind.i64 (n : Int) 64) (cvI IntKind.u64 (ycg IntKind.i64 (n : Int) 64)) 0 (W x) fun x => 0 := by
  intro b
  rw [ypU n (by omega), yo3 n, yaU (by omega) (by omega)]
  refine ⟨6 - n / 64 + 1, ?_⟩
  have := yh6 x (n / 64) (n % 64) hx (Nat.mod_lt _ (by omega)) (by omega) b (fun y0 y1 => K y1 y0) (by rw [Nat.div_add_mod]; exact h b) (6 - n / 64) 0 (by omega)
  rw [Nat.mul_zero, Nat.pow_zero, Nat.mod_one, W_zero] at this
  exact this
 rw [ydG n hn]
 by_cases hz : (!eqN 6 (W x) fun x => 0) = true
 ·rw [yaA hz]
  exact ylp _ _ fun v => key _
 ·rw [yau (by simpa using hz)]
  exact key _
end Go.Ev.S

/- The lowest bit: of a word (the table of math/bits), of six words; a shift to the right with what fell off. -/
set_option linter.unusedVariables false
set_option linter.unusedSimpArgs false
set_option maxRecDepth 8000
namespace Go.Ev.S
open Go Go.Ev
theorem ysh (k q : Nat) (hk : k < 64) (ha : 2 ^ k * (2 * q + 1) < 18446744073709551616) : (2 ^ k * (2 * q + 1)) &&& (18446744073709551616 - 2 ^ k * (2 * q + 1)) = 2 ^ k := by
 have hp := Nat.two_pow_pos k
 have e1 : 2 ^ k * (2 * q + 1) = 2 ^ (k + 1) * q + 2 ^ k := by rw [Nat.pow_succ, Nat.mul_add, Nat.mul_one, Nat.mul_assoc]
 have e2 : 2 ^ k * (2 * q + 1) - 1 = 2 ^ (k + 1) * q + (2 ^ k - 1) := by omega
 have h1 : 2 ^ k < 2 ^ (k + 1) := Nat.pow_lt_pow_right (by omega) (by omega)
 apply Nat.eq_of_testBit_eq; intro j
 have e3 : 18446744073709551616 - 2 ^ k * (2 * q + 1) = 2 ^ 64 - ((2 ^ k * (2 * q + 1) - 1) + 1) := by
  rw [show (2 : Nat) ^ 64 = 18446744073709551616 from rfl]; omega
 rw [Nat.testBit_and, e3, Nat.testBit_two_pow_sub_succ (by rw [show (2 : Nat) ^ 64 = 18446744073709551616 from rfl]; omega), e2]
 conv => lhs; lhs; rw [e1]
 rw [Nat.testBit_two_pow_mul_add _ h1, Nat.testBit_two_pow_mul_add _ (by omega : 2 ^ k - 1 < 2 ^ (k + 1)), Nat.testBit_two_pow, Nat.testBit_two_pow_sub_one]
 by_cases hj : j < k + 1
 ·by_cases hjk : j = k
  ·subst hjk; simp [hk]
  ·have : j < k := by omega
   have h3 : ¬ k = j := by omega
   simp [hj, this, h3]
 ·have h3 : ¬ k = j := by omega
  simp only [hj, if_false, h3, decide_false]
  cases q.testBit (j - (k + 1)) <;> simp
theorem ysf : ((List.range 64).all fun k => ys5 ((2 ^ k * 285870213051353865 % 18446744073709551616) >>> 58) == (k : Int)) = true := by decide +kernel
theorem yur (k q : Nat) (hk : k < 64) (ha : 2 ^ k * (2 * q + 1) < 18446744073709551616) (K : Int → Prop) (h : K k) : zab ((2 ^ k * (2 * q + 1) : Nat) : Int) K := by
 have hp := Nat.two_pow_pos k
 have hpos : 0 < 2 ^ k * (2 * q + 1) := Nat.mul_pos hp (by omega)
 have hl := ysh k q hk ha
 have hk2 : 2 ^ k < 18446744073709551616 := ylB hk
 have ht := List.all_eq_true.1 ysf k (List.mem_range.2 hk)
 rw [zab.is]; unfold zab.d
 generalize 2 ^ k * (2 * q + 1) = a at *
 have e1 : yrG .u64 (a : Int) = ((18446744073709551616 - a : Nat) : Int) := by
  show IntKind.wrap .u64 _ = _
  rw [ydn]; omega
 have e2 : ybY .u64 ((2 ^ k : Nat) : Int) 285870213051353865 = ((2 ^ k * 285870213051353865 % 18446744073709551616 : Nat) : Int) := by
  show IntKind.wrap .u64 _ = _
  rw [ydn]
  generalize 2 ^ k = p at *
  omega
 have h1 : (2 ^ k * 285870213051353865 % 18446744073709551616) >>> 58 < 64 := by
  rw [Nat.shiftRight_eq_div_pow]
  have := Nat.mod_lt (2 ^ k * 285870213051353865) (show 0 < 18446744073709551616 by omega)
  omega
 rw [yau (yfN (by omega)), e1, ylS _ _ (by omega) (by omega), hl, e2, show (58 : Int) = ((58 : Nat) : Int) from rfl, ydW _ 58 (by omega)]
 refine ⟨ybN (by omega) (by omega), ?_⟩
 rw [Int.toNat_natCast, yrN, eq_of_beq ht, yfr (by omega) (by omega)]
 exact h
theorem ylP (k q : Nat) (hk : k < 64) (ha : 2 ^ k * (2 * q + 1) < 18446744073709551616) (K : Int → Prop) (h : K k) : zeo ((2 ^ k * (2 * q + 1) : Nat) : Int) K := by
 rw [zeo.is]; exact yur k q hk ha _ h
end Go.Ev.S

/- Lengths, sums and the like: the abacus' words and six words. -/
set_option linter.unusedVariables false
set_option linter.unusedSimpArgs false
set_option maxRecDepth 8000
namespace Go.Ev.S
open Go Go.Ev
theorem yuA (v : Nat) (h : v < 256) : cvI .u8 (v : Int) = (v : Int) := by
 exact yuc (by omega) (by omega)
theorem ycV (L : List UInt8) (hL : ((List.range 256).all fun v => ybj L v == (yaw v : Int)) = true) (a n : Nat) (nI S : Int) (hn0 : nI = n) (hS : S = ((a / 2 ^ n : Nat) : Int)) (hlt : a / 2 ^ n < 256) (hn : n ≤ 56)
  (h0 : a / 2 ^ n ≠ 0 ∨ n = 0) (K : Int → Prop) (h : K (yaw a)) : gd (leI 0 (cvI .u8 S) && ltI (cvI .u8 S) 256) (K (yaj .i64 nI (cvI .i64 (ybj L (Int.toNat (cvI .u8 S)))))) := by
 subst hS hn0
 have hb : ybj L (a / 2 ^ n) = (yaw (a / 2 ^ n) : Int) := eq_of_beq (List.all_eq_true.1 hL _ (List.mem_range.2 hlt))
 have hb8 : yaw (a / 2 ^ n) ≤ 8 := (yaT _ _).2 hlt
 have e : yaw a = n + yaw (a / 2 ^ n) := by
  rcases h0 with h0 | h0
  ·exact yen h0
  ·subst h0; rw [Nat.pow_zero, Nat.div_one, Nat.zero_add]
 generalize a / 2 ^ n = v at *
 rw [yuA _ hlt, yby (ybN (by omega) (by omega)), Int.toNat_natCast, hb, yfr (by omega) (by omega), yas (by omega) (by omega), show ((n : Nat) : Int) + (yaw v : Int) = ((yaw a : Nat) : Int) from by rw [e]; omega]
 exact h
theorem ye0 (a i : Nat) (hi : i < 64) : yaP .u64 (a : Int) (i : Int) = ((a / 2 ^ i : Nat) : Int) := by rw [ydW a i hi, Nat.shiftRight_eq_div_pow]
theorem yjg (a : Nat) (ha : a < 18446744073709551616) (K : Int → Prop) (h : K (yaw a)) : zaa a K := by
 have s32 : yaP .u64 (a : Int) 32 = ((a / 2 ^ 32 : Nat) : Int) := ye0 a 32 (by omega)
 have s16 : yaP .u64 (a : Int) 16 = ((a / 2 ^ 16 : Nat) : Int) := ye0 a 16 (by omega)
 have s8 : yaP .u64 (a : Int) 8 = ((a / 2 ^ 8 : Nat) : Int) := ye0 a 8 (by omega)
 have t16 : yaP .u64 ((a / 2 ^ 32 : Nat) : Int) 16 = ((a / 2 ^ 32 / 2 ^ 16 : Nat) : Int) := ye0 (a / 2 ^ 32) 16 (by omega)
 have t8 : yaP .u64 ((a / 2 ^ 32 : Nat) : Int) 8 = ((a / 2 ^ 32 / 2 ^ 8 : Nat) : Int) := ye0 (a / 2 ^ 32) 8 (by omega)
 have u8 : yaP .u64 ((a / 2 ^ 32 / 2 ^ 16 : Nat) : Int) 8 = ((a / 2 ^ 32 / 2 ^ 16 / 2 ^ 8 : Nat) : Int) := ye0 (a / 2 ^ 32 / 2 ^ 16) 8 (by omega)
 have v8 : yaP .u64 ((a / 2 ^ 16 : Nat) : Int) 8 = ((a / 2 ^ 16 / 2 ^ 8 : Nat) : Int) := ye0 (a / 2 ^ 16) 8 (by omega)
 rw [zaa.is]; unfold zaa.d
 rw [s32, s16, s8, t16, t8, u8, v8]
 have d1 : a / 2 ^ 32 / 2 ^ 16 / 2 ^ 8 = a / 2 ^ 56 := by rw [Nat.div_div_eq_div_mul, Nat.div_div_eq_div_mul]
 have d2 : a / 2 ^ 32 / 2 ^ 16 = a / 2 ^ 48 := by rw [Nat.div_div_eq_div_mul]
 have d3 : a / 2 ^ 32 / 2 ^ 8 = a / 2 ^ 40 := by rw [Nat.div_div_eq_div_mul]
 have d4 : a / 2 ^ 16 / 2 ^ 8 = a / 2 ^ 24 := by rw [Nat.div_div_eq_div_mul]
 rw [d1, d2, d3, d4]
 by_cases c1 : 4294967296 ≤ a
 ·rw [yaA (ybb (by omega))]
  by_cases c2 : 65536 ≤ a / 2 ^ 32
  ·rw [yaA (ybb (by omega))]
   by_cases c3 : 256 ≤ a / 2 ^ 48
   ·rw [yaA (ybb (by omega))]
    exact ycV _ (by decide +kernel) a 56 _ _ rfl rfl (by omega) (by omega) (by omega) K h
   ·rw [yau (yff (by omega))]
    exact ycV _ (by decide +kernel) a 48 _ _ rfl rfl (by omega) (by omega) (by omega) K h
  ·rw [yau (yff (by omega))]
   by_cases c3 : 256 ≤ a / 2 ^ 32
   ·rw [yaA (ybb (by omega))]
    exact ycV _ (by decide +kernel) a 40 _ _ rfl rfl (by omega) (by omega) (by omega) K h
   ·rw [yau (yff (by omega))]
    exact ycV _ (by decide +kernel) a 32 _ _ rfl rfl (by omega) (by omega) (by omega) K h
 ·rw [yau (yff (by omega))]
  by_cases c2 : 65536 ≤ a
  ·rw [yaA (ybb (by omega))]
   by_cases c3 : 256 ≤ a / 2 ^ 16
   ·rw [yaA (ybb (by omega))]
    exact ycV _ (by decide +kernel) a 24 _ _ rfl rfl (by omega) (by omega) (by omega) K h
   ·rw [yau (yff (by omega))]
    exact ycV _ (by decide +kernel) a 16 _ _ rfl rfl (by omega) (by omega) (by omega) K h
  ·rw [yau (yff (by omega))]
   by_cases c3 : 256 ≤ a
   ·rw [yaA (ybb (by omega))]
    exact ycV _ (by decide +kernel) a 8 _ _ rfl rfl (by omega) (by omega) (by omega) K h
   ·rw [yau (yff (by omega))]
    exact ycV _ (by decide +kernel) a 0 _ _ rfl (by simp) (by simp; omega) (by omega) (.inr rfl) K h
theorem ye2 (a : Nat) (ha : a < 18446744073709551616) (K : Int → Prop) (h : K (yaw a)) : zen a K := by
 rw [zen.is]; exact yjg a ha _ h
theorem yfG (x : Nat) (k0 : Int → Prop) (k1 : Prop) (h : x ≠ 0 → k0 (yaw x)) (n i : Nat) (hi : i < 6) (hx : x < 2 ^ (64 * (i + 1))) (hrec : x < 2 ^ (64 * i) → zee.l2 k0 k1 n ((i : Int) - 1) (W x)) :
  zee.l2 k0 k1 (n + 1) i (W x) := by
 have hwd : wd x i = x / 2 ^ (64 * i) := by
  unfold wd
  apply Nat.mod_eq_of_lt
  rw [Nat.div_lt_iff_lt_mul (Nat.two_pow_pos _), show (18446744073709551616 : Nat) = 2 ^ 64 from rfl, ← Nat.pow_add]
  rw [show 64 + 64 * i = 64 * (i + 1) from by omega]; exact hx
 unfold zee.l2 zee.l2.step
 have hi' : (leI 0 (i : Int) && ltI (i : Int) 6) = true := ybN (by omega) (by omega)
 rw [yaA (ybb (by omega)), yby hi', Int.toNat_natCast, ybc]
 by_cases hz : wd x i = 0
 ·have hx2 : x < 2 ^ (64 * i) := by
   rw [hwd] at hz
   rcases (Nat.div_eq_zero_iff).1 hz with h' | h'
   ·have := Nat.two_pow_pos (64 * i); omega
   ·exact h'
  rw [yau (by rw [hz]; rfl), yat (by omega) (by omega)]
  exact hrec hx2
 ·rw [yaA (by rw [show (0 : Int) = ((0 : Nat) : Int) from rfl, yhi]; simp [hz]), yby hi']
  refine ye2 _ (ydU _ _) _ ?_
  have hb : yaw (wd x i) ≤ 64 := (yaT _ _).2 (ydU x i)
  rw [ycw (by omega) (by omega), yas (by omega) (by omega)]
  have hx0 : x ≠ 0 := by
   intro e; subst e; exact hz (ycG 0 i (Nat.two_pow_pos _))
  have := h hx0
  rw [hwd] at hz ⊢
  rw [yen hz] at this
  rw [show (64 * (i : Int) + (yaw (x / 2 ^ (64 * i)) : Int)) = ((64 * i + yaw (x / 2 ^ (64 * i)) : Nat) : Int) from by omega]
  exact this
theorem yjX (x : Nat) (k0 : Int → Prop) (k1 : Prop) (h : x ≠ 0 → k0 (yaw x)) (h1 : x = 0 → k1) (i : Nat) : i < 6 → x < 2 ^ (64 * (i + 1)) → zee.l2 k0 k1 (i + 2) i (W x) := by
 induction i with
 | zero =>
  intro hi hx
  refine yfG x k0 k1 h 1 0 hi hx fun hx2 => ?_
  have hx0 : x = 0 := by
   have : x < 1 := hx2
   omega
  unfold zee.l2 zee.l2.step
  rw [yau (by decide)]
  exact h1 hx0
 | succ i ih =>
  intro hi hx
  refine yfG x k0 k1 h (i + 2) (i + 1) hi hx fun hx2 => ?_
  rw [show (((i + 1 : Nat) : Int) - 1) = (i : Int) from by omega]
  exact ih (by omega) hx2
theorem yhh (x : Nat) (hx : x < Q6) (K : Int → Prop) (h : K (yaw x)) : zee (W x) K := by
 rw [zee.is]
 obtain ⟨i, hi⟩ : ∃ i, i = 5 := ⟨_, rfl⟩
 have := yjX x K (K 0) (fun _ => h) (fun e => by subst e; exact h) i (by omega) (by rw [yfv (show 64 * (i + 1) = 384 by omega)]; exact hx)
 rw [hi] at this
 exact ⟨5 + 2, this⟩
theorem ynX (x : Nat) (h : x < 18446744073709551616) (K : (Nat → Int) → Prop) : zeh x K = K (W x) := by
 rw [zeh.is]; unfold zeh.d; rw [yuz x h]
theorem yeO (x : Nat) (h : x < 2 ^ 128) (K : Int → Int → Bool → Prop) : zel (W x) K = K (Hi x) (Lo x) true := by
 rw [zel.is]; unfold zel.d
 rw [ynG x 2 h (by omega), ynG x 3 h (by omega), ynG x 4 h (by omega), ynG x 5 h (by omega), yuH x h, yuL x]
 rfl
theorem yk9 (x y : Nat) (hx : x < Q6) (hy : y < Q6) (k0 : (Nat → Int) → (Nat → Int) → Prop) (z : Nat → Int) (h : k0 (W (x ||| y)) z) :
  ∀ (j i : Nat), i + j = 6 → zej.l2 k0 (j + 1) i (mix i (x ||| y) x) (W y) z := by
 intro j
 induction j with
 | zero =>
  intro i hij
  have hx' : x < 2 ^ (64 * i) := by rw [yfv (show 64 * i = 384 by omega)]; exact hx
  have hy' : y < 2 ^ (64 * i) := by rw [yfv (show 64 * i = 384 by omega)]; exact hy
  unfold zej.l2 zej.l2.step
  rw [yau (ybq (by omega)), ypl _ _ i (Nat.or_lt_two_pow hx' hy') hx']
  exact h
 | succ j ih =>
  intro i hij
  have ih := ih (i + 1) (by omega)
  have e : ((i + 1 : Nat) : Int) = (i : Int) + 1 := by omega
  rw [e] at ih
  unfold zej.l2 zej.l2.step
  have hi : (leI 0 (i : Int) && ltI (i : Int) 6) = true := ybN (by omega) (by omega)
  rw [yaA (ya9 (by omega)), yby hi, yby hi, yby hi, Int.toNat_natCast, yrV, ybc, ybc, yg9 _ _ (ydU _ _) (ydU _ _), ← yui, ← ybc, ymU, yas (by omega) (by omega)]
  exact ih
theorem yoC (x y : Nat) (hx : x < Q6) (hy : y < Q6) (K : (Nat → Int) → Prop) (h : K (W (x ||| y))) : zej (W x) (W y) K := by
 rw [zej.is]
 refine ⟨7, ?_⟩
 have := yk9 x y hx hy (fun y0 y1 => K y0) (fun _ => 0) h 6 0 rfl
 rw [ynF] at this
 exact this
def part (z i : Nat) : Nat → Int := fun j => cond (Nat.ble i j) (W z j) 0
theorem yrr (z : Nat) (hz : z < Q6) : part z 6 = fun _ => 0 := by
 funext j
 unfold part
 cases h : Nat.ble 6 j with
 | false => rfl
 | true =>
  have hj : 6 ≤ j := Nat.le_of_ble_eq_true h
  show W z j = 0
  rw [ybc, ycG z j]; rfl
  obtain ⟨m, hm⟩ : ∃ m : Nat, m = 384 := ⟨_, rfl⟩
  exact Nat.lt_of_lt_of_le hz (by rw [← yfv hm]; exact Nat.pow_le_pow_right (by omega) (by omega))
theorem ylx (z i : Nat) : upd (part z (i + 1)) i (W z i) = part z i := by
 funext j
 simp only [upd, part]
 by_cases h : j = i
 ·subst h
  have h1 : Nat.beq j j = true := by simp
  have h2 : Nat.ble j j = true := by simp
  rw [h1, h2]; rfl
 ·have h1 : Nat.beq j i = false := by rw [Bool.eq_false_iff]; intro hq; exact h (Nat.eq_of_beq_eq_true hq)
  have h2 : Nat.ble (i + 1) j = Nat.ble i j := by
   rw [Bool.eq_iff_iff, Nat.ble_eq, Nat.ble_eq]; omega
  rw [h1, h2]; rfl
theorem yqE (x q r : Nat) (hx : x < Q6) (hq : q ≤ 6) (hr : r < 64) : part (x * 2 ^ (64 * q + r) % Q6) q = W (x * 2 ^ (64 * q + r) % Q6) := by
 funext j
 unfold part
 cases h : Nat.ble q j with
 | true => rfl
 | false =>
  have hj : j < q := by
   apply Classical.byContradiction; intro hc
   have := Nat.ble_eq_true_of_le (show q ≤ j by omega)
   rw [this] at h; cases h
  show 0 = W _ j
  obtain ⟨m, hm⟩ : ∃ m : Nat, m = 384 := ⟨_, rfl⟩
  rw [ybc]
  have : wd (x * 2 ^ (64 * q + r) % Q6) j = 0 := by
   apply Nat.eq_of_testBit_eq; intro b
   rw [ybK, Nat.zero_testBit, ← yfv hm, Nat.testBit_mod_two_pow, ← Nat.shiftLeft_eq, Nat.testBit_shiftLeft]
   by_cases hb : b < 64
   ·have : ¬ 64 * q + r ≤ 64 * j + b := by omega
    simp [this]
   ·simp [hb]
  rw [this]; rfl
theorem ysH (a s : Nat) (ha : a < 18446744073709551616) (hs : s ≤ 64) : yaP .u64 (a : Int) (s : Int) = ((a >>> s : Nat) : Int) := by
 by_cases h : s = 64
 ·subst h
  rw [yr6 a 64 ha (by omega), Nat.shiftRight_eq_div_pow, Nat.div_eq_of_lt (by exact ha)]; rfl
 ·exact ydW a s (by omega)
theorem ysm (x q r i : Nat) (hi : i < 6) (hq : q ≤ i) (hr : r < 64) :
  wd (x * 2 ^ (64 * q + r) % Q6) i = (wd x (i - q) <<< r % 18446744073709551616) ||| (if q < i then wd x (i - q - 1) >>> (64 - r) else 0) := by
 obtain ⟨m, hm⟩ : ∃ m : Nat, m = 384 := ⟨_, rfl⟩
 apply Nat.eq_of_testBit_eq; intro b
 rw [ybK, ← yfv hm, Nat.testBit_mod_two_pow, ← Nat.shiftLeft_eq, Nat.testBit_shiftLeft, Nat.testBit_or, show (18446744073709551616 : Nat) = 2 ^ 64 from rfl, Nat.testBit_mod_two_pow, Nat.testBit_shiftLeft, ybK]
 by_cases hb : b < 64
 ·have h1 : 64 * i + b < m := by omega
  by_cases hbr : r ≤ b
  ·have h2 : 64 * q + r ≤ 64 * i + b := by omega
   have h3 : b - r < 64 := by omega
   have h4 : 64 * i + b - (64 * q + r) = 64 * (i - q) + (b - r) := by omega
   split
   ·rw [Nat.testBit_shiftRight, ybK]
    have h5 : ¬ 64 - r + b < 64 := by omega
    simp [hb, h1, hbr, h2, h3, h4, h5]
   ·simp [hb, h1, hbr, h2, h3, h4]
  ·split
   ·rename_i hqi
    rw [Nat.testBit_shiftRight, ybK]
    have h2 : 64 * q + r ≤ 64 * i + b := by omega
    have h5 : 64 - r + b < 64 := by omega
    have h4 : 64 * i + b - (64 * q + r) = 64 * (i - q - 1) + (64 - r + b) := by omega
    simp [hb, h1, hbr, h2, h4, h5]
   ·have h2 : ¬ 64 * q + r ≤ 64 * i + b := by omega
    simp [hb, h1, hbr, h2]
 ·split
  ·rw [Nat.testBit_shiftRight, ybK]
   have h5 : ¬ 64 - r + b < 64 := by omega
   simp [hb, h5]
  ·simp [hb]
theorem yim (x q r : Nat) (hx : x < Q6) (hr : r < 64) (hq : q ≤ 6) (b : Bool) (k0 : Bool → (Nat → Int) → Prop) (h : k0 b (W (x * 2 ^ (64 * q + r) % Q6))) :
  ∀ (j : Nat), q + j ≤ 6 → zed.l5 k0 (j + 1) b q r (((q + j : Nat) : Int) - 1) (W x) (part (x * 2 ^ (64 * q + r) % Q6) (q + j)) := by
 intro j
 induction j with
 | zero =>
  intro hij
  unfold zed.l5 zed.l5.step
  rw [yau (yff (by omega)), Nat.add_zero, yqE x q r hx hq hr]
  exact h
 | succ j ih =>
  intro hij
  have ih := ih (by omega)
  have e : (((q + (j + 1) : Nat) : Int) - 1) = ((q + j : Nat) : Int) := by omega
  rw [e]
  unfold zed.l5 zed.l5.step
  have e1 : yan .i64 ((q + j : Nat) : Int) (q : Int) = (j : Int) := by rw [yat (by omega) (by omega)]; omega
  have e2 : yan .i64 ((q + j : Nat) : Int) 1 = ((q + j : Nat) : Int) - 1 := yat (by omega) (by omega)
  have lw := ysm x q r (q + j) (by omega) (by omega) hr
  have lj : q + j - q = j := by omega
  rw [lj] at lw
  have ha : wd x j <<< r % 18446744073709551616 < 18446744073709551616 := Nat.mod_lt _ (by omega)
  rw [yaA (ybb (by omega)), e1, yby (ybN (by omega) (by omega)), yby (yhY (by omega)), yby (ybN (by omega) (by omega)), Int.toNat_natCast, Int.toNat_natCast, ybc x j, ymz _ r hr, e2]
  by_cases hj : j = 0
  ·rw [if_neg (by omega), Nat.or_zero] at lw
   rw [yau (ybq (by omega)), ← lw, ← ybc, show q + (j + 1) = q + j + 1 from rfl, ylx]
   exact ih
  ·rw [if_pos (by omega)] at lw
   have hs : wd x (j - 1) >>> (64 - r) < 18446744073709551616 := Nat.lt_of_le_of_lt (Nat.shiftRight_le _ _) (ydU _ _)
   have e3 : yan .i64 (j : Int) 1 = ((j - 1 : Nat) : Int) := by rw [yat (by omega) (by omega)]; omega
   have e4 : yan .u64 64 (r : Int) = ((64 - r : Nat) : Int) := by rw [yeS (by omega) (by omega)]; omega
   rw [yaA (ya9 (by omega)), yby (ybN (by omega) (by omega)), e3, yby (ybN (by omega) (by omega)), e4, yby (yhY (by omega)), yby (ybN (by omega) (by omega)), yoR, yrU, Int.toNat_natCast, ybc x (j - 1), ysH _ _ (ydU _ _) (by omega), yg9 _ _ ha hs, ← lw, ← ybc, show q + (j + 1) = q + j + 1 from rfl, ylx]
   exact ih
theorem yjq (x n : Nat) (hx : x < Q6) (hn : n ≤ 384) (K : (Nat → Int) → Bool → Prop) (h : ∀ b, K (W (x * 2 ^ n % Q6)) b) : zed (W x) n K := by
 rw [zed.is]; unfold zed.d
 have key : ∀ b, ∃ m, zed.l5 (fun y0 y1 => K y1 y0) m b (yaG IntKind.i64 (n : Int) 64) (cvI IntKind.u64 (ycg IntKind.i64 (n : Int) 64)) 5 (W x) fun x => 0 := by
  intro b
  rw [ypU n (by omega), yo3 n, yaU (by omega) (by omega)]
  refine ⟨6 - n / 64 + 1, ?_⟩
  have hm : n % 64 < 64 := Nat.mod_lt _ (by omega)
  have := yim x (n / 64) (n % 64) hx hm (by omega) b (fun y0 y1 => K y1 y0) (by rw [Nat.div_add_mod]; exact h b) (6 - n / 64) (by omega)
  rw [show n / 64 + (6 - n / 64) = 6 from by omega, yrr _ (Nat.mod_lt _ ytT)] at this
  exact this
 rw [ydG n hn]
 refine yhh x hx _ ?_
 by_cases hc : ltI 384 (yaj IntKind.i64 (yaw x : Int) (n : Int)) = true
 ·rw [yaA hc]; exact key _
 ·rw [yau (by simpa using hc)]; exact key _
end Go.Ev.S

/- The formats: their numbers, and the encodings that have names. -/
set_option linter.unusedVariables false
set_option linter.unusedSimpArgs false
set_option maxRecDepth 8000
namespace Go.Ev.S
open Go Go.Ev
def fw : Nat → Nat | 0 => 32 | 1 => 64 | 2 => 16 | 3 => 128 | _ => 0
def fp : Nat → Nat | 0 => 24 | 1 => 53 | 2 => 11 | 3 => 113 | _ => 0
def fe : Nat → Nat | 0 => 127 | 1 => 1023 | 2 => 15 | 3 => 16383 | _ => 0
def sg (f : Nat) (neg : Bool) : Nat := cond neg (2 ^ (fw f - 1)) 0
def enc (f : Nat) (neg : Bool) (e t : Nat) : Nat := sg f neg + e * 2 ^ (fp f - 1) + t
theorem yeq {f : Nat} (h : f ≤ 3) : f = 0 ∨ f = 1 ∨ f = 2 ∨ f = 3 := by omega
theorem ybt (f : Nat) (h : f ≤ 3) (K : Int → Prop) : zdn f K = K 0 := by
 rw [zdn.is]; unfold zdn.d; rw [yau (ybq (by omega))]
theorem ybe (f : Nat) (h : f ≤ 3) (K : Int → Prop) : zdv f K = K (fw f) := by
 rw [zdv.is]; unfold zdv.d; rw [zdz.is]
 rcases yeq h with rfl | rfl | rfl | rfl <;> kernel_rfl
theorem yaI (f : Nat) (h : f ≤ 3) (K : Int → Prop) : zdu f K = K (fp f) := by
 rw [zdu.is]; unfold zdu.d; rw [zdz.is]
 rcases yeq h with rfl | rfl | rfl | rfl <;> kernel_rfl
theorem ybo (f : Nat) (h : f ≤ 3) (K : Int → Prop) : zdp f K = K (fe f) := by
 rw [zdp.is]; unfold zdp.d; rw [zdz.is]
 rcases yeq h with rfl | rfl | rfl | rfl <;> kernel_rfl
theorem ybp (f : Nat) (h : f ≤ 3) (K : Int → Prop) : zdq f K = K (1 - (fe f : Int)) := by
 rw [zdq.is]; unfold zdq.d; rw [ybt f h, ybo f h]
 rcases yeq h with rfl | rfl | rfl | rfl <;> kernel_rfl
theorem yjj (f : Nat) (h : f ≤ 3) (K : Int → Int → Prop) : (zdv f fun y0 => zdx 1 (yan IntKind.i64 y0 1) K) = K (Hi (2 ^ (fw f - 1))) (Lo (2 ^ (fw f - 1))) := by
 rw [ybe f h, zdx.is]
 rcases yeq h with rfl | rfl | rfl | rfl <;> kernel_rfl
theorem yuq (f : Nat) (h : f ≤ 3) (neg : Bool) : sg f neg < 2 ^ 128 := by
 rcases yeq h with rfl | rfl | rfl | rfl <;> cases neg <;> decide
theorem ydo (f x : Nat) (h : f ≤ 3) (hx : x < 2 ^ 128) (neg : Bool) (K : Int → Int → Prop) : zea f (Hi x) (Lo x) neg K = K (Hi (x ||| sg f neg)) (Lo (x ||| sg f neg)) := by
 rw [zea.is]; unfold zea.d; rw [ybt f h, yau (by decide)]
 cases neg with
 | false => rw [yau rfl]; simp [sg]
 | true =>
  rw [yaA rfl, yjj f h]
  obtain ⟨h1, h2⟩ := yt1 x (2 ^ (fw f - 1)) hx (yuq f h true)
  rw [h1, h2]; rfl
theorem HiLo_zero : Hi 0 = 0 ∧ Lo 0 = 0 := ⟨rfl, rfl⟩
theorem ye8 (f : Nat) (h : f ≤ 3) (neg : Bool) (K : Int → Int → Prop) : zdw f neg K = K (Hi (enc f neg 0 0)) (Lo (enc f neg 0 0)) := by
 rw [zdw.is]; unfold zdw.d
 have := ydo f 0 h (by decide) neg K
 rw [HiLo_zero.1, HiLo_zero.2, Nat.zero_or] at this
 rw [this]; simp [enc]
theorem yii (f e : Nat) (h : f ≤ 3) (he : e = 1 ∨ e = fe f ∨ e = 2 * fe f + 1) (K : Int → Int → Prop) : zdy f e K = K (Hi (e * 2 ^ (fp f - 1))) (Lo (e * 2 ^ (fp f - 1))) := by
 rw [zdy.is]; unfold zdy.d; rw [yaI f h, zdx.is]
 rcases he with rfl | rfl | rfl <;> rcases yeq h with rfl | rfl | rfl | rfl <;> kernel_rfl
theorem yqW (f e : Nat) (h : f ≤ 3) (he : e = 1 ∨ e = fe f ∨ e = 2 * fe f + 1) (neg : Bool) : (e * 2 ^ (fp f - 1)) ||| sg f neg = enc f neg e 0 ∧ e * 2 ^ (fp f - 1) < 2 ^ 128 := by
 rcases he with rfl | rfl | rfl <;> rcases yeq h with rfl | rfl | rfl | rfl <;> cases neg <;> decide
theorem ygh (f : Nat) (h : f ≤ 3) (neg : Bool) (K : Int → Int → Prop) : zdt f neg K = K (Hi (enc f neg (2 * fe f + 1) 0)) (Lo (enc f neg (2 * fe f + 1) 0)) := by
 rw [zdt.is]; unfold zdt.d; rw [ybt f h, yau (by decide), ybo f h]
 have e1 : yaj IntKind.i64 (ybY IntKind.i64 2 (fe f)) 1 = ((2 * fe f + 1 : Nat) : Int) := by rcases yeq h with rfl | rfl | rfl | rfl <;> decide
 obtain ⟨h1, h2⟩ := yqW f _ h (.inr (.inr rfl)) neg
 rw [e1, yii f _ h (.inr (.inr rfl)), ydo f _ h h2 neg, h1]
theorem yfS (f : Nat) (h : f ≤ 3) (neg : Bool) (K : Int → Int → Prop) : zds f neg K = K (Hi (enc f neg (2 * fe f) (2 ^ (fp f - 1) - 1))) (Lo (enc f neg (2 * fe f) (2 ^ (fp f - 1) - 1))) := by
 rw [zds.is]; unfold zds.d; rw [ygh f h]; simp only [ybt f h, ybe f h]
 have key : ∀ x : Nat, x < 2 ^ 128 → x ||| sg f neg = enc f neg (2 * fe f) (2 ^ (fp f - 1) - 1) → zea f (Hi x) (Lo x) neg (fun y0 y1 => K y0 y1) = K (Hi (enc f neg (2 * fe f) (2 ^ (fp f - 1) - 1))) (Lo (enc f neg (2 * fe f) (2 ^ (fp f - 1) - 1))) := by
  intro x hx hq
  rw [ydo f x h hx neg, hq]
 have k2 := key ((2 * fe f) * 2 ^ (fp f - 1) + (2 ^ (fp f - 1) - 1)) (by rcases yeq h with rfl | rfl | rfl | rfl <;> decide) (by rcases yeq h with rfl | rfl | rfl | rfl <;> cases neg <;> decide)
 rw [← k2]
 clear key k2
 generalize hq : (zea f : Int → Int → Bool → (Int → Int → Prop) → Prop) = sw
 clear hq
 rcases yeq h with rfl | rfl | rfl | rfl <;> (refine Eq.trans ?_ rfl; kernel_rfl)
theorem ydC (f x : Nat) (h : f ≤ 3) (hx : x < 2 ^ 128) (K : Bool → Prop) : zdr f (Hi x) (Lo x) K = K (decide (x < 2 ^ fw f)) := by
 rw [zdr.is]; unfold zdr.d
 have ez : eqI (Hi x) 0 = decide (x / 18446744073709551616 = 0) := by
  unfold Hi; rw [show (0 : Int) = ((0 : Nat) : Int) from rfl, yhi]
 have es : ∀ w : Nat, w < 64 → eqI (yaP .u64 (Lo x) (w : Int)) 0 = decide (x % 18446744073709551616 < 2 ^ w) := by
  intro w hw
  unfold Lo
  rw [ydW _ w hw, Nat.shiftRight_eq_div_pow, show (0 : Int) = ((0 : Nat) : Int) from rfl, yhi, decide_eq_decide, Nat.div_eq_zero_iff]
  have := Nat.two_pow_pos w
  omega
 have hx' : x < 340282366920938463463374607431768211456 := hx
 rcases yeq h with rfl | rfl | rfl | rfl
 ·rw [yau (by decide), yau (by decide), yaA (by decide), yaA (by decide), ez, ybe 0 (by omega)]
  show br (decide (x / 18446744073709551616 = 0)) (gd (!ltI (cvI IntKind.u64 ((32 : Nat) : Int)) 0) (K (eqI (yaP .u64 (Lo x) (cvI IntKind.u64 ((32 : Nat) : Int))) 0))) (K false) = K (decide (x < 2 ^ 32))
  rw [yaU (by omega) (by omega), yby (yhY (by omega)), es 32 (by omega), show (2 : Nat) ^ 32 = 4294967296 from rfl]
  by_cases hq : x / 18446744073709551616 = 0
  ·rw [yaA (by simp [hq])]; congr 1; rw [decide_eq_decide]; omega
  ·rw [yau (by simp [hq])]; congr 1; symm; rw [decide_eq_false_iff_not]; omega
 ·rw [yau (by decide), yaA (by decide), ez]
  show K _ = K (decide (x < 2 ^ 64))
  congr 1; rw [decide_eq_decide, show (2 : Nat) ^ 64 = 18446744073709551616 from rfl]; omega
 ·rw [yau (by decide), yau (by decide), yau (by decide), yaA (by decide), ez, ybe 2 (by omega)]
  show br (decide (x / 18446744073709551616 = 0)) (gd (!ltI (cvI IntKind.u64 ((16 : Nat) : Int)) 0) (K (eqI (yaP .u64 (Lo x) (cvI IntKind.u64 ((16 : Nat) : Int))) 0))) (K false) = K (decide (x < 2 ^ 16))
  rw [yaU (by omega) (by omega), yby (yhY (by omega)), es 16 (by omega), show (2 : Nat) ^ 16 = 65536 from rfl]
  by_cases hq : x / 18446744073709551616 = 0
  ·rw [yaA (by simp [hq])]; congr 1; rw [decide_eq_decide]; omega
  ·rw [yau (by simp [hq])]; congr 1; symm; rw [decide_eq_false_iff_not]; omega
 ·rw [yaA (by decide)]
  congr 1; symm; rw [decide_eq_true_eq]; exact hx
end Go.Ev.S

/- The document's answer on formats: an encoding of its fields, and its fields. -/
set_option linter.unusedVariables false
set_option linter.unusedSimpArgs false
set_option maxRecDepth 8000
namespace Go.Ev.S
open Go Go.Ev
theorem ykR (f : Nat) (h : f ≤ 3) (K : Bool → Prop) : zdb f K = K true := by
 rw [zdb.is]; unfold zdb.d; rw [ybb (by omega)]
theorem ykS (f : Nat) (h : 3 < f) (K : Bool → Prop) : zdb f K = K false := by
 rw [zdb.is]; unfold zdb.d; rw [yff (by omega)]
theorem ytU (f : Nat) (h : f ≤ 3) : 2 ^ (fw f - 1) = (2 * fe f + 2) * 2 ^ (fp f - 1) := by rcases yeq h with rfl | rfl | rfl | rfl <;> decide
theorem yct (f : Nat) (h : f ≤ 3) : 1 ≤ fw f ∧ fw f ≤ 128 ∧ 2 ≤ fp f ∧ fp f ≤ 113 ∧ fp f < fw f ∧ 2 * fe f + 1 < 32768 := by rcases yeq h with rfl | rfl | rfl | rfl <;> decide
theorem yjR {f e t : Nat} (h : f ≤ 3) (he : e ≤ 2 * fe f + 1) (ht : t < 2 ^ (fp f - 1)) : e * 2 ^ (fp f - 1) + t < 2 ^ (fw f - 1) := by
 rw [ytU f h]
 have : (e + 1) * 2 ^ (fp f - 1) ≤ (2 * fe f + 2) * 2 ^ (fp f - 1) := Nat.mul_le_mul_right _ (by omega)
 rw [Nat.add_mul, Nat.one_mul] at this
 omega
theorem yqj {f e t : Nat} (h : f ≤ 3) (he : e ≤ 2 * fe f + 1) (ht : t < 2 ^ (fp f - 1)) (neg : Bool) : enc f neg e t < 2 ^ fw f := by
 have h1 := yjR h he ht
 have h2 := (yct f h).1
 have h3 : 2 ^ fw f = 2 ^ (fw f - 1) + 2 ^ (fw f - 1) := by
  have : fw f = fw f - 1 + 1 := by omega
  conv => lhs; rw [this, Nat.pow_succ]
  omega
 unfold enc sg
 cases neg <;> simp <;> omega
theorem yud {a : Nat} (h : a ≤ 128) {x : Nat} (hx : x < 2 ^ a) : x < 2 ^ 128 := Nat.lt_of_lt_of_le hx (Nat.pow_le_pow_right (by omega) h)
end Go.Ev.S

/- Encodings, their fields and their signs: the abacus and the document's answer. -/
set_option linter.unusedVariables false
set_option linter.unusedSimpArgs false
set_option maxRecDepth 8000
namespace Go.Ev.S
open Go Go.Ev
def ng (f x : Nat) : Bool := x.testBit (fw f - 1)
def ex (f x : Nat) : Nat := x / 2 ^ (fp f - 1) % (2 * fe f + 2)
def fr (f x : Nat) : Nat := x % 2 ^ (fp f - 1)
theorem yqD (f x : Nat) : ex f x ≤ 2 * fe f + 1 := by unfold ex; have := Nat.mod_lt (x / 2 ^ (fp f - 1)) (show 0 < 2 * fe f + 2 by omega); omega
theorem yl4 (f x : Nat) : fr f x < 2 ^ (fp f - 1) := Nat.mod_lt _ (Nat.two_pow_pos _)
theorem yo2 (f : Nat) (h : f ≤ 3) : 2 * fe f + 2 = 2 ^ (fw f - fp f) := by rcases yeq h with rfl | rfl | rfl | rfl <;> decide
theorem ymT (f : Nat) (h : f ≤ 3) : fw f - 1 = (fp f - 1) + (fw f - fp f) ∧ fw f = fw f - 1 + 1 := by rcases yeq h with rfl | rfl | rfl | rfl <;> decide
theorem ytR (f x : Nat) (h : f ≤ 3) (hx : x < 2 ^ fw f) : enc f (ng f x) (ex f x) (fr f x) = x := by
 have h1 : x = x / 2 ^ (fp f - 1) * 2 ^ (fp f - 1) + fr f x := by
  unfold fr; have := Nat.div_add_mod x (2 ^ (fp f - 1)); rw [Nat.mul_comm]; omega
 have h2 : x % 2 ^ (fw f - 1) = ex f x * 2 ^ (fp f - 1) + fr f x := by
  unfold ex fr
  rw [yo2 f h, (ymT f h).1, Nat.pow_add, Nat.mod_mul]
  rw [Nat.mul_comm]; omega
 have h3 := yrq x (fw f - 1)
 rw [← (ymT f h).2, Nat.mod_eq_of_lt hx] at h3
 unfold enc sg
 unfold ng
 cases hb : x.testBit (fw f - 1) with
 | false => rw [hb] at h3; simp at h3; simp only [cond_false]; omega
 | true => rw [hb] at h3; simp at h3; simp only [cond_true]; omega
theorem ytc {f x : Nat} (h : f ≤ 3) (hx : x < 2 ^ fw f) : x < 2 ^ 128 := yud (yct f h).2.1 hx
theorem xQ6 {f x : Nat} (h : f ≤ 3) (hx : x < 2 ^ fw f) : x < Q6 := yr2 (by have := (yct f h).2.1; omega) hx
theorem yso (a b : Nat) (ha : a < 9223372036854775808) (hb : b < 9223372036854775808) : ycp .i64 a b = ((a &&& b : Nat) : Int) := by
 have h1 : (BitVec.ofInt 64 (a : Int)) = BitVec.ofNat 64 a := by simp
 have h2 : (BitVec.ofInt 64 (b : Int)) = BitVec.ofNat 64 b := by simp
 have h3 : a &&& b < 9223372036854775808 := Nat.lt_of_le_of_lt Nat.and_le_left ha
 show IntKind.wrap .i64 (((BitVec.ofInt 64 (a : Int) &&& BitVec.ofInt 64 (b : Int) : BitVec 64).toNat : Nat) : Int) = _
 rw [h1, h2]
 rw [BitVec.toNat_and, BitVec.toNat_ofNat, BitVec.toNat_ofNat, Nat.mod_eq_of_lt (by omega), Nat.mod_eq_of_lt (by omega)]
 exact yd0 (by omega) (by omega)
theorem yrt (f : Nat) (h : f ≤ 3) : yan .i64 (fw f : Int) 1 = ((fw f - 1 : Nat) : Int) := by rcases yeq h with rfl | rfl | rfl | rfl <;> decide
theorem ypa (f : Nat) (h : f ≤ 3) : yan .i64 (fp f : Int) 1 = ((fp f - 1 : Nat) : Int) := by rcases yeq h with rfl | rfl | rfl | rfl <;> decide
theorem yuu (f : Nat) (h : f ≤ 3) : yan .i64 (fp f : Int) 2 = ((fp f - 2 : Nat) : Int) := by rcases yeq h with rfl | rfl | rfl | rfl <;> decide
theorem ysY (x : Nat) (h : x < 18446744073709551616) : W x 0 = (x : Int) := by
 rw [ybc]; unfold wd; rw [Nat.mul_zero, Nat.pow_zero, Nat.div_one, Nat.mod_eq_of_lt h]
theorem ys0 (f x : Nat) (h : f ≤ 3) (hx : x < 2 ^ fw f) : ycp .i64 (cvI .i64 (W (x / 2 ^ (fp f - 1)) 0)) ((2 * fe f + 1 : Nat) : Int) = (ex f x : Int) := by
 have h1 : x / 2 ^ (fp f - 1) < 131072 := by
  rw [Nat.div_lt_iff_lt_mul (Nat.two_pow_pos _)]
  have h3 : 2 ^ fw f ≤ 131072 * 2 ^ (fp f - 1) := by rcases yeq h with rfl | rfl | rfl | rfl <;> decide
  omega
 have h2 := (yct f h).2.2.2.2.2
 unfold ex
 generalize x / 2 ^ (fp f - 1) = v at *
 rw [ysY _ (by omega), yfr (by omega) (by omega), yso _ _ (by omega) (by omega), show 2 * fe f + 1 = 2 ^ (fw f - fp f) - 1 from by rw [← yo2 f h]; omega, Nat.and_two_pow_sub_one_eq_mod, ← yo2 f h]
theorem yeH (f x : Nat) (h : f ≤ 3) (hx : x < 2 ^ fw f) (K : Bool → Int → (Nat → Int) → Prop) (hK : K (ng f x) (ex f x) (W (fr f x))) : zba f (Hi x) (Lo x) K := by
 have hw := yct f h
 rw [zba.is]; unfold zba.d
 rw [yeE x (ytc h hx), yaI f h, ybe f h, ypa f h, yrt f h]
 refine yd4 _ (by omega) _ ?_
 refine yeR _ _ (xQ6 h hx) _ ?_
 refine yif _ _ (xQ6 h hx) (by omega) _ fun b => ?_
 rw [ydt x _ (by omega)]
 have e1 : yan IntKind.i64 (ybD IntKind.i64 1 (cvI IntKind.u64 (yan IntKind.i64 (fw f : Int) (fp f : Int)))) 1 = ((2 * fe f + 1 : Nat) : Int) := by rcases yeq h with rfl | rfl | rfl | rfl <;> decide
 have e2 : (!ltI (cvI IntKind.u64 (yan IntKind.i64 (fw f : Int) (fp f : Int))) 0) = true := by rcases yeq h with rfl | rfl | rfl | rfl <;> decide
 rw [yby e2, e1, ys0 f x h hx, Nat.and_two_pow_sub_one_eq_mod]
 exact hK
theorem ygf (f x : Nat) (h : f ≤ 3) (hx : x < 2 ^ fw f) (K : Bool → Prop) : zav f (Hi x) (Lo x) K = K (ng f x) := by
 rw [zav.is]; unfold zav.d
 have hw := yct f h
 rw [ydC f x h (ytc h hx), yaA (by simpa using hx), yeE x (ytc h hx), ybe f h, yrt f h, ydt x _ (by omega)]
 rfl
def cls (f x : Nat) : Int :=
 if ex f x = 2 * fe f + 1 then (if fr f x ≠ 0 then cond ((fr f x).testBit (fp f - 2)) 9 8 else cond (ng f x) 0 7)
 else if ex f x ≠ 0 then cond (ng f x) 1 6 else if fr f x ≠ 0 then cond (ng f x) 2 5 else cond (ng f x) 3 4
theorem yld (f x : Nat) : 0 ≤ cls f x ∧ cls f x ≤ 9 := by
 unfold cls
 cases ng f x <;> cases (fr f x).testBit (fp f - 2) <;> simp only [cond_true, cond_false] <;> (repeat' split) <;> omega
theorem yqt (x : Nat) (hx : x < Q6) : eqN 6 (W x) (fun _ => 0) = decide (x = 0) := by
 rw [Bool.eq_iff_iff, yoZ, decide_eq_true_iff]
 constructor
 ·intro h
  obtain ⟨n, hn⟩ : ∃ n : Nat, n = 6 := ⟨6, rfl⟩
  refine yrn (n := n) (by rw [yfv (by omega)]; exact hx) (Nat.two_pow_pos _) fun i hi => ?_
  rw [hn] at hi
  have := h i hi
  rw [ybc] at this
  rw [ycG 0 i (Nat.two_pow_pos _)]; omega
 ·intro h i hi; subst h; rw [W_zero]
theorem yf7 (b : Bool) (K : Int → Prop) (x y : Int) : br b (K x) (K y) = K (cond b x y) := by cases b <;> rfl
theorem ytn (f : Nat) (h : f ≤ 3) : yaj .i64 (ybY .i64 2 (fe f : Int)) 1 = ((2 * fe f + 1 : Nat) : Int) := by rcases yeq h with rfl | rfl | rfl | rfl <;> decide
theorem yux (f x : Nat) (h : f ≤ 3) : fr f x < Q6 := yr2 (by have := yct f h; omega) (yl4 f x)
theorem yfI (f x : Nat) (h : f ≤ 3) (hx : x < 2 ^ fw f) (K : Int → Prop) (hK : K (cls f x)) : zaz f (Hi x) (Lo x) K := by
 have hw := yct f h
 rw [zaz.is]; unfold zaz.d
 refine yeH f x h hx _ ?_
 rw [ybo f h, ybo f h, ytn f h, yhi, yqt _ (yux f x h), show (0 : Int) = ((0 : Nat) : Int) from rfl, yhi, yaI f h, yuu f h, ydt _ _ (by omega)]
 unfold cls at hK
 by_cases h1 : ex f x = 2 * fe f + 1
 ·rw [if_pos h1] at hK
  rw [yaA (by simpa using h1)]
  by_cases h2 : fr f x = 0
  ·rw [if_neg (by simpa using h2)] at hK
   have h3 : ex f x ≠ 0 := by omega
   rw [yau (by simpa using h2), yaA (by simpa using h3), yaA (by simpa using h2), yaA (by simpa using h1), yf7]; exact hK
  ·rw [if_pos h2] at hK
   rw [yaA (by simpa using h2), yf7]; exact hK
 ·rw [if_neg h1] at hK
  rw [yau (by simpa using h1)]
  by_cases h3 : ex f x = 0
  ·rw [if_neg (by simpa using h3)] at hK
   rw [yau (by simpa using h3), yau (by simpa using h3)]
   by_cases h2 : fr f x = 0
   ·rw [if_neg (by simpa using h2)] at hK
    rw [yau (by simpa using h2), yf7]; exact hK
   ·rw [if_pos h2] at hK
    rw [yaA (by simpa using h2), yf7]; exact hK
  ·rw [if_pos h3] at hK
   rw [yaA (by simpa using h3)]
   by_cases h2 : fr f x = 0
   ·rw [yaA (by simpa using h2), yau (by simpa using h1), yaA (by simpa using h3), yf7]; exact hK
   ·rw [yau (by simpa using h2), yaA (by simpa using h3), yf7]; exact hK
theorem yjL (f x : Nat) (h : f ≤ 3) (hx : x < 2 ^ fw f) (K : Int → Int → Prop) (hK : K (cls f x) 0) : zat f (Hi x) (Lo x) K := by
 rw [zat.is]; unfold zat.d
 rw [ydC f x h (ytc h hx), yau (by simpa using hx)]
 exact yfI f x h hx _ hK
end Go.Ev.S

/- The plain law of ShapeMakes, and that of ShapeNumbers. -/
set_option linter.unusedVariables false
set_option linter.unusedSimpArgs false
set_option maxRecDepth 8000
namespace Go.Ev.S
open Go Go.Ev
theorem yrO {a : Int} (w : (Lit.int .u8 a).wf = true) : ∃ n : Nat, a = n ∧ n < 256 := by
 obtain ⟨h1, h2⟩ := yry w
 exact ⟨a.toNat, by omega, by omega⟩
end Go.Ev.S

/- The law RoundOver. -/
set_option linter.unusedVariables false
set_option linter.unusedSimpArgs false
set_option maxRecDepth 8000
namespace Go.Ev.S
open Go Go.Ev
theorem yjY (m : Nat) (h : m ≤ 4) (K : Int → Prop) : zdo m K = K 0 := by
 rw [zdo.is]; unfold zdo.d; rw [yau (ybq (by omega))]
def gr (m : Nat) (n : Bool) : Bool := m == 1 || (m == 2 && !n) || (m == 3 && n)
def ov (f m : Nat) (n : Bool) : Nat := cond (gr m n) (enc f n (2 * fe f) (2 ^ (fp f - 1) - 1)) (enc f n (2 * fe f + 1) 0)
theorem ysg {m : Nat} (h : m ≤ 4) : m = 0 ∨ m = 1 ∨ m = 2 ∨ m = 3 ∨ m = 4 := by omega
end Go.Ev.S

/- Digits of natural numbers, as rows have them; texts of bytes as numbers. -/
set_option linter.unusedVariables false
set_option linter.unusedSimpArgs false
namespace Go.Ev.S
open Go Go.Ev
def dg (k x i : Nat) : Nat := x / 2 ^ (k * i) % 2 ^ k
def G (k x : Nat) : Nat → Int := fun i => ((dg k x i : Nat) : Int)
theorem ya6 (k x i : Nat) : G k x i = ((dg k x i : Nat) : Int) := rfl
theorem ycs (k i : Nat) : 2 ^ (k * (i + 1)) = 2 ^ (k * i) * 2 ^ k := by rw [show k * (i + 1) = k * i + k from by rw [Nat.mul_add, Nat.mul_one], Nat.pow_add]
theorem ya4 (k x i : Nat) : dg k x i < 2 ^ k := Nat.mod_lt _ (Nat.two_pow_pos k)
theorem ydy (k x i : Nat) (h : x < 2 ^ (k * i)) : dg k x i = 0 := by unfold dg; rw [Nat.div_eq_of_lt h, Nat.zero_mod]
theorem ydH {k i j : Nat} (h : i ≤ j) : 2 ^ (k * i) ≤ 2 ^ (k * j) := Nat.pow_le_pow_right (by omega) (Nat.mul_le_mul_left k h)
theorem yd7 (k x n i : Nat) (h : x < 2 ^ (k * n)) (hi : n ≤ i) : dg k x i = 0 := ydy k x i (Nat.lt_of_lt_of_le h (ydH hi))
theorem ycy (k : Nat) : G k 0 = fun _ => 0 := by
 funext i
 rw [ya6, ydy k 0 i (Nat.two_pow_pos _)]; rfl
theorem ybg (k x i : Nat) : x % 2 ^ (k * (i + 1)) = x % 2 ^ (k * i) + dg k x i * 2 ^ (k * i) := by
 unfold dg
 rw [ycs, Nat.mod_mul, Nat.mul_comm (2 ^ (k * i))]
theorem ydc (k x i : Nat) : x / 2 ^ (k * i) = dg k x i + x / 2 ^ (k * (i + 1)) * 2 ^ k := by
 unfold dg
 rw [ycs, ← Nat.div_div_eq_div_mul]
 have := Nat.div_add_mod (x / 2 ^ (k * i)) (2 ^ k)
 rw [Nat.mul_comm] at this
 omega
theorem yk4 (k x i j : Nat) : dg k (x / 2 ^ (k * i)) j = dg k x (i + j) := by
 unfold dg
 rw [Nat.div_div_eq_div_mul, ← Nat.pow_add, Nat.mul_add]
theorem yna (k x i j : Nat) (h : j < i) : dg k (x % 2 ^ (k * i)) j = dg k x j := by
 unfold dg
 have h1 : 2 ^ (k * i) = 2 ^ (k * j) * (2 ^ k * 2 ^ (k * (i - j - 1))) := by
  rw [← Nat.pow_add, ← Nat.pow_add]; congr 1
  have : i = j + (1 + (i - j - 1)) := by omega
  conv => lhs; rw [this]
  rw [Nat.mul_add, Nat.mul_add, Nat.mul_one]
 rw [h1, Nat.mod_mul_right_div_self, Nat.mod_mul_right_mod]
theorem ysl (k x : Nat) (h : x < 2 ^ k) : dg k x 0 = x := by unfold dg; rw [Nat.mul_zero, Nat.pow_zero, Nat.div_one, Nat.mod_eq_of_lt h]
theorem yoS (k z w i j : Nat) (hz : z < 2 ^ (k * i)) (hw : w < 2 ^ k) : dg k (z + w * 2 ^ (k * i)) j = if j = i then w else dg k z j := by
 have hP := Nat.two_pow_pos (k * i)
 by_cases hj : j = i
 ·subst hj
  rw [if_pos rfl]
  unfold dg
  rw [Nat.add_mul_div_right _ _ hP, Nat.div_eq_of_lt hz, Nat.zero_add, Nat.mod_eq_of_lt hw]
 ·rw [if_neg hj]
  by_cases hlt : j < i
  ·have h1 := yna k (z + w * 2 ^ (k * i)) i j hlt
   rw [Nat.add_mul_mod_self_right, Nat.mod_eq_of_lt hz] at h1
   exact h1.symm
  ·rw [yd7 k z i j hz (by omega), ydy]
   have h1 : z + w * 2 ^ (k * i) < 2 ^ (k * (i + 1)) := by
    rw [ycs, Nat.mul_comm (2 ^ (k * i))]
    have : (w + 1) * 2 ^ (k * i) ≤ 2 ^ k * 2 ^ (k * i) := Nat.mul_le_mul_right _ hw
    rw [Nat.add_mul, Nat.one_mul] at this
    omega
   exact Nat.lt_of_lt_of_le h1 (ydH (by omega))
theorem yiy (k z w i : Nat) (hz : z < 2 ^ (k * i)) (hw : w < 2 ^ k) : z + w * 2 ^ (k * i) < 2 ^ (k * (i + 1)) := by
 rw [ycs, Nat.mul_comm (2 ^ (k * i))]
 have : (w + 1) * 2 ^ (k * i) ≤ 2 ^ k * 2 ^ (k * i) := Nat.mul_le_mul_right _ hw
 rw [Nat.add_mul, Nat.one_mul] at this
 omega
theorem ykd (k z w i : Nat) (hz : z < 2 ^ (k * i)) (hw : w < 2 ^ k) : upd (G k z) i (w : Int) = G k (z + w * 2 ^ (k * i)) := by
 funext j
 rw [ya6, yoS k z w i j hz hw]
 by_cases hj : j = i
 ·subst hj; rw [yb2, if_pos rfl]
 ·rw [ycI _ _ _ _ hj, if_neg hj, ya6]
theorem yg0 (k x i : Nat) : x = x % 2 ^ (k * i) + dg k x i * 2 ^ (k * i) + x / 2 ^ (k * (i + 1)) * 2 ^ (k * (i + 1)) := by
 have h1 := Nat.div_add_mod x (2 ^ (k * (i + 1)))
 rw [ybg, Nat.mul_comm] at h1
 omega
theorem ysE (k x w i j : Nat) (hw : w < 2 ^ k) : dg k (x % 2 ^ (k * i) + w * 2 ^ (k * i) + x / 2 ^ (k * (i + 1)) * 2 ^ (k * (i + 1))) j = if j = i then w else dg k x j := by
 have hP := Nat.two_pow_pos (k * i)
 have hr : x % 2 ^ (k * i) < 2 ^ (k * i) := Nat.mod_lt _ hP
 have hl := yiy k _ w i hr hw
 by_cases hj : j ≤ i
 ·have h1 := yna k (x % 2 ^ (k * i) + w * 2 ^ (k * i) + x / 2 ^ (k * (i + 1)) * 2 ^ (k * (i + 1))) (i + 1) j (by omega)
  rw [Nat.add_mul_mod_self_right, Nat.mod_eq_of_lt hl, yoS k _ w i j hr hw] at h1
  rw [← h1]
  by_cases he : j = i
  ·simp [he]
  ·rw [if_neg he, if_neg he, yna k x i j (by omega)]
 ·rw [if_neg (by omega)]
  have h1 := yk4 k (x % 2 ^ (k * i) + w * 2 ^ (k * i) + x / 2 ^ (k * (i + 1)) * 2 ^ (k * (i + 1))) (i + 1) (j - (i + 1))
  rw [show i + 1 + (j - (i + 1)) = j from by omega, Nat.add_mul_div_right _ _ (Nat.two_pow_pos _), Nat.div_eq_of_lt hl, Nat.zero_add] at h1
  rw [← h1, yk4, show i + 1 + (j - (i + 1)) = j from by omega]
theorem yrZ (k x w i : Nat) (hw : w < 2 ^ k) : upd (G k x) i (w : Int) = G k (x % 2 ^ (k * i) + w * 2 ^ (k * i) + x / 2 ^ (k * (i + 1)) * 2 ^ (k * (i + 1))) := by
 funext j
 rw [ya6, ysE k x w i j hw]
 by_cases hj : j = i
 ·subst hj; rw [yb2, if_pos rfl]
 ·rw [ycI _ _ _ _ hj, if_neg hj, ya6]
def val (a : List UInt8) : Nat := a.foldl (fun v b => v * 256 + b.toNat) 0
theorem ykP (a : List UInt8) : ∀ (v : Nat), a.foldl (fun v b => v * 256 + b.toNat) v = v * 256 ^ a.length + val a := by
 induction a with
 | nil => intro v; simp [val]
 | cons b l ih =>
  intro v
  simp only [List.foldl_cons, List.length_cons, val]
  rw [ih, ih (0 * 256 + b.toNat), Nat.pow_succ]
  rw [Nat.add_mul, Nat.add_mul, Nat.mul_assoc, Nat.mul_comm 256]
  omega
theorem yfZ : val [] = 0 := rfl
theorem yg4 (b : UInt8) (l : List UInt8) : val (b :: l) = b.toNat * 256 ^ l.length + val l := by
 show (b :: l).foldl _ 0 = _
 rw [List.foldl_cons, ykP, Nat.zero_mul, Nat.zero_add]
theorem yn4 (a b : List UInt8) : val (a ++ b) = val a * 256 ^ b.length + val b := by
 show (a ++ b).foldl _ 0 = _
 rw [List.foldl_append, ykP]
 rfl
theorem ymN (a : List UInt8) (b : UInt8) : val (a ++ [b]) = val a * 256 + b.toNat := by
 rw [yn4]; simp [val]
theorem ypf (b : UInt8) : b.toNat < 256 := b.toNat_lt
theorem ygi (a : List UInt8) : val a < 256 ^ a.length := by
 induction a with
 | nil => simp [val]
 | cons b l ih =>
  rw [yg4, List.length_cons, Nat.pow_succ]
  have := ypf b
  have : (b.toNat + 1) * 256 ^ l.length ≤ 256 * 256 ^ l.length := Nat.mul_le_mul_right _ (by omega)
  rw [Nat.add_mul] at this
  omega
theorem ynU (n : Nat) : 256 ^ n = 2 ^ (8 * n) := by rw [Nat.pow_mul]
def nb (x : Nat) : List UInt8 := if h : x = 0 then [] else nb (x / 256) ++ [UInt8.ofNat (x % 256)]
decreasing_by omega
theorem yaJ : nb 0 = [] := by rw [nb]; simp
theorem ydL {x : Nat} (h : x ≠ 0) : nb x = nb (x / 256) ++ [UInt8.ofNat (x % 256)] := by rw [nb]; simp [h]
theorem ymQ {n : Nat} (h : n < 256) : (UInt8.ofNat n).toNat = n := by
 rw [UInt8.toNat_ofNat']
 exact Nat.mod_eq_of_lt h
theorem yaZ (x : Nat) : val (nb x) = x := by
 induction x using Nat.strongRecOn with
 | _ x ih =>
  by_cases h : x = 0
  ·subst h; rw [yaJ]; rfl
  ·rw [ydL h, ymN, ih (x / 256) (by omega), ymQ (Nat.mod_lt _ (by omega))]
   omega
def yiR (a : List UInt8) : Bool := match a with | [] => true | b :: _ => !(b.toNat == 0)
theorem yhn {a b : List UInt8} (h : a ≠ []) : yiR (a ++ b) = yiR a := by cases a <;> simp_all [yiR]
theorem yma (x : Nat) : yiR (nb x) = true := by
 induction x using Nat.strongRecOn with
 | _ x ih =>
  by_cases h : x = 0
  ·subst h; rw [yaJ]; rfl
  ·rw [ydL h]
   by_cases h2 : x / 256 = 0
   ·rw [h2, yaJ]
    have : x % 256 ≠ 0 := by omega
    have h3 := ymQ (Nat.mod_lt x (show 0 < 256 by omega))
    simp only [List.nil_append, yiR, h3]
    simpa using this
   ·have hne : nb (x / 256) ≠ [] := by rw [ydL h2]; simp
    rw [yhn hne]
    exact ih _ (by omega)
theorem yi9 {a : List UInt8} (h : yiR a = true) : nb (val a) = a := by
 induction hn : a.length generalizing a with
 | zero => have := List.length_eq_zero_iff.1 hn; subst this; exact yaJ
 | succ n ih =>
  have hne : a ≠ [] := by intro e; subst e; simp at hn
  have h1 := List.dropLast_concat_getLast hne
  generalize a.dropLast = c at h1
  generalize a.getLast hne = b at h1
  subst h1
  have hlen : c.length = n := by simpa using hn
  have hb := ypf b
  rw [ymN]
  by_cases hc : c = []
  ·subst hc
   have : b.toNat ≠ 0 := by simpa [yiR] using h
   rw [yfZ, Nat.zero_mul, Nat.zero_add, ydL this, Nat.div_eq_of_lt hb, yaJ, Nat.mod_eq_of_lt hb]
   simp
  ·rw [yhn hc] at h
   have ihc := ih h hlen
   have hv : val c ≠ 0 := by
    intro e
    rw [e, yaJ] at ihc
    exact hc ihc.symm
   rw [ydL (by omega), show (val c * 256 + b.toNat) / 256 = val c from by omega, show (val c * 256 + b.toNat) % 256 = b.toNat from by omega, ihc]
   simp
theorem ytb {x y : Nat} (h : nb x = nb y) : x = y := by rw [← yaZ x, h, yaZ]
theorem ysi {a b : List UInt8} (ha : yiR a = true) (hb : yiR b = true) (h : val a = val b) : a = b := by rw [← yi9 ha, h, yi9 hb]
theorem ya7 (x n : Nat) : (nb x).length ≤ n ↔ x < 256 ^ n := by
 induction n generalizing x with
 | zero =>
  constructor
  ·intro h
   have : nb x = [] := List.length_eq_zero_iff.1 (by omega)
   have h2 := yaZ x
   rw [this] at h2
   simp [val] at h2 ⊢; omega
  ·intro h
   have : x = 0 := by simp at h; omega
   subst this; rw [yaJ]; simp
 | succ n ih =>
  by_cases h : x = 0
  ·subst h; rw [yaJ]; simp [Nat.pow_pos]
  ·rw [ydL h, List.length_append, List.length_singleton, Nat.pow_succ]
   have := ih (x / 256)
   rw [Nat.div_lt_iff_lt_mul (by omega)] at this
   omega
theorem ypv {x : Nat} (h : x ≠ 0) : nb x ≠ [] := by rw [ydL h]; simp
theorem yi3 {x : Nat} (h : x ≠ 0) : 0 < (nb x).length := by rw [ydL h]; simp
theorem ynD (a : List UInt8) : ∀ (i : Nat), i < a.length → ((a[a.length - 1 - i]?).getD 0).toNat = dg 8 (val a) i := by
 induction a with
 | nil => intro i hi; simp at hi
 | cons b l ih =>
  intro i hi
  rw [List.length_cons] at hi ⊢
  have hl := ygi l
  rw [ynU] at hl
  rw [yg4, ynU, Nat.add_comm (b.toNat * _)]
  have h2 := yoS 8 (val l) b.toNat l.length i hl (by have := ypf b; simpa using this)
  rw [h2]
  by_cases he : i = l.length
  ·subst he
   rw [if_pos rfl, show l.length + 1 - 1 - l.length = 0 from by omega]
   rfl
  ·rw [if_neg he, show l.length + 1 - 1 - i = (l.length - 1 - i) + 1 from by omega, List.getElem?_cons_succ]
   exact ih i (by omega)
end Go.Ev.S

/- Rows of digits: a digit set, carried, cut; bytes the highest first. Whole numbers of the machine, plainly. -/
set_option linter.unusedVariables false
set_option linter.unusedSimpArgs false
namespace Go.Ev.S
open Go Go.Ev
theorem yaD (p : Prop) : gd true p = p := rfl
theorem ya3 (p q : Prop) : br true p q = p := rfl
theorem yel (p q : Prop) : br false p q = q := rfl
theorem ycd {a b : Int} (h : 0 ≤ a) (h2 : a < 9223372036854775808) (hb : 0 < b) : yaG .i64 a b = a / b := by
 show IntKind.wrap .i64 (a.tdiv b) = _
 rw [Int.tdiv_eq_ediv_of_nonneg h]
 have h1 : 0 ≤ a / b := Int.ediv_nonneg h (by omega)
 have h3 : a / b ≤ a := Int.ediv_le_self _ h
 exact yd0 (by omega) (by omega)
theorem yhL {k : IntKind} {a b : Int} (h : 0 ≤ a) : ycg k a b = a % b := Int.tmod_eq_emod_of_nonneg h
theorem ybu (n : Int) : cvI .u32 n = n % 4294967296 := ym2 n
theorem ynh (n : Int) : cvI .u8 n = n % 256 := ypc n
theorem yf6 {k : IntKind} {a : Int} {j : Nat} (h : j ≤ k.bits) : yaP k a (j : Int) = a / 2 ^ j := by
 have h1 : min (Int.toNat (j : Int)) k.bits = j := by rw [Int.toNat_natCast]; omega
 simp only [yaP, h1]
 exact Int.fdiv_eq_ediv_of_nonneg _ (Int.le_of_lt (Int.pow_pos (by omega)))
theorem yb7 (a : Int) : yaP .u64 a 32 = a / 4294967296 := yf6 (k := .u64) (j := 32) (by decide)
theorem yfY (a : Int) : yaP .i64 a 32 = a / 4294967296 := yf6 (k := .i64) (j := 32) (by decide)
theorem yp9 (a : Int) : yaP .i64 a 8 = a / 256 := yf6 (k := .i64) (j := 8) (by decide)
theorem ymy {a b : Int} (h : 0 ≤ a * b) (h2 : a * b < 18446744073709551616) : ybY .u64 a b = a * b := yhC h h2
theorem ygF {k N N' w j : Nat} (h : N' + dg k N j * 2 ^ (k * j) = N + w * 2 ^ (k * j)) (hw : w < 2 ^ k) : upd (G k N) j (w : Int) = G k N' := by
 rw [yrZ k N w j hw]
 congr 1
 have := yg0 k N j
 omega
theorem ysD (g : Nat → Int) (i : Nat) (v w : Int) (h : v = w) : upd g i v = upd g i w := by rw [h]
def wl (k x : Nat) : Nat := if h : x = 0 ∨ k = 0 then 0 else wl k (x / 2 ^ k) + 1
termination_by x
decreasing_by
 have hk : 1 < 2 ^ k := Nat.one_lt_two_pow (by omega)
 exact Nat.div_lt_self (by omega) hk
theorem ydF (k : Nat) : wl k 0 = 0 := by rw [wl]; simp
theorem yiV {k x : Nat} (hx : x ≠ 0) (hk : k ≠ 0) : wl k x = wl k (x / 2 ^ k) + 1 := by rw [wl]; simp [hx, hk]
theorem ye3 (k : Nat) (hk : k ≠ 0) (x : Nat) : x < 2 ^ (k * wl k x) := by
 induction x using Nat.strongRecOn with
 | _ x ih =>
  by_cases h : x = 0
  ·subst h; exact Nat.two_pow_pos _
  ·rw [yiV h hk, ycs]
   have := ih (x / 2 ^ k) (Nat.div_lt_self (by omega) (Nat.one_lt_two_pow hk))
   exact (Nat.div_lt_iff_lt_mul (Nat.two_pow_pos k)).1 this
theorem yd3 (k : Nat) (hk : k ≠ 0) (x n : Nat) : wl k x ≤ n ↔ x < 2 ^ (k * n) := by
 constructor
 ·intro h; exact Nat.lt_of_lt_of_le (ye3 k hk x) (ydH h)
 ·induction n generalizing x with
  | zero =>
   intro h
   have : x = 0 := by simp at h; omega
   subst this; rw [ydF]; omega
  | succ n ih =>
   intro h
   by_cases hx : x = 0
   ·subst hx; rw [ydF]; omega
   ·rw [yiV hx hk]
    have := ih (x / 2 ^ k) (by rw [Nat.div_lt_iff_lt_mul (Nat.two_pow_pos k), ← ycs]; exact h)
    omega
theorem ynH (k : Nat) (hk : k ≠ 0) (x : Nat) (h : x ≠ 0) : dg k x (wl k x - 1) ≠ 0 := by
 intro he
 have h1 := ye3 k hk x
 have hp : wl k x ≠ 0 := by rw [yiV h hk]; omega
 have h2 := ybg k x (wl k x - 1)
 rw [show wl k x - 1 + 1 = wl k x from by omega, Nat.mod_eq_of_lt h1, he, Nat.zero_mul, Nat.add_zero] at h2
 have h3 : x < 2 ^ (k * (wl k x - 1)) := by
  have := Nat.mod_lt x (Nat.two_pow_pos (k * (wl k x - 1)))
  omega
 have := (yd3 k hk x _).2 h3
 omega
theorem yug (k : Nat) (hk : k ≠ 0) (x n : Nat) (h : x < 2 ^ (k * n)) (ht : n = 0 ∨ dg k x (n - 1) ≠ 0) : wl k x = n := by
 have h1 := (yd3 k hk x n).2 h
 rcases ht with rfl | ht
 ·omega
 ·apply Classical.byContradiction
  intro hne
  exact ht (ydy k x (n - 1) ((yd3 k hk x (n - 1)).1 (by omega)))
theorem yul (x : Nat) : wl 8 x = (nb x).length := by
 have h1 := (yd3 8 (by omega) x (nb x).length).2 (by rw [← ynU]; exact (ya7 x _).1 (Nat.le_refl _))
 have h2 := (ya7 x (wl 8 x)).2 (by rw [ynU]; exact ye3 8 (by omega) x)
 omega
theorem ybU {k x y : Nat} (hk : k ≠ 0) (h : x ≤ y) : wl k x ≤ wl k y := (yd3 k hk x _).2 (Nat.lt_of_le_of_lt h (ye3 k hk y))
theorem yq5 : ∀ (n x : Nat) (g : Nat → Int), (∀ j, j < n → g j = (dg 8 x (n - 1 - j) : Int)) → x < 2 ^ (8 * n) → (n = 0 ∨ dg 8 x (n - 1) ≠ 0) → ybA n g = nb x := by
 intro n
 induction n with
 | zero =>
  intro x g _ hx _
  have : x = 0 := by simp at hx; omega
  subst this; rw [yaJ]; rfl
 | succ n ih =>
  intro x g hg hx ht
  have hx0 : x ≠ 0 := by
   intro e; subst e
   rcases ht with h | h
   ·omega
   ·exact h (ydy 8 0 _ (Nat.two_pow_pos _))
  have e8 : (2 : Nat) ^ 8 = 256 := rfl
  have hd : ∀ j, dg 8 (x / 256) j = dg 8 x (1 + j) := fun j => by
   have := yk4 8 x 1 j
   rwa [show 2 ^ (8 * 1) = 256 from rfl] at this
  have h1 : ybA n g = nb (x / 256) := by
   refine ih (x / 256) g (fun j hj => ?_) ?_ ?_
   ·rw [hg j (by omega), hd]; congr 2; omega
   ·rw [Nat.div_lt_iff_lt_mul (by omega)]; rw [ycs, e8] at hx; exact hx
   ·rcases Nat.eq_zero_or_pos n with h | h
    ·exact .inl h
    ·right
     rw [hd, show 1 + (n - 1) = n + 1 - 1 from by omega]
     exact ht.resolve_left (by omega)
  have h2 : ybA (n + 1) g = ybA n g ++ [UInt8.ofNat (g n).toNat] := by
   unfold ybA
   rw [List.range_succ, List.map_append]; rfl
  rw [h2, h1, ydL hx0, hg n (by omega), Int.toNat_natCast, show n + 1 - 1 - n = 0 from by omega]
  congr 2
  unfold dg
  rw [Nat.mul_zero, Nat.pow_zero, Nat.div_one]
theorem ymG (n o : Nat) (g : Nat → Int) : ybA n (shift o g) = ybA n (fun j => g (o + j)) := by
 unfold ybA
 refine List.map_congr_left fun i _ => ?_
 rw [yb8]
def BE (L i x : Nat) : Nat → Int := fun j => if L - i ≤ j ∧ j < L then (dg 8 x (L - 1 - j) : Int) else 0
theorem yo6 (L x : Nat) : BE L 0 x = fun _ => 0 := by
 funext j; unfold BE; rw [if_neg (by omega)]
theorem yph (L i x : Nat) (hi : i < L) : upd (BE L i x) (L - 1 - i) (dg 8 x i : Int) = BE L (i + 1) x := by
 funext j
 by_cases hj : j = L - 1 - i
 ·subst hj
  rw [yb2]; unfold BE
  rw [if_pos (by omega), show L - 1 - (L - 1 - i) = i from by omega]
 ·rw [ycI _ _ _ _ hj]; unfold BE
  by_cases h : L - i ≤ j ∧ j < L
  ·rw [if_pos h, if_pos (by omega)]
  ·rw [if_neg h, if_neg (by omega)]
theorem ytz (L x j : Nat) (hj : j < L) : BE L L x j = (dg 8 x (L - 1 - j) : Int) := by unfold BE; rw [if_pos (by omega)]
theorem ynC (L o n x : Nat) (ho : o + n = L) (hx : x < 2 ^ (8 * n)) (ht : n = 0 ∨ dg 8 x (n - 1) ≠ 0) : ybA n (fun j => BE L L x (o + j)) = nb x := by
 refine yq5 n x _ (fun j hj => ?_) hx ht
 rw [ytz L x _ (by omega)]; congr 2; omega
end Go.Ev.S

/- Natural numbers as rows of words: made of texts, told as texts, cut, held against each other. -/
set_option linter.unusedVariables false
set_option linter.unusedSimpArgs false
set_option maxRecDepth 8000
namespace Go.Ev.S
open Go Go.Ev
theorem ysx {k : IntKind} (hk : k.signed = false) (a b : Nat) (ha : a < 2 ^ k.bits) (hb : b < 2 ^ k.bits) : orI k a b = ((a ||| b : Nat) : Int) := by
 have h3 : a ||| b < 2 ^ k.bits := Nat.or_lt_two_pow ha hb
 show IntKind.wrap k (((BitVec.ofInt k.bits (a : Int) ||| BitVec.ofInt k.bits (b : Int) : BitVec k.bits).toNat : Nat) : Int) = _
 rw [BitVec.toNat_or, BitVec.ofInt_natCast, BitVec.ofInt_natCast, BitVec.toNat_ofNat, BitVec.toNat_ofNat, Nat.mod_eq_of_lt ha, Nat.mod_eq_of_lt hb]
 simp only [IntKind.wrap, hk]
 have : ((a ||| b : Nat) : Int) % 2 ^ k.bits = ((a ||| b : Nat) : Int) := by
  refine Int.emod_eq_of_lt (by omega) ?_
  have e : ((2 ^ k.bits : Nat) : Int) = (2 : Int) ^ k.bits := by simp
  rw [← e]; omega
 simpa using this
theorem yoH {k : IntKind} (hk : k.signed = false) (a s : Nat) (hs : s ≤ k.bits) : ybD k a s = ((a * 2 ^ s % 2 ^ k.bits : Nat) : Int) := by
 have h1 : min (Int.toNat (s : Int)) k.bits = s := by rw [Int.toNat_natCast]; omega
 simp only [ybD, h1, IntKind.wrap, hk]
 simp
theorem yq8 (d b s : Nat) (hd : d < 2 ^ s) (hs : s + 8 ≤ 32) (hb : b < 256) : orI .u32 (d : Int) (ybD .u32 (b : Int) (s : Int)) = ((d + b * 2 ^ s : Nat) : Int) := by
 have hP := Nat.two_pow_pos s
 have e32 : (2 : Nat) ^ 32 = 4294967296 := rfl
 have h1 : b * 2 ^ s + 2 ^ s ≤ 2 ^ 32 := by
  have h2 : (b + 1) * 2 ^ s ≤ 256 * 2 ^ s := Nat.mul_le_mul_right _ (by omega)
  have h3 : 256 * 2 ^ s ≤ 2 ^ 32 := by
   rw [show (256 : Nat) = 2 ^ 8 from rfl, ← Nat.pow_add]; exact Nat.pow_le_pow_right (by omega) (by omega)
  rw [Nat.add_mul] at h2; omega
 rw [yoH (k := .u32) rfl b s (by simp [IntKind.bits]; omega)]
 have hb32 : IntKind.bits .u32 = 32 := rfl
 rw [hb32, Nat.mod_eq_of_lt (by omega), ysx (k := .u32) rfl _ _ (by rw [hb32]; omega) (by rw [hb32]; omega)]
 congr 1
 have := Nat.shiftLeft_add_eq_or_of_lt hd b
 rw [Nat.shiftLeft_eq] at this
 rw [Nat.or_comm, ← this]; omega
theorem yfd (a : List UInt8) (i : Nat) (hi : i < a.length) : ybj a (a.length - 1 - i) = (dg 8 (val a) i : Int) := by
 unfold ybj
 rw [ynD a i hi]
def May (a : List UInt8) : Prop := a.length ≤ 16384 ∧ yiR a = true
instance (a : List UInt8) : Decidable (May a) := inferInstanceAs (Decidable (_ ∧ _))
theorem ybi (a : List UInt8) : eqS a [] = decide (a = []) := by cases a <;> simp [eqS]
theorem ydm (b : UInt8) (l : List UInt8) : ybj (b :: l) 0 = (b.toNat : Int) := rfl
theorem ya0 (a : List UInt8) (K : Int → Prop) : zbg a K = K (if May a then 0 else 2) := by
 rw [zbg.is]; unfold zbg.d
 by_cases h : a.length ≤ 16384
 ·rw [yau (ybq (by omega)), ybi]
  cases a with
  | nil => rw [yau (by simp), if_pos ⟨by simp, rfl⟩]
  | cons b l =>
   have hl : (0 : Int) < ((b :: l).length : Int) := by simp only [List.length_cons]; omega
   rw [yaA (by simp), yby (ya9 hl), ydm]
   by_cases hb : b.toNat = 0
   ·rw [yaA (yhy (by omega)), if_neg]
    intro hm; have := hm.2; simp [yiR, hb] at this
   ·rw [yau (yfN (by omega)), if_pos ⟨h, by simpa [yiR] using hb⟩]
 ·rw [yaA (ya9 (by omega)), if_neg fun hm => h hm.1]
theorem ynz (k x q s : Nat) (h : x < 2 ^ (k * q + s)) : dg k x q < 2 ^ s := by
 unfold dg
 refine Nat.lt_of_le_of_lt (Nat.mod_le _ _) ?_
 rw [Nat.div_lt_iff_lt_mul (Nat.two_pow_pos _), ← Nat.pow_add, Nat.add_comm s]
 exact h
theorem yis (a : List UInt8) (hL : a.length ≤ 1000000) (n : Nat) (hn : n = (a.length + 3) / 4) (c m : Nat) (k0 : Nat → Nat → Nat → (Nat → Int) → Prop) (h : k0 n c m (G 32 (val a))) :
  ∀ (j i : Nat), i + j = a.length → zci.l3 k0 (j + 1) a n c a.length i m (G 32 (val a % 2 ^ (8 * i))) := by
 intro j
 induction j with
 | zero =>
  intro i hi
  unfold zci.l3 zci.l3.step
  rw [yau (ybq (by omega)), Nat.mod_eq_of_lt (by have := ygi a; rw [ynU] at this; rwa [show i = a.length from by omega])]
  exact h
 | succ j ih =>
  intro i hi
  have ih := ih (i + 1) (by omega)
  have e : ((i + 1 : Nat) : Int) = (i : Int) + 1 := by omega
  rw [e] at ih
  unfold zci.l3 zci.l3.step
  simp (disch := omega) only [ycd, yhL, yat, yas, ycw, yaU, ya9, ybb, ybq, yaD, ya3, Bool.and_self, Bool.not_false]
  have e1 : Int.toNat ((i : Int) / 4) = i / 4 := by omega
  have e2 : Int.toNat ((a.length : Int) - 1 - i) = a.length - 1 - i := by omega
  have e3 : 8 * ((i : Int) % 4) = ((8 * (i % 4) : Nat) : Int) := by omega
  have hd := ya4 8 (val a) i
  have e8 : (2 : Nat) ^ 8 = 256 := rfl
  rw [e1, e2, e3, yfd a i (by omega), ybu, Int.emod_eq_of_lt (by omega) (by omega), ya6,
   yq8 _ _ _ (ynz 32 _ (i / 4) (8 * (i % 4)) (by rw [show 32 * (i / 4) + 8 * (i % 4) = 8 * i from by omega]; exact Nat.mod_lt _ (Nat.two_pow_pos _))) (by omega) (by omega)]
  rw [ygF (k := 32) (N' := val a % 2 ^ (8 * (i + 1)))]
  ·exact ih
  ·rw [ybg, Nat.add_mul, Nat.mul_assoc, ← Nat.pow_add, show 8 * (i % 4) + 32 * (i / 4) = 8 * i from by omega]; omega
  ·have h1 := ynz 32 (val a % 2 ^ (8 * i)) (i / 4) (8 * (i % 4)) (by rw [show 32 * (i / 4) + 8 * (i % 4) = 8 * i from by omega]; exact Nat.mod_lt _ (Nat.two_pow_pos _))
   have h2 : (dg 8 (val a) i + 1) * 2 ^ (8 * (i % 4)) ≤ 256 * 2 ^ (8 * (i % 4)) := Nat.mul_le_mul_right _ (by omega)
   have h3 : 256 * 2 ^ (8 * (i % 4)) ≤ 2 ^ 32 := by
    rw [show (256 : Nat) = 2 ^ 8 from rfl, ← Nat.pow_add]; exact Nat.pow_le_pow_right (by omega) (by omega)
   rw [Nat.add_mul] at h2
   omega
theorem ygx (a : List UInt8) (hL : a.length ≤ 1000000) (K : Nat → (Nat → Int) → Prop) (h : K ((a.length + 3) / 4) (G 32 (val a))) : zci a K := by
 rw [zci.is]; unfold zci.d
 simp (disch := omega) only [ycd, yas, ybb, yaD, Bool.and_self]
 have e1 : Int.toNat (((a.length : Int) + 3) / 4) = (a.length + 3) / 4 := by omega
 rw [e1]
 refine ⟨a.length + 1, ?_⟩
 have := yis a hL ((a.length + 3) / 4) rfl ((a.length + 3) / 4) ((a.length + 3) / 4) (fun y0 y1 y2 y3 => K y0 y3) h a.length 0 (by omega)
 rw [Nat.mul_zero, Nat.pow_zero, Nat.mod_one, ycy] at this
 exact this
theorem yj8 {x n : Nat} (hn : n ≠ 0) (hx : x < 2 ^ (32 * n)) : (dg 32 x (n - 1) = 0 → x < 2 ^ (32 * (n - 1))) ∧ (dg 32 x (n - 1) ≠ 0 → wl 32 x = n) := by
 refine ⟨fun h => ?_, fun h => yug 32 (by omega) x n hx (.inr h)⟩
 have h2 := ybg 32 x (n - 1)
 rw [show n - 1 + 1 = n from by omega, Nat.mod_eq_of_lt hx, h, Nat.zero_mul, Nat.add_zero] at h2
 have := Nat.mod_lt x (Nat.two_pow_pos (32 * (n - 1)))
 omega
theorem yie (k0 : Nat → (Nat → Int) → Prop) (x : Nat) (h : k0 (wl 32 x) (G 32 x)) : ∀ (n : Nat), n ≤ 1000000000 → x < 2 ^ (32 * n) → zbw.l1 k0 (n + 1) n (G 32 x) := by
 intro n
 induction n with
 | zero =>
  intro _ hx
  have hx0 : x = 0 := by simp at hx; omega
  unfold zbw.l1 zbw.l1.step
  rw [yau (ybq (by omega))]
  have e := ydF 32
  subst hx0; rwa [e] at h
 | succ n ih =>
  intro hn hx
  obtain ⟨s1, s2⟩ := yj8 (show n + 1 ≠ 0 by omega) hx
  rw [show n + 1 - 1 = n from by omega] at s1 s2
  unfold zbw.l1 zbw.l1.step
  simp (disch := omega) only [yat, ya9, ybb, yaD, ya3, Bool.and_self]
  have e1 : Int.toNat (((n + 1 : Nat) : Int) - 1) = n := by omega
  rw [e1, ya6]
  by_cases hd : dg 32 x n = 0
  ·rw [yaA (yhy (by omega))]
   exact ih (by omega) (s1 hd)
  ·rw [yau (yfN (by omega))]
   rw [s2 hd] at h; exact h
theorem ykr (n x : Nat) (hn : n ≤ 1000000000) (hx : x < 2 ^ (32 * n)) (K : Nat → (Nat → Int) → Prop) (h : K (wl 32 x) (G 32 x)) : zbw n (G 32 x) K := by
 rw [zbw.is]; unfold zbw.d
 exact ⟨n + 1, yie _ x h n hn hx⟩
theorem yiq (k0 : Nat → Nat → Nat → (Nat → Int) → Prop) (x m : Nat) (h : ∀ c, k0 (wl 32 x) c m (G 32 x)) : ∀ (n c : Nat), n ≤ 1000000000 → n ≤ c → x < 2 ^ (32 * n) → zbv.l1 k0 (n + 1) n c m (G 32 x) := by
 intro n
 induction n with
 | zero =>
  intro c _ _ hx
  have hx0 : x = 0 := by simp at hx; omega
  unfold zbv.l1 zbv.l1.step
  rw [yau (ybq (by omega))]
  have e := ydF 32
  subst hx0; rw [e] at h; exact h c
 | succ n ih =>
  intro c hn hc hx
  obtain ⟨s1, s2⟩ := yj8 (show n + 1 ≠ 0 by omega) hx
  rw [show n + 1 - 1 = n from by omega] at s1 s2
  unfold zbv.l1 zbv.l1.step
  simp (disch := omega) only [yat, ya9, ybb, yaD, ya3, Bool.and_self]
  have e1 : Int.toNat (((n + 1 : Nat) : Int) - 1) = n := by omega
  rw [e1, ya6]
  by_cases hd : dg 32 x n = 0
  ·rw [yaA (yhy (by omega))]
   exact ih (c - 0) (by omega) (by omega) (s1 hd)
  ·rw [yau (yfN (by omega))]
   rw [s2 hd] at h; exact h c
theorem ybW (n c m x : Nat) (hn : n ≤ 1000000000) (hc : n ≤ c) (hx : x < 2 ^ (32 * n)) (K : Nat → Nat → Nat → (Nat → Int) → Prop) (h : ∀ c, K (wl 32 x) c m (G 32 x)) : zbv n c m (G 32 x) K := by
 rw [zbv.is]; unfold zbv.d
 exact ⟨n + 1, yiq _ x m h n c hn hc hx⟩
theorem yip (k0 : Nat → Nat → (Nat → Int) → Prop) (x m : Nat) (h : k0 (wl 32 x) m (G 32 x)) : ∀ (n : Nat), n ≤ 1000000000 → x < 2 ^ (32 * n) → zbu.l1 k0 (n + 1) n m (G 32 x) := by
 intro n
 induction n with
 | zero =>
  intro _ hx
  have hx0 : x = 0 := by simp at hx; omega
  unfold zbu.l1 zbu.l1.step
  rw [yau (ybq (by omega))]
  have e := ydF 32
  subst hx0; rwa [e] at h
 | succ n ih =>
  intro hn hx
  obtain ⟨s1, s2⟩ := yj8 (show n + 1 ≠ 0 by omega) hx
  rw [show n + 1 - 1 = n from by omega] at s1 s2
  unfold zbu.l1 zbu.l1.step
  simp (disch := omega) only [yat, ya9, ybb, yaD, ya3, Bool.and_self]
  have e1 : Int.toNat (((n + 1 : Nat) : Int) - 1) = n := by omega
  rw [e1, ya6]
  by_cases hd : dg 32 x n = 0
  ·rw [yaA (yhy (by omega))]
   exact ih (by omega) (s1 hd)
  ·rw [yau (yfN (by omega))]
   rw [s2 hd] at h; exact h
theorem ydT (n m x : Nat) (hn : n ≤ 1000000000) (hx : x < 2 ^ (32 * n)) (K : Nat → Nat → (Nat → Int) → Prop) (h : K (wl 32 x) m (G 32 x)) : zbu n m (G 32 x) K := by
 rw [zbu.is]; unfold zbu.d
 exact ⟨n + 1, yip _ x m h n hn hx⟩
theorem ytd (x q s : Nat) (hs : s < 4) : dg 8 x (4 * q + s) = dg 32 x q / 2 ^ (8 * s) % 256 := by
 unfold dg
 rw [show 8 * (4 * q + s) = 32 * q + 8 * s from by omega, Nat.pow_add, ← Nat.div_div_eq_div_mul]
 generalize x / 2 ^ (32 * q) = y
 have h1 : (2 : Nat) ^ 32 = 2 ^ (8 * s) * (256 * 2 ^ (8 * (3 - s))) := by
  rw [show (256 : Nat) = 2 ^ 8 from rfl, ← Nat.pow_add, ← Nat.pow_add]; congr 1; omega
 rw [h1, Nat.mod_mul_right_div_self, Nat.mod_mul_right_mod]
theorem ysG (a s : Nat) (hs : s ≤ 32) : yaP .u32 (a : Int) (s : Int) = ((a / 2 ^ s : Nat) : Int) := by
 rw [yf6 (k := .u32) hs]; simp
theorem yhF (x n : Nat) (hn : n ≤ 100000000) (L c m : Nat) (hL : L = 4 * n) (k0 : Nat → Nat → Nat → (Nat → Int) → Prop) (h : k0 L c m (BE L L x)) :
  ∀ (j i : Nat), i + j = L → zca.l4 k0 (j + 1) n (G 32 x) L c L i m (BE L i x) := by
 intro j
 induction j with
 | zero =>
  intro i hi
  unfold zca.l4 zca.l4.step
  rw [yau (ybq (by omega)), show i = L from by omega]
  exact h
 | succ j ih =>
  intro i hi
  have ih := ih (i + 1) (by omega)
  have e : ((i + 1 : Nat) : Int) = (i : Int) + 1 := by omega
  rw [e] at ih
  unfold zca.l4 zca.l4.step
  simp (disch := omega) only [ycd, yhL, yat, yas, ycw, yaU, ya9, ybb, ybq, yaD, ya3, Bool.and_self, Bool.not_false]
  have e1 : Int.toNat ((i : Int) / 4) = i / 4 := by omega
  have e2 : Int.toNat ((L : Int) - 1 - i) = L - 1 - i := by omega
  have e3 : 8 * ((i : Int) % 4) = ((8 * (i % 4) : Nat) : Int) := by omega
  rw [e1, e2, e3, ya6, ysG _ _ (by omega), ynh, ysD _ _ _ (dg 8 x i : Int), yph L i x (by omega)]
  ·exact ih
  ·have := ytd x (i / 4) (i % 4) (by omega)
   rw [show 4 * (i / 4) + i % 4 = i from by omega] at this
   rw [this]; simp
theorem ygJ (x L : Nat) (hL : L ≤ 400000000) (c m : Nat) (k0 : Nat → Nat → Nat → Nat → (Nat → Int) → Prop)
  (h : ∀ o n c, o + n = L → x < 2 ^ (8 * n) → (n = 0 ∨ dg 8 x (n - 1) ≠ 0) → k0 o n c m (BE L L x)) :
  ∀ (n o c : Nat), o + n = L → n ≤ c → x < 2 ^ (8 * n) → zca.l8 k0 (n + 1) o n c m (BE L L x) := by
 intro n
 induction n with
 | zero =>
  intro o c ho _ hx
  unfold zca.l8 zca.l8.step
  rw [yau (ybq (by omega))]
  exact h o 0 c ho hx (.inl rfl)
 | succ n ih =>
  intro o c ho hc hx
  unfold zca.l8 zca.l8.step
  simp (disch := omega) only [ya9, ybb, yaD, ya3, Bool.and_self, yfH]
  rw [ytz L x _ (by omega), show L - 1 - (o + 0) = n from by omega]
  by_cases hd : dg 8 x n = 0
  ·rw [yaA (yhy (by omega))]
   have e1 : Int.toNat ((n + 1 : Nat) : Int) - 1 = n := by omega
   rw [e1]
   refine ih (o + 1) (c - 1) (by omega) (by omega) ?_
   have h2 := ybg 8 x n
   rw [Nat.mod_eq_of_lt hx, hd, Nat.zero_mul, Nat.add_zero] at h2
   have := Nat.mod_lt x (Nat.two_pow_pos (8 * n))
   omega
  ·rw [yau (yfN (by omega))]
   exact h o (n + 1) c ho hx (.inr hd)
theorem ybF (n x : Nat) (hn : n ≤ 100000000) (hx : x < 2 ^ (32 * n)) (K : List UInt8 → Prop) (h : K (nb x)) : zca n (G 32 x) K := by
 rw [zca.is]; unfold zca.d
 refine ykr n x (by omega) hx _ ?_
 have hw := (yd3 32 (by omega) x n).2 hx
 have hl := ye3 32 (by omega) x
 generalize wl 32 x = w at hw hl
 simp (disch := omega) only [ycw, ybb, yaD, Bool.and_self]
 have e1 : Int.toNat (4 * (w : Int)) = 4 * w := by omega
 rw [e1]
 refine ⟨4 * w + 1, ?_⟩
 have := yhF x w (by omega) (4 * w) (4 * w) (4 * w) rfl (fun y0 y1 y2 y3 => ∃ n, zca.l8 (fun y0 y1 y2 y3 y4 => K (ybA y1 (shift y0 y4))) n 0 y0 y1 y2 y3) ?_ (4 * w) 0 (by omega)
 ·rw [yo6] at this
  exact this
 ·refine ⟨4 * w + 1, ?_⟩
  refine ygJ x (4 * w) (by omega) (4 * w) (4 * w) _ ?_ (4 * w) 0 (4 * w) (by omega) (Nat.le_refl _) (by rw [show 8 * (4 * w) = 32 * w from by omega]; exact hl)
  intro o n c ho hx' ht
  rw [ymG, ynC (4 * w) o n x ho hx' ht]
  exact h
theorem ydB (n x : Nat) (hn : n ≤ 100000000) (hx : x < 2 ^ (32 * n)) (K : List UInt8 → Int → Prop) (h : if 16384 < (nb x).length then K [] 4 else K (nb x) 0) : zcf n (G 32 x) K := by
 rw [zcf.is]; unfold zcf.d
 refine ybF n x hn hx _ ?_
 by_cases hl : 16384 < (nb x).length
 ·rw [yaA (ya9 (by omega))]; rwa [if_pos hl] at h
 ·rw [yau (ybq (by omega))]; rwa [if_neg hl] at h
def sgn (x y : Nat) : Int := if x < y then -1 else if y < x then 1 else 0
theorem ylt (x y n m : Nat) (k0 : Int → Prop) (k1 : Prop) (hn : n ≤ 1000000000) (h : x / 2 ^ (32 * n) = y / 2 ^ (32 * n)) :
  ∀ (i : Nat), i ≤ n → i ≤ m → x / 2 ^ (32 * i) = y / 2 ^ (32 * i) → (x < y → k0 (-1)) → (y < x → k0 1) → (x = y → k1) → ∀ (j : Nat), n = n → zbt.l6 k0 k1 (i + 1) n (G 32 x) m (G 32 y) ((i : Int) - 1) := by
 intro i
 induction i with
 | zero =>
  intro _ _ he _ _ h3 _ _
  unfold zbt.l6 zbt.l6.step
  rw [yau (yff (by omega))]
  simp at he
  exact h3 he
 | succ i ih =>
  intro hin him he h1 h2 h3 j _
  unfold zbt.l6 zbt.l6.step
  have e0 : ((i + 1 : Nat) : Int) - 1 = (i : Int) := by omega
  rw [e0]
  simp (disch := omega) only [yat, ya9, ybb, yaD, ya3, Bool.and_self, Int.toNat_natCast]
  rw [ya6, ya6, yrP, yrP]
  have d1 := ydc 32 x i
  have d2 := ydc 32 y i
  rw [← he] at d2
  by_cases hlt : dg 32 x i < dg 32 y i
  ·rw [yaA (by simpa using hlt)]
   refine h1 (Classical.byContradiction fun hc => ?_)
   have := Nat.div_le_div_right (c := 2 ^ (32 * i)) (show y ≤ x by omega)
   omega
  ·rw [yau (by simpa using hlt)]
   by_cases hgt : dg 32 y i < dg 32 x i
   ·rw [yaA (by simpa using hgt)]
    refine h2 (Classical.byContradiction fun hc => ?_)
    have := Nat.div_le_div_right (c := 2 ^ (32 * i)) (show x ≤ y by omega)
    omega
   ·rw [yau (by simpa using hgt)]
    exact ih (by omega) (by omega) (by omega) h1 h2 h3 j rfl
theorem yi4 (x y n m : Nat) (hn : n ≤ 1000000000) (hm : m ≤ 1000000000) (hxn : n = wl 32 x) (hym : m = wl 32 y) (K : Int → Prop) (h : K (sgn x y)) : zbt n (G 32 x) m (G 32 y) K := by
 rw [zbt.is]; unfold zbt.d
 have h32 : (32 : Nat) ≠ 0 := by omega
 by_cases hlt : n < m
 ·have : x < y := Classical.byContradiction fun hc => by have := ybU h32 (show y ≤ x by omega); omega
  rw [yaA (ya9 (by omega))]
  unfold sgn at h; rwa [if_pos this] at h
 ·rw [yau (ybq (by omega))]
  by_cases hgt : m < n
  ·have : y < x := Classical.byContradiction fun hc => by have := ybU h32 (show x ≤ y by omega); omega
   rw [yaA (ya9 (by omega))]
   unfold sgn at h; rwa [if_neg (by omega), if_pos this] at h
  ·rw [yau (ybq (by omega)), yat (by omega) (by omega)]
   have h1 := ye3 32 h32 x
   have h2 := ye3 32 h32 y
   have hnm : n = m := by omega
   have q : x / 2 ^ (32 * n) = y / 2 ^ (32 * n) := by
    rw [Nat.div_eq_of_lt (hxn ▸ h1), Nat.div_eq_of_lt (by rw [hnm, hym]; exact h2)]
   refine ⟨n + 1, ylt x y n m _ _ hn q n (Nat.le_refl _) (by omega) q (fun hl => ?_) (fun hl => ?_) (fun he => ?_) 0 rfl⟩
   ·unfold sgn at h; rwa [if_pos hl] at h
   ·unfold sgn at h; rwa [if_neg (by omega), if_pos hl] at h
   ·unfold sgn at h; rwa [if_neg (by omega), if_neg (by omega)] at h
end Go.Ev.S

/- Natural numbers as rows of words: sums, differences, products. -/
set_option linter.unusedVariables false
set_option linter.unusedSimpArgs false
set_option maxRecDepth 8000
namespace Go.Ev.S
open Go Go.Ev
theorem ykf {k N j s : Nat} {P : Nat} (hP : P = 2 ^ (k * j)) : ∃ N', N' + dg k N j * P = N + s % 2 ^ k * P ∧ N' + s / 2 ^ k * 2 ^ (k * (j + 1)) + dg k N j * P = N + s * P := by
 have h := yg0 k N j
 refine ⟨N % 2 ^ (k * j) + s % 2 ^ k * 2 ^ (k * j) + N / 2 ^ (k * (j + 1)) * 2 ^ (k * (j + 1)), ?_, ?_⟩
 ·rw [hP]; omega
 ·have h2 := Nat.div_add_mod s (2 ^ k)
  have h3 : s * P = s % 2 ^ k * P + s / 2 ^ k * 2 ^ (k * (j + 1)) := by
   conv => lhs; rw [← h2]
   rw [Nat.add_mul, ycs, ← hP, Nat.mul_comm (2 ^ k), Nat.mul_assoc, Nat.mul_comm (2 ^ k)]
   omega
  rw [h3, hP]; omega
theorem ytX (x n : Nat) (hx : x < 2 ^ (32 * n)) : ovl 0 (ygj n (n + 1)) (G 32 x) (fun _ => 0) = G 32 x := by
 funext i
 have hm : ygj n (n + 1) = n := by unfold ygj; exact Nat.min_eq_left (by omega)
 rw [hm]
 unfold ovl
 by_cases hi : i < n
 ·have : (Nat.ble 0 i && Nat.blt i (0 + n)) = true := by simp [hi]
  rw [this]; rfl
 ·have : (Nat.ble 0 i && Nat.blt i (0 + n)) = false := by
   rw [Bool.eq_false_iff]; intro h; exact hi (by simpa using h)
  rw [this]
  show (0 : Int) = G 32 x i
  rw [ya6, yd7 32 x n i hx (by omega)]; rfl
theorem B32 : (2 : Nat) ^ 32 = 4294967296 := rfl
theorem yk6 (x y n m : Nat) (hn : n ≤ 1000000) (hm : m ≤ n) (hx : x < 2 ^ (32 * n)) (hy : y < 2 ^ (32 * m)) (c0 m0 : Nat) (k0 : Nat → Nat → Nat → (Nat → Int) → Prop) (h : k0 (n + 1) c0 m0 (G 32 (x + y))) :
  ∀ (j i N c : Nat), i + j = n + 1 → N + c * 2 ^ (32 * i) = x + y % 2 ^ (32 * i) → c < 4294967296 → zcd.l7 k0 (j + 1) m (G 32 y) (n + 1) c0 c i m0 (G 32 N) := by
 have hxy : x + y < 2 ^ (32 * (n + 1)) := by
  have h1 : y < 2 ^ (32 * n) := Nat.lt_of_lt_of_le hy (ydH hm)
  rw [ycs, B32]; omega
 have fin : ∀ (i N : Nat), m ≤ i → N = x + y % 2 ^ (32 * i) → N = x + y := by
  intro i N hi hN
  rw [hN, Nat.mod_eq_of_lt (Nat.lt_of_lt_of_le hy (ydH hi))]
 intro j
 induction j with
 | zero =>
  intro i N c hi hN hc
  have hi : i = n + 1 := by omega
  have hc0 : c = 0 := by
   apply Classical.byContradiction
   intro hne
   have h1 : 1 * 2 ^ (32 * i) ≤ c * 2 ^ (32 * i) := Nat.mul_le_mul_right _ (by omega)
   have h2 := Nat.mod_le y (2 ^ (32 * i))
   rw [hi] at h1 hN h2
   omega
  have hN2 := fin i N (by omega) (by rw [hc0] at hN; omega)
  unfold zcd.l7 zcd.l7.step
  rw [yau (ybq (by omega)), yau (ybq (by omega)), hN2]
  exact h
 | succ j ih =>
  intro i N c hi hN hc
  have hdN := ya4 32 N i
  have hdy := ya4 32 y i
  rw [B32] at hdN hdy
  obtain ⟨N', s1, s2⟩ := ykf (k := 32) (N := N) (j := i) (s := c + dg 32 N i + dg 32 y i) rfl
  have hy1 := ybg 32 y i
  have next := ih (i + 1) N' ((c + dg 32 N i + dg 32 y i) / 4294967296) (by omega) (by
   rw [hy1]
   rw [Nat.add_mul, Nat.add_mul] at s2
   rw [B32] at s2
   omega) (by omega)
  have e : ((i + 1 : Nat) : Int) = (i : Int) + 1 := by omega
  rw [e] at next
  have hG : upd (G 32 N) i (((c + dg 32 N i + dg 32 y i) % 4294967296 : Nat) : Int) = G 32 N' := ygF s1 (Nat.mod_lt _ (by omega))
  unfold zcd.l7 zcd.l7.step
  by_cases hlt : i < m
  ·have e1 : ((c : Int) + (dg 32 N i : Int) + (dg 32 y i : Int)) / 4294967296 = (((c + dg 32 N i + dg 32 y i) / 4294967296 : Nat) : Int) := by omega
   have e2 : ((c : Int) + (dg 32 N i : Int) + (dg 32 y i : Int)) % 4294967296 = (((c + dg 32 N i + dg 32 y i) % 4294967296 : Nat) : Int) := by omega
   simp (disch := omega) only [ya9, ybb, yaD, ya3, Bool.and_self, Int.toNat_natCast, ya6, yaU, yfT, yas, yb7, ybu, e1, e2]
   rw [hG]; exact next
  ·have hd0 : dg 32 y i = 0 := yd7 32 y m i hy (by omega)
   rw [hd0, Nat.add_zero] at next hG
   rw [yau (ybq (by omega))]
   by_cases hc0 : c = 0
   ·rw [yau (ybq (by omega)), fin i N (by omega) (by rw [hc0] at hN; omega)]
    exact h
   ·have e1 : ((c : Int) + (dg 32 N i : Int)) / 4294967296 = (((c + dg 32 N i) / 4294967296 : Nat) : Int) := by omega
    have e2 : ((c : Int) + (dg 32 N i : Int)) % 4294967296 = (((c + dg 32 N i) % 4294967296 : Nat) : Int) := by omega
    simp (disch := omega) only [ya9, ybq, ybb, yaD, ya3, yel, Bool.and_self, Int.toNat_natCast, ya6, yaU, yfT, yas, yb7, ybu, e1, e2]
    rw [hG]; exact next
theorem yoc (x y n m : Nat) (hn : n ≤ 1000000) (hm : m ≤ 1000000) (hx : x < 2 ^ (32 * n)) (hy : y < 2 ^ (32 * m)) (K : Nat → (Nat → Int) → Prop) (h : K (wl 32 (x + y)) (G 32 (x + y))) : zcd n (G 32 x) m (G 32 y) K := by
 have main : ∀ (x y n m : Nat), n ≤ 1000000 → m ≤ n → x < 2 ^ (32 * n) → y < 2 ^ (32 * m) → K (wl 32 (x + y)) (G 32 (x + y)) →
   ∃ f, zcd.l7 (fun y0 y1 y2 y3 => zbv y0 y1 y2 y3 fun y0 y1 y2 y3 => K y0 y3) f m (G 32 y) (n + 1) (n + 1) 0 0 (n + 1) (G 32 x) := by
  intro x y n m hn hm hx hy h
  refine ⟨n + 2, ?_⟩
  have := yk6 x y n m hn hm hx hy (n + 1) (n + 1) (fun y0 y1 y2 y3 => zbv y0 y1 y2 y3 fun y0 y1 y2 y3 => K y0 y3) ?_ (n + 1) 0 x 0 (by omega) (by simp [Nat.mod_one]) (by omega)
  ·exact this
  ·refine ybW (n + 1) (n + 1) (n + 1) (x + y) (by omega) (Nat.le_refl _) ?_ _ fun c => h
   have h1 : y < 2 ^ (32 * n) := Nat.lt_of_lt_of_le hy (ydH hm)
   rw [ycs, B32]; omega
 rw [zcd.is]; unfold zcd.d
 by_cases hlt : n < m
 ·have e1 : Int.toNat ((m : Int) + 1) = m + 1 := by omega
  simp (disch := omega) only [ya9, ybb, yas, yaD, ya3, Bool.and_self, e1]
  rw [ytX y m hy]
  exact main y x m n hm (by omega) hy hx (by rw [Nat.add_comm]; exact h)
 ·have e1 : Int.toNat ((n : Int) + 1) = n + 1 := by omega
  simp (disch := omega) only [ybq, ybb, yas, yaD, yel, Bool.and_self, e1]
  rw [ytX x n hx]
  exact main x y n m hn (by omega) hx hy h
theorem yjW (x y n m : Nat) (hn : n ≤ 1000000) (hm : m ≤ 1000000) (hx : x < 2 ^ (32 * n)) (hy : y < 2 ^ (32 * m)) (hle : y ≤ x) (c0 m0 : Nat) (k0 : Nat → Nat → Nat → (Nat → Int) → Prop) (h : k0 n c0 m0 (G 32 (x - y))) :
  ∀ (j i z : Nat) (c : Int), i + j = n → z < 2 ^ (32 * i) → (z : Int) + c * (2 ^ (32 * i) : Nat) = (x % 2 ^ (32 * i) : Nat) - (y % 2 ^ (32 * i) : Nat) → -2 ≤ c → c ≤ 0 →
   zbz.l4 k0 (j + 1) n (G 32 x) m (G 32 y) n c0 c n i m0 (G 32 z) := by
 intro j
 induction j with
 | zero =>
  intro i z c hi hz hN hc hc'
  have hi : i = n := by omega
  subst hi
  unfold zbz.l4 zbz.l4.step
  rw [yau (ybq (by omega))]
  have hyi : y < 2 ^ (32 * i) := by omega
  rw [Nat.mod_eq_of_lt hx, Nat.mod_eq_of_lt hyi] at hN
  have hc0 : c = 0 := by
   rcases (show c = 0 ∨ c ≤ -1 by omega) with h0 | h0
   ·exact h0
   ·exfalso
    have : c * ((2 ^ (32 * i) : Nat) : Int) ≤ (-1) * ((2 ^ (32 * i) : Nat) : Int) := Int.mul_le_mul_of_nonneg_right h0 (by omega)
    omega
  rw [hc0] at hN
  have : z = x - y := by omega
  rw [this]; exact h
 | succ j ih =>
  intro i z c hi hz hN hc hc'
  have hdx := ya4 32 x i
  have hdy := ya4 32 y i
  rw [B32] at hdx hdy
  have hx1 := ybg 32 x i
  have hy1 := ybg 32 y i
  have step : ∀ (s : Int), s = c + dg 32 x i - dg 32 y i → zbz.l4 k0 (j + 1) n (G 32 x) m (G 32 y) n c0 (s / 4294967296) n ((i : Int) + 1) m0 (upd (G 32 z) i (s % 4294967296)) := by
   intro s hs
   have hw : s % 4294967296 = ((s % 4294967296).toNat : Int) := by omega
   have hwl : (s % 4294967296).toNat < 2 ^ 32 := by rw [B32]; omega
   have e : ((i + 1 : Nat) : Int) = (i : Int) + 1 := by omega
   rw [hw, ykd 32 z _ i hz hwl, ← e]
   refine ih (i + 1) _ _ (by omega) (yiy 32 z _ i hz hwl) ?_ (by omega) (by omega)
   rw [hx1, hy1, ycs, B32]
   generalize 2 ^ (32 * i) = P at *
   have h4 := Int.emod_add_mul_ediv s 4294967296
   have h5 : s * (P : Int) = (s % 4294967296).toNat * (P : Int) + s / 4294967296 * ((P : Int) * 4294967296) := by
    conv => lhs; rw [← h4]
    rw [← hw, Int.add_mul, Int.mul_comm (4294967296 : Int), Int.mul_assoc, Int.mul_comm (4294967296 : Int)]
   have h6 : s * (P : Int) = c * P + (dg 32 x i : Int) * P - (dg 32 y i : Int) * P := by rw [hs, Int.sub_mul, Int.add_mul]
   have c1 : ((z + (s % 4294967296).toNat * P : Nat) : Int) = (z : Int) + ((s % 4294967296).toNat : Int) * (P : Int) := by simp
   have c2 : ((x % P + dg 32 x i * P : Nat) : Int) = ((x % P : Nat) : Int) + (dg 32 x i : Int) * (P : Int) := by simp
   have c3 : ((y % P + dg 32 y i * P : Nat) : Int) = ((y % P : Nat) : Int) + (dg 32 y i : Int) * (P : Int) := by simp
   have c4 : ((P * 4294967296 : Nat) : Int) = (P : Int) * 4294967296 := by simp
   rw [c1, c2, c3, c4]
   omega
  unfold zbz.l4 zbz.l4.step
  by_cases hlt : i < m
  ·simp (disch := omega) only [ya9, ybb, yaD, ya3, Bool.and_self, Int.toNat_natCast, ya6, yfr, yas, yat, yfY, ybu]
   exact step _ rfl
  ·have hd0 : dg 32 y i = 0 := yd7 32 y m i hy (by omega)
   simp (disch := omega) only [ya9, ybq, ybb, yaD, ya3, yel, Bool.and_self, Int.toNat_natCast, ya6, yfr, yas, yat, yfY, ybu]
   exact step _ (by rw [hd0]; omega)
theorem ymH (x y n m : Nat) (hn : n ≤ 1000000) (hm : m ≤ 1000000) (hx : x < 2 ^ (32 * n)) (hy : y < 2 ^ (32 * m)) (hle : y ≤ x) (K : Nat → (Nat → Int) → Prop) (h : K (wl 32 (x - y)) (G 32 (x - y))) : zbz n (G 32 x) m (G 32 y) K := by
 rw [zbz.is]; unfold zbz.d
 simp (disch := omega) only [ybb, yaD, Bool.and_self, Int.toNat_natCast]
 refine ⟨n + 1, ?_⟩
 have := yjW x y n m hn hm hx hy hle n n (fun y0 y1 y2 y3 => zbv y0 y1 y2 y3 fun y0 y1 y2 y3 => K y0 y3) ?_ n 0 0 0 (by omega) (Nat.two_pow_pos _) (by simp [Nat.mod_one]) (by omega) (by omega)
 ·rw [ycy] at this; exact this
 ·exact ybW n n n (x - y) (by omega) (Nat.le_refl _) (by omega) _ fun c => h
theorem ypS (a b c d : Nat) (ha : a < 4294967296) (hb : b < 4294967296) (hc : c < 4294967296) (hd : d < 4294967296) : c + (a * b + d) < 18446744073709551616 := by
 have : a * b ≤ 4294967295 * 4294967295 := Nat.mul_le_mul (by omega) (by omega)
 omega
theorem yhV (y m : Nat) (hm : m ≤ 1000000) (hy : y < 2 ^ (32 * m)) (i a : Nat) (hi : i ≤ 1000000) (ha : a < 4294967296) (n Z c0 m0 q : Nat) (hq : q ≤ 3000000) (him : i + m < q) (f1 : Nat → Int) (x7 : Nat) (x9 : Int)
  (k0 : Nat → (Nat → Int) → Nat → Nat → Int → Int → Nat → (Nat → Int) → Int → Int → Nat → (Nat → Int) → Prop)
  (h : ∀ N c, c < 4294967296 → N + c * 2 ^ (32 * (i + m)) = Z + a * y * 2 ^ (32 * i) → dg 32 N (i + m) = dg 32 Z (i + m) → k0 m (G 32 y) q c0 i c x7 f1 x9 i m0 (G 32 N)) :
  ∀ (j k N c : Nat), k + j = m → c < 4294967296 → N + c * 2 ^ (32 * (i + k)) = Z + a * (y % 2 ^ (32 * k)) * 2 ^ (32 * i) → (∀ t, i + k ≤ t → dg 32 N t = dg 32 Z t) →
   zce.l7 k0 (j + 1) m (G 32 y) q c0 i a c x7 f1 x9 i m (G 32 y) m k m0 (G 32 N) := by
 intro j
 induction j with
 | zero =>
  intro k N c hk hc hN ht
  have hkm : k = m := by omega
  subst hkm
  unfold zce.l7 zce.l7.step
  rw [yau (ybq (by omega))]
  rw [Nat.mod_eq_of_lt hy] at hN
  exact h N c hc hN (ht _ (Nat.le_refl _))
 | succ j ih =>
  intro k N c hk hc hN ht
  have hdN := ya4 32 N (i + k)
  have hdy := ya4 32 y k
  rw [B32] at hdN hdy
  have hs := ypS a (dg 32 y k) c (dg 32 N (i + k)) ha hdy hc hdN
  have hy1 := ybg 32 y k
  obtain ⟨N', s1, s2⟩ := ykf (k := 32) (N := N) (j := i + k) (s := c + (a * dg 32 y k + dg 32 N (i + k))) rfl
  have e : ((k + 1 : Nat) : Int) = (k : Int) + 1 := by omega
  have hw : (c + (a * dg 32 y k + dg 32 N (i + k))) % 4294967296 < 2 ^ 32 := Nat.mod_lt _ (by omega)
  have hG : upd (G 32 N) (i + k) (((c + (a * dg 32 y k + dg 32 N (i + k))) % 4294967296 : Nat) : Int) = G 32 N' := ygF s1 hw
  have next := ih (k + 1) N' ((c + (a * dg 32 y k + dg 32 N (i + k))) / 4294967296) (by omega) (by omega) (by
   rw [hy1, show i + (k + 1) = i + k + 1 from by omega, Nat.mul_add a, Nat.add_mul, Nat.mul_assoc a, Nat.mul_assoc a (dg 32 y k * _)]
   rw [Nat.add_mul, Nat.add_mul] at s2
   rw [B32] at s2
   have e3 : a * (dg 32 y k * 2 ^ (32 * k) * 2 ^ (32 * i)) = a * dg 32 y k * 2 ^ (32 * (i + k)) := by
    rw [Nat.mul_assoc (dg 32 y k), ← Nat.pow_add, show 32 * k + 32 * i = 32 * (i + k) from by omega, Nat.mul_assoc]
   rw [e3]
   rw [Nat.mul_assoc a] at hN
   omega) (fun t htt => by
    have := congrFun hG t
    rw [ycI _ _ _ _ (by omega), ya6, ya6] at this
    rw [← ht t (by omega)]; omega)
  rw [e] at next
  have e0 : Int.toNat ((i : Int) + k) = i + k := by omega
  have e4 : ((a : Int) * (dg 32 y k : Int)) = ((a * dg 32 y k : Nat) : Int) := by simp
  have e1 : ((c : Int) + (((a * dg 32 y k : Nat) : Int) + (dg 32 N (i + k) : Int))) / 4294967296 = (((c + (a * dg 32 y k + dg 32 N (i + k))) / 4294967296 : Nat) : Int) := by omega
  have e2 : ((c : Int) + (((a * dg 32 y k : Nat) : Int) + (dg 32 N (i + k) : Int))) % 4294967296 = (((c + (a * dg 32 y k + dg 32 N (i + k))) % 4294967296 : Nat) : Int) := by omega
  unfold zce.l7 zce.l7.step
  have e5 : ybY .u64 (a : Int) (dg 32 y k : Int) = ((a * dg 32 y k : Nat) : Int) := by rw [ymy (by rw [e4]; omega) (by rw [e4]; omega), e4]
  simp (disch := omega) only [ya9, ybb, yaD, ya3, Bool.and_self, Int.toNat_natCast, ya6, yaU, yfT, yas, yb7, ybu, e0, e5, e1, e2]
  rw [hG]; exact next
theorem yiu (x y n m : Nat) (hn : n ≤ 1000000) (hm : m ≤ 1000000) (hx : x < 2 ^ (32 * n)) (hy : y < 2 ^ (32 * m)) (c0 m0 : Nat) (k0 : Nat → Nat → Nat → (Nat → Int) → Prop) (h : k0 (n + m) c0 m0 (G 32 (x * y))) :
  ∀ (j i : Nat), i + j = n → zce.l3 k0 (j + 1) m (G 32 y) (n + m) c0 n (G 32 x) n i m0 (G 32 (x % 2 ^ (32 * i) * y)) := by
 intro j
 induction j with
 | zero =>
  intro i hi
  unfold zce.l3 zce.l3.step
  rw [yau (ybq (by omega)), show i = n from by omega, Nat.mod_eq_of_lt hx]
  exact h
 | succ j ih =>
  intro i hi
  have ih := ih (i + 1) (by omega)
  have e : ((i + 1 : Nat) : Int) = (i : Int) + 1 := by omega
  rw [e] at ih
  unfold zce.l3 zce.l3.step
  simp (disch := omega) only [ya9, ybb, yaD, ya3, Bool.and_self, Int.toNat_natCast, ya6]
  have hdx := ya4 32 x i
  rw [B32] at hdx
  have hZ : x % 2 ^ (32 * i) * y < 2 ^ (32 * (i + m)) := by
   rw [Nat.mul_add, Nat.pow_add]
   exact Nat.mul_lt_mul_of_lt_of_lt (Nat.mod_lt _ (Nat.two_pow_pos _)) hy
  refine ⟨m + 1, yhV y m hm hy i (dg 32 x i) (by omega) hdx n (x % 2 ^ (32 * i) * y) c0 m0 (n + m) (by omega) (by omega) (G 32 x) n n _ ?_ m 0 _ 0 (by omega) (by omega) (by simp [Nat.mod_one]) (fun t _ => rfl)⟩
  intro N c hc hN hd
  have hd0 : dg 32 N (i + m) = 0 := by rw [hd]; exact ydy 32 _ _ hZ
  simp (disch := omega) only [yas, ya9, ybb, yaD, Bool.and_self, ybu]
  have e0 : Int.toNat ((i : Int) + m) = i + m := by omega
  have e1 : (c : Int) % 4294967296 = (c : Int) := by omega
  rw [e0, e1, ygF (N' := x % 2 ^ (32 * (i + 1)) * y)]
  ·exact ih
  ·rw [hd0, Nat.zero_mul, Nat.add_zero, hN, ybg, Nat.add_mul, Nat.mul_assoc, Nat.mul_assoc, Nat.mul_comm y]
  ·exact hc
theorem ykM (x y n m : Nat) (hn : n ≤ 1000000) (hm : m ≤ 1000000) (hx : x < 2 ^ (32 * n)) (hy : y < 2 ^ (32 * m)) (K : Nat → (Nat → Int) → Prop) (h : K (wl 32 (x * y)) (G 32 (x * y))) : zce n (G 32 x) m (G 32 y) K := by
 rw [zce.is]; unfold zce.d
 have e0 : Int.toNat ((n : Int) + m) = n + m := by omega
 simp (disch := omega) only [yas, ybb, yaD, Bool.and_self, e0]
 refine ⟨n + 1, ?_⟩
 have := yiu x y n m hn hm hx hy (n + m) (n + m) (fun y0 y1 y2 y3 => zbv y0 y1 y2 y3 fun y0 y1 y2 y3 => K y0 y3) ?_ n 0 (by omega)
 ·rw [Nat.mul_zero, Nat.pow_zero, Nat.mod_one, Nat.zero_mul, ycy] at this; exact this
 ·refine ybW (n + m) (n + m) (n + m) (x * y) (by omega) (Nat.le_refl _) ?_ _ fun c => h
  rw [Nat.mul_add, Nat.pow_add]
  exact Nat.mul_lt_mul_of_lt_of_lt hx hy
end Go.Ev.S

/- The functions of natural numbers: held against each other, added, subtracted, multiplied; their texts. -/
set_option linter.unusedVariables false
set_option linter.unusedSimpArgs false
set_option maxRecDepth 8000
namespace Go.Ev.S
open Go Go.Ev
theorem yco (a b : List UInt8) (K : Bool → Prop) : zcc a b K = K (decide (May a ∧ May b)) := by
 rw [zcc.is]; unfold zcc.d
 rw [ya0, ya0]
 by_cases ha : May a
 ·rw [if_pos ha, yaA (by rfl)]
  by_cases hb : May b
  ·rw [if_pos hb]; simp [ha, hb]; rfl
  ·rw [if_neg hb]; simp [ha, hb]; rfl
 ·rw [if_neg ha, yau (by rfl)]; simp [ha]
theorem yrd (x : Nat) : wl 32 x = (wl 8 x + 3) / 4 := by
 have e : ∀ m, wl 32 x ≤ m ↔ wl 8 x ≤ 4 * m := fun m => by
  rw [yd3 32 (by omega), yd3 8 (by omega), show 8 * (4 * m) = 32 * m from by omega]
 have h1 := (e (wl 32 x)).1 (Nat.le_refl _)
 have h2 := (e ((wl 8 x + 3) / 4)).2 (by omega)
 omega
theorem yle {a : List UInt8} (h : yiR a = true) : wl 8 (val a) = a.length := by rw [yul, yi9 h]
theorem ymV {a : List UInt8} (h : yiR a = true) : (a.length + 3) / 4 = wl 32 (val a) := by rw [yrd, yle h]
theorem ytE {x y n : Nat} (hx : wl 32 x ≤ n) (hy : wl 32 y ≤ n) : wl 32 (x + y) ≤ n + 1 := by
 have h1 := (yd3 32 (by omega) _ _).1 hx
 have h2 := (yd3 32 (by omega) _ _).1 hy
 exact (yd3 32 (by omega) _ _).2 (by rw [ycs, B32]; omega)
theorem May.words {a : List UInt8} (h : May a) (K : Nat → (Nat → Int) → Prop) (hk : K (wl 32 (val a)) (G 32 (val a))) : zci a K := by
 refine ygx a (by have := h.1; omega) K ?_
 rw [ymV h.2]; exact hk
theorem May.wl {a : List UInt8} (h : May a) : wl 32 (val a) ≤ 4096 := by rw [← ymV h.2]; have := h.1; omega
theorem May.lt {a : List UInt8} (h : May a) : val a < 2 ^ (32 * Ev.S.wl 32 (val a)) := ye3 32 (by omega) _
theorem May.nb {a : List UInt8} (h : May a) : nb (val a) = a := yi9 h.2
theorem yef (x : Nat) : x < 2 ^ (32 * wl 32 x) := ye3 32 (by omega) _
def yoW (K : List UInt8 → Int → Prop) (x : Nat) : Prop := if 16384 < (nb x).length then K [] 4 else K (nb x) 0
theorem yiz (a b : List UInt8) (K : Int → Int → Prop) (h1 : ¬ (May a ∧ May b) → K 0 2) (h2 : May a → May b → K (sgn (val a) (val b)) 0) : zbh a b K := by
 rw [zbh.is]; unfold zbh.d
 rw [yco]
 by_cases h : May a ∧ May b
 ·rw [yau (by simp [h])]
  refine h.1.words _ (h.2.words _ ?_)
  have := h.1.wl; have := h.2.wl
  exact yi4 _ _ _ _ (by omega) (by omega) rfl rfl _ (h2 h.1 h.2)
 ·rw [yaA (by simp [h])]; exact h1 h
theorem yon (a b : List UInt8) (K : List UInt8 → Int → Prop) (h1 : ¬ (May a ∧ May b) → K [] 2) (h2 : May a → May b → yoW K (val a + val b)) : zbf a b K := by
 rw [zbf.is]; unfold zbf.d
 rw [yco]
 by_cases h : May a ∧ May b
 ·rw [yau (by simp [h])]
  refine h.1.words _ (h.2.words _ ?_)
  have w1 := h.1.wl; have w2 := h.2.wl
  refine yoc _ _ _ _ (by omega) (by omega) h.1.lt h.2.lt _ ?_
  refine ydB _ _ ?_ (yef _) _ (h2 h.1 h.2)
  have := ytE w1 w2
  omega
 ·rw [yaA (by simp [h])]; exact h1 h
theorem ymn (x y : Nat) : ltI (sgn x y) 0 = decide (x < y) := by
 unfold sgn
 by_cases h : x < y
 ·rw [if_pos h, ya9 (by omega)]; simp [h]
 ·rw [if_neg h]
  by_cases h2 : y < x
  ·rw [if_pos h2, ybq (by omega)]; simp [h]
  ·rw [if_neg h2, ybq (by omega)]; simp [h]
theorem yoh (a b : List UInt8) (K : List UInt8 → Int → Prop) (h1 : ¬ (May a ∧ May b) → K [] 2) (h3 : May a → May b → val a < val b → K [] 2) (h2 : May a → May b → val b ≤ val a → K (nb (val a - val b)) 0) : zbr a b K := by
 rw [zbr.is]; unfold zbr.d
 refine yiz a b _ (fun h => ?_) fun ha hb => ?_
 ·rw [yaA (by rfl)]; exact h1 h
 ·rw [yau (by rfl), ymn]
  by_cases hl : val a < val b
  ·rw [yaA (by simpa using hl)]; exact h3 ha hb hl
  ·rw [yau (by simpa using hl)]
   refine ha.words _ (hb.words _ ?_)
   have w1 := ha.wl; have w2 := hb.wl
   refine ymH _ _ _ _ (by omega) (by omega) ha.lt hb.lt (by omega) _ ?_
   have := ybU (k := 32) (by omega) (show val a - val b ≤ val a by omega)
   refine ydB _ _ (by omega) (yef _) _ ?_
   have hlen : (nb (val a - val b)).length ≤ 16384 := by
    rw [ya7]
    have := ygi a
    have := Nat.pow_le_pow_right (n := 256) (by omega) ha.1
    omega
   rw [if_neg (by omega)]; exact h2 ha hb (by omega)
theorem yn7 (a b : List UInt8) (K : List UInt8 → Int → Prop) (h1 : ¬ (May a ∧ May b) → K [] 2) (h3 : May a → May b → 16385 < a.length + b.length → val a ≠ 0 → val b ≠ 0 → K [] 4)
  (h2 : May a → May b → (a.length + b.length ≤ 16385 ∨ val a * val b = 0) → yoW K (val a * val b)) : zbn a b K := by
 rw [zbn.is]; unfold zbn.d
 rw [yco]
 have t0 : ∀ {x y : List UInt8}, May a → May b → (val a * val b = 0) → K [] 0 := by
  intro x y ha hb h0
  have := h2 ha hb (.inr h0)
  rw [h0] at this
  unfold yoW at this
  rw [yaJ] at this
  simpa using this
 by_cases h : May a ∧ May b
 ·rw [yau (by simp [h]), ybi, ybi]
  by_cases ha0 : a = []
  ·rw [yaA (by simp [ha0])]; exact t0 (x := a) (y := b) h.1 h.2 (by rw [ha0, yfZ, Nat.zero_mul])
  ·rw [yau (by simp [ha0])]
   by_cases hb0 : b = []
   ·rw [yaA (by simp [hb0])]; exact t0 (x := a) (y := b) h.1 h.2 (by rw [hb0, yfZ, Nat.mul_zero])
   ·rw [yau (by simp [hb0])]
    have l1 := h.1.1; have l2 := h.2.1
    have nz : ∀ {c : List UInt8}, May c → c ≠ [] → val c ≠ 0 := fun hc hn e => by
     have := hc.nb; rw [e, yaJ] at this; exact hn this.symm
    rw [yas (by omega) (by omega)]
    by_cases hl : 16385 < a.length + b.length
    ·rw [yaA (ya9 (by omega))]; exact h3 h.1 h.2 hl (nz h.1 ha0) (nz h.2 hb0)
    ·rw [yau (ybq (by omega))]
     refine h.1.words _ (h.2.words _ ?_)
     have w1 := h.1.wl; have w2 := h.2.wl
     refine ykM _ _ _ _ (by omega) (by omega) h.1.lt h.2.lt _ ?_
     refine ydB _ _ ?_ (yef _) _ (h2 h.1 h.2 (.inl (by omega)))
     have e1 := Nat.mul_lt_mul_of_lt_of_lt h.1.lt h.2.lt
     rw [← Nat.pow_add, ← Nat.mul_add] at e1
     have := (yd3 32 (by omega) (val a * val b) _).2 e1
     omega
 ·rw [yaA (by simp [h])]; exact h1 h
theorem yjs : ∀ (a b : List UInt8), a.length = b.length → Op.bytesLess a b = decide (val a < val b) := by
 intro a
 induction a with
 | nil => intro b h; cases b with
  | nil => rfl
  | cons _ _ => simp at h
 | cons x l ih =>
  intro b h
  cases b with
  | nil => exact absurd h (by simp)
  | cons y r =>
   have hl : l.length = r.length := by simpa using h
   have h1 := ygi l
   have h2 := ygi r
   rw [hl] at h1
   rw [yg4, yg4, hl]
   simp only [Op.bytesLess]
   rw [ih r hl]
   have hP := Nat.pow_pos (n := r.length) (show 0 < 256 by omega)
   generalize 256 ^ r.length = P at *
   by_cases hxy : x = y
   ·subst hxy; simp
   ·have hne : x.toNat ≠ y.toNat := fun e => hxy (UInt8.toNat_inj.1 e)
    have e1 : (x == y) = false := by simpa using hxy
    rw [e1, Bool.false_and, Bool.or_false]
    rw [decide_eq_decide, UInt8.lt_iff_toNat_lt]
    constructor
    ·intro hlt
     have : (x.toNat + 1) * P ≤ y.toNat * P := Nat.mul_le_mul_right _ hlt
     rw [Nat.add_mul] at this; omega
    ·intro hlt
     apply Classical.byContradiction
     intro hc
     have : (y.toNat + 1) * P ≤ x.toNat * P := Nat.mul_le_mul_right _ (by omega)
     rw [Nat.add_mul] at this; omega
theorem ysJ (a b : List UInt8) (h : a.length = b.length) : ltS a b = decide (val a < val b) := yjs a b h
theorem yjB (a b : List UInt8) : eqS a b = decide (a = b) := by
 unfold eqS
 by_cases h : a = b <;> simp [h]
def yuJ (n : Nat) : UInt8 := UInt8.ofNat (if n < 10 then 48 + n else 87 + n)
def hx (x : Nat) : List UInt8 := if h : x = 0 then [] else hx (x / 16) ++ [yuJ (x % 16)]
decreasing_by omega
theorem yuk {a b : Nat} (h : a ≤ b) : leN a b = true := Nat.ble_eq_true_of_le h
end Go.Ev.S

/- Natural numbers as rows of words: moved to the left and to the right; how long they are. -/
set_option linter.unusedVariables false
set_option linter.unusedSimpArgs false
set_option maxRecDepth 8000
namespace Go.Ev.S
open Go Go.Ev
theorem ygc {d m r : Nat} (hd : d < 2 ^ r) (hm : m % 2 ^ r = 0) : d ||| m = d + m := by
 have h5 := Nat.div_add_mod m (2 ^ r)
 rw [hm, Nat.add_zero, Nat.mul_comm] at h5
 have := Nat.shiftLeft_add_eq_or_of_lt hd (m / 2 ^ r)
 rw [Nat.shiftLeft_eq, h5] at this
 rw [Nat.or_comm, ← this, Nat.add_comm]
theorem B64 : (2 : Nat) ^ 64 = 18446744073709551616 := rfl
theorem ylv (a r : Nat) (ha : a < 4294967296) (hr : r < 32) : ybD .u64 (a : Int) (r : Int) = ((a * 2 ^ r : Nat) : Int) ∧ a * 2 ^ r < 9223372036854775808 := by
 have h1 : a * 2 ^ r < 2 ^ 63 := by
  have h2 : a * 2 ^ r < 2 ^ 32 * 2 ^ 31 := Nat.mul_lt_mul_of_lt_of_le (by rw [B32]; exact ha) (Nat.pow_le_pow_right (by omega) (by omega)) (Nat.two_pow_pos _)
  rwa [← Nat.pow_add] at h2
 have e63 : (2 : Nat) ^ 63 = 9223372036854775808 := rfl
 have hb : IntKind.bits .u64 = 64 := rfl
 refine ⟨?_, by omega⟩
 rw [yoH (k := .u64) rfl a r (by rw [hb]; omega), hb, Nat.mod_eq_of_lt (by rw [B64]; omega)]
theorem ymj (s B P : Nat) : s % B * P + s / B * (P * B) = s * P := by
 have := Nat.div_add_mod s B
 conv => rhs; rw [← this]
 rw [Nat.add_mul, Nat.mul_comm B, Nat.mul_assoc, Nat.mul_comm B, Nat.add_comm]
theorem ysv (x i s t y N : Nat) (ht : t = i + s / 32) (hy : dg 32 x i * 2 ^ (s % 32) = y) (hNN : x % 2 ^ (32 * i) * 2 ^ s = N) :
  ∃ N1, upd (G 32 N) t (((dg 32 N t ||| y % 4294967296 : Nat)) : Int) = G 32 N1 ∧ dg 32 N1 (t + 1) = 0 ∧ upd (G 32 N1) (t + 1) ((y / 4294967296 : Nat) : Int) = G 32 (x % 2 ^ (32 * (i + 1)) * 2 ^ s) := by
 have hdx := ya4 32 x i
 rw [B32] at hdx
 have hr : s % 32 < 32 := Nat.mod_lt _ (by omega)
 have hx := Nat.mod_lt x (Nat.two_pow_pos (32 * i))
 have hp : 2 ^ (32 * i) * 2 ^ s = 2 ^ (32 * t + s % 32) := by rw [← Nat.pow_add]; congr 1; omega
 have hN : N < 2 ^ (32 * t + s % 32) := by
  rw [← hp, ← hNN]; exact Nat.mul_lt_mul_of_pos_right hx (Nat.two_pow_pos _)
 have hlow := ynz 32 N t (s % 32) hN
 have hN1 : N < 2 ^ (32 * (t + 1)) := Nat.lt_of_lt_of_le hN (Nat.pow_le_pow_right (by omega) (by omega))
 have hym : y % 4294967296 % 2 ^ (s % 32) = 0 := by
  rw [show (4294967296 : Nat) = 2 ^ 32 from rfl, Nat.mod_mod_of_dvd _ (Nat.pow_dvd_pow 2 (by omega)), ← hy]
  exact Nat.mul_mod_left _ _
 have hor : dg 32 N t ||| y % 4294967296 = dg 32 N t + y % 4294967296 := ygc hlow hym
 have hsum : dg 32 N t + y % 4294967296 < 2 ^ 32 := by
  rw [← hor]; exact Nat.or_lt_two_pow (ya4 32 N t) (by rw [B32]; exact Nat.mod_lt _ (by omega))
 have hyl : y / 4294967296 < 2 ^ 32 := by
  rw [B32, Nat.div_lt_iff_lt_mul (by omega), ← hy]
  have : dg 32 x i * 2 ^ (s % 32) < 2 ^ 32 * 2 ^ 32 := Nat.mul_lt_mul_of_lt_of_le (by rw [B32]; exact hdx) (Nat.pow_le_pow_right (by omega) (by omega)) (Nat.two_pow_pos _)
  rw [B32] at this; exact this
 have hG1 : upd (G 32 N) t (((dg 32 N t ||| y % 4294967296 : Nat)) : Int) = G 32 (N + y % 4294967296 * 2 ^ (32 * t)) := by
  rw [hor]
  refine ygF ?_ hsum
  rw [Nat.add_mul]; omega
 have hlt : N + y % 4294967296 * 2 ^ (32 * t) < 2 ^ (32 * (t + 1)) := by
  have hNl : N = N % 2 ^ (32 * t) + dg 32 N t * 2 ^ (32 * t) := by
   have := ybg 32 N t
   rw [Nat.mod_eq_of_lt hN1] at this; exact this
  have h1 := yiy 32 (N % 2 ^ (32 * t)) (dg 32 N t + y % 4294967296) t (Nat.mod_lt _ (Nat.two_pow_pos _)) hsum
  rw [Nat.add_mul] at h1
  omega
 refine ⟨N + y % 4294967296 * 2 ^ (32 * t), hG1, ydy 32 _ _ hlt, ?_⟩
 rw [ykd 32 _ _ (t + 1) hlt hyl]
 refine congrArg (G 32) ?_
 have h2 := ymj y 4294967296 (2 ^ (32 * t))
 rw [ycs, B32]
 have h3 : y * 2 ^ (32 * t) = dg 32 x i * 2 ^ (32 * i) * 2 ^ s := by
  rw [← hy, Nat.mul_assoc, ← Nat.pow_add, Nat.mul_assoc, ← Nat.pow_add]; congr 2; omega
 rw [ybg, Nat.add_mul, hNN, ← h3]
 omega
theorem ymE (x n s : Nat) (hn : n ≤ 1000000) (hs : s ≤ 100000000) (hx : x < 2 ^ (32 * n)) (c0 m0 : Nat) (k0 : Nat → Nat → Nat → (Nat → Int) → Prop) (h : k0 (n + s / 32 + 1) c0 m0 (G 32 (x * 2 ^ s))) :
  ∀ (j i : Nat), i + j = n → zcg.l5 k0 (j + 1) s (n + s / 32 + 1) c0 n (G 32 x) n i m0 (G 32 (x % 2 ^ (32 * i) * 2 ^ s)) := by
 intro j
 induction j with
 | zero =>
  intro i hi
  unfold zcg.l5 zcg.l5.step
  rw [yau (ybq (by omega)), show i = n from by omega, Nat.mod_eq_of_lt hx]
  exact h
 | succ j ih =>
  intro i hi
  have ih := ih (i + 1) (by omega)
  have e : ((i + 1 : Nat) : Int) = (i : Int) + 1 := by omega
  obtain ⟨N1, u1, u2, u3⟩ := ysv x i s _ _ _ rfl rfl rfl
  rw [e, ← u3] at ih
  have hd := ya4 32 x i
  rw [B32] at hd
  obtain ⟨q1, q2⟩ := ylv (dg 32 x i) (s % 32) hd (Nat.mod_lt _ (by omega))
  have e1 : Int.toNat ((i : Int) + (s : Int) / 32) = i + s / 32 := by omega
  have e2 : Int.toNat ((i : Int) + (s : Int) / 32 + 1) = i + s / 32 + 1 := by omega
  have e3 : (s : Int) % 32 = ((s % 32 : Nat) : Int) := by omega
  have e4 : ((dg 32 x i * 2 ^ (s % 32) : Nat) : Int) % 4294967296 = ((dg 32 x i * 2 ^ (s % 32) % 4294967296 : Nat) : Int) := by omega
  have e5 : ((dg 32 x i * 2 ^ (s % 32) : Nat) : Int) / 4294967296 % 4294967296 = ((dg 32 x i * 2 ^ (s % 32) / 4294967296 : Nat) : Int) := by omega
  have hb : IntKind.bits .u32 = 32 := rfl
  have o1 : orI .u32 ((dg 32 (x % 2 ^ (32 * i) * 2 ^ s) (i + s / 32) : Nat) : Int) ((dg 32 x i * 2 ^ (s % 32) % 4294967296 : Nat) : Int) = ((dg 32 (x % 2 ^ (32 * i) * 2 ^ s) (i + s / 32) ||| dg 32 x i * 2 ^ (s % 32) % 4294967296 : Nat) : Int) :=
   ysx (k := .u32) rfl _ _ (by rw [hb]; exact ya4 32 _ _) (by rw [hb, B32]; exact Nat.mod_lt _ (by omega))
  have o2 : orI .u32 ((0 : Nat) : Int) ((dg 32 x i * 2 ^ (s % 32) / 4294967296 : Nat) : Int) = ((dg 32 x i * 2 ^ (s % 32) / 4294967296 : Nat) : Int) := by
   rw [ysx (k := .u32) rfl _ _ (by rw [hb, B32]; omega) (by rw [hb, B32]; omega), Nat.zero_or]
  unfold zcg.l5 zcg.l5.step
  simp (disch := omega) only [ya9, ybq, ybb, yaD, ya3, Bool.and_self, Bool.not_false, Int.toNat_natCast, ycd, yhL, yas, yaU, ya6, e1, e2, e3, q1, ybu, yb7, e4, e5, o1, u1, u2, o2]
  exact ih
theorem yiL (x n s : Nat) (hn : n ≤ 1000000) (hs : s ≤ 100000000) (hx : x < 2 ^ (32 * n)) : x * 2 ^ s < 2 ^ (32 * (n + s / 32 + 1)) := by
 have : x * 2 ^ s < 2 ^ (32 * n) * 2 ^ s := Nat.mul_lt_mul_of_pos_right hx (Nat.two_pow_pos _)
 rw [← Nat.pow_add] at this
 exact Nat.lt_of_lt_of_le this (Nat.pow_le_pow_right (by omega) (by omega))
theorem yh8 (x n s : Nat) (hn : n ≤ 1000000) (hs : s ≤ 100000000) (hx : x < 2 ^ (32 * n)) (K0 : Prop) (K1 : Nat → Nat → Nat → (Nat → Int) → Prop) (h0 : n = 0 → K0) (h1 : n ≠ 0 → ∀ c m, K1 (wl 32 (x * 2 ^ s)) c m (G 32 (x * 2 ^ s))) :
  zcg n (G 32 x) s K0 K1 := by
 rw [zcg.is]; unfold zcg.d
 by_cases hz : n = 0
 ·rw [yaA (yhy (by omega))]; exact h0 hz
 ·rw [yau (yfN (by omega))]
  have e1 : Int.toNat ((n : Int) + (s : Int) / 32 + 1) = n + s / 32 + 1 := by omega
  simp (disch := omega) only [ycd, yas, ybb, yaD, Bool.and_self, e1]
  refine ⟨n + 1, ?_⟩
  have := ymE x n s hn hs hx (n + s / 32 + 1) (n + s / 32 + 1) (fun y0 y1 y2 y3 => zbv y0 y1 y2 y3 fun y0 y1 y2 y3 => K1 y0 y1 y2 y3) ?_ n 0 (by omega)
  ·rw [Nat.mul_zero, Nat.pow_zero, Nat.mod_one, Nat.zero_mul, ycy] at this; exact this
  ·exact ybW _ _ _ _ (by omega) (Nat.le_refl _) (yiL x n s hn hs hx) _ fun c => h1 hz c _
theorem ysd (x s i : Nat) : (dg 32 x (i + s / 32) + dg 32 x (i + s / 32 + 1) * 4294967296) / 2 ^ (s % 32) % 4294967296 = dg 32 (x / 2 ^ s) i := by
 have hr : s % 32 < 32 := Nat.mod_lt _ (by omega)
 have h1 : dg 32 x (i + s / 32) + dg 32 x (i + s / 32 + 1) * 4294967296 = x / 2 ^ (32 * (i + s / 32)) % 2 ^ 64 := by
  have a := ydc 32 x (i + s / 32)
  have b := ydc 32 x (i + s / 32 + 1)
  rw [B32] at a b
  rw [a, b, B64]
  have c := ya4 32 x (i + s / 32)
  have d := ya4 32 x (i + s / 32 + 1)
  rw [B32] at c d
  omega
 rw [h1]
 unfold dg
 rw [Nat.div_div_eq_div_mul, ← Nat.pow_add]
 have h2 : (2 : Nat) ^ 64 = 2 ^ (s % 32) * 2 ^ (64 - s % 32) := by rw [← Nat.pow_add]; congr 1; omega
 rw [h2, Nat.mod_mul_right_div_self, Nat.div_div_eq_div_mul, ← Nat.pow_add, show (4294967296 : Nat) = 2 ^ 32 from rfl, Nat.mod_mod_of_dvd _ (Nat.pow_dvd_pow 2 (by omega))]
 congr 3; omega
theorem yjN (x n s : Nat) (hn : n ≤ 1000000) (hx : x < 2 ^ (32 * n)) (hs : s / 32 < n) (c0 m0 : Nat) (k0 : Nat → Nat → Nat → (Nat → Int) → Prop) (h : k0 (n - s / 32) c0 m0 (G 32 (x / 2 ^ s % 2 ^ (32 * (n - s / 32))))) :
  ∀ (j i : Nat), i + j = n - s / 32 → zbx.l5 k0 (j + 1) n (G 32 x) s (n - s / 32) c0 ((n - s / 32 : Nat) : Int) i m0 (G 32 (x / 2 ^ s % 2 ^ (32 * i))) := by
 intro j
 induction j with
 | zero =>
  intro i hi
  unfold zbx.l5 zbx.l5.step
  rw [yau (ybq (by omega)), show i = n - s / 32 from by omega]
  exact h
 | succ j ih =>
  intro i hi
  have ih := ih (i + 1) (by omega)
  have e : ((i + 1 : Nat) : Int) = (i : Int) + 1 := by omega
  have hr : s % 32 < 32 := Nat.mod_lt _ (by omega)
  have hw := ysd x s i
  have hdw := ya4 32 (x / 2 ^ s) i
  rw [e, ybg, ← ykd 32 _ _ i (Nat.mod_lt _ (Nat.two_pow_pos _)) hdw, ← hw] at ih
  have hd := ya4 32 x (i + s / 32)
  have hd2 := ya4 32 x (i + s / 32 + 1)
  rw [B32] at hd hd2
  have e1 : Int.toNat ((i : Int) + (s : Int) / 32) = i + s / 32 := by omega
  have e2 : Int.toNat ((i : Int) + (s : Int) / 32 + 1) = i + s / 32 + 1 := by omega
  have e3 : (s : Int) % 32 = ((s % 32 : Nat) : Int) := by omega
  have hb : IntKind.bits .u64 = 64 := rfl
  have sh : ∀ z : Nat, yaP .u64 (z : Int) ((s % 32 : Nat) : Int) = ((z / 2 ^ (s % 32) : Nat) : Int) := fun z => by
   rw [yf6 (k := .u64) (by rw [hb]; omega)]; simp
  unfold zbx.l5 zbx.l5.step
  by_cases hlt : i + s / 32 + 1 < n
  ·have o1 : orI .u64 ((dg 32 x (i + s / 32) : Nat) : Int) (ybD .u64 ((dg 32 x (i + s / 32 + 1) : Nat) : Int) 32) = ((dg 32 x (i + s / 32) + dg 32 x (i + s / 32 + 1) * 4294967296 : Nat) : Int) := by
    have := yoH (k := .u64) rfl (dg 32 x (i + s / 32 + 1)) 32 (by rw [hb]; omega)
    rw [show ((32 : Nat) : Int) = 32 from rfl] at this
    rw [this, hb, B32, Nat.mod_eq_of_lt (by rw [B64]; omega), ysx (k := .u64) rfl _ _ (by rw [hb, B64]; omega) (by rw [hb, B64]; omega)]
    congr 1
    exact ygc (r := 32) (by rw [B32]; exact hd) (by rw [B32]; exact Nat.mul_mod_left _ _)
   have e4 : (((dg 32 x (i + s / 32) + dg 32 x (i + s / 32 + 1) * 4294967296) / 2 ^ (s % 32) : Nat) : Int) % 4294967296 = (((dg 32 x (i + s / 32) + dg 32 x (i + s / 32 + 1) * 4294967296) / 2 ^ (s % 32) % 4294967296 : Nat) : Int) := by omega
   simp (disch := omega) only [ya9, ybq, ybb, yaD, ya3, Bool.and_self, Bool.not_false, Int.toNat_natCast, ycd, yhL, yas, yaU, ya6, e1, e2, e3, o1, sh, ybu, e4]
   exact ih
  ·have hz : dg 32 x (i + s / 32 + 1) = 0 := yd7 32 x n _ hx (by omega)
   rw [hz, Nat.zero_mul, Nat.add_zero] at ih
   have e4 : ((dg 32 x (i + s / 32) / 2 ^ (s % 32) : Nat) : Int) % 4294967296 = ((dg 32 x (i + s / 32) / 2 ^ (s % 32) % 4294967296 : Nat) : Int) := by omega
   simp (disch := omega) only [ya9, ybq, ybb, yaD, ya3, yel, Bool.and_self, Bool.not_false, Int.toNat_natCast, ycd, yhL, yas, yaU, ya6, e1, e2, e3, sh, ybu, e4]
   exact ih
theorem yhu (x n s : Nat) (hn : n ≤ 1000000) (hs : s < 9223372036854775808) (hx : x < 2 ^ (32 * n)) (K : Nat → (Nat → Int) → Prop) (h : K (wl 32 (x / 2 ^ s)) (G 32 (x / 2 ^ s))) : zbx n (G 32 x) s K := by
 rw [zbx.is]; unfold zbx.d
 rw [ycd (by omega) (by omega) (by omega)]
 by_cases hlt : n ≤ s / 32
 ·rw [yaA (ybb (by omega))]
  have hz : x / 2 ^ s = 0 := Nat.div_eq_of_lt (Nat.lt_of_lt_of_le hx (Nat.pow_le_pow_right (by omega) (by omega)))
  rw [hz, ydF, ycy] at h
  exact h
 ·rw [yau (yff (by omega))]
  have e1 : Int.toNat ((n : Int) - (s : Int) / 32) = n - s / 32 := by omega
  have e2 : (n : Int) - (s : Int) / 32 = ((n - s / 32 : Nat) : Int) := by omega
  simp (disch := omega) only [yat, ybb, yaD, Bool.and_self, e1]
  have hlt2 : x / 2 ^ s < 2 ^ (32 * (n - s / 32)) := by
   rw [Nat.div_lt_iff_lt_mul (Nat.two_pow_pos _), ← Nat.pow_add]
   exact Nat.lt_of_lt_of_le hx (Nat.pow_le_pow_right (by omega) (by omega))
  refine ⟨n - s / 32 + 1, ?_⟩
  have := yjN x n s hn hx (by omega) (n - s / 32) (n - s / 32) (fun y0 y1 y2 y3 => zbv y0 y1 y2 y3 fun y0 y1 y2 y3 => K y0 y3) ?_ (n - s / 32) 0 (by omega)
  ·rw [Nat.mul_zero, Nat.pow_zero, Nat.mod_one, ycy] at this; exact this
  ·rw [Nat.mod_eq_of_lt hlt2]
   exact ybW _ _ _ _ (by omega) (Nat.le_refl _) hlt2 _ fun c => h
theorem yns (k x : Nat) (hk : k ≠ 0) (hx : x ≠ 0) : yaw x = k * (wl k x - 1) + yaw (dg k x (wl k x - 1)) := by
 have h1 := ye3 k hk x
 have hp : wl k x ≠ 0 := by rw [yiV hx hk]; omega
 have h2 : x / 2 ^ (k * (wl k x - 1)) = dg k x (wl k x - 1) := by
  have := ydc k x (wl k x - 1)
  rw [show wl k x - 1 + 1 = wl k x from by omega, Nat.div_eq_of_lt h1] at this
  omega
 have h3 := ynH k hk x hx
 rw [← h2] at h3 ⊢
 exact yen h3
theorem ypg (b : UInt8) (l : List UInt8) : dg 8 (val (b :: l)) l.length = b.toNat := by
 have := ynD (b :: l) l.length (by simp)
 rw [show (b :: l).length - 1 - l.length = 0 from by simp] at this
 exact this.symm
theorem yfO (a : List UInt8) (K : Int → Prop) (h : K (if May a then (yaw (val a) : Int) else 0)) : zbl a K := by
 rw [zbl.is]; unfold zbl.d
 rw [ya0]
 by_cases hm : May a
 ·rw [if_pos hm] at h
  rw [if_pos hm, yau (by rfl), ybi]
  cases a with
  | nil => rw [yaA (by simp)]; exact h
  | cons b l =>
   have hl := hm.1
   rw [List.length_cons] at hl
   have hv : val (b :: l) ≠ 0 := fun e => by have := hm.nb; rw [e, yaJ] at this; cases this
   have hb := yns 8 _ (by omega) hv
   rw [yle hm.2, List.length_cons, Nat.add_sub_cancel, ypg] at hb
   have hbl := ypf b
   rw [yau (by simp), yby (ya9 (by rw [List.length_cons]; omega)), ydm, yaU (by omega) (by omega)]
   refine ye2 _ (by omega) _ ?_
   have h8 : yaw b.toNat ≤ 8 := (yaT _ _).2 hbl
   rw [List.length_cons]
   simp (disch := omega) only [yat, ycw, yas]
   rw [show 8 * (((l.length + 1 : Nat) : Int) - 1) + (yaw b.toNat : Int) = ((yaw (val (b :: l)) : Nat) : Int) from by rw [hb]; omega]
   exact h
 ·rw [if_neg hm] at h
  rw [if_neg hm, yaA (by rfl)]; exact h
def ybm (x : Nat) : Nat := if h : x % 2 = 1 ∨ x = 0 then 0 else ybm (x / 2) + 1
decreasing_by omega
theorem yed (x : Nat) (h : x ≠ 0) : ∃ q, x = 2 ^ ybm x * (2 * q + 1) := by
 induction x using Nat.strongRecOn with
 | _ x ih =>
  by_cases h1 : x % 2 = 1
  ·have : ybm x = 0 := by rw [ybm]; simp [h1]
   exact ⟨x / 2, by rw [this, Nat.pow_zero, Nat.one_mul]; omega⟩
  ·have : ybm x = ybm (x / 2) + 1 := by rw [ybm]; rw [dif_neg (by omega)]
   obtain ⟨q, hq⟩ := ih (x / 2) (by omega) (by omega)
   refine ⟨q, ?_⟩
   rw [this, Nat.pow_succ, Nat.mul_assoc, Nat.mul_comm 2, ← Nat.mul_assoc, ← hq]; omega
theorem yml (k q : Nat) : ybm (2 ^ k * (2 * q + 1)) = k := by
 induction k with
 | zero => rw [ybm]; rw [dif_pos (by left; omega)]
 | succ k ih =>
  have hp := Nat.two_pow_pos k
  have hpos : 0 < 2 ^ k * (2 * q + 1) := Nat.mul_pos hp (by omega)
  have e : 2 ^ (k + 1) * (2 * q + 1) = 2 * (2 ^ k * (2 * q + 1)) := by rw [Nat.pow_succ, Nat.mul_comm (2 ^ k) 2, Nat.mul_assoc]
  rw [e, ybm, dif_neg (by omega), show 2 * (2 ^ k * (2 * q + 1)) / 2 = 2 ^ k * (2 * q + 1) from by omega, ih]
theorem yla (x t : Nat) (h0 : x % 2 ^ (8 * t) = 0) (hd : dg 8 x t ≠ 0) : ybm x = 8 * t + ybm (dg 8 x t) := by
 obtain ⟨q, hq⟩ := yed _ hd
 have hlt := ya4 8 x t
 have hk : ybm (dg 8 x t) < 8 := by
  apply Classical.byContradiction
  intro hc
  have h1 : 2 ^ 8 ≤ 2 ^ ybm (dg 8 x t) := Nat.pow_le_pow_right (by omega) (by omega)
  have h2 : 2 ^ ybm (dg 8 x t) * 1 ≤ 2 ^ ybm (dg 8 x t) * (2 * q + 1) := Nat.mul_le_mul_left _ (by omega)
  omega
 have hx := yg0 8 x t
 rw [h0, Nat.zero_add] at hx
 generalize hkk : ybm (dg 8 x t) = k at *
 have h8 : (2 : Nat) ^ (8 * (t + 1)) = 2 ^ (8 * t) * (2 ^ k * (2 * 2 ^ (7 - k))) := by
  rw [show (2 : Nat) * 2 ^ (7 - k) = 2 ^ (8 - k) from by rw [show 8 - k = 7 - k + 1 from by omega, Nat.pow_succ, Nat.mul_comm], ← Nat.pow_add, ← Nat.pow_add]; congr 1; omega
 have e : x = 2 ^ (8 * t + k) * (2 * (q + x / 2 ^ (8 * (t + 1)) * 2 ^ (7 - k)) + 1) := by
  conv => lhs; rw [hx, hq]
  generalize x / 2 ^ (8 * (t + 1)) = y
  rw [h8, Nat.pow_add]
  generalize 2 ^ (8 * t) = P
  generalize 2 ^ k = Q
  generalize 2 ^ (7 - k) = R
  have e1 : y * (P * (Q * (2 * R))) = P * Q * (2 * (y * R)) := by
   rw [Nat.mul_left_comm y P, Nat.mul_left_comm y Q, Nat.mul_left_comm y 2, ← Nat.mul_assoc P]
  rw [e1, Nat.mul_comm (Q * _) P, ← Nat.mul_assoc, ← Nat.mul_add]
  congr 1; omega
 have := yml (8 * t + k) (q + x / 2 ^ (8 * (t + 1)) * 2 ^ (7 - k))
 rw [← e] at this
 exact this
theorem yhG : ybm 0 = 0 := by rw [ybm]; simp
theorem ykk (a : List UInt8) (hl : a.length ≤ 100000) (k0 : Int → Prop) (k1 : Prop) (h0 : val a ≠ 0 → k0 (ybm (val a))) (h1 : val a = 0 → k1) :
  ∀ (j t : Nat), t + j = a.length → val a % 2 ^ (8 * t) = 0 → zbm.l4 k0 k1 (j + 1) a ((a.length : Int) - 1 - t) := by
 intro j
 induction j with
 | zero =>
  intro t ht hm
  unfold zbm.l4 zbm.l4.step
  rw [yau (yff (by omega))]
  refine h1 ?_
  rw [Nat.mod_eq_of_lt (by have := ygi a; rw [ynU] at this; rwa [show t = a.length from by omega])] at hm
  exact hm
 | succ j ih =>
  intro t ht hm
  have hd := ya4 8 (val a) t
  have e8 : (2 : Nat) ^ 8 = 256 := rfl
  have e1 : Int.toNat ((a.length : Int) - 1 - t) = a.length - 1 - t := by omega
  have e2 : (a.length : Int) - 1 - ((a.length : Int) - 1 - t) = t := by omega
  have e3 : (a.length : Int) - 1 - t - 1 = (a.length : Int) - 1 - ((t + 1 : Nat) : Int) := by omega
  unfold zbm.l4 zbm.l4.step
  simp (disch := omega) only [ya9, ybb, yaD, ya3, Bool.and_self, e1]
  rw [yfd a t (by omega)]
  by_cases hz : dg 8 (val a) t = 0
  ·rw [yhy (by omega), yau (by rfl)]
   simp (disch := omega) only [yat, e3]
   refine ih (t + 1) (by omega) ?_
   rw [ybg, hm, hz]; omega
  ·rw [yfN (by omega), yaA (by rfl), yaU (by omega) (by omega)]
   obtain ⟨q, hq⟩ := yed _ hz
   have hk : ybm (dg 8 (val a) t) < 64 := by
    apply Classical.byContradiction
    intro hc
    have h1 : 2 ^ 64 ≤ 2 ^ ybm (dg 8 (val a) t) := Nat.pow_le_pow_right (by omega) (by omega)
    have h2 : 2 ^ ybm (dg 8 (val a) t) * 1 ≤ 2 ^ ybm (dg 8 (val a) t) * (2 * q + 1) := Nat.mul_le_mul_left _ (by omega)
    rw [B64] at h1; omega
   have hlow := yla (val a) t hm hz
   have := ylP (ybm (dg 8 (val a) t)) q hk (by rw [← hq]; omega) (fun y0 => k0 (yaj .i64 (ybY .i64 8 (yan .i64 (yan .i64 (a.length : Int) 1) ((a.length : Int) - 1 - t))) y0)) ?_
   ·rw [← hq] at this; exact this
   ·simp (disch := omega) only [yat, ycw, yas, e2]
    rw [show 8 * (t : Int) + (ybm (dg 8 (val a) t) : Int) = ((ybm (val a) : Nat) : Int) from by rw [hlow]; omega]
    refine h0 fun e => hz ?_
    rw [e]; exact ydy 8 0 t (Nat.two_pow_pos _)
theorem yex (a : List UInt8) (K : Int → Prop) (h : K (if May a then (ybm (val a) : Int) else 0)) : zbm a K := by
 rw [zbm.is]; unfold zbm.d
 rw [ya0]
 by_cases hm : May a
 ·rw [if_pos hm] at h
  have hl := hm.1
  rw [if_pos hm, yau (by rfl), yat (by omega) (by omega)]
  refine ⟨a.length + 1, ?_⟩
  have := ykk a (by omega) (fun y0 => K y0) (K 0) (fun _ => h) (fun e => by rw [e, yhG] at h; exact h) a.length 0 (by omega) (by simp [Nat.mod_one])
  rw [show (a.length : Int) - 1 - ((0 : Nat) : Int) = (a.length : Int) - 1 from by omega] at this
  exact this
 ·rw [if_neg hm] at h
  rw [if_neg hm, yaA (by rfl)]; exact h
end Go.Ev.S

/- Natural numbers as rows of words: divided. -/
set_option linter.unusedVariables false
set_option linter.unusedSimpArgs false
set_option maxRecDepth 8000
namespace Go.Ev.S
open Go Go.Ev
theorem yrA {B P U D v1 v2 dl x u2 ul q left : Nat} (hP : 0 < P) (hD : D = (v1 * B + v2) * P + dl) (hU : U = (x * B + u2) * P + ul) (hul : ul < P) (hx : q * v1 + left = x) (hD0 : 0 < D) (hUB : U < D * B)
  (h : B ≤ q ∨ left * B + u2 < q * v2) : U / D < q := by
 rw [Nat.div_lt_iff_lt_mul hD0]
 rcases h with h | h
 ·exact Nat.lt_of_lt_of_le hUB (by rw [Nat.mul_comm q]; exact Nat.mul_le_mul_left _ h)
 ·have h1 : (x * B + u2 + 1) * P ≤ q * ((v1 * B + v2) * P) := by
   rw [← Nat.mul_assoc]
   refine Nat.mul_le_mul_right _ ?_
   rw [← hx, Nat.mul_add, Nat.add_mul, ← Nat.mul_assoc]
   omega
  have h2 : q * ((v1 * B + v2) * P) ≤ q * D := Nat.mul_le_mul_left _ (by omega)
  rw [Nat.add_mul, Nat.one_mul] at h1
  omega
theorem yrx {B P U D v1 v2 dl x u2 ul q left : Nat} (hD : D = (v1 * B + v2) * P + dl) (hdl : dl < P) (hU : U = (x * B + u2) * P + ul) (hx : q * v1 + left = x) (hD0 : 0 < D) (hv : 0 < v1) (hqB : q < B) (h : q * v2 ≤ left * B + u2) : q ≤ U / D + 1 := by
 have key : (q - 1) * D ≤ U := by
  have h1 : (q - 1) * D ≤ (q - 1) * ((v1 * B + v2 + 1) * P) := Nat.mul_le_mul_left _ (by rw [Nat.add_mul (v1 * B + v2)]; omega)
  have h2 : (q - 1) * (v1 * B + v2 + 1) ≤ x * B + u2 := by
   rcases Nat.eq_zero_or_pos q with h0 | h0
   ·subst h0; simp
   ·have e1 : (q - 1) * (v1 * B + v2 + 1) = q * (v1 * B + v2) + (q - 1) - (v1 * B + v2) := by
     obtain ⟨t, rfl⟩ : ∃ t, q = t + 1 := ⟨q - 1, by omega⟩
     rw [Nat.add_sub_cancel, Nat.mul_add t, Nat.add_mul t 1]
     omega
    have e2 : q * (v1 * B + v2) ≤ x * B + u2 := by
     rw [← hx, Nat.mul_add, Nat.add_mul, ← Nat.mul_assoc]; omega
    have e3 : B ≤ v1 * B := Nat.le_mul_of_pos_left _ hv
    omega
  have h3 : (q - 1) * ((v1 * B + v2 + 1) * P) ≤ (x * B + u2) * P := by
   rw [← Nat.mul_assoc]; exact Nat.mul_le_mul_right _ h2
  omega
 have := (Nat.le_div_iff_mul_le hD0).2 key
 omega
theorem yhz (a b : Nat) (ha : a < 4294967296) (hb : b < 4294967296) : orI .u64 (ybD .u64 (a : Int) 32) (b : Int) = ((a * 4294967296 + b : Nat) : Int) := by
 have hb64 : IntKind.bits .u64 = 64 := rfl
 have := yoH (k := .u64) rfl a 32 (by rw [hb64]; omega)
 rw [show ((32 : Nat) : Int) = 32 from rfl] at this
 rw [this, hb64, B32, Nat.mod_eq_of_lt (by rw [B64]; omega), ysx (k := .u64) rfl _ _ (by rw [hb64, B64]; omega) (by rw [hb64, B64]; omega)]
 congr 1
 rw [Nat.or_comm, ygc (r := 32) (by rw [B32]; exact hb) (by rw [B32]; exact Nat.mul_mod_left _ _), Nat.add_comm]
theorem ypQ (a b : Nat) (ha : a < 18446744073709551616) : yaG .u64 (a : Int) (b : Int) = ((a / b : Nat) : Int) := by
 have h : a / b ≤ a := Nat.div_le_self a b
 show IntKind.wrap .u64 ((a : Int).tdiv b) = _
 rw [Int.tdiv_eq_ediv_of_nonneg (by omega)]
 have : (a : Int) / (b : Int) = ((a / b : Nat) : Int) := by simp
 rw [this]
 generalize a / b = q at h ⊢
 exact yhC (by omega) (by omega)
theorem yi5 {again : Nat → Int → Nat → Nat → Int → Int → Int → Int → Nat → (Nat → Int) → Nat → (Nat → Int) → Nat → (Nat → Int) → Prop} {k0 : Nat → Int → Nat → Nat → Int → Int → Int → Nat → (Nat → Int) → Nat → (Nat → Int) → Nat → (Nat → Int) → Prop} (n0 : Nat) (s : Int) (L md i : Nat) (hmd : 2 ≤ md) (hmd2 : md ≤ 1000000) (c1 c2 c3 : Nat) (f1 f3 : Nat → Int) (D v1 q left : Nat) (hv1 : v1 < 4294967296) (hl : left < 4294967296) (e1 : dg 32 D (md - 1) = v1) (hq1 : q + 1 < 18446744073709551616)
  (h1 : left + v1 < 4294967296 → again n0 s md L md i q (left + v1 : Nat) c1 f1 c2 (G 32 D) c3 f3) (h2 : 4294967296 ≤ left + v1 → k0 n0 s md L md i q c1 f1 c2 (G 32 D) c3 f3) :
  gd (leI 0 (yan IntKind.i64 (md : Int) 1) && ltI (yan IntKind.i64 (md : Int) 1) (md : Int)) (br (leI 4294967296 (yaj IntKind.u64 (left : Int) (cvI IntKind.u64 (G 32 D (Int.toNat (yan IntKind.i64 (md : Int) 1)))))) (k0 n0 s md L md i (yan IntKind.u64 ((q + 1 : Nat) : Int) 1) c1 f1 c2 (G 32 D) c3 f3) (again n0 s md L md i (yan IntKind.u64 ((q + 1 : Nat) : Int) 1) (yaj IntKind.u64 (left : Int) (cvI IntKind.u64 (G 32 D (Int.toNat (yan IntKind.i64 (md : Int) 1))))) c1 f1 c2 (G 32 D) c3 f3)) := by
 have s1 : yan .u64 ((q + 1 : Nat) : Int) 1 = (q : Int) := by rw [yeS (by omega) (by omega)]; omega
 have a1 : yaj .u64 (left : Int) ((v1 : Nat) : Int) = ((left + v1 : Nat) : Int) := by rw [yfT (by omega) (by omega)]; omega
 have i0 : yan IntKind.i64 (md : Int) 1 = (md : Int) - 1 := by rw [yat (by omega) (by omega)]
 have i1 : Int.toNat ((md : Int) - 1) = md - 1 := by omega
 have i2 : cvI IntKind.u64 ((v1 : Nat) : Int) = v1 := by rw [yaU (by omega) (by omega)]
 rw [i0, i1, ya6, e1, i2, a1, s1, yby (by rw [ybb (by omega), ya9 (by omega)]; rfl)]
 by_cases hl2 : left + v1 < 4294967296
 ·rw [yau (yff (by omega))]; exact h1 hl2
 ·rw [yaA (ybb (by omega))]; exact h2 (by omega)
theorem yn6 (left u2 q v2 : Nat) (hl : left < 4294967296) (hu : u2 < 4294967296) (hq : q < 4294967296) (hv : v2 < 4294967296) : ltI (orI IntKind.u64 (ybD IntKind.u64 (left : Int) 32) (cvI IntKind.u64 (u2 : Int))) (ybY IntKind.u64 (q : Int) (cvI IntKind.u64 (v2 : Int))) = decide (left * 4294967296 + u2 < q * v2) := by
 have h1 : q * v2 ≤ 4294967295 * 4294967295 := Nat.mul_le_mul (by omega) (by omega)
 have e4 : ((q : Int) * ((v2 : Nat) : Int)) = ((q * v2 : Nat) : Int) := by simp
 rw [yaU (by omega) (by omega), yaU (by omega) (by omega), yhz left u2 hl hu, ymy (by rw [e4]; omega) (by rw [e4]; omega), e4]
 generalize q * v2 = t
 by_cases h : left * 4294967296 + u2 < t
 ·rw [ya9 (by omega)]; exact (decide_eq_true h).symm
 ·rw [ybq (by omega)]; exact (decide_eq_false h).symm
theorem yiZ {again : Nat → Int → Nat → Nat → Int → Int → Int → Int → Nat → (Nat → Int) → Nat → (Nat → Int) → Nat → (Nat → Int) → Prop} {k0 : Nat → Int → Nat → Nat → Int → Int → Int → Nat → (Nat → Int) → Nat → (Nat → Int) → Nat → (Nat → Int) → Prop} (n0 : Nat) (s : Int) (L md i : Nat) (hi : i ≤ 1000000) (hmd : 2 ≤ md) (hmd2 : md ≤ 1000000) (hL : i + md < L) (c1 c2 c3 : Nat) (f1 : Nat → Int) (D N v1 v2 u2 q left : Nat) (hv1 : v1 < 4294967296) (hv2 : v2 < 4294967296) (hu2 : u2 < 4294967296) (hl : left < 4294967296)
  (e1 : dg 32 D (md - 1) = v1) (e2 : dg 32 D (md - 2) = v2) (e3 : dg 32 N (i + md - 2) = u2) (hq1 : q < 18446744073709551616)
  (hd : 4294967296 ≤ q ∨ left * 4294967296 + u2 < q * v2 → ∃ p, q = p + 1 ∧ (left + v1 < 4294967296 → again n0 s md L md i p (left + v1 : Nat) c1 f1 c2 (G 32 D) c3 (G 32 N)) ∧ (4294967296 ≤ left + v1 → k0 n0 s md L md i p c1 f1 c2 (G 32 D) c3 (G 32 N)))
  (hk : q < 4294967296 → q * v2 ≤ left * 4294967296 + u2 → k0 n0 s md L md i q c1 f1 c2 (G 32 D) c3 (G 32 N)) :
  zcb.l24.step again k0 n0 s md L md i q left c1 f1 c2 (G 32 D) c3 (G 32 N) := by
 unfold zcb.l24.step
 by_cases hbig : 4294967296 ≤ q
 ·rw [yaA (ybb (by omega))]
  obtain ⟨p, rfl, h1, h2⟩ := hd (.inl hbig)
  exact yi5 n0 s L md i hmd hmd2 c1 c2 c3 f1 _ D v1 p left hv1 hl e1 (by omega) h1 h2
 ·rw [yau (yff (by omega))]
  have i0 : yan IntKind.i64 (md : Int) 2 = (md : Int) - 2 := by rw [yat (by omega) (by omega)]
  have i1 : yaj IntKind.i64 (i : Int) (md : Int) = (i : Int) + md := by rw [yas (by omega) (by omega)]
  have i2 : yan IntKind.i64 ((i : Int) + md) 2 = (i : Int) + md - 2 := by rw [yat (by omega) (by omega)]
  have i3 : Int.toNat ((md : Int) - 2) = md - 2 := by omega
  have i4 : Int.toNat ((i : Int) + md - 2) = i + md - 2 := by omega
  rw [i0, i1, i2, i3, i4, yby (by rw [ybb (by omega), ya9 (by omega)]; rfl), yby (by rw [ybb (by omega), ya9 (by omega)]; rfl), ya6, ya6, e2, e3, yn6 left u2 q v2 hl hu2 (by omega) hv2]
  by_cases ht : left * 4294967296 + u2 < q * v2
  ·rw [yaA (decide_eq_true ht)]
   obtain ⟨p, rfl, h1, h2⟩ := hd (.inr ht)
   exact yi5 n0 s L md i hmd hmd2 c1 c2 c3 f1 _ D v1 p left hv1 hl e1 (by omega) h1 h2
  ·rw [yau (decide_eq_false ht)]
   exact hk (by omega) (by omega)
theorem yof {B v1 x q left : Nat} (hxv : x / B ≤ v1) (hB : 0 < B) (hx : q * v1 + left = x) (hq : B ≤ q) : left < B := by
 have h1 : B * v1 ≤ q * v1 := Nat.mul_le_mul_right _ hq
 have h2 := Nat.div_add_mod x B
 have h3 := Nat.mod_lt x hB
 have h4 : B * (x / B) ≤ B * v1 := Nat.mul_le_mul_left _ hxv
 omega
theorem yn3 {B q v2 left u2 : Nat} (hq : q < B) (hv : v2 < B) (hl : B ≤ left) : q * v2 ≤ left * B + u2 := by
 have h1 : q * v2 ≤ B * B := Nat.mul_le_mul (by omega) (by omega)
 have h2 : B * B ≤ left * B := Nat.mul_le_mul_right _ hl
 omega
theorem yhK (n s : Int) (L md i : Nat) (hi : i ≤ 1000000) (hmd : 2 ≤ md) (hmd2 : md ≤ 1000000) (hL : i + md < L) (n0 : Nat) (D N : Nat) (c1 c2 c3 : Nat) (f1 : Nat → Int)
  (U v1 v2 dl x u2 ul P : Nat) (hP : 0 < P) (hD : D = (v1 * 4294967296 + v2) * P + dl) (hdl : dl < P) (hU : U = (x * 4294967296 + u2) * P + ul) (hul : ul < P) (hD0 : 0 < D) (hUB : U < D * 4294967296) (hv : 0 < v1)
  (hxv : x / 4294967296 ≤ v1) (hx2 : x < 18446744073709551616)
  (e1 : dg 32 D (md - 1) = v1) (e2 : dg 32 D (md - 2) = v2) (e3 : dg 32 N (i + md - 2) = u2)
  (k0 : Nat → Int → Nat → Nat → Int → Int → Int → Nat → (Nat → Int) → Nat → (Nat → Int) → Nat → (Nat → Int) → Prop)
  (h : ∀ q : Nat, U / D ≤ q → q ≤ U / D + 1 → q < 4294967296 → k0 n0 s md L md i q c1 f1 c2 (G 32 D) c3 (G 32 N)) :
  ∀ (q left : Nat), q * v1 + left = x → left < 4294967296 → U / D ≤ q → zcb.l24 k0 (q + 1) n0 s md L md i q left c1 f1 c2 (G 32 D) c3 (G 32 N) := by
 have hv1 := ya4 32 D (md - 1)
 have hv2 := ya4 32 D (md - 2)
 have hu2 := ya4 32 N (i + md - 2)
 rw [B32, e1] at hv1
 rw [B32, e2] at hv2
 rw [B32, e3] at hu2
 have done : ∀ q left : Nat, q * v1 + left = x → U / D ≤ q → q < 4294967296 → q * v2 ≤ left * 4294967296 + u2 → k0 n0 s md L md i q c1 f1 c2 (G 32 D) c3 (G 32 N) :=
  fun q left hx hge hlt ht => h q hge (yrx hD hdl hU hx hD0 hv hlt ht) hlt
 have qx : ∀ q left : Nat, q * v1 + left = x → q < 18446744073709551616 := fun q left hx => by
  have : q * 1 ≤ q * v1 := Nat.mul_le_mul_left _ hv
  omega
 intro q
 induction q with
 | zero =>
  intro left hx hl hge
  unfold zcb.l24
  refine yiZ n0 s L md i hi hmd hmd2 hL c1 c2 c3 f1 D N v1 v2 u2 0 left hv1 hv2 hu2 hl e1 e2 e3 (by omega) (fun hc => ?_) (fun a b => done 0 left hx hge a b)
  rw [Nat.zero_mul] at hc
  omega
 | succ q ih =>
  intro left hx hl hge
  have hqx := qx (q + 1) left hx
  have hx' : q * v1 + (left + v1) = x := by rw [Nat.add_mul] at hx; omega
  have hover : 4294967296 ≤ left + v1 → q < 4294967296 := fun hl2 => by
   apply Classical.byContradiction
   intro hc
   have := yof hxv (by omega) hx' (by omega)
   omega
  unfold zcb.l24
  refine yiZ n0 s L md i hi hmd hmd2 hL c1 c2 c3 f1 D N v1 v2 u2 (q + 1) left hv1 hv2 hu2 hl e1 e2 e3 hqx (fun hc => ?_) (fun a b => done (q + 1) left hx hge a b)
  have hlt := yrA hP hD hU hul hx hD0 hUB hc
  have hge' : U / D ≤ q := Nat.le_of_lt_succ hlt
  exact ⟨q, rfl, fun hl2 => ih (left + v1) hx' hl2 hge', fun hl2 => done q (left + v1) hx' hge' (hover hl2) (yn3 (hover hl2) hv2 hl2)⟩
theorem yqC (k n x : Nat) (hk : k ≠ 0) (h : ∀ i, n ≤ i → dg k x i = 0) : x < 2 ^ (k * n) := by
 rw [← yd3 k hk]
 apply Classical.byContradiction
 intro hc
 have hx : x ≠ 0 := by intro e; subst e; rw [ydF] at hc; omega
 exact ynH k hk x hx (h _ (by omega))
theorem ymk {k N N' w j n : Nat} (hk : k ≠ 0) (hN : N < 2 ^ (k * n)) (hj : j < n) (hw : w < 2 ^ k) (h : N' + dg k N j * 2 ^ (k * j) = N + w * 2 ^ (k * j)) : N' < 2 ^ (k * n) := by
 refine yqC k n N' hk fun i hi => ?_
 have h1 := congrFun (ygF h hw) i
 rw [ycI _ _ _ _ (by omega), ya6, ya6, yd7 k N n i hN hi] at h1
 omega
theorem yih (n0 : Nat) (s : Int) (L md i q : Nat) (hi : i ≤ 1000000) (hmd2 : md ≤ 1000000) (hL : i + md < L) (hq : q < 4294967296) (c1 c2 c3 : Nat) (f1 : Nat → Int) (D N0 : Nat) (hD : D < 2 ^ (32 * md)) (hN0 : N0 < 2 ^ (32 * (i + md + 1)))
  (k0 : Nat → Int → Nat → Nat → Int → Int → Int → Int → Int → Nat → (Nat → Int) → Nat → (Nat → Int) → Nat → (Nat → Int) → Prop)
  (h : ∀ (N c : Nat) (b : Int), N < 2 ^ (32 * (i + md + 1)) → c < 4294967296 → -1 ≤ b → b ≤ 0 → (N : Int) + (b - c) * ((2 ^ (32 * (i + md)) : Nat) : Int) = N0 - ((q * D * 2 ^ (32 * i) : Nat) : Int) → k0 n0 s md L md i q c b c1 f1 c2 (G 32 D) c3 (G 32 N)) :
  ∀ (j k N c : Nat) (b : Int), k + j = md → N < 2 ^ (32 * (i + md + 1)) → c < 4294967296 → -1 ≤ b → b ≤ 0 → (N : Int) + (b - c) * ((2 ^ (32 * (i + k)) : Nat) : Int) = N0 - ((q * (D % 2 ^ (32 * k)) * 2 ^ (32 * i) : Nat) : Int) →
   zcb.l31 k0 (j + 1) n0 s md L md i q c b md k c1 f1 c2 (G 32 D) c3 (G 32 N) := by
 intro j
 induction j with
 | zero =>
  intro k N c b hk hN hc hb1 hb2 hE
  have hk : k = md := by omega
  subst hk
  unfold zcb.l31 zcb.l31.step
  rw [yau (ybq (by omega))]
  rw [Nat.mod_eq_of_lt hD] at hE
  exact h N c b hN hc hb1 hb2 hE
 | succ j ih =>
  intro k N c b hk hN hc hb1 hb2 hE
  have hdN := ya4 32 N (i + k)
  have hdD := ya4 32 D k
  rw [B32] at hdN hdD
  have hm : q * dg 32 D k ≤ 4294967295 * 4294967295 := Nat.mul_le_mul (by omega) (by omega)
  have hD1 := ybg 32 D k
  -- the product's low word, and what is carried
  have hs : ∀ (t : Nat) (z : Int), t = c + q * dg 32 D k → z = b + ((dg 32 N (i + k) : Int) - ((t % 4294967296 : Nat) : Int)) →
    zcb.l31 k0 (j + 1) n0 s md L md i q ((t / 4294967296 : Nat) : Int) (z / 4294967296) md ((k : Int) + 1) c1 f1 c2 (G 32 D) c3 (upd (G 32 N) (i + k) (z % 4294967296)) := by
   intro t z ht hz
   have hw : z % 4294967296 = ((z % 4294967296).toNat : Int) := by omega
   have hwl : (z % 4294967296).toNat < 2 ^ 32 := by rw [B32]; omega
   have e : ((k + 1 : Nat) : Int) = (k : Int) + 1 := by omega
   have hsp := yg0 32 N (i + k)
   obtain ⟨N', hN'⟩ : ∃ N', N' + dg 32 N (i + k) * 2 ^ (32 * (i + k)) = N + (z % 4294967296).toNat * 2 ^ (32 * (i + k)) :=
    ⟨N % 2 ^ (32 * (i + k)) + (z % 4294967296).toNat * 2 ^ (32 * (i + k)) + N / 2 ^ (32 * (i + k + 1)) * 2 ^ (32 * (i + k + 1)), by omega⟩
   rw [hw, ygF hN' hwl, ← e]
   refine ih (k + 1) N' _ _ (by omega) (ymk (by omega) hN (by omega) hwl hN') (by omega) (by omega) (by omega) ?_
   rw [hD1, show i + (k + 1) = i + k + 1 from by omega, ycs, B32]
   have hp : 2 ^ (32 * (i + k)) = 2 ^ (32 * k) * 2 ^ (32 * i) := by rw [← Nat.pow_add, show 32 * k + 32 * i = 32 * (i + k) from by omega]
   have h1 : ((q * (D % 2 ^ (32 * k) + dg 32 D k * 2 ^ (32 * k)) * 2 ^ (32 * i) : Nat) : Int) = ((q * (D % 2 ^ (32 * k)) * 2 ^ (32 * i) : Nat) : Int) + ((q * dg 32 D k : Nat) : Int) * ((2 ^ (32 * (i + k)) : Nat) : Int) := by
    rw [hp, Nat.mul_add, Nat.add_mul, ← Nat.mul_assoc q (dg 32 D k), Nat.mul_assoc (q * dg 32 D k)]
    simp
   rw [h1]
   generalize 2 ^ (32 * (i + k)) = P at *
   have h4 := Int.emod_add_mul_ediv z 4294967296
   have h5 : z * (P : Int) = (z % 4294967296).toNat * (P : Int) + z / 4294967296 * ((P : Int) * 4294967296) := by
    conv => lhs; rw [← h4]
    rw [← hw, Int.add_mul, Int.mul_comm (4294967296 : Int), Int.mul_assoc, Int.mul_comm (4294967296 : Int)]
   have h6 : z * (P : Int) = b * P + (dg 32 N (i + k) : Int) * P - ((t % 4294967296 : Nat) : Int) * P := by rw [hz, Int.add_mul, Int.sub_mul]; omega
   have h7 : ((t : Nat) : Int) * (P : Int) = ((t % 4294967296 : Nat) : Int) * P + ((t / 4294967296 : Nat) : Int) * ((P : Int) * 4294967296) := by
    have := ymj t 4294967296 P
    have h8 : ((t % 4294967296 * P + t / 4294967296 * (P * 4294967296) : Nat) : Int) = ((t * P : Nat) : Int) := by rw [this]
    simpa using h8.symm
   have h9 : ((t : Nat) : Int) * (P : Int) = (c : Int) * P + ((q * dg 32 D k : Nat) : Int) * P := by rw [ht]; rw [show ((c + q * dg 32 D k : Nat) : Int) = (c : Int) + ((q * dg 32 D k : Nat) : Int) from by omega, Int.add_mul]
   have h10 : (N' : Int) + (dg 32 N (i + k) : Int) * P = N + ((z % 4294967296).toNat : Int) * P := by
    have : ((N' + dg 32 N (i + k) * P : Nat) : Int) = ((N + (z % 4294967296).toNat * P : Nat) : Int) := by rw [hN']
    simpa using this
   have c4 : ((P * 4294967296 : Nat) : Int) = (P : Int) * 4294967296 := by simp
   rw [c4, Int.sub_mul]
   rw [Int.sub_mul] at hE
   omega
  have e0 : Int.toNat ((i : Int) + k) = i + k := by omega
  have e5 : ybY .u64 (q : Int) (dg 32 D k : Int) = ((q * dg 32 D k : Nat) : Int) := by
   have e4 : ((q : Int) * (dg 32 D k : Int)) = ((q * dg 32 D k : Nat) : Int) := by simp
   rw [ymy (by rw [e4]; omega) (by rw [e4]; omega), e4]
  have e6 : (c : Int) + ((q * dg 32 D k : Nat) : Int) = ((c + q * dg 32 D k : Nat) : Int) := by omega
  have e7 : ((c + q * dg 32 D k : Nat) : Int) / 4294967296 = (((c + q * dg 32 D k) / 4294967296 : Nat) : Int) := by omega
  have e8 : ((c + q * dg 32 D k : Nat) : Int) % 4294967296 = (((c + q * dg 32 D k) % 4294967296 : Nat) : Int) := by omega
  unfold zcb.l31 zcb.l31.step
  simp (disch := omega) only [ya9, ybb, yaD, ya3, Bool.and_self, Int.toNat_natCast, yas, yat, yaU, yfT, ya6, e0, e5, e6, yb7, yfY, ybu, e7, e8, yfr]
  exact hs _ _ rfl rfl
theorem yiv (n0 : Nat) (s : Int) (L md i : Nat) (q : Int) (hi : i ≤ 1000000) (hmd2 : md ≤ 1000000) (hL : i + md < L) (c1 c2 c3 : Nat) (f1 : Nat → Int) (D N0 : Nat) (hD : D < 2 ^ (32 * md))
  (k0 : Nat → Int → Nat → Nat → Int → Int → Int → Int → Nat → (Nat → Int) → Nat → (Nat → Int) → Nat → (Nat → Int) → Prop)
  (h : ∀ (N c : Nat), N < 2 ^ (32 * (i + md + 1)) → c < 4294967296 → N + c * 2 ^ (32 * (i + md)) = N0 + D * 2 ^ (32 * i) → k0 n0 s md L md i q c c1 f1 c2 (G 32 D) c3 (G 32 N)) :
  ∀ (j k N c : Nat), k + j = md → N < 2 ^ (32 * (i + md + 1)) → c < 2 → N + c * 2 ^ (32 * (i + k)) = N0 + D % 2 ^ (32 * k) * 2 ^ (32 * i) → zcb.l45 k0 (j + 1) n0 s md L md i q c md k c1 f1 c2 (G 32 D) c3 (G 32 N) := by
 intro j
 induction j with
 | zero =>
  intro k N c hk hN hc hE
  have hk : k = md := by omega
  subst hk
  unfold zcb.l45 zcb.l45.step
  rw [yau (ybq (by omega))]
  rw [Nat.mod_eq_of_lt hD] at hE
  exact h N c hN (by omega) hE
 | succ j ih =>
  intro k N c hk hN hc hE
  have hdN := ya4 32 N (i + k)
  have hdD := ya4 32 D k
  rw [B32] at hdN hdD
  have hD1 := ybg 32 D k
  obtain ⟨N', s1, s2⟩ := ykf (k := 32) (N := N) (j := i + k) (s := c + (dg 32 N (i + k) + dg 32 D k)) rfl
  have hw : (c + (dg 32 N (i + k) + dg 32 D k)) % 4294967296 < 2 ^ 32 := Nat.mod_lt _ (by omega)
  have e : ((k + 1 : Nat) : Int) = (k : Int) + 1 := by omega
  have next := ih (k + 1) N' ((c + (dg 32 N (i + k) + dg 32 D k)) / 4294967296) (by omega) (ymk (by omega) hN (by omega) hw s1) (by omega) (by
   rw [hD1, show i + (k + 1) = i + k + 1 from by omega]
   rw [B32, Nat.add_mul, Nat.add_mul] at s2
   have hp : dg 32 D k * 2 ^ (32 * k) * 2 ^ (32 * i) = dg 32 D k * 2 ^ (32 * (i + k)) := by rw [Nat.mul_assoc, ← Nat.pow_add, show 32 * k + 32 * i = 32 * (i + k) from by omega]
   rw [Nat.add_mul, hp]
   omega)
  rw [e] at next
  have hG : upd (G 32 N) (i + k) (((c + (dg 32 N (i + k) + dg 32 D k)) % 4294967296 : Nat) : Int) = G 32 N' := ygF s1 hw
  have e0 : Int.toNat ((i : Int) + k) = i + k := by omega
  have e1 : ((c : Int) + ((dg 32 N (i + k) : Int) + (dg 32 D k : Int))) / 4294967296 = (((c + (dg 32 N (i + k) + dg 32 D k)) / 4294967296 : Nat) : Int) := by omega
  have e2 : ((c : Int) + ((dg 32 N (i + k) : Int) + (dg 32 D k : Int))) % 4294967296 = (((c + (dg 32 N (i + k) + dg 32 D k)) % 4294967296 : Nat) : Int) := by omega
  unfold zcb.l45 zcb.l45.step
  simp (disch := omega) only [ya9, ybb, yaD, ya3, Bool.and_self, Int.toNat_natCast, yas, yaU, yfT, ya6, e0, yb7, ybu, e1, e2]
  rw [hG]; exact next
end Go.Ev.S

/- Natural numbers as rows of words: the loop of the long division. -/
set_option linter.unusedVariables false
set_option linter.unusedSimpArgs false
set_option maxRecDepth 8000
namespace Go.Ev.S
open Go Go.Ev
theorem ypN {PT E R T q qs Nl : Nat} {z : Int} (hE : E < PT) (hNl : Nl < PT) (h1 : qs * E ≤ R) (h2 : R < qs * E + E) (hT : T = q * E) (h : (Nl : Int) + z * (PT : Int) = R - (T : Int)) (hq1 : qs ≤ q) (hq2 : q ≤ qs + 1) :
  (q = qs ∧ z = 0 ∧ Nl = R - qs * E) ∨ (q = qs + 1 ∧ z = -1 ∧ Nl + E = PT + (R - qs * E)) := by
 have zp : z ≥ 1 → (PT : Int) ≤ z * PT := fun hz => by
  have := Int.mul_le_mul_of_nonneg_right hz (show (0 : Int) ≤ PT by omega)
  omega
 have zn : z ≤ -1 → z * PT ≤ -(PT : Int) := fun hz => by
  have := Int.mul_le_mul_of_nonneg_right hz (show (0 : Int) ≤ PT by omega)
  omega
 have zn2 : z ≤ -2 → z * PT ≤ -(PT : Int) - PT := fun hz => by
  have := Int.mul_le_mul_of_nonneg_right hz (show (0 : Int) ≤ PT by omega)
  omega
 rcases (by omega : q = qs ∨ q = qs + 1) with e | e
 ·left
  rw [e] at hT
  have hz : z = 0 := by
   rcases (by omega : z ≥ 1 ∨ z ≤ -1 ∨ z = 0) with hz | hz | hz
   ·have := zp hz; omega
   ·have := zn hz; omega
   ·exact hz
  subst hz
  refine ⟨e, rfl, ?_⟩
  rw [Int.zero_mul] at h
  omega
 ·right
  rw [e, Nat.add_mul, Nat.one_mul] at hT
  have hz : z = -1 := by
   rcases (by omega : z ≥ 1 ∨ z ≤ -2 ∨ z = 0 ∨ z = -1) with hz | hz | hz | hz
   ·have := zp hz; omega
   ·have := zn2 hz; omega
   ·subst hz; rw [Int.zero_mul] at h; omega
   ·exact hz
  subst hz
  refine ⟨e, rfl, ?_⟩
  omega
theorem ymb (D R md i : Nat) (hmd : 2 ≤ md) (hD : D < 2 ^ (32 * md)) (hv : dg 32 D (md - 1) ≠ 0) (hR : R < D * 2 ^ (32 * (i + 1))) :
  ∃ dl ul P, 0 < P ∧ dl < P ∧ ul < P ∧ D = (dg 32 D (md - 1) * 4294967296 + dg 32 D (md - 2)) * P + dl ∧
   R / 2 ^ (32 * i) = ((dg 32 R (i + md) * 4294967296 + dg 32 R (i + md - 1)) * 4294967296 + dg 32 R (i + md - 2)) * P + ul ∧
   R / 2 ^ (32 * i) < D * 4294967296 ∧ dg 32 R (i + md) ≤ dg 32 D (md - 1) ∧ R / 2 ^ (32 * i) / D ≤ (dg 32 R (i + md) * 4294967296 + dg 32 R (i + md - 1)) / dg 32 D (md - 1) := by
 obtain ⟨m, rfl⟩ : ∃ m, md = m + 2 := ⟨md - 2, by omega⟩
 have hU : R / 2 ^ (32 * i) < D * 4294967296 := by
  rw [Nat.div_lt_iff_lt_mul (Nat.two_pow_pos _), Nat.mul_assoc, Nat.mul_comm 4294967296, ← B32, ← ycs]
  exact hR
 have hd := fun j => yk4 32 R i j
 generalize R / 2 ^ (32 * i) = U at *
 have hUB : U < 2 ^ (32 * (m + 3)) := by
  rw [ycs, B32]
  exact Nat.lt_trans hU (Nat.mul_lt_mul_of_pos_right hD (by omega))
 have a1 := ydc 32 D m
 have a2 := ydc 32 D (m + 1)
 have b1 := ydc 32 U m
 have b2 := ydc 32 U (m + 1)
 have b3 := ydc 32 U (m + 2)
 rw [Nat.div_eq_of_lt hD] at a2
 rw [Nat.div_eq_of_lt hUB] at b3
 rw [B32] at a1 a2 b1 b2 b3
 rw [hd] at b1 b2 b3
 rw [show m + 1 + 1 = m + 2 from rfl] at b2
 have hP := Nat.two_pow_pos (32 * m)
 have c1 := Nat.div_add_mod D (2 ^ (32 * m))
 have c2 := Nat.div_add_mod U (2 ^ (32 * m))
 have c3 := Nat.mod_lt D hP
 have c4 := Nat.mod_lt U hP
 have c5 := Nat.mod_lt D (Nat.two_pow_pos (32 * (m + 1)))
 have c6 := Nat.div_add_mod D (2 ^ (32 * (m + 1)))
 have d1 : D / 2 ^ (32 * m) = dg 32 D (m + 1) * 4294967296 + dg 32 D m := by omega
 have d2 : U / 2 ^ (32 * m) = (dg 32 R (i + (m + 2)) * 4294967296 + dg 32 R (i + (m + 1))) * 4294967296 + dg 32 R (i + m) := by omega
 have d3 : D / 2 ^ (32 * (m + 1)) = dg 32 D (m + 1) := by omega
 have d4 : U / 2 ^ (32 * (m + 1)) = dg 32 R (i + (m + 2)) * 4294967296 + dg 32 R (i + (m + 1)) := by omega
 have d5 : U / 2 ^ (32 * (m + 2)) = dg 32 R (i + (m + 2)) := by omega
 simp only [show m + 2 - 1 = m + 1 from rfl, show m + 2 - 2 = m from rfl, show i + (m + 2) - 1 = i + (m + 1) from rfl, show i + (m + 2) - 2 = i + m from rfl] at hv ⊢
 refine ⟨D % 2 ^ (32 * m), U % 2 ^ (32 * m), 2 ^ (32 * m), hP, c3, c4, ?_, ?_, hU, ?_, ?_⟩
 ·rw [← d1, Nat.mul_comm]; exact c1.symm
 ·rw [← d2, Nat.mul_comm]; exact c2.symm
 ·rw [← d5]
  have : U < (dg 32 D (m + 1) + 1) * 2 ^ (32 * (m + 2)) := by
   rw [show m + 2 = m + 1 + 1 from rfl, ycs 32 (m + 1), B32, ← Nat.mul_assoc]
   refine Nat.lt_of_lt_of_le hU (Nat.mul_le_mul_right _ ?_)
   rw [Nat.add_mul, ← d3, Nat.mul_comm (D / _)]
   omega
  have := (Nat.div_lt_iff_lt_mul (Nat.two_pow_pos (32 * (m + 2)))).2 this
  omega
 ·rw [← d4, Nat.div_div_eq_div_mul]
  refine Nat.div_le_div_left ?_ (Nat.mul_pos (Nat.two_pow_pos _) (by omega))
  rw [← d3]; exact Nat.mul_div_le D _
theorem ykc {N t w z : Nat} (hN : N < 2 ^ (32 * (t + 1))) (hw : w < 2 ^ 32) : upd (G 32 N) t (w : Int) = G 32 (N % 2 ^ (32 * t) + w * 2 ^ (32 * t)) := by
 rw [yrZ 32 N w t hw, Nat.div_eq_of_lt hN, Nat.zero_mul, Nat.add_zero]
theorem yhv (n0 : Nat) (s : Int) (L md i : Nat) (hmd : 2 ≤ md) (hmd2 : md ≤ 1000000) (hi : i ≤ 1000000) (hL : i + md < L) (hL2 : L ≤ 2000000) (hin : i < n0) (hn : n0 ≤ 1000000) (c1 c2 c3 : Nat) (D Q R : Nat)
  (hD : D < 2 ^ (32 * md)) (hv : dg 32 D (md - 1) ≠ 0) (hR : R < D * 2 ^ (32 * (i + 1))) (hQ : Q % 2 ^ (32 * (i + 1)) = 0)
  (again : Nat → Int → Nat → Nat → Int → Int → Nat → (Nat → Int) → Nat → (Nat → Int) → Nat → (Nat → Int) → Prop) (k0 : Nat → Int → Nat → Nat → (Nat → Int) → Nat → (Nat → Int) → Prop)
  (h : ∀ q R', q < 4294967296 → R' + q * (D * 2 ^ (32 * i)) = R → R' < D * 2 ^ (32 * i) → again n0 s md L md ((i : Int) - 1) c1 (G 32 (Q + q * 2 ^ (32 * i))) c2 (G 32 D) c3 (G 32 R')) :
  zcb.l20.step again k0 n0 s md L md i c1 (G 32 Q) c2 (G 32 D) c3 (G 32 R) := by
 obtain ⟨dl, ul, P, hP, hdl, hul, hDe, hUe, hUB, hu1, hq0⟩ := ymb D R md i hmd hD hv hR
 have hv1 := ya4 32 D (md - 1)
 have hv2 := ya4 32 D (md - 2)
 have hr0 := ya4 32 R (i + md)
 have hr1 := ya4 32 R (i + md - 1)
 rw [B32] at hv1 hv2 hr0 hr1
 have hD0 : 0 < D := by
  rcases Nat.eq_zero_or_pos D with e | e
  ·rw [e] at hR; omega
  ·exact e
 have hx2 : dg 32 R (i + md) * 4294967296 + dg 32 R (i + md - 1) < 18446744073709551616 := by omega
 have hqs : R / 2 ^ (32 * i) / D < 4294967296 := (Nat.div_lt_iff_lt_mul hD0).2 (by rw [Nat.mul_comm 4294967296]; exact hUB)
 have hPi := Nat.two_pow_pos (32 * i)
 have hE : D * 2 ^ (32 * i) < 2 ^ (32 * (i + md)) := by
  rw [show 32 * (i + md) = 32 * md + 32 * i from by omega, Nat.pow_add]
  exact Nat.mul_lt_mul_of_pos_right hD hPi
 have hRlt : R < 2 ^ (32 * (i + md + 1)) := by
  refine Nat.lt_trans hR ?_
  rw [show 32 * (i + md + 1) = 32 * md + 32 * (i + 1) from by omega, Nat.pow_add]
  exact Nat.mul_lt_mul_of_pos_right hD (Nat.two_pow_pos _)
 have hq1 : R / 2 ^ (32 * i) / D * (D * 2 ^ (32 * i)) ≤ R := by
  rw [Nat.div_div_eq_div_mul, Nat.mul_comm (2 ^ (32 * i)) D]; exact Nat.div_mul_le_self _ _
 have hq2 : R < R / 2 ^ (32 * i) / D * (D * 2 ^ (32 * i)) + D * 2 ^ (32 * i) := by
  rw [Nat.div_div_eq_div_mul, Nat.mul_comm (2 ^ (32 * i)) D]
  have a := Nat.div_add_mod R (D * 2 ^ (32 * i))
  have b := Nat.mod_lt R (Nat.mul_pos hD0 hPi)
  rw [Nat.mul_comm] at a
  omega
 generalize R / 2 ^ (32 * i) = U at *
 have fin := h (U / D) (R - U / D * (D * 2 ^ (32 * i))) hqs (by omega) (by omega)
 generalize hqse : U / D = qs at *
 have i0 : yan IntKind.i64 (md : Int) 1 = (md : Int) - 1 := by rw [yat (by omega) (by omega)]
 have i1 : yaj IntKind.i64 (i : Int) (md : Int) = (i : Int) + md := by rw [yas (by omega) (by omega)]
 have i2 : yan IntKind.i64 ((i : Int) + md) 1 = (i : Int) + md - 1 := by rw [yat (by omega) (by omega)]
 have i3 : Int.toNat ((md : Int) - 1) = md - 1 := by omega
 have i4 : Int.toNat ((i : Int) + md - 1) = i + md - 1 := by omega
 have i5 : Int.toNat ((i : Int) + md) = i + md := by omega
 have i6 : yan IntKind.i64 (i : Int) 1 = (i : Int) - 1 := by rw [yat (by omega) (by omega)]
 have w0 : (leI 0 ((i : Int) + md) && ltI ((i : Int) + md) (L : Int)) = true := by rw [ybb (by omega), ya9 (by omega)]; rfl
 have w1 : (leI 0 ((i : Int) + md - 1) && ltI ((i : Int) + md - 1) (L : Int)) = true := by rw [ybb (by omega), ya9 (by omega)]; rfl
 have w2 : (leI 0 ((md : Int) - 1) && ltI ((md : Int) - 1) (md : Int)) = true := by rw [ybb (by omega), ya9 (by omega)]; rfl
 have w3 : (leI 0 (i : Int) && ltI (i : Int) (n0 : Int)) = true := by rw [ybb (by omega), ya9 (by omega)]; rfl
 have w4 : (!eqI ((dg 32 D (md - 1) : Nat) : Int) 0) = true := by rw [yfN (by omega)]; rfl
 have c0 : ∀ j, cvI IntKind.u64 ((dg 32 D j : Nat) : Int) = (dg 32 D j : Nat) := fun j => by
  have := ya4 32 D j; rw [B32] at this; rw [yaU (by omega) (by omega)]
 have c4 : ∀ j, cvI IntKind.u64 ((dg 32 R j : Nat) : Int) = (dg 32 R j : Nat) := fun j => by
  have := ya4 32 R j; rw [B32] at this; rw [yaU (by omega) (by omega)]
 -- the quotient's word
 have setQ : ∀ q : Nat, q = qs → upd (G 32 Q) i (cvI IntKind.u32 (q : Int)) = G 32 (Q + qs * 2 ^ (32 * i)) := by
  intro q e
  have hz : dg 32 Q i = 0 := by
   have := ybg 32 Q i
   rw [hQ] at this
   have h0 : dg 32 Q i * 2 ^ (32 * i) = 0 := by omega
   rcases Nat.mul_eq_zero.1 h0 with h0 | h0
   ·exact h0
   ·omega
  rw [e, ybu, show ((qs : Nat) : Int) % 4294967296 = ((qs : Nat) : Int) from by omega]
  exact ygF (by rw [hz]; omega) (by rw [B32]; exact hqs)
 unfold zcb.l20.step
 rw [yaA (ybb (by omega)), i1, i2, i0, i3, i4, i5, yby w0, yby w1, yby w2]
 simp only [ya6]
 rw [c0, c4, c4, yby w4, yby w2, yby w4, yhz _ _ hr0 hr1, ypQ _ _ hx2, yhL (by omega), ← Int.natCast_emod]
 refine ⟨_, yhK 0 s L md i hi hmd hmd2 hL n0 D R c1 c2 c3 (G 32 Q) U (dg 32 D (md - 1)) (dg 32 D (md - 2)) dl _ (dg 32 R (i + md - 2)) ul P hP hDe hdl hUe hul hD0 hUB (by omega) ?_ hx2 rfl rfl rfl _ ?_ _ _ ?_ ?_ ?_⟩
 ·omega
 ·-- behind the guess
  intro q hge hle hqB
  rw [hqse] at hge hle
  refine ⟨md + 1, ?_⟩
  refine yih n0 s L md i q hi hmd2 hL hqB c1 c2 c3 (G 32 Q) D R hD hRlt _ ?_ md 0 R 0 0 (by omega) hRlt (by omega) (by omega) (by omega) (by simp [Nat.mod_one])
  intro N c b hN hc hb1 hb2 hE2
  have hdN := ya4 32 N (i + md)
  rw [B32] at hdN
  have hNs := ybg 32 N (i + md)
  rw [Nat.mod_eq_of_lt hN] at hNs
  have hNl := Nat.mod_lt N (Nat.two_pow_pos (32 * (i + md)))
  have e1 : ((dg 32 N (i + md) : Nat) : Int) - (c : Int) = (dg 32 N (i + md) : Int) - c := rfl
  have cz : yaj IntKind.i64 b (yan IntKind.i64 (cvI IntKind.i64 ((dg 32 N (i + md) : Nat) : Int)) (cvI IntKind.i64 (c : Int))) = b + ((dg 32 N (i + md) : Int) - c) := by
   rw [yfr (by omega) (by omega), yfr (by omega) (by omega), yat (by omega) (by omega), yas (by omega) (by omega)]
  have hf := ypN (z := b + ((dg 32 N (i + md) : Int) - c)) (T := q * D * 2 ^ (32 * i)) (q := q) hE hNl hq1 hq2 (by rw [Nat.mul_assoc]) (by
   rw [← hE2]
   have e2 : (N : Int) = ((N % 2 ^ (32 * (i + md)) : Nat) : Int) + (dg 32 N (i + md) : Int) * ((2 ^ (32 * (i + md)) : Nat) : Int) := by
    have : ((N : Nat) : Int) = ((N % 2 ^ (32 * (i + md)) + dg 32 N (i + md) * 2 ^ (32 * (i + md)) : Nat) : Int) := by rw [← hNs]
    rw [this]; simp
   rw [e2]
   generalize ((2 ^ (32 * (i + md)) : Nat) : Int) = PT
   rw [show b + ((dg 32 N (i + md) : Int) - c) = dg 32 N (i + md) + (b - c) from by omega, Int.add_mul]
   omega) hge hle
  show gd _ _
  rw [i1, i5, yby w0, yby w0]
  simp only [ya6]
  rw [cz]
  rcases hf with ⟨hq, hz, hNe⟩ | ⟨hq, hz, hNe⟩
  ·rw [hz, yau (by rfl), yby w3, i6, Int.toNat_natCast, setQ q hq]
   have : upd (G 32 N) (i + md) (cvI IntKind.u32 0) = G 32 (R - qs * (D * 2 ^ (32 * i))) := by
    have := ykc (w := 0) (z := 0) hN (by omega)
    rw [Nat.zero_mul, Nat.add_zero, hNe] at this
    exact this
   rw [this]; exact fin
  ·rw [hz, yaA (by rfl)]
   have hup : upd (G 32 N) (i + md) (cvI IntKind.u32 (-1)) = G 32 (N % 2 ^ (32 * (i + md)) + 4294967295 * 2 ^ (32 * (i + md))) :=
    ykc (w := 4294967295) (z := 0) hN (by omega)
   have hNlt := yiy 32 (N % 2 ^ (32 * (i + md))) 4294967295 (i + md) hNl (by omega)
   have hs1 : yan IntKind.u64 (q : Int) 1 = ((qs : Nat) : Int) := by rw [yeS (by omega) (by omega)]; omega
   rw [hup, hs1]
   refine ⟨md + 1, ?_⟩
   refine yiv n0 s L md i (qs : Int) hi hmd2 hL c1 c2 c3 (G 32 Q) D (N % 2 ^ (32 * (i + md)) + 4294967295 * 2 ^ (32 * (i + md))) hD _ ?_ md 0 _ 0 (by omega) hNlt (by omega) (by simp [Nat.mod_one])
   intro N2 c5 hN2 hc5 hE3
   have hd2 := ya4 32 N2 (i + md)
   rw [B32] at hd2
   have hNs2 := ybg 32 N2 (i + md)
   rw [Nat.mod_eq_of_lt hN2] at hNs2
   have hNl2 := Nat.mod_lt N2 (Nat.two_pow_pos (32 * (i + md)))
   have cc : cvI IntKind.u32 (c5 : Int) = c5 := by rw [ybu]; omega
   -- the sum of the two highest words is the base
   have hsum : dg 32 N2 (i + md) + c5 = 4294967296 ∧ N2 % 2 ^ (32 * (i + md)) = R - qs * (D * 2 ^ (32 * i)) := by
    have hl : N2 % 2 ^ (32 * (i + md)) + (dg 32 N2 (i + md) + c5) * 2 ^ (32 * (i + md)) = (R - qs * (D * 2 ^ (32 * i))) + 4294967296 * 2 ^ (32 * (i + md)) := by
     rw [Nat.add_mul]; omega
    have hlt : R - qs * (D * 2 ^ (32 * i)) < 2 ^ (32 * (i + md)) := by omega
    generalize 2 ^ (32 * (i + md)) = PT at *
    generalize dg 32 N2 (i + md) + c5 = t at *
    generalize R - qs * (D * 2 ^ (32 * i)) = v at *
    generalize N2 % PT = u at *
    have hPT : 0 < PT := by omega
    have a1 : (u + t * PT) / PT = t := by rw [Nat.add_mul_div_right _ _ hPT, Nat.div_eq_of_lt hNl2, Nat.zero_add]
    have a2 : (v + 4294967296 * PT) / PT = 4294967296 := by rw [Nat.add_mul_div_right _ _ hPT, Nat.div_eq_of_lt hlt, Nat.zero_add]
    rw [hl, a2] at a1
    subst a1
    exact ⟨rfl, by omega⟩
   show gd _ _
   rw [i1, i5, yby w0, yby w0, yby w3, i6, Int.toNat_natCast, setQ qs rfl]
   simp only [ya6]
   have ha : yaj IntKind.u32 ((dg 32 N2 (i + md) : Nat) : Int) (cvI IntKind.u32 (c5 : Int)) = ((0 : Nat) : Int) := by
    rw [cc, show yaj IntKind.u32 ((dg 32 N2 (i + md) : Nat) : Int) (c5 : Int) = IntKind.wrap .u32 (((dg 32 N2 (i + md) : Nat) : Int) + c5) from rfl, ym2]
    omega
   rw [ha, ykc (w := 0) (z := 0) hN2 (by omega), Nat.zero_mul, Nat.add_zero, hsum.2]
   exact fin
 ·rw [Nat.mul_comm]; exact Nat.div_add_mod _ _
 ·exact Nat.lt_trans (Nat.mod_lt _ (by omega)) hv1
 ·rw [hqse]; exact hq0
theorem yqr {Q n m : Nat} (h : Q % 2 ^ m = 0) (hn : n ≤ m) : Q % 2 ^ n = 0 := by
 have : 2 ^ n ∣ 2 ^ m := Nat.pow_dvd_pow 2 hn
 exact Nat.mod_eq_zero_of_dvd (Nat.dvd_trans this (Nat.dvd_of_mod_eq_zero h))
theorem yix (n0 : Nat) (s : Int) (L md : Nat) (hmd : 2 ≤ md) (hmd2 : md ≤ 1000000) (hL2 : L ≤ 2000000) (hn : n0 ≤ 1000000) (c1 c2 c3 : Nat) (D N0 : Nat)
  (hD : D < 2 ^ (32 * md)) (hv : dg 32 D (md - 1) ≠ 0)
  (k0 : Nat → Int → Nat → Nat → (Nat → Int) → Nat → (Nat → Int) → Prop)
  (h : ∀ Q R, Q * D + R = N0 → R < D → Q < 2 ^ (32 * n0) → k0 n0 s L c1 (G 32 Q) c3 (G 32 R)) :
  ∀ (t Q R : Nat), t + md ≤ L → t ≤ n0 → R < D * 2 ^ (32 * t) → Q % 2 ^ (32 * t) = 0 → Q < 2 ^ (32 * n0) → Q * D + R = N0 → zcb.l20 k0 (t + 1) n0 s md L md ((t : Int) - 1) c1 (G 32 Q) c2 (G 32 D) c3 (G 32 R) := by
 intro t
 induction t with
 | zero =>
  intro Q R hL ht hR hQ hQ2 hN
  unfold zcb.l20 zcb.l20.step
  rw [yau (yff (by omega))]
  refine h Q R hN ?_ hQ2
  rw [Nat.mul_zero, Nat.pow_zero, Nat.mul_one] at hR; exact hR
 | succ t ih =>
  intro Q R hL ht hR hQ hQ2 hN
  unfold zcb.l20
  rw [show ((t + 1 : Nat) : Int) - 1 = (t : Int) from by omega]
  refine yhv n0 s L md t hmd hmd2 (by omega) (by omega) hL2 (by omega) hn c1 c2 c3 D Q R hD hv hR hQ _ _ fun q R' hq he hR' => ?_
  have hz : dg 32 Q t = 0 := by
   have h1 := ybg 32 Q t
   rw [hQ] at h1
   have h0 : dg 32 Q t * 2 ^ (32 * t) = 0 := by omega
   have hp := Nat.two_pow_pos (32 * t)
   rcases Nat.mul_eq_zero.1 h0 with h0 | h0
   ·exact h0
   ·omega
  refine ih _ R' (by omega) (by omega) hR' ?_ (ymk (w := q) (j := t) (by omega) hQ2 (by omega) (by rw [B32]; exact hq) (by rw [hz]; omega)) ?_
  ·rw [Nat.add_mul_mod_self_right]; exact yqr hQ (by omega)
  ·rw [Nat.add_mul, Nat.mul_assoc, Nat.mul_comm (2 ^ (32 * t)) D]; omega
theorem yjG (x y n : Nat) (hn : n ≤ 1000000) (hy : y ≠ 0) (hyB : y < 4294967296) (k0 : Nat → Int → Nat → (Nat → Int) → Prop) (c : Nat) (h : k0 n ((x % y : Nat) : Int) c (G 32 (x / y))) :
  ∀ t, t ≤ n → zcb.l7 k0 (t + 1) n (G 32 x) 1 (G 32 y) n ((x / 2 ^ (32 * t) % y : Nat) : Int) ((t : Int) - 1) c (G 32 (x / 2 ^ (32 * t) / y * 2 ^ (32 * t))) := by
 intro t
 induction t with
 | zero =>
  intro ht
  unfold zcb.l7 zcb.l7.step
  rw [yau (yff (by omega)), Nat.mul_zero, Nat.pow_zero, Nat.div_one, Nat.mul_one]
  exact h
 | succ t ih =>
  intro ht
  have ih := ih (by omega)
  have hX := ydc 32 x t
  rw [B32] at hX
  have hd := ya4 32 x t
  rw [B32] at hd
  have hp := Nat.two_pow_pos (32 * t)
  generalize hX1 : x / 2 ^ (32 * (t + 1)) = X1 at *
  rw [hX] at ih
  have hr := Nat.mod_lt X1 (show 0 < y by omega)
  have hdm := Nat.div_add_mod X1 y
  generalize hre : X1 % y = r at *
  generalize hqe : X1 / y = Q1 at *
  have hsum : dg 32 x t + X1 * 4294967296 = r * 4294967296 + dg 32 x t + y * (Q1 * 4294967296) := by
   rw [← hdm, Nat.add_mul, Nat.mul_assoc]; omega
  have hmod : (dg 32 x t + X1 * 4294967296) % y = (r * 4294967296 + dg 32 x t) % y := by rw [hsum, Nat.add_mul_mod_self_left]
  have hdiv : (dg 32 x t + X1 * 4294967296) / y = (r * 4294967296 + dg 32 x t) / y + Q1 * 4294967296 := by rw [hsum, Nat.add_mul_div_left _ _ (by omega)]
  rw [hmod, hdiv] at ih
  have hq : (r * 4294967296 + dg 32 x t) / y < 4294967296 := by
   rw [Nat.div_lt_iff_lt_mul (by omega)]
   have : (r + 1) * 4294967296 ≤ y * 4294967296 := Nat.mul_le_mul_right _ hr
   omega
  have hw : r * 4294967296 + dg 32 x t < 18446744073709551616 := by omega
  have hG : upd (G 32 (Q1 * 2 ^ (32 * (t + 1)))) t (((r * 4294967296 + dg 32 x t) / y : Nat) : Int) = G 32 (((r * 4294967296 + dg 32 x t) / y + Q1 * 4294967296) * 2 ^ (32 * t)) := by
   have hz : dg 32 (Q1 * 2 ^ (32 * (t + 1))) t = 0 := by
    unfold dg
    rw [ycs, B32, Nat.mul_comm (2 ^ _), ← Nat.mul_assoc, Nat.mul_div_cancel _ hp]
    exact Nat.mul_mod_left _ _
   refine ygF ?_ (by rw [B32]; exact hq)
   rw [hz, ycs, B32, Nat.add_mul, Nat.mul_comm (2 ^ (32 * t)) 4294967296, ← Nat.mul_assoc]
   omega
  rw [← hG] at ih
  have o := yhz r (dg 32 x t) (by omega) hd
  have y0 : G 32 y 0 = (y : Int) := by rw [ya6, ysl 32 y (by rw [B32]; exact hyB)]
  have e1 : ((t + 1 : Nat) : Int) - 1 = (t : Int) := by omega
  have w0 : (leI 0 (t : Int) && ltI (t : Int) (n : Int)) = true := by rw [ybb (by omega), ya9 (by omega)]; rfl
  have w1 : (!eqI (y : Int) 0) = true := by rw [yfN (by omega)]; rfl
  have cy : cvI IntKind.u64 (y : Int) = y := by rw [yaU (by omega) (by omega)]
  have cx : cvI IntKind.u64 ((dg 32 x t : Nat) : Int) = (dg 32 x t : Nat) := by rw [yaU (by omega) (by omega)]
  have r0 : ∀ a : Nat, ycg IntKind.u64 ((a : Nat) : Int) ((y : Nat) : Int) = ((a % y : Nat) : Int) := fun a => by rw [yhL (by omega), ← Int.natCast_emod]
  unfold zcb.l7 zcb.l7.step
  rw [e1, yaA (ybb (by omega)), yby w0, yby (ya9 (by omega)), y0, cy, yby w1, yby w0, yby (ya9 (by omega)), yby w1, Int.toNat_natCast, ya6, cx, o, ypQ _ _ hw, r0, ybu, yat (by omega) (by omega)]
  have e2 : ∀ q : Nat, q < 4294967296 → ((q : Nat) : Int) % 4294967296 = q := fun q h => by omega
  rw [e2 _ hq]
  exact ih
theorem yt8 (n x : Nat) (hx : x < 2 ^ (32 * n)) : app n (G 32 x) (upd (fun _ => 0) 0 0) = G 32 x := by
 funext i
 unfold app
 by_cases h : i < n
 ·have : Nat.blt i n = true := by simpa using h
  rw [this]; rfl
 ·have : Nat.blt i n = false := by
   apply Bool.eq_false_iff.2; intro hc; simp at hc; omega
  rw [this, ya6, yd7 32 x n i hx (by omega)]
  show upd (fun _ => 0) 0 0 (i - n) = _
  by_cases h0 : i - n = 0
  ·rw [h0, yb2]; rfl
  ·rw [ycI _ _ _ _ h0]; rfl
theorem ymu (x y s : Nat) : x * 2 ^ s / (y * 2 ^ s) = x / y := Nat.mul_div_mul_right _ _ (Nat.two_pow_pos s)
theorem ymi (x y s : Nat) : x * 2 ^ s % (y * 2 ^ s) = x % y * 2 ^ s := Nat.mul_mod_mul_right _ _ _
theorem yuj (k : Nat) (hk : k ≠ 0) (x n : Nat) : n < wl k x ↔ 2 ^ (k * n) ≤ x := by
 have := yd3 k hk x n
 omega
theorem ygl (x y : Nat) (hx : wl 32 x ≤ 100000) (hy0 : y ≠ 0) (hy : wl 32 y ≤ 100000) (K : Nat → (Nat → Int) → Nat → (Nat → Int) → Prop) (h : K (wl 32 (x / y)) (G 32 (x / y)) (wl 32 (x % y)) (G 32 (x % y))) :
  zcb (wl 32 x) (G 32 x) (wl 32 y) (G 32 y) K := by
 have h32 : (32 : Nat) ≠ 0 := by omega
 rw [zcb.is]; unfold zcb.d
 refine yi4 x y _ _ (by omega) (by omega) rfl rfl _ ?_
 rw [ymn]
 by_cases hlt : x < y
 ·rw [yaA (by simpa using hlt)]
  rw [Nat.div_eq_of_lt hlt, Nat.mod_eq_of_lt hlt, ydF, ycy] at h
  exact h
 ·rw [yau (by simpa using hlt)]
  have hxl := ye3 32 h32 x
  have hyl := ye3 32 h32 y
  have hyt := ynH 32 h32 y hy0
  have hxy := ybU (k := 32) h32 (show y ≤ x by omega)
  have hyp : wl 32 y ≠ 0 := by rw [yiV hy0 h32]; omega
  have hdx : x / y < 2 ^ (32 * wl 32 x) := Nat.lt_of_le_of_lt (Nat.div_le_self x y) hxl
  generalize hne : wl 32 x = n at *
  rw [yby (by rw [ybb (by omega), ybb (by omega), ybb (by omega)]; rfl)]
  by_cases h1 : wl 32 y = 1
  ·have hyB : y < 4294967296 := by rw [h1] at hyl; exact hyl
   rw [h1, yaA (yhy (by omega)), Int.toNat_natCast, yat (by omega) (by omega)]
   refine ⟨n + 1, ?_⟩
   have := yjG x y n (by omega) hy0 hyB (fun y0 y1 y2 y3 => zbu y0 y2 y3 fun y0 y1_1 y2 => zbv 1 1 1 (upd (fun x => 0) 0 (cvI IntKind.u32 y1)) fun y0_1 y1 y2_1 y3 => K y0 y2 y0_1 y3) n ?_ n (Nat.le_refl _)
   ·rw [Nat.div_eq_of_lt hxl, Nat.zero_mod, Nat.zero_div, Nat.zero_mul, ycy] at this
    exact this
   ·refine ydT n n _ (by omega) hdx _ ?_
    have hm := Nat.mod_lt x (show 0 < y by omega)
    have := ykd 32 0 (x % y) 0 (by simp) (by rw [B32]; omega)
    rw [Nat.mul_zero, Nat.pow_zero, Nat.mul_one, Nat.zero_add, ycy] at this
    rw [ybu, show ((x % y : Nat) : Int) % 4294967296 = ((x % y : Nat) : Int) from by generalize x % y = r at *; omega, this]
    exact ybW 1 1 1 _ (by omega) (by omega) (by rw [show 32 * 1 = 32 from rfl, B32]; omega) _ fun c => h
  ·rw [yau (yfN (by omega))]
   have hdt := ya4 32 y (wl 32 y - 1)
   rw [B32] at hdt
   have e1 : Int.toNat ((wl 32 y : Int) - 1) = wl 32 y - 1 := by omega
   rw [yat (by omega) (by omega), e1, yby (by rw [ybb (by omega), ya9 (by omega)]; rfl), ya6, yaU (by omega) (by omega)]
   refine ye2 _ (by omega) _ ?_
   have hb : yaw (dg 32 y (wl 32 y - 1)) ≤ 32 := (yaT _ _).2 (by rw [B32]; exact hdt)
   have es : yan IntKind.i64 32 ((yaw (dg 32 y (wl 32 y - 1)) : Nat) : Int) = ((32 - yaw (dg 32 y (wl 32 y - 1)) : Nat) : Int) := by
    rw [yat (by omega) (by omega)]; omega
   rw [es]
   generalize hse : 32 - yaw (dg 32 y (wl 32 y - 1)) = s
   have hs : s ≤ 32 := by omega
   -- the divisor moved
   have hps := Nat.two_pow_pos s
   have hD0 : y * 2 ^ s ≠ 0 := by
    intro e; rcases Nat.mul_eq_zero.1 e with e | e
    ·exact hy0 e
    ·omega
   have hX0 : x * 2 ^ s ≠ 0 := by
    intro e; rcases Nat.mul_eq_zero.1 e with e | e
    ·omega
    ·omega
   have hle : ∀ z : Nat, z ≤ z * 2 ^ s := fun z => Nat.le_mul_of_pos_right z hps
   have wD1 := ybU (k := 32) h32 (hle y)
   have wX1 := ybU (k := 32) h32 (hle x)
   have wup : ∀ z m : Nat, z < 2 ^ (32 * m) → wl 32 (z * 2 ^ s) ≤ m + 1 := fun z m hz => by
    rw [yd3 32 h32, ycs]
    exact Nat.mul_lt_mul_of_lt_of_le hz (Nat.pow_le_pow_right (by omega) hs) (Nat.two_pow_pos _)
   have wD2 := wup y _ hyl
   have wX2 := wup x _ hxl
   have wDX : wl 32 (y * 2 ^ s) ≤ wl 32 (x * 2 ^ s) := ybU (k := 32) h32 (Nat.mul_le_mul_right _ (by omega))
   rw [hne] at wX1
   refine yh8 y _ s (by omega) (by omega) hyl _ _ (fun e => absurd e hyp) fun _ c2 m2 => ?_
   refine yh8 x _ s (by omega) (by omega) hxl _ _ (fun e => absurd e (by omega)) fun _ c3 m3 => ?_
   have hDl := ye3 32 h32 (y * 2 ^ s)
   have hDt := ynH 32 h32 _ hD0
   have hXl := ye3 32 h32 (x * 2 ^ s)
   rw [yt8 _ _ hXl]
   generalize hmd : wl 32 (y * 2 ^ s) = md at *
   generalize hL : wl 32 (x * 2 ^ s) = L at *
   rw [yby (yuk (by omega))]
   refine ⟨1, ?_⟩
   unfold zcb.l16 zcb.l16.step
   rw [yas (by omega) (by omega), yau (ybq (by omega)), Int.toNat_natCast]
   dsimp only
   have ei : yan IntKind.i64 (yan IntKind.i64 ((L + 1 : Nat) : Int) (md : Int)) 1 = ((L + 1 - md : Nat) : Int) - 1 := by
    simp (disch := omega) only [yat]
    omega
   rw [ei]
   refine ⟨L + 1 - md + 1, ?_⟩
   rw [← ycy 32]
   refine yix n s (L + 1) md (by omega) (by omega) (by omega) (by omega) n m2 (L + 1) (y * 2 ^ s) (x * 2 ^ s) hDl hDt _ (fun Q R he hR hQ => ?_) (L + 1 - md) 0 (x * 2 ^ s) (by omega) (by omega) ?_ (by simp) (Nat.two_pow_pos _) (by omega)
   ·have hq : Q = x / y := by
     rw [← ymu x y s, ← he, Nat.mul_comm Q, Nat.mul_add_div (by omega), Nat.div_eq_of_lt hR, Nat.add_zero]
    have hr : R = x % y * 2 ^ s := by
     rw [← ymi x y s, ← he, Nat.mul_comm Q, Nat.mul_add_mod, Nat.mod_eq_of_lt hR]
    refine ydT n n Q (by omega) hQ _ ?_
    have hRX : R < 2 ^ (32 * (L + 1)) := by
     have h1 : R ≤ x * 2 ^ s := by rw [← he]; omega
     have h2 : (2 : Nat) ^ (32 * L) ≤ 2 ^ (32 * (L + 1)) := Nat.pow_le_pow_right (by omega) (by omega)
     omega
    refine ydT (L + 1) (L + 1) R (by omega) hRX _ ?_
    refine yhu R _ s ?_ (by omega) (ye3 32 h32 R) _ ?_
    ·have := (yd3 32 h32 R (L + 1)).2 hRX
     omega
    ·have : R / 2 ^ s = x % y := by rw [hr, Nat.mul_div_cancel _ hps]
     rw [this, hq]; exact h
   ·have h1 : 2 ^ (32 * (md - 1)) ≤ y * 2 ^ s := (yuj 32 h32 _ _).1 (by omega)
    have h2 : 2 ^ (32 * (md - 1)) * 2 ^ (32 * (L + 1 - md)) ≤ y * 2 ^ s * 2 ^ (32 * (L + 1 - md)) := Nat.mul_le_mul_right _ h1
    rw [← Nat.pow_add, show 32 * (md - 1) + 32 * (L + 1 - md) = 32 * L from by omega] at h2
    omega
end Go.Ev.S

/- Natural numbers: quotients, greatest common divisors, roots. -/
set_option linter.unusedVariables false
set_option linter.unusedSimpArgs false
set_option maxRecDepth 8000
namespace Go.Ev.S
open Go Go.Ev
theorem yjI {a : List UInt8} (h : yiR a = true) : val a = 0 ↔ a = [] := by
 constructor
 ·intro e; rw [← yi9 h, e, yaJ]
 ·intro e; subst e; rfl
theorem yf0 (a b : List UInt8) (K : List UInt8 → List UInt8 → Int → Prop) (h1 : ¬ (May a ∧ May b) → K [] [] 2) (h0 : b = [] → K [] [] 2) (h2 : May a → May b → val b ≠ 0 → K (nb (val a / val b)) (nb (val a % val b)) 0) : zbi a b K := by
 rw [zbi.is]; unfold zbi.d
 rw [yco]
 by_cases h : May a ∧ May b
 ·rw [yau (by simp [h]), ybi]
  by_cases hb : b = []
  ·rw [yaA (by simpa using hb)]; exact h0 hb
  ·rw [yau (by simpa using hb)]
   have hv : val b ≠ 0 := fun e => hb ((yjI h.2.2).1 e)
   refine h.1.words _ (h.2.words _ ?_)
   have w1 := h.1.wl; have w2 := h.2.wl
   have w3 := ybU (k := 32) (by omega) (Nat.div_le_self (val a) (val b))
   have w4 := ybU (k := 32) (by omega) (Nat.mod_le (val a) (val b))
   refine ygl _ _ (by omega) hv (by omega) _ ?_
   refine ybF _ _ (by omega) (yef _) _ ?_
   exact ybF _ _ (by omega) (yef _) _ (h2 h.1 h.2 hv)
 ·rw [yaA (by simp [h])]; exact h1 h
theorem ykC (k0 : Nat → (Nat → Int) → Prop) : ∀ (y x : Nat), wl 32 x ≤ 100000 → wl 32 y ≤ 100000 → k0 (wl 32 (Nat.gcd x y)) (G 32 (Nat.gcd x y)) → ∃ f, zbj.l4 k0 f (wl 32 x) (G 32 x) (wl 32 y) (G 32 y) := by
 intro y
 induction y using Nat.strongRecOn with
 | _ y ih =>
  intro x hx hy hk
  by_cases h0 : y = 0
  ·subst h0
   refine ⟨1, ?_⟩
   unfold zbj.l4 zbj.l4.step
   rw [ydF, yau (ybq (by omega))]
   rw [Nat.gcd_zero_right] at hk; exact hk
  ·have hm := Nat.mod_lt x (show 0 < y by omega)
   have w := ybU (k := 32) (by omega) (Nat.le_of_lt hm)
   have hg : Nat.gcd y (x % y) = Nat.gcd x y := by rw [Nat.gcd_comm x y, Nat.gcd_rec y x, Nat.gcd_comm]
   obtain ⟨f, hf⟩ := ih (x % y) hm y hy (by omega) (by rw [hg]; exact hk)
   refine ⟨f + 1, ?_⟩
   unfold zbj.l4 zbj.l4.step
   have hp : wl 32 y ≠ 0 := by rw [yiV h0 (by omega)]; omega
   rw [yaA (ya9 (by omega))]
   exact ygl x y hx h0 hy _ hf
theorem ynT (x y : Nat) : Nat.gcd x y ≤ x ∨ Nat.gcd x y ≤ y := by
 rcases Nat.eq_zero_or_pos x with e | e
 ·right; subst e; rw [Nat.gcd_zero_left]; omega
 ·left; exact Nat.gcd_le_left y e
theorem yiB (a b : List UInt8) (K : List UInt8 → Int → Prop) (h1 : ¬ (May a ∧ May b) → K [] 2) (h2 : May a → May b → K (nb (Nat.gcd (val a) (val b))) 0) : zbj a b K := by
 rw [zbj.is]; unfold zbj.d
 rw [yco]
 by_cases h : May a ∧ May b
 ·rw [yau (by simp [h])]
  refine h.1.words _ (h.2.words _ ?_)
  have w1 := h.1.wl; have w2 := h.2.wl
  refine ykC _ _ _ (by omega) (by omega) ?_
  have w3 : wl 32 (Nat.gcd (val a) (val b)) ≤ 4096 := by
   rcases ynT (val a) (val b) with e | e
   ·have := ybU (k := 32) (by omega) e; omega
   ·have := ybU (k := 32) (by omega) e; omega
  exact ybF _ _ (by omega) (yef _) _ (h2 h.1 h.2)
 ·rw [yaA (by simp [h])]; exact h1 h
end Go.Ev.S

/- What the document's answer reckons with natural numbers, byte by byte. -/
set_option linter.unusedVariables false
set_option linter.unusedSimpArgs false
set_option maxRecDepth 8000
namespace Go.Ev.S
open Go Go.Ev
theorem B8 : (2 : Nat) ^ 8 = 256 := rfl
theorem ymv (n0 x : Nat) (hn0 : n0 ≤ 1000000000) (k0 : Nat → (Nat → Int) → Int → Prop) (h : ∀ n : Nat, n ≤ n0 → x < 2 ^ (8 * n) → (n = 0 ∨ dg 8 x (n - 1) ≠ 0) → k0 n0 (G 8 x) n) :
  ∀ (n : Nat), n ≤ n0 → x < 2 ^ (8 * n) → zcw.l2 k0 (n + 1) n0 (G 8 x) n := by
 intro n
 induction n with
 | zero =>
  intro hn hx
  unfold zcw.l2 zcw.l2.step
  rw [yau (ybq (by omega))]
  exact h 0 hn hx (.inl rfl)
 | succ n ih =>
  intro hn hx
  unfold zcw.l2 zcw.l2.step
  have e1 : ((n + 1 : Nat) : Int) - 1 = (n : Int) := by omega
  simp (disch := omega) only [yat, ya9, ybb, yaD, ya3, Bool.and_self, e1, Int.toNat_natCast, ya6]
  by_cases hd : dg 8 x n = 0
  ·rw [yaA (yhy (by omega))]
   refine ih (by omega) ?_
   have h2 := ybg 8 x n
   rw [Nat.mod_eq_of_lt hx, hd, Nat.zero_mul, Nat.add_zero] at h2
   have := Nat.mod_lt x (Nat.two_pow_pos (8 * n))
   omega
  ·rw [yau (yfN (by omega))]
   exact h (n + 1) hn hx (.inr hd)
theorem ylk (n0 x L c m : Nat) (hL : L ≤ n0) (hn0 : n0 ≤ 1000000000) (k0 : Nat → Nat → Nat → (Nat → Int) → Prop) (h : k0 L c m (BE L L x)) :
  ∀ (j i : Nat), i + j = L → zcw.l6 k0 (j + 1) n0 (G 8 x) L L c i m (BE L i x) := by
 intro j
 induction j with
 | zero =>
  intro i hi
  unfold zcw.l6 zcw.l6.step
  rw [yau (ybq (by omega)), show i = L from by omega]
  exact h
 | succ j ih =>
  intro i hi
  have ih := ih (i + 1) (by omega)
  have e : ((i + 1 : Nat) : Int) = (i : Int) + 1 := by omega
  rw [e] at ih
  have e2 : Int.toNat ((L : Int) - 1 - i) = L - 1 - i := by omega
  unfold zcw.l6 zcw.l6.step
  simp (disch := omega) only [yat, yas, ya9, ybb, yaD, ya3, Bool.and_self, Int.toNat_natCast, e2, ya6]
  rw [yph L i x (by omega)]
  exact ih
theorem yet (n x : Nat) (hn : n ≤ 1000000000) (hx : x < 2 ^ (8 * n)) (K : List UInt8 → Prop) (h : K (nb x)) : zcw n (G 8 x) K := by
 rw [zcw.is]; unfold zcw.d
 refine ⟨n + 1, ymv n x hn _ (fun L hL hx' ht => ?_) n (Nat.le_refl _) hx⟩
 simp (disch := omega) only [ybb, yaD, Bool.and_self, Int.toNat_natCast]
 refine ⟨L + 1, ?_⟩
 have := ylk n x L L L hL hn (fun y0 y1 y2 y3 => K (ybA y0 y3)) ?_ L 0 (by omega)
 ·rw [yo6] at this; exact this
 ·have h2 := ynC L 0 L x (by omega) hx' ht
  have e : (fun j => BE L L x (0 + j)) = BE L L x := by funext j; rw [Nat.zero_add]
  rw [e] at h2
  show K (ybA L (BE L L x))
  rw [h2]; exact h
theorem yck (a : List UInt8) (i : Nat) (hi : i ≤ 1000000000) (hl : a.length ≤ 1000000000) (K : Int → Prop) : zct a i K = K (dg 8 (val a) i : Int) := by
 rw [zct.is]; unfold zct.d
 by_cases h : a.length ≤ i
 ·rw [yaA (ybb (by omega)), yd7 8 (val a) a.length i (by rw [← ynU]; exact ygi a) h]; rfl
 ·have e2 : Int.toNat ((a.length : Int) - 1 - i) = a.length - 1 - i := by omega
  have hd := ya4 8 (val a) i
  rw [B8] at hd
  simp (disch := omega) only [yat, ya9, yff, ybb, yaD, yel, Bool.and_self, e2]
  rw [yfd a i (by omega), yfr (by omega) (by omega)]
theorem yez (a : List UInt8) (K : Bool → Prop) : zcr a K = K (decide (May a)) := by
 rw [zcr.is]; unfold zcr.d
 by_cases h : a.length ≤ 16384
 ·rw [yaA (ybb (by omega)), ybi]
  cases a with
  | nil => rw [yaA (by simp)]; congr 1
  | cons b l =>
   have hl : (0 : Int) < ((b :: l).length : Int) := by simp only [List.length_cons]; omega
   rw [yau (by simp), yby (ya9 hl), ydm]
   by_cases hb : b.toNat = 0
   ·rw [yhy (by omega)]
    congr 1
    have : ¬ May (b :: l) := fun hm => by have := hm.2; simp [yiR, hb] at this
    simp [this]
   ·rw [yfN (by omega)]
    congr 1
    have : May (b :: l) := ⟨h, by simpa [yiR] using hb⟩
    simp [this]
 ·rw [yau (yff (by omega))]
  congr 1
  have : ¬ May a := fun hm => h hm.1
  simp [this]
theorem ybZ (a : List UInt8) : val a < 2 ^ (8 * a.length) := by rw [← ynU]; exact ygi a
theorem yli (a b : List UInt8) (ha : a.length ≤ 1000000) (hb : b.length ≤ 1000000) (hle : val b ≤ val a) (c0 m0 : Nat) (k0 : Nat → Nat → Nat → (Nat → Int) → Prop) (h : k0 a.length c0 m0 (G 8 (val a - val b))) :
  ∀ (j i z : Nat) (c : Int), i + j = a.length → z < 2 ^ (8 * i) → (z : Int) - c * (2 ^ (8 * i) : Nat) = (val a % 2 ^ (8 * i) : Nat) - (val b % 2 ^ (8 * i) : Nat) → (c = 0 ∨ c = 1) →
   zcx.l4 k0 (j + 1) a b a.length c0 c i m0 (G 8 z) := by
 intro j
 induction j with
 | zero =>
  intro i z c hi hz hN hc
  have hi : i = a.length := by omega
  subst hi
  unfold zcx.l4 zcx.l4.step
  rw [yau (ybq (by omega))]
  have hx := ybZ a
  rw [Nat.mod_eq_of_lt hx, Nat.mod_eq_of_lt (by omega)] at hN
  have hc0 : c = 0 := by
   rcases hc with h0 | h0
   ·exact h0
   ·exfalso; subst h0; omega
  subst hc0
  rw [show val a - val b = z from by omega] at h
  exact h
 | succ j ih =>
  intro i z c hi hz hN hc
  have hdx := ya4 8 (val a) i
  have hdy := ya4 8 (val b) i
  rw [B8] at hdx hdy
  have step : ∀ (s c' : Int), s = (dg 8 (val a) i : Int) - (dg 8 (val b) i : Int) - c → (c' = if s < 0 then 1 else 0) → zcx.l4 k0 (j + 1) a b a.length c0 c' ((i : Int) + 1) m0 (upd (G 8 z) i (s % 256)) := by
   intro s c' hs hc'
   have hw : s % 256 = ((s % 256).toNat : Int) := by omega
   have hwl : (s % 256).toNat < 2 ^ 8 := by rw [B8]; omega
   have e : ((i + 1 : Nat) : Int) = (i : Int) + 1 := by omega
   rw [hw, ykd 8 z _ i hz hwl, ← e]
   refine ih (i + 1) _ _ (by omega) (yiy 8 z _ i hz hwl) ?_ (by rw [hc']; split <;> simp)
   rw [ybg, ybg, ycs, B8]
   generalize 2 ^ (8 * i) = P at *
   have h4 : s = (s % 256).toNat - 256 * c' := by rw [hc']; split <;> omega
   have h5 : s * (P : Int) = (s % 256).toNat * (P : Int) - c' * ((P : Int) * 256) := by
    conv => lhs; rw [h4]
    rw [Int.sub_mul, Int.mul_comm (256 : Int), Int.mul_assoc, Int.mul_comm (256 : Int)]
   have h6 : s * (P : Int) = (dg 8 (val a) i : Int) * P - (dg 8 (val b) i : Int) * P - c * P := by rw [hs, Int.sub_mul, Int.sub_mul]
   have c1 : ((z + (s % 256).toNat * P : Nat) : Int) = (z : Int) + ((s % 256).toNat : Int) * (P : Int) := by simp
   have c2 : ((val a % P + dg 8 (val a) i * P : Nat) : Int) = ((val a % P : Nat) : Int) + (dg 8 (val a) i : Int) * (P : Int) := by simp
   have c3 : ((val b % P + dg 8 (val b) i * P : Nat) : Int) = ((val b % P : Nat) : Int) + (dg 8 (val b) i : Int) * (P : Int) := by simp
   have c4 : ((P * 256 : Nat) : Int) = (P : Int) * 256 := by simp
   rw [c1, c2, c3, c4]
   omega
  unfold zcx.l4 zcx.l4.step
  rw [yaA (ya9 (by omega)), yck a i (by omega) (by omega), yck b i (by omega) (by omega)]
  simp (disch := omega) only [ya9, ybb, yaD, Bool.and_self, Int.toNat_natCast, yas, yat, ynh]
  by_cases hs : (dg 8 (val a) i : Int) - (dg 8 (val b) i : Int) - c < 0
  ·rw [yaA (ya9 hs)]; exact step _ 1 rfl (by rw [if_pos hs])
  ·rw [yau (ybq (by omega))]; exact step _ 0 rfl (by rw [if_neg hs])
theorem yod (a b : List UInt8) (ha : a.length ≤ 1000000) (hb : b.length ≤ 1000000) (hle : val b ≤ val a) (K : List UInt8 → Prop) (h : K (nb (val a - val b))) : zcx a b K := by
 rw [zcx.is]; unfold zcx.d
 simp (disch := omega) only [ybb, yaD, Bool.and_self, Int.toNat_natCast]
 refine ⟨a.length + 1, ?_⟩
 have := yli a b ha hb hle a.length a.length (fun y0 y1 y2 y3 => zcw y0 y3 fun y0 => K y0) ?_ a.length 0 0 0 (by omega) (Nat.two_pow_pos _) (by simp [Nat.mod_one]) (.inl rfl)
 ·rw [ycy] at this; exact this
 ·refine yet _ _ (by omega) ?_ _ h
  have := ybZ a
  omega
theorem yi0 (a b : List UInt8) (ha : yiR a = true) (hb : yiR b = true) (K : Int → Prop) : zcm a b K = K (sgn (val a) (val b)) := by
 rw [zcm.is]; unfold zcm.d
 have la := yle ha; have lb := yle hb
 by_cases hl : a.length = b.length
 ·rw [hl, yhy rfl, yau (by rfl), ysJ a b hl, yjB]
  unfold sgn
  by_cases h : val a < val b
  ·rw [yaA (by simpa using h), if_pos h]
  ·rw [yau (by simpa using h), if_neg h]
   by_cases he : a = b
   ·rw [yau (by simp [he]), he, if_neg (by omega)]
   ·have : val a ≠ val b := fun e => he (ysi ha hb e)
    rw [yaA (by simp [h, he]), if_pos (by omega)]
 ·rw [yfN (by omega), yaA (by rfl)]
  unfold sgn
  by_cases h : a.length < b.length
  ·have : val a < val b := Classical.byContradiction fun hc => by have := ybU (k := 8) (by omega) (show val b ≤ val a by omega); omega
   rw [yaA (ya9 (by omega)), if_pos this]
  ·have : val b < val a := Classical.byContradiction fun hc => by have := ybU (k := 8) (by omega) (show val a ≤ val b by omega); omega
   rw [yau (ybq (by omega)), if_neg (by omega), if_pos this]
end Go.Ev.S

/- What the document's answer reckons with natural numbers: products. -/
set_option linter.unusedVariables false
set_option linter.unusedSimpArgs false
set_option maxRecDepth 8000
namespace Go.Ev.S
open Go Go.Ev
end Go.Ev.S

/- What the document's answer reckons with natural numbers: made, measured, moved. -/
set_option linter.unusedVariables false
set_option linter.unusedSimpArgs false
set_option maxRecDepth 8000
namespace Go.Ev.S
open Go Go.Ev
theorem ys2 (a s : Nat) (hs : s ≤ 63) (h : a * 2 ^ s < 9223372036854775808) : ybD .i64 (a : Int) (s : Int) = ((a * 2 ^ s : Nat) : Int) := by
 have hb : IntKind.bits .i64 = 64 := rfl
 have h1 : min (Int.toNat (s : Int)) (IntKind.bits .i64) = s := by rw [Int.toNat_natCast, hb]; omega
 simp only [ybD, h1]
 have e : (a : Int) * 2 ^ s = ((a * 2 ^ s : Nat) : Int) := by simp
 rw [e]
 exact yd0 (by omega) (by omega)
theorem ytI (a b : Nat) (ha : a < 2 ^ 62) (hb : b < 2 ^ 62) : orI .i64 (a : Int) (b : Int) = ((a ||| b : Nat) : Int) := by
 have h3 : a ||| b < 2 ^ 62 := Nat.or_lt_two_pow ha hb
 have e62 : (2 : Nat) ^ 62 = 4611686018427387904 := rfl
 show IntKind.wrap .i64 (((BitVec.ofInt 64 (a : Int) ||| BitVec.ofInt 64 (b : Int) : BitVec 64).toNat : Nat) : Int) = _
 rw [BitVec.toNat_or, BitVec.ofInt_natCast, BitVec.ofInt_natCast, BitVec.toNat_ofNat, BitVec.toNat_ofNat, Nat.mod_eq_of_lt (by rw [B64]; omega), Nat.mod_eq_of_lt (by rw [B64]; omega)]
 exact yd0 (by omega) (by omega)
theorem yoQ (a : Nat) (ha : a < 2 ^ 62) : ycp .i64 (a : Int) 1 = ((a % 2 : Nat) : Int) := by
 have e62 : (2 : Nat) ^ 62 = 4611686018427387904 := rfl
 show IntKind.wrap .i64 (((BitVec.ofInt 64 (a : Int) &&& BitVec.ofInt 64 ((1 : Nat) : Int) : BitVec 64).toNat : Nat) : Int) = _
 rw [BitVec.toNat_and, BitVec.ofInt_natCast, BitVec.ofInt_natCast, BitVec.toNat_ofNat, BitVec.toNat_ofNat, Nat.mod_eq_of_lt (by rw [B64]; omega), Nat.mod_eq_of_lt (by rw [B64]; omega)]
 have : a &&& 1 = a % 2 := Nat.and_one_is_mod a
 rw [this]
 exact yd0 (by omega) (by omega)
theorem ypH (a s : Nat) (hs : s ≤ 64) : yaP .i64 (a : Int) (s : Int) = ((a / 2 ^ s : Nat) : Int) := by
 rw [yf6 (k := .i64) hs]; simp
theorem W_G (x : Nat) : W x = G 64 x := rfl
theorem yts {i : Nat} (h : i = 48) : 2 ^ (8 * i) = Q6 := yfv (by omega)
theorem yq1 (d b s w : Nat) (hd : d < 2 ^ s) (hs : s + w ≤ 64) (hb : b < 2 ^ w) : orI .u64 (d : Int) (ybD .u64 (b : Int) (s : Int)) = ((d + b * 2 ^ s : Nat) : Int) := by
 have hb64 : IntKind.bits .u64 = 64 := rfl
 have h1 : b * 2 ^ s + 2 ^ s ≤ 2 ^ 64 := by
  have h2 : (b + 1) * 2 ^ s ≤ 2 ^ w * 2 ^ s := Nat.mul_le_mul_right _ hb
  have h3 : 2 ^ w * 2 ^ s ≤ 2 ^ 64 := by rw [← Nat.pow_add]; exact Nat.pow_le_pow_right (by omega) (by omega)
  rw [Nat.add_mul] at h2; omega
 have hP := Nat.two_pow_pos s
 rw [yoH (k := .u64) rfl b s (by rw [hb64]; omega), hb64, Nat.mod_eq_of_lt (by omega), ysx (k := .u64) rfl _ _ (by rw [hb64]; omega) (by rw [hb64]; omega)]
 congr 1
 exact ygc hd (Nat.mul_mod_left _ _)
theorem yqY {d b s w : Nat} (hd : d < 2 ^ s) (hs : s + w ≤ 64) (hb : b < 2 ^ w) : d + b * 2 ^ s < 2 ^ 64 := by
 have h2 : (b + 1) * 2 ^ s ≤ 2 ^ w * 2 ^ s := Nat.mul_le_mul_right _ hb
 have h3 : 2 ^ w * 2 ^ s ≤ 2 ^ 64 := by rw [← Nat.pow_add]; exact Nat.pow_le_pow_right (by omega) (by omega)
 rw [Nat.add_mul] at h2; omega
theorem yiO (a : List UInt8) (K : Int → Prop) (h : K (if May a then (yaw (val a) : Int) else 0)) : zcp a K := by
 rw [zcp.is]; unfold zcp.d
 rw [yez]
 by_cases hm : May a
 ·rw [if_pos hm] at h
  rw [yau (by simp [hm]), ybi]
  cases a with
  | nil => rw [yaA (by simp)]; exact h
  | cons b l =>
   have hl := hm.1
   rw [List.length_cons] at hl
   have hv : val (b :: l) ≠ 0 := fun e => by have := hm.nb; rw [e, yaJ] at this; cases this
   have hb := yns 8 _ (by omega) hv
   rw [yle hm.2, List.length_cons, Nat.add_sub_cancel, ypg] at hb
   have hbl := ypf b
   rw [yau (by simp), yby (ya9 (by rw [List.length_cons]; omega)), ydm, yaU (by omega) (by omega)]
   refine yoi _ (by omega) _ ?_
   have h8 : yaw b.toNat ≤ 8 := (yaT _ _).2 hbl
   rw [List.length_cons]
   simp (disch := omega) only [yat, ycw, yas]
   rw [show 8 * (((l.length + 1 : Nat) : Int) - 1) + (yaw b.toNat : Int) = ((yaw (val (b :: l)) : Nat) : Int) from by rw [hb]; omega]
   exact h
 ·rw [if_neg hm] at h
  rw [yaA (by simp [hm])]; exact h
theorem ykQ (x : Nat) (h : x ≠ 0) : x.testBit (ybm x) = true ∧ ∀ i, i < ybm x → x.testBit i = false := by
 obtain ⟨q, hq⟩ := yed x h
 generalize ybm x = k at *
 subst hq
 constructor
 ·rw [Nat.testBit_two_pow_mul]; simp [Nat.testBit_zero]
 ·intro i hi
  rw [Nat.testBit_two_pow_mul]; simp; omega
theorem ykI (x : Nat) (h0 : x ≠ 0) (hx : x < 18446744073709551616) (hk : ybm x < 64) (k0 : Int → Prop) (k1 : Prop) (h : k0 (ybm x)) : ∀ (j i : Nat), i + j = ybm x → zcl.l2 k0 k1 (j + 1) x i := by
 obtain ⟨b1, b2⟩ := ykQ x h0
 intro j
 induction j with
 | zero =>
  intro i hi
  unfold zcl.l2 zcl.l2.step
  rw [yaA (ya9 (by omega)), yf1 x i hx (by omega), show i = ybm x from by omega, b1, ya3]
  exact h
 | succ j ih =>
  intro i hi
  have ih := ih (i + 1) (by omega)
  have e : ((i + 1 : Nat) : Int) = (i : Int) + 1 := by omega
  rw [e] at ih
  unfold zcl.l2 zcl.l2.step
  rw [yaA (ya9 (by omega)), yf1 x i hx (by omega), b2 i (by omega), yel, yas (by omega) (by omega)]
  exact ih
theorem yfX (x n : Nat) (h0 : x ≠ 0) (hx : x < 2 ^ n) : ybm x < n := by
 obtain ⟨b1, _⟩ := ykQ x h0
 apply Classical.byContradiction
 intro hc
 rw [Nat.testBit_lt_two_pow (Nat.lt_of_lt_of_le hx (Nat.pow_le_pow_right (by omega) (by omega)))] at b1
 cases b1
theorem yn9 (x : Nat) (h0 : x ≠ 0) (hx : x < 18446744073709551616) (K : Int → Prop) (h : K (ybm x)) : zcl x K := by
 rw [zcl.is]; unfold zcl.d
 exact ⟨ybm x + 1, ykI x h0 hx (yfX x 64 h0 hx) _ _ h (ybm x) 0 (by omega)⟩
theorem ykY (a : List UInt8) (hl : a.length ≤ 100000) (k0 : Int → Prop) (k1 : Prop) (h0 : val a ≠ 0 → k0 (ybm (val a))) (h1 : val a = 0 → k1) :
  ∀ (j t : Nat), t + j = a.length → val a % 2 ^ (8 * t) = 0 → zcq.l4 k0 k1 (j + 1) a t := by
 intro j
 induction j with
 | zero =>
  intro t ht hm
  unfold zcq.l4 zcq.l4.step
  rw [yau (ybq (by omega))]
  refine h1 ?_
  rw [Nat.mod_eq_of_lt (by have := ybZ a; rwa [show t = a.length from by omega])] at hm
  exact hm
 | succ j ih =>
  intro t ht hm
  have hd := ya4 8 (val a) t
  rw [B8] at hd
  unfold zcq.l4 zcq.l4.step
  rw [yaA (ya9 (by omega)), yck a t (by omega) (by omega)]
  by_cases hz : dg 8 (val a) t = 0
  ·rw [yhy (by omega), yau (by rfl), yas (by omega) (by omega)]
   have := ih (t + 1) (by omega) (by rw [ybg, hm, hz]; omega)
   rw [show ((t + 1 : Nat) : Int) = (t : Int) + 1 from by omega] at this
   exact this
  ·rw [yfN (by omega), yaA (by rfl), yck a t (by omega) (by omega), yaU (by omega) (by omega)]
   refine yn9 _ hz (by omega) _ ?_
   have hlow := yla (val a) t hm hz
   have hk := yfX _ 8 hz (by rw [B8]; exact hd)
   simp (disch := omega) only [ycw, yas]
   rw [show 8 * (t : Int) + (ybm (dg 8 (val a) t) : Int) = ((ybm (val a) : Nat) : Int) from by rw [hlow]; omega]
   refine h0 fun e => hz ?_
   rw [e]; exact ydy 8 0 t (Nat.two_pow_pos _)
theorem yoI (a : List UInt8) (K : Int → Prop) (h : K (if May a then (ybm (val a) : Int) else 0)) : zcq a K := by
 rw [zcq.is]; unfold zcq.d
 rw [yez]
 by_cases hm : May a
 ·rw [if_pos hm] at h
  have hl := hm.1
  rw [yau (by simp [hm])]
  exact ⟨a.length + 1, ykY a (by omega) (fun y0 => K y0) (K 0) (fun _ => h) (fun e => by rw [e, yhG] at h; exact h) a.length 0 (by omega) (by simp [Nat.mod_one])⟩
 ·rw [if_neg hm] at h
  rw [yaA (by simp [hm])]; exact h
theorem ygY (x s : Nat) (h : x ≠ 0) : yaw (x * 2 ^ s) = yaw x + s := by
 have h1 : x * 2 ^ s / 2 ^ s = x := Nat.mul_div_cancel _ (Nat.two_pow_pos s)
 have := yen (x := x * 2 ^ s) (i := s) (by rw [h1]; exact h)
 rw [this, h1, Nat.add_comm]
theorem ypB (x n : Nat) : (nb x).length ≤ n ↔ yaw x ≤ 8 * n := by
 rw [ya7, yaT, ynU]
theorem yjE (x : Nat) : (nb x).length ≤ 16384 ↔ yaw x ≤ 131072 := by
 have := ypB x 16384
 omega
theorem yq2 (x s i : Nat) : (dg 8 x (i + s / 8) + dg 8 x (i + s / 8 + 1) * 256) / 2 ^ (s % 8) % 256 = dg 8 (x / 2 ^ s) i := by
 have hr : s % 8 < 8 := Nat.mod_lt _ (by omega)
 have h1 : dg 8 x (i + s / 8) + dg 8 x (i + s / 8 + 1) * 256 = x / 2 ^ (8 * (i + s / 8)) % 2 ^ 16 := by
  have a := ydc 8 x (i + s / 8)
  have b := ydc 8 x (i + s / 8 + 1)
  rw [B8] at a b
  rw [a, b, show (2 : Nat) ^ 16 = 65536 from rfl]
  have c := ya4 8 x (i + s / 8)
  have d := ya4 8 x (i + s / 8 + 1)
  rw [B8] at c d
  omega
 rw [h1]
 unfold dg
 rw [Nat.div_div_eq_div_mul, ← Nat.pow_add]
 have h2 : (2 : Nat) ^ 16 = 2 ^ (s % 8) * 2 ^ (16 - s % 8) := by rw [← Nat.pow_add]; congr 1; omega
 rw [h2, Nat.mod_mul_right_div_self, Nat.div_div_eq_div_mul, ← Nat.pow_add, show (256 : Nat) = 2 ^ 8 from rfl, Nat.mod_mod_of_dvd _ (Nat.pow_dvd_pow 2 (by omega))]
 congr 3; omega
theorem yir (a : List UInt8) (s : Nat) (hl : a.length ≤ 100000) (hs : s / 8 ≤ a.length) (lost : Bool) (c0 m0 : Nat) (k0 : Bool → Nat → Nat → Nat → (Nat → Int) → Prop) (h : k0 lost (a.length - s / 8) c0 m0 (G 8 (val a / 2 ^ s % 2 ^ (8 * (a.length - s / 8))))) :
  ∀ (j i : Nat), i + j = a.length - s / 8 → zcs.l11 k0 (j + 1) a s lost ((a.length - s / 8 : Nat) : Int) (a.length - s / 8) c0 i m0 (G 8 (val a / 2 ^ s % 2 ^ (8 * i))) := by
 intro j
 induction j with
 | zero =>
  intro i hi
  unfold zcs.l11 zcs.l11.step
  rw [yau (ybq (by omega)), show i = a.length - s / 8 from by omega]
  exact h
 | succ j ih =>
  intro i hi
  have ih := ih (i + 1) (by omega)
  have e : ((i + 1 : Nat) : Int) = (i : Int) + 1 := by omega
  have hw := yq2 (val a) s i
  have hdw := ya4 8 (val a / 2 ^ s) i
  rw [e, ybg, ← ykd 8 _ _ i (Nat.mod_lt _ (Nat.two_pow_pos _)) hdw, ← hw] at ih
  have hd := ya4 8 (val a) (i + s / 8)
  have hd2 := ya4 8 (val a) (i + s / 8 + 1)
  rw [B8] at hd hd2
  have e1 : (i : Int) + (s : Int) / 8 = ((i + s / 8 : Nat) : Int) := by omega
  have e2 : ((i + s / 8 : Nat) : Int) + 1 = ((i + s / 8 + 1 : Nat) : Int) := by omega
  have e3 : (s : Int) % 8 = ((s % 8 : Nat) : Int) := by omega
  have q1 := ys2 (dg 8 (val a) (i + s / 8 + 1)) 8 (by omega) (by rw [B8]; omega)
  rw [B8, show ((8 : Nat) : Int) = 8 from rfl] at q1
  have e62 : (2 : Nat) ^ 62 = 4611686018427387904 := rfl
  have o1 : orI .i64 ((dg 8 (val a) (i + s / 8) : Nat) : Int) ((dg 8 (val a) (i + s / 8 + 1) * 256 : Nat) : Int) = ((dg 8 (val a) (i + s / 8) + dg 8 (val a) (i + s / 8 + 1) * 256 : Nat) : Int) := by
   rw [ytI _ _ (by omega) (by omega)]
   congr 1
   exact ygc (r := 8) (by rw [B8]; exact hd) (by rw [B8]; exact Nat.mul_mod_left _ _)
  have sh := ypH (dg 8 (val a) (i + s / 8) + dg 8 (val a) (i + s / 8 + 1) * 256) (s % 8) (by omega)
  have e4 : (((dg 8 (val a) (i + s / 8) + dg 8 (val a) (i + s / 8 + 1) * 256) / 2 ^ (s % 8) : Nat) : Int) % 256 = (((dg 8 (val a) (i + s / 8) + dg 8 (val a) (i + s / 8 + 1) * 256) / 2 ^ (s % 8) % 256 : Nat) : Int) := by omega
  unfold zcs.l11 zcs.l11.step
  simp (disch := omega) only [ya9, ya3, ycd, yas, e1, e2]
  rw [yck a _ (by omega) (by omega), yck a _ (by omega) (by omega)]
  simp (disch := omega) only [ya9, ybq, ybb, yaD, Bool.and_self, Bool.not_false, Int.toNat_natCast, yhL, yaU, e3, q1, o1, sh, ynh, e4]
  exact ih
theorem yr0 (x n : Int) : ltI x n = decide (x < n) := by simp [ltI]
theorem ylb (a : List UInt8) (n : Int) (hn : n < 9223372036854775808) (hm : May a) (K : List UInt8 → Bool → Int → Prop) (h1 : n < 0 → K [] false 2) (h2 : 0 ≤ n → a = [] → K [] false 0)
  (h3 : 0 ≤ n → a ≠ [] → K (nb (val a / 2 ^ n.toNat)) (decide ((ybm (val a) : Int) < n)) 0) : zcs a n K := by
 rw [zcs.is]; unfold zcs.d
 by_cases hneg : n < 0
 ·rw [yaA (ya9 hneg)]; exact h1 hneg
 rw [yau (ybq (by omega)), ybi]
 by_cases h0 : a = []
 ·rw [yaA (by simp [h0])]; exact h2 (by omega) h0
 rw [yau (by simp [h0])]
 have hl := hm.1
 obtain ⟨s, rfl⟩ : ∃ s : Nat, n = s := ⟨n.toNat, by omega⟩
 have h3 := h3 (by omega) h0
 rw [Int.toNat_natCast] at h3
 refine yoI a _ ?_
 rw [if_pos hm, yr0, ycw (by omega) (by omega)]
 by_cases hbig : 8 * a.length ≤ s
 ·rw [yaA (ybb (by omega))]
  have : val a / 2 ^ s = 0 := Nat.div_eq_of_lt (Nat.lt_of_lt_of_le (ybZ a) (Nat.pow_le_pow_right (by omega) hbig))
  rw [this, yaJ] at h3
  exact h3
 ·rw [yau (yff (by omega))]
  have e1 : Int.toNat ((a.length : Int) - (s : Int) / 8) = a.length - s / 8 := by omega
  have e2 : (a.length : Int) - (s : Int) / 8 = ((a.length - s / 8 : Nat) : Int) := by omega
  simp (disch := omega) only [ycd, yat, ybb, yaD, Bool.and_self, e1]
  rw [e2]
  have hlt2 : val a / 2 ^ s < 2 ^ (8 * (a.length - s / 8)) := by
   rw [Nat.div_lt_iff_lt_mul (Nat.two_pow_pos _), ← Nat.pow_add]
   exact Nat.lt_of_lt_of_le (ybZ a) (Nat.pow_le_pow_right (by omega) (by omega))
  refine ⟨a.length - s / 8 + 1, ?_⟩
  have := yir a s (by omega) (by omega) (decide ((ybm (val a) : Int) < s)) (a.length - s / 8) (a.length - s / 8) (fun y0 y1 y2 y3 y4 => zcw y1 y4 fun y0_1 => K y0_1 y0 0) ?_ (a.length - s / 8) 0 (by omega)
  ·rw [Nat.mul_zero, Nat.pow_zero, Nat.mod_one, ycy] at this; exact this
  ·rw [Nat.mod_eq_of_lt hlt2]
   exact yet _ _ (by omega) hlt2 _ h3
end Go.Ev.S

/- What the document's answer reckons with natural numbers: quotients, greatest common divisors, roots. -/
set_option linter.unusedVariables false
set_option linter.unusedSimpArgs false
set_option maxRecDepth 8000
namespace Go.Ev.S
open Go Go.Ev
theorem ytA {x y : Nat} (h : y ≤ x) : leI 0 (sgn x y) = true := by
 unfold sgn
 rw [if_neg (by omega)]
 split
 ·exact ybb (by omega)
 ·exact ybb (by omega)
theorem ytu {x y : Nat} (h : x < y) : leI 0 (sgn x y) = false := by
 unfold sgn
 rw [if_pos h]
 exact yff (by omega)
theorem yte (x i : Nat) : dg 8 x (i / 8) / 2 ^ (i % 8) % 2 = x / 2 ^ i % 2 := by
 unfold dg
 have h2 : (2 : Nat) ^ 8 = 2 ^ (i % 8) * 2 ^ (8 - i % 8) := by rw [← Nat.pow_add]; congr 1; omega
 have h3 : (2 : Nat) ∣ 2 ^ (8 - i % 8) := Nat.dvd_trans (by rw [Nat.pow_one]; exact Nat.dvd_refl _ : (2 : Nat) ∣ 2 ^ 1) (Nat.pow_dvd_pow 2 (by omega))
 rw [h2, Nat.mod_mul_right_div_self, Nat.mod_mod_of_dvd _ h3, Nat.div_div_eq_div_mul, ← Nat.pow_add, show 8 * (i / 8) + i % 8 = i from by omega]
theorem yoE (a : List UInt8) (i : Nat) (hi : i ≤ 1000000000) (hl : a.length ≤ 1000000000) (K : Int → Prop) : zcu a i K = K ((val a / 2 ^ i % 2 : Nat) : Int) := by
 rw [zcu.is]; unfold zcu.d
 have hd := ya4 8 (val a) (i / 8)
 rw [B8] at hd
 have e62 : (2 : Nat) ^ 62 = 4611686018427387904 := rfl
 have e0 : yaG IntKind.i64 (i : Int) 8 = ((i / 8 : Nat) : Int) := by rw [ycd (by omega) (by omega) (by omega)]; omega
 have e1 : cvI IntKind.u64 (ycg IntKind.i64 (i : Int) 8) = ((i % 8 : Nat) : Int) := by rw [yhL (by omega), yaU (by omega) (by omega)]; omega
 have hle := Nat.div_le_self (dg 8 (val a) (i / 8)) (2 ^ (i % 8))
 rw [e0, e1, yck a _ (by omega) hl, ybq (by omega), ypH _ _ (by omega), yoQ _ (by omega), yte]
 rfl
theorem yhE (a : List UInt8) (one : Nat) (h1 : one < 2) (hl : a.length ≤ 1000000) (c0 m0 : Nat) (k0 : Nat → Nat → Nat → (Nat → Int) → Prop) (h : k0 (a.length + 1) c0 m0 (G 8 (2 * val a + one))) :
  ∀ (j i Z c : Nat), i + j = a.length + 1 → Z < 2 ^ (8 * i) → c < 2 → Z + c * 2 ^ (8 * i) = 2 * (val a % 2 ^ (8 * i)) + one → zcv.l4 k0 (j + 1) a (a.length + 1) c0 c i m0 (G 8 Z) := by
 intro j
 induction j with
 | zero =>
  intro i Z c hi hZ hc hE
  have hi : i = a.length + 1 := by omega
  subst hi
  have hx := ybZ a
  have hp : 2 ^ (8 * (a.length + 1)) = 2 ^ (8 * a.length) * 256 := by rw [ycs, B8]
  have hpp := Nat.two_pow_pos (8 * a.length)
  rw [Nat.mod_eq_of_lt (by omega)] at hE
  have hc0 : c = 0 := by
   rcases (by omega : c = 0 ∨ c = 1) with e | e
   ·exact e
   ·subst e; omega
  subst hc0
  unfold zcv.l4 zcv.l4.step
  rw [yau (yff (by omega))]
  rw [← hE, Nat.zero_mul, Nat.add_zero] at h
  exact h
 | succ j ih =>
  intro i Z c hi hZ hc hE
  have hd := ya4 8 (val a) i
  rw [B8] at hd
  have e1 : ybY IntKind.i64 2 ((dg 8 (val a) i : Nat) : Int) = ((2 * dg 8 (val a) i : Nat) : Int) := by rw [ycw (by omega) (by omega)]; omega
  have e2 : yaj IntKind.i64 (c : Int) ((2 * dg 8 (val a) i : Nat) : Int) = ((c + 2 * dg 8 (val a) i : Nat) : Int) := by rw [yas (by omega) (by omega)]; omega
  have e3 : yaP IntKind.i64 ((c + 2 * dg 8 (val a) i : Nat) : Int) 8 = (((c + 2 * dg 8 (val a) i) / 256 : Nat) : Int) := by rw [yp9]; omega
  have e4 : cvI IntKind.u8 ((c + 2 * dg 8 (val a) i : Nat) : Int) = (((c + 2 * dg 8 (val a) i) % 256 : Nat) : Int) := by rw [ynh]; omega
  have e5 : yaj IntKind.i64 (i : Int) 1 = ((i + 1 : Nat) : Int) := by rw [yas (by omega) (by omega)]; omega
  have hw : (c + 2 * dg 8 (val a) i) % 256 < 2 ^ 8 := Nat.mod_lt _ (by omega)
  unfold zcv.l4 zcv.l4.step
  rw [yaA (ybb (by omega)), yck a i (by omega) (by omega), yby (by rw [ybb (by omega), ya9 (by omega)]; rfl), e1, e2, e3, e4, e5, Int.toNat_natCast, ykd 8 Z _ i hZ hw]
  refine ih (i + 1) _ _ (by omega) (yiy 8 Z _ i hZ hw) (by omega) ?_
  rw [ybg, ycs, B8]
  have := ymj (c + 2 * dg 8 (val a) i) 256 (2 ^ (8 * i))
  rw [Nat.add_mul c, Nat.mul_assoc] at this
  rw [Nat.mul_add]
  omega
theorem yjm (a : List UInt8) (one : Nat) (h1 : one < 2) (hl : a.length ≤ 1000000) (K : List UInt8 → Prop) (h : K (nb (2 * val a + one))) : zcv a one K := by
 rw [zcv.is]; unfold zcv.d
 have e1 : Int.toNat ((a.length : Int) + 1) = a.length + 1 := by omega
 simp (disch := omega) only [ybb, yaD, Bool.and_self, yas, e1]
 refine ⟨a.length + 2, ?_⟩
 have hx := ybZ a
 have := yhE a one h1 hl (a.length + 1) (a.length + 1) (fun y0 y1 y2 y3 => zcw y0 y3 fun y0 => K y0) ?_ (a.length + 1) 0 0 one (by omega) (by simp) h1 (by simp [Nat.mod_one])
 ·rw [ycy] at this; exact this
 ·refine yet _ _ (by omega) ?_ _ h
  rw [ycs, B8]; omega
theorem yq0 (x t : Nat) : x / 2 ^ t = 2 * (x / 2 ^ (t + 1)) + x / 2 ^ t % 2 := by
 rw [Nat.pow_succ, ← Nat.div_div_eq_div_mul]
 omega
theorem yra (X y q r b : Nat) (hy : 0 < y) (hq : X / y = q) (hr : X % y = r) (hb : b < 2) :
  (y ≤ 2 * r + b → (2 * X + b) / y = 2 * q + 1 ∧ (2 * X + b) % y = 2 * r + b - y) ∧ (2 * r + b < y → (2 * X + b) / y = 2 * q ∧ (2 * X + b) % y = 2 * r + b) := by
 have h1 := Nat.div_add_mod X y
 have h2 := Nat.mod_lt X hy
 rw [hq, hr] at h1
 rw [hr] at h2
 have h3 : 2 * X + b = 2 * r + b + y * (2 * q) := by rw [← h1, Nat.mul_left_comm y 2 q]; omega
 constructor
 ·intro h
  have h4 : 2 * X + b = (2 * r + b - y) + y * (2 * q + 1) := by rw [h3, Nat.mul_add]; omega
  rw [h4, Nat.add_mul_div_left _ _ hy, Nat.add_mul_mod_self_left, Nat.div_eq_of_lt (by omega), Nat.mod_eq_of_lt (by omega)]
  omega
 ·intro h
  rw [h3, Nat.add_mul_div_left _ _ hy, Nat.add_mul_mod_self_left, Nat.div_eq_of_lt h, Nat.mod_eq_of_lt h]
  omega
theorem ysM (q t : Nat) : upd (G 8 (q * 2 ^ (t + 1))) (t / 8) (orI IntKind.u8 ((dg 8 (q * 2 ^ (t + 1)) (t / 8) : Nat) : Int) (ybD IntKind.u8 1 ((t % 8 : Nat) : Int))) = G 8 ((2 * q + 1) * 2 ^ t) := by
 have hb : IntKind.bits .u8 = 8 := rfl
 have hd := ya4 8 (q * 2 ^ (t + 1)) (t / 8)
 have h8 : (2 : Nat) ^ 8 = 2 ^ (t % 8 + 1) * 2 ^ (8 - (t % 8 + 1)) := by rw [← Nat.pow_add]; congr 1; omega
 have hmod : dg 8 (q * 2 ^ (t + 1)) (t / 8) % 2 ^ (t % 8 + 1) = 0 := by
  unfold dg
  rw [Nat.mod_mod_of_dvd _ ⟨_, h8⟩, show t + 1 = t % 8 + 1 + 8 * (t / 8) from by omega, Nat.pow_add, ← Nat.mul_assoc, Nat.mul_div_cancel _ (Nat.two_pow_pos _)]
  exact Nat.mul_mod_left _ _
 have hlt : 2 ^ (t % 8) < 2 ^ (t % 8 + 1) := Nat.pow_lt_pow_right (by omega) (by omega)
 have h1 : ybD IntKind.u8 1 ((t % 8 : Nat) : Int) = ((2 ^ (t % 8) : Nat) : Int) := by
  have := yoH (k := .u8) rfl 1 (t % 8) (by rw [hb]; omega)
  rw [Nat.one_mul, hb, Nat.mod_eq_of_lt (Nat.pow_lt_pow_right (by omega) (by omega))] at this
  exact this
 have hs : dg 8 (q * 2 ^ (t + 1)) (t / 8) ||| 2 ^ (t % 8) = 2 ^ (t % 8) + dg 8 (q * 2 ^ (t + 1)) (t / 8) := by
  rw [Nat.or_comm]; exact ygc hlt hmod
 have hs2 : dg 8 (q * 2 ^ (t + 1)) (t / 8) ||| 2 ^ (t % 8) < 2 ^ 8 := Nat.or_lt_two_pow hd (Nat.pow_lt_pow_right (by omega) (by omega))
 rw [h1, ysx (k := .u8) rfl _ _ (by rw [hb]; exact hd) (by rw [hb]; exact Nat.pow_lt_pow_right (by omega) (by omega))]
 refine ygF ?_ hs2
 rw [hs, Nat.add_mul (2 ^ (t % 8)), ← Nat.pow_add, show t % 8 + 8 * (t / 8) = t from by omega, Nat.add_mul (2 * q) 1, Nat.one_mul, Nat.pow_succ, Nat.mul_comm (2 ^ t) 2, ← Nat.mul_assoc, Nat.mul_comm q 2]
 omega
theorem ync {x n : Nat} (h : x < 2 ^ (8 * n)) : (nb x).length ≤ n := (ya7 x n).2 (by rw [ynU]; exact h)
theorem ylz (a b : List UInt8) (hl : a.length ≤ 100000) (hlb : b.length ≤ 100000) (hb : yiR b = true) (hy : 0 < val b) (c0 m0 : Nat) (k0 : List UInt8 → Nat → Nat → Nat → (Nat → Int) → Prop)
  (h : k0 (nb (val a % val b)) (a.length + 1) c0 m0 (G 8 (val a / val b))) :
  ∀ t, t ≤ 8 * a.length → zcn.l10 k0 (t + 1) a b (nb (val a / 2 ^ t % val b)) (a.length + 1) c0 ((t : Int) - 1) m0 (G 8 (val a / 2 ^ t / val b * 2 ^ t)) := by
 intro t
 induction t with
 | zero =>
  intro ht
  unfold zcn.l10 zcn.l10.step
  rw [yau (yff (by omega)), Nat.pow_zero, Nat.div_one, Nat.mul_one]
  exact h
 | succ t ih =>
  intro ht
  have ih := ih (by omega)
  have hx := yq0 (val a) t
  have hb2 : val a / 2 ^ t % 2 < 2 := Nat.mod_lt _ (by omega)
  generalize hbit : val a / 2 ^ t % 2 = bit at *
  rw [hx] at ih
  generalize val a / 2 ^ (t + 1) = X at *
  obtain ⟨s1, s2⟩ := yra X (val b) _ _ bit hy rfl rfl hb2
  have hr := Nat.mod_lt X hy
  have hyl := ybZ b
  generalize hre : X % val b = r at *
  generalize hqe : X / val b = q at *
  have lr : (nb r).length ≤ b.length := ync (by omega)
  have e1 : ((t + 1 : Nat) : Int) - 1 = (t : Int) := by omega
  have e2 : yaG IntKind.i64 (t : Int) 8 = ((t / 8 : Nat) : Int) := by rw [ycd (by omega) (by omega) (by omega)]; omega
  have e3 : cvI IntKind.u64 (ycg IntKind.i64 (t : Int) 8) = ((t % 8 : Nat) : Int) := by rw [yhL (by omega), yaU (by omega) (by omega)]; omega
  have e4 : yan IntKind.i64 (t : Int) 1 = (t : Int) - 1 := by rw [yat (by omega) (by omega)]
  have w0 : (leI 0 ((t / 8 : Nat) : Int) && ltI ((t / 8 : Nat) : Int) ((a.length + 1 : Nat) : Int)) = true := by rw [ybb (by omega), ya9 (by omega)]; rfl
  unfold zcn.l10 zcn.l10.step
  rw [e1, yaA (ybb (by omega)), yoE a t (by omega) (by omega), hbit]
  refine yjm (nb r) bit hb2 (by omega) _ ?_
  rw [yaZ, yi0 _ b (yma _) hb, yaZ]
  have l2 : (nb (2 * r + bit)).length ≤ b.length + 1 := ync (by rw [ycs, B8]; omega)
  by_cases hc : val b ≤ 2 * r + bit
  ·obtain ⟨g1, g2⟩ := s1 hc
   rw [g1, g2] at ih
   rw [yaA (ytA hc)]
   refine yod _ b (by omega) (by omega) (by rw [yaZ]; exact hc) _ ?_
   rw [yaZ, e2, e3, yby w0, yby (by rw [ybq (by omega)]; rfl), yby w0, Int.toNat_natCast, ya6, ysM, e4]
   exact ih
  ·obtain ⟨g1, g2⟩ := s2 (by omega)
   rw [g1, g2, show 2 * q * 2 ^ t = q * 2 ^ (t + 1) from by rw [Nat.pow_succ, Nat.mul_comm 2 q, Nat.mul_assoc, Nat.mul_comm 2]] at ih
   rw [yau (ytu (by omega)), e4]
   exact ih
theorem yox (a b : List UInt8) (ha : May a) (hb : May b) (K : List UInt8 → List UInt8 → Int → Prop) (h0 : b = [] → K [] [] 2) (h2 : val b ≠ 0 → K (nb (val a / val b)) (nb (val a % val b)) 0) : zcn a b K := by
 rw [zcn.is]; unfold zcn.d
 rw [ybi]
 by_cases hz : b = []
 ·rw [yaA (by simpa using hz)]; exact h0 hz
 ·rw [yau (by simpa using hz), yi0 a b ha.2 hb.2, ymn]
  have hv : val b ≠ 0 := fun e => hz ((yjI hb.2).1 e)
  have h2 := h2 hv
  have l1 := ha.1; have l2 := hb.1
  by_cases hlt : val a < val b
  ·rw [yaA (by simpa using hlt)]
   rw [Nat.div_eq_of_lt hlt, Nat.mod_eq_of_lt hlt, yaJ, ha.nb] at h2
   exact h2
  ·rw [yau (by simpa using hlt)]
   have va : val a ≠ 0 := by omega
   refine yiO a _ (yiO b _ ?_)
   rw [if_pos ha, if_pos hb]
   have ba : yaw (val a) ≤ 8 * a.length := (yaT _ _).2 (ybZ a)
   have bb : yaw (val b) ≤ 8 * b.length := (yaT _ _).2 (ybZ b)
   have bp := ymP hv
   have bm : yaw (val b) ≤ yaw (val a) := (yaT _ _).2 (by have := yju (val a); omega)
   have e1 : yan IntKind.i64 ((yaw (val a) : Nat) : Int) (yan IntKind.i64 ((yaw (val b) : Nat) : Int) 1) = ((yaw (val a) - (yaw (val b) - 1) : Nat) : Int) := by
    simp (disch := omega) only [yat]; omega
   rw [e1]
   have hT : val a / 2 ^ (yaw (val a) - (yaw (val b) - 1)) < val b := by
    rw [Nat.div_lt_iff_lt_mul (Nat.two_pow_pos _)]
    have g1 := ypr hv
    have g2 := yju (val a)
    have g3 := Nat.mul_le_mul_right (2 ^ (yaw (val a) - (yaw (val b) - 1))) g1
    rw [← Nat.pow_add, show yaw (val b) - 1 + (yaw (val a) - (yaw (val b) - 1)) = yaw (val a) from by omega] at g3
    omega
   generalize hTe : yaw (val a) - (yaw (val b) - 1) = T at *
   refine ylb a _ (by omega) ha _ (fun e => by omega) (fun _ e => absurd ((yjI ha.2).2 e) va) fun _ _ => ?_
   rw [Int.toNat_natCast]
   have e2 : yaj IntKind.i64 ((a.length : Nat) : Int) 1 = (a.length : Int) + 1 := by rw [yas (by omega) (by omega)]
   have e3 : Int.toNat ((a.length : Int) + 1) = a.length + 1 := by omega
   rw [e2, yby (by rw [ybb (by omega), ybb (by omega), ybb (by omega)]; rfl), e3, yat (by omega) (by omega)]
   refine ⟨T + 1, ?_⟩
   have := ylz a b (by omega) (by omega) hb.2 (by omega) (a.length + 1) (a.length + 1) (fun y0 y1 y2 y3 y4 => zcw y1 y4 fun y0_3 => K y0_3 y0 0) ?_ T (by omega)
   ·rw [Nat.mod_eq_of_lt hT, Nat.div_eq_of_lt hT, Nat.zero_mul, ycy] at this
    exact this
   ·refine yet _ _ (by omega) ?_ _ h2
    have g1 := Nat.div_le_self (val a) (val b)
    have g2 := ybZ a
    have g3 : 2 ^ (8 * a.length) ≤ 2 ^ (8 * (a.length + 1)) := ydH (by omega)
    omega
theorem yrp {x y : Nat} (h : x ≤ y) (hm : May (nb y)) : May (nb x) := by
 refine ⟨?_, yma x⟩
 have := (ya7 y _).1 hm.1
 exact (ya7 x _).2 (by omega)
theorem yk0 (k0 : List UInt8 → Prop) : ∀ (y x : Nat), May (nb x) → May (nb y) → k0 (nb (Nat.gcd x y)) → ∃ f, zco.l1 k0 f (nb x) (nb y) := by
 intro y
 induction y using Nat.strongRecOn with
 | _ y ih =>
  intro x hx hy hk
  by_cases h0 : y = 0
  ·subst h0
   refine ⟨1, ?_⟩
   unfold zco.l1 zco.l1.step
   rw [yaJ, ybi, yau (by rfl)]
   rw [Nat.gcd_zero_right] at hk; exact hk
  ·have hm := Nat.mod_lt x (show 0 < y by omega)
   have hg : Nat.gcd y (x % y) = Nat.gcd x y := by rw [Nat.gcd_comm x y, Nat.gcd_rec y x, Nat.gcd_comm]
   obtain ⟨f, hf⟩ := ih (x % y) hm y hy (yrp (Nat.le_of_lt hm) hy) (by rw [hg]; exact hk)
   refine ⟨f + 1, ?_⟩
   unfold zco.l1 zco.l1.step
   rw [ybi, yaA (by simp [ypv h0])]
   refine yox _ _ hx hy _ (fun e => absurd e (ypv h0)) fun _ => ?_
   rw [yaZ, yaZ]; exact hf
theorem yn8 (a b : List UInt8) (ha : May a) (hb : May b) (K : List UInt8 → Prop) (h : K (nb (Nat.gcd (val a) (val b)))) : zco a b K := by
 rw [zco.is]; unfold zco.d
 have := yk0 (fun y0 => K y0) (val b) (val a) (by rw [ha.nb]; exact ha) (by rw [hb.nb]; exact hb) h
 rw [ha.nb, hb.nb] at this
 exact this
end Go.Ev.S

/- The laws of natural numbers that need no quotient: sums, products, a ring. -/
set_option linter.unusedVariables false
set_option linter.unusedSimpArgs false
set_option maxRecDepth 8000
namespace Go.Ev.S
open Go Go.Ev
end Go.Ev.S

/- The law of shifts. -/
set_option linter.unusedVariables false
set_option linter.unusedSimpArgs false
set_option maxRecDepth 8000
namespace Go.Ev.S
open Go Go.Ev
theorem yrY {a : List UInt8} (hm : May a) (h : a ≠ []) : val a ≠ 0 := fun e => by have := hm.nb; rw [e, yaJ] at this; exact h this.symm
theorem yqH {a : List UInt8} (hm : May a) : yaw (val a) ≤ 131072 := by rw [← yjE, hm.nb]; exact hm.1
theorem ymB (a : List UInt8) (n : Int) (hn : n < 9223372036854775808) (K : List UInt8 → Int → Prop) (h0 : ¬ May a → K [] 2) (h1 : May a → n < 0 → K [] 2) (h2 : May a → 0 ≤ n → a = [] → K [] 0)
  (h3 : May a → 0 ≤ n → a ≠ [] → 131072 < (yaw (val a) : Int) + n → K [] 4) (h4 : May a → 0 ≤ n → a ≠ [] → (yaw (val a) : Int) + n ≤ 131072 → K (nb (val a * 2 ^ n.toNat)) 0) : zbk a n K := by
 rw [zbk.is]; unfold zbk.d
 rw [ya0]
 by_cases hm : May a
 ·rw [if_pos hm, yau (by rfl)]
  by_cases hneg : n < 0
  ·rw [yaA (ya9 hneg)]; exact h1 hm hneg
  rw [yau (ybq (by omega)), ybi]
  by_cases hz : a = []
  ·rw [yaA (by simp [hz])]; exact h2 hm (by omega) hz
  rw [yau (by simp [hz])]
  refine yfO a _ ?_
  have hb := yqH hm
  rw [if_pos hm, yat (by omega) (by omega)]
  by_cases hlong : 131072 < (yaw (val a) : Int) + n
  ·rw [yaA (ya9 (by omega))]; exact h3 hm (by omega) hz hlong
  rw [yau (ybq (by omega))]
  obtain ⟨s, rfl⟩ : ∃ s : Nat, n = s := ⟨n.toNat, by omega⟩
  have h4 := h4 hm (by omega) hz (by omega)
  rw [Int.toNat_natCast] at h4
  refine hm.words _ ?_
  have hw := hm.wl
  refine yh8 _ _ s (by omega) (by omega) hm.lt _ _ (fun hc => ?_) fun _ c m => ?_
  ·exfalso
   have := hm.lt
   rw [hc] at this
   have h0 := yrY hm hz
   simp at this; omega
  ·refine ydB _ _ ?_ (yef _) _ ?_
   ·have hl := yiL (val a) _ s (by omega) (by omega) hm.lt
    have := (yd3 32 (by omega) _ _).2 hl
    omega
   ·have : (nb (val a * 2 ^ s)).length ≤ 16384 := by
     rw [yjE, ygY _ _ (yrY hm hz)]; omega
    rw [if_neg (by omega)]; exact h4
 ·rw [if_neg hm, yaA (by rfl)]; exact h0 hm
theorem ykt (a : List UInt8) (n : Int) (hn : n < 9223372036854775808) (K : List UInt8 → Bool → Int → Prop) (h0 : ¬ May a → K [] false 2) (h1 : May a → n < 0 → K [] false 2) (h2 : May a → 0 ≤ n → a = [] → K [] false 0)
  (h3 : May a → 0 ≤ n → a ≠ [] → K (nb (val a / 2 ^ n.toNat)) (decide ((ybm (val a) : Int) < n)) 0) : zbp a n K := by
 rw [zbp.is]; unfold zbp.d
 rw [ya0]
 by_cases hm : May a
 ·rw [if_pos hm, yau (by rfl)]
  by_cases hneg : n < 0
  ·rw [yaA (ya9 hneg)]; exact h1 hm hneg
  rw [yau (ybq (by omega)), ybi]
  by_cases hz : a = []
  ·rw [yaA (by simp [hz])]; exact h2 hm (by omega) hz
  rw [yau (by simp [hz])]
  obtain ⟨s, rfl⟩ : ∃ s : Nat, n = s := ⟨n.toNat, by omega⟩
  have h3 := h3 hm (by omega) hz
  rw [Int.toNat_natCast] at h3
  refine hm.words _ ?_
  have hw := hm.wl
  refine yhu _ _ s (by omega) (by omega) hm.lt _ ?_
  have hle : wl 32 (val a / 2 ^ s) ≤ wl 32 (val a) := ybU (by omega) (Nat.div_le_self _ _)
  refine ybF _ _ (by omega) (yef _) _ ?_
  refine yex a _ ?_
  rw [if_pos hm, yr0]; exact h3
 ·rw [if_neg hm, yaA (by rfl)]; exact h0 hm
end Go.Ev.S

/- Natural numbers made of words, told as words. -/
set_option linter.unusedVariables false
set_option linter.unusedSimpArgs false
set_option maxRecDepth 8000
namespace Go.Ev.S
open Go Go.Ev
theorem ysc (k n z w : Nat) (hz : z < 2 ^ (k * n)) : app n (G k z) (G k w) = G k (z + w * 2 ^ (k * n)) := by
 funext i
 unfold app
 cases hb : Nat.blt i n with
 | true =>
  have hi : i < n := Nat.le_of_ble_eq_true hb
  rw [cond_true, ya6, ya6]
  have h := yna k (z + w * 2 ^ (k * n)) n i hi
  rw [Nat.add_mul_mod_self_right, Nat.mod_eq_of_lt hz] at h
  rw [h]
 | false =>
  have hi : n ≤ i := by
   apply Classical.byContradiction; intro hc
   have : Nat.blt i n = true := Nat.ble_eq_true_of_le (show i + 1 ≤ n by omega)
   rw [hb] at this; cases this
  rw [cond_false, ya6, ya6]
  have h := yk4 k (z + w * 2 ^ (k * n)) n (i - n)
  rw [Nat.add_mul_div_right _ _ (Nat.two_pow_pos _), Nat.div_eq_of_lt hz, Nat.zero_add, show n + (i - n) = i from by omega] at h
  rw [h]
theorem yrQ (x : Nat) (hx : x < 18446744073709551616) : upd (upd (fun _ => 0) 0 (cvI .u32 (x : Int))) 1 (cvI .u32 (yaP .u64 (x : Int) 32)) = G 32 x := by
 have e1 : cvI .u32 (x : Int) = ((x % 2 ^ 32 : Nat) : Int) := by rw [ybu, show (2 : Nat) ^ 32 = 4294967296 from rfl]; omega
 have e2 : cvI .u32 (yaP .u64 (x : Int) 32) = ((x / 2 ^ 32 : Nat) : Int) := by
  rw [yb7, ybu, show (2 : Nat) ^ 32 = 4294967296 from rfl]; omega
 rw [e1, e2, ← ycy 32, ykd 32 0 _ 0 (by decide) (Nat.mod_lt _ (Nat.two_pow_pos _)), ykd 32 _ _ 1 (by rw [Nat.zero_add, Nat.mul_zero, Nat.pow_zero, Nat.mul_one, Nat.mul_one]; exact Nat.mod_lt _ (Nat.two_pow_pos _)) (by rw [show (2 : Nat) ^ 32 = 4294967296 from rfl]; omega)]
 refine congrArg (G 32) ?_
 rw [show (2 : Nat) ^ (32 * 0) = 1 from rfl, show (2 : Nat) ^ (32 * 1) = 4294967296 from rfl]; omega
theorem yrR {n : Nat} (h : n = 12) : 2 ^ (32 * n) = Q6 := yfv (by omega)
theorem ysC (x m n : Nat) (h : n = 2 * m) : x % 2 ^ (32 * n) + wd x m * 2 ^ (32 * n) = x % 2 ^ (32 * (n + 2)) := by
 have := ybg 64 x m
 rw [show 64 * (m + 1) = 32 * (n + 2) from by omega, show 64 * m = 32 * n from by omega] at this
 exact this.symm
theorem ye5 (x m n n2 : Nat) (h : n = 2 * m) (h2 : n2 = n + 2) (g : Nat → Int) (hg : g = G 32 (x % 2 ^ (32 * n))) : app n g (upd (upd (fun _ => 0) 0 (cvI .u32 (W x m))) 1 (cvI .u32 (yaP .u64 (W x m) 32))) = G 32 (x % 2 ^ (32 * n2)) := by
 rw [hg, ybc, yrQ _ (ydU x m), ysc 32 n _ _ (Nat.mod_lt _ (Nat.two_pow_pos _)), ysC x m n h, h2]
theorem yn0 (x n : Nat) (h : n = 2) : upd (upd (fun _ => 0) 0 (cvI IntKind.u32 (W x 0))) 1 (cvI IntKind.u32 (yaP IntKind.u64 (W x 0) 32)) = G 32 (x % 2 ^ (32 * n)) := by
 subst h
 rw [ybc, yrQ _ (ydU x 0)]
 refine congrArg (G 32) ?_
 unfold wd
 rw [show (2 : Nat) ^ (64 * 0) = 1 from rfl, Nat.div_one]
theorem yit (x n2 n4 n6 n8 n10 n12 : Nat) (h2 : n2 = 2) (h4 : n4 = n2 + 2) (h6 : n6 = n4 + 2) (h8 : n8 = n6 + 2) (h10 : n10 = n8 + 2) (h12 : n12 = n10 + 2) (hx : x < Q6) :
  app n10 (app n8 (app n6 (app n4 (app n2 (upd (upd (fun _ => 0) 0 (cvI IntKind.u32 (W x 0))) 1 (cvI IntKind.u32 (yaP IntKind.u64 (W x 0) 32))) (upd (upd (fun x => 0) 0 (cvI IntKind.u32 (W x 1))) 1 (cvI IntKind.u32 (yaP IntKind.u64 (W x 1) 32)))) (upd (upd (fun x => 0) 0 (cvI IntKind.u32 (W x 2))) 1 (cvI IntKind.u32 (yaP IntKind.u64 (W x 2) 32)))) (upd (upd (fun x => 0) 0 (cvI IntKind.u32 (W x 3))) 1 (cvI IntKind.u32 (yaP IntKind.u64 (W x 3) 32)))) (upd (upd (fun x => 0) 0 (cvI IntKind.u32 (W x 4))) 1 (cvI IntKind.u32 (yaP IntKind.u64 (W x 4) 32)))) (upd (upd (fun x => 0) 0 (cvI IntKind.u32 (W x 5))) 1 (cvI IntKind.u32 (yaP IntKind.u64 (W x 5) 32))) = G 32 x := by
 have e0 := yn0 x n2 h2
 have e1 := ye5 x 1 n2 n4 (by omega) h4 _ e0
 have e2 := ye5 x 2 n4 n6 (by omega) h6 _ e1
 have e3 := ye5 x 3 n6 n8 (by omega) h8 _ e2
 have e4 := ye5 x 4 n8 n10 (by omega) h10 _ e3
 have e5 := ye5 x 5 n10 n12 (by omega) h12 _ e4
 rw [e5, yrR (by omega), Nat.mod_eq_of_lt hx]
theorem yjy (x : Nat) (hx : x < Q6) (K : List UInt8 → Prop) (h : K (nb x)) : zbo (W x) K := by
 rw [zbo.is]; unfold zbo.d
 rw [yit x 2 4 6 8 10 12 rfl rfl rfl rfl rfl rfl hx]
 refine ybF 12 x (by omega) ?_ _ h
 rw [yrR (n := 12) rfl]; exact hx
theorem yhk (a : List UInt8) (x : Nat) (n : Nat) (hn : n ≤ 12) (k0 : List UInt8 → (Nat → Int) → Prop) (h : k0 a (G 64 (x % 2 ^ (32 * n)))) :
  ∀ (j i : Nat), i + j = n → zbs.l4 k0 (j + 1) a n (G 32 x) n i (G 64 (x % 2 ^ (32 * i))) := by
 intro j
 induction j with
 | zero =>
  intro i hi
  unfold zbs.l4 zbs.l4.step
  rw [yau (ybq (by omega)), show i = n from by omega]
  exact h
 | succ j ih =>
  intro i hi
  have ih := ih (i + 1) (by omega)
  have e : ((i + 1 : Nat) : Int) = (i : Int) + 1 := by omega
  rw [e] at ih
  unfold zbs.l4 zbs.l4.step
  simp (disch := omega) only [ycd, yhL, yas, ycw, yaU, ya9, ybb, ybq, yaD, ya3, Bool.and_self, Bool.not_false]
  have e1 : Int.toNat ((i : Int) / 2) = i / 2 := by omega
  have e2 : Int.toNat (i : Int) = i := by omega
  have e3 : 32 * ((i : Int) % 2) = ((32 * (i % 2) : Nat) : Int) := by omega
  have hd := ya4 32 x i
  have e8 : (2 : Nat) ^ 32 = 4294967296 := rfl
  have hlow := ynz 64 (x % 2 ^ (32 * i)) (i / 2) (32 * (i % 2)) (by rw [show 64 * (i / 2) + 32 * (i % 2) = 32 * i from by omega]; exact Nat.mod_lt _ (Nat.two_pow_pos _))
  rw [e1, e2, e3, ya6, ya6, yaU (by omega) (by omega), yq1 _ _ _ 32 hlow (by omega) hd]
  rw [ygF (k := 64) (N' := x % 2 ^ (32 * (i + 1)))]
  ·exact ih
  ·rw [ybg, Nat.add_mul, Nat.mul_assoc, ← Nat.pow_add, show 32 * (i % 2) + 64 * (i / 2) = 32 * i from by omega]; omega
  ·exact yqY hlow (by omega) hd
theorem ykb (a : List UInt8) (K : (Nat → Int) → Bool → Prop) (h : if May a ∧ a.length ≤ 48 then K (W (val a)) true else K (W 0) false) : zbs a K := by
 rw [zbs.is]; unfold zbs.d
 rw [ya0]
 by_cases hm : May a
 ·rw [if_pos hm, yau (by rfl)]
  by_cases hl : a.length ≤ 48
  ·rw [if_pos ⟨hm, hl⟩] at h
   rw [yau (ybq (by omega))]
   refine ygx a (by omega) _ ?_
   refine ⟨(a.length + 3) / 4 + 1, ?_⟩
   have hlt : val a < 2 ^ (32 * ((a.length + 3) / 4)) := Nat.lt_of_lt_of_le (ybZ a) (Nat.pow_le_pow_right (by omega) (by omega))
   have hQ : val a < Q6 := Nat.lt_of_lt_of_le (ybZ a) (ytf (by omega))
   have := yhk a (val a) ((a.length + 3) / 4) (by omega) (fun y0 y1 => zee y1 fun y0_1 => zbl y0 fun y0 => K y1 (eqI y0_1 y0)) ?_ ((a.length + 3) / 4) 0 (by omega)
   ·rw [show (2 : Nat) ^ (32 * 0) = 1 from rfl, Nat.mod_one, ycy] at this
    exact this
   ·rw [Nat.mod_eq_of_lt hlt, ← W_G]
    refine yhh (val a) hQ _ ?_
    refine yfO a _ ?_
    rw [if_pos hm, yhy rfl]; exact h
  ·rw [if_neg (by omega)] at h
   rw [yaA (ya9 (by omega))]
   rw [W_zero] at h; exact h
 ·rw [if_neg (by simp [hm])] at h
  rw [if_neg hm, yaA (by rfl)]
  rw [W_zero] at h; exact h
end Go.Ev.S
