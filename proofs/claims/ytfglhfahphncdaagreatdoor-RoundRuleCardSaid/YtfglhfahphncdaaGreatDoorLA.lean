/- Numbers of several words as natural ones; bits set one by one. -/
import Derived.Test.YtfglhfahphncdaaGreatDoorEvC
import Derived.Test.YtfglhfahphncdaaGreatDoorDA
import Derived.KernelRfl
set_option linter.unusedVariables false
set_option linter.unusedSimpArgs false
namespace Go.Ev.S
open Go Go.Ev
theorem ybG {i n : Int} (h : 0 ≤ i) (h2 : i < n) : (leI 0 i && ltI i n) = true := by rw [yba h, ya9 h2]; rfl
theorem ykX {i : Int} (h : 0 ≤ i) : (!ltI i 0) = true := by rw [ybe h]; rfl
theorem ysd (a b : Nat) (ha : a < 9223372036854775808) (hb : 0 < b) : yaI .i64 (a : Int) (b : Int) = ((a / b : Nat) : Int) := by
 have h : a / b ≤ a := Nat.div_le_self a b
 show IntKind.wrap .i64 ((a : Int).tdiv b) = _
 rw [Int.tdiv_eq_ediv_of_nonneg (by omega)]
 have : (a : Int) / (b : Int) = ((a / b : Nat) : Int) := by simp
 rw [this]
 generalize a / b = q at h ⊢
 exact yd9 (by omega) (by omega)
theorem ysa (k : IntKind) (a b : Nat) : ycm k (a : Int) (b : Int) = ((a % b : Nat) : Int) := by
 show (a : Int).tmod b = _
 rw [Int.tmod_eq_emod_of_nonneg (by omega)]
 simp
theorem yrp (a : Nat) (ha : a < 9223372036854775808) : yaI .i64 (a : Int) 64 = ((a / 64 : Nat) : Int) := ysd a 64 ha (by omega)
theorem yqI (a : Nat) : ycm .i64 (a : Int) 64 = ((a % 64 : Nat) : Int) := ysa .i64 a 64
theorem yoQ (i : Nat) (hi : i < 64) : ybM .u64 1 (i : Int) = ((2 ^ i : Nat) : Int) := by
 have := ylF 1 i hi
 rw [show (1 : Int) = ((1 : Nat) : Int) from rfl, this, Nat.shiftLeft_eq, Nat.one_mul]
 have h : 2 ^ i < 2 ^ 64 := Nat.pow_lt_pow_right (by omega) hi
 rw [Nat.mod_eq_of_lt h]
theorem ylg {i : Nat} (h : i < 64) : 2 ^ i < 18446744073709551616 := Nat.pow_lt_pow_right (a := 2) (m := i) (n := 64) (by omega) h
theorem ypQ (a b : Nat) : eqI (a : Int) (b : Int) = decide (a = b) := by
 by_cases h : a = b
 ·subst h; simp [eqI]
 ·rw [ygQ (by omega)]; simp [h]
theorem yka (a b : Nat) : ltI (a : Int) (b : Int) = decide (a < b) := by simp [ltI]
theorem yeV {a b : Int} (h : 0 ≤ a - b) (h2 : a - b < 18446744073709551616) : yan .u64 a b = a - b := yh0 h h2
theorem yfQ {a b : Int} (h : 0 ≤ a + b) (h2 : a + b < 18446744073709551616) : yai .u64 a b = a + b := yh0 h h2
def Q6 : Nat := 2 ^ 192 * 2 ^ 192
theorem ycK {n : Nat} (h : n = 384) : 2 ^ n = Q6 := by
 obtain ⟨a, ha⟩ : ∃ a, a = 192 := ⟨_, rfl⟩
 have : n = a + a := by omega
 rw [this, Nat.pow_add, ha]; exact rfl
theorem ys0 : 0 < Q6 := Nat.mul_pos (Nat.two_pow_pos _) (Nat.two_pow_pos _)
theorem yrV {a : Nat} (h : a ≤ 384) : 2 ^ a ≤ Q6 := by
 obtain ⟨n, hn⟩ : ∃ n, n = 384 := ⟨_, rfl⟩
 rw [← ycK hn]; exact Nat.pow_le_pow_right (by omega) (by omega)
theorem ytu {a : Nat} (h : a < 384) : 2 ^ a < Q6 := by
 obtain ⟨n, hn⟩ : ∃ n, n = 384 := ⟨_, rfl⟩
 rw [← ycK hn]; exact Nat.pow_lt_pow_right (by omega) (by omega)
theorem yp3 {a : Nat} (h : a ≤ 384) {x : Nat} (hx : x < 2 ^ a) : x < Q6 := Nat.lt_of_lt_of_le hx (yrV h)
def wd (x i : Nat) : Nat := x / 2 ^ (64 * i) % 18446744073709551616
theorem ydj (x i : Nat) : wd x i < 18446744073709551616 := Nat.mod_lt _ (by omega)
theorem ybJ (x i j : Nat) : (wd x i).testBit j = (decide (j < 64) && x.testBit (64 * i + j)) := by
 unfold wd
 rw [show (18446744073709551616 : Nat) = 2 ^ 64 from rfl, Nat.testBit_mod_two_pow, Nat.testBit_div_two_pow, Nat.add_comm]
theorem ycs (x i : Nat) (h : x < 2 ^ (64 * i)) : wd x i = 0 := by
 unfold wd; rw [Nat.div_eq_of_lt h]
def W (x : Nat) : Nat → Int := fun i => ((wd x i : Nat) : Int)
theorem ya8 (x i : Nat) : W x i = ((wd x i : Nat) : Int) := rfl
theorem yhQ : W 0 = fun _ => 0 := by
 funext i
 have : wd 0 i = 0 := ycs 0 i (Nat.two_pow_pos _)
 simp [ya8, this]
theorem yqv {x y : Nat} {n : Nat} (hx : x < 2 ^ (64 * n)) (hy : y < 2 ^ (64 * n)) (h : ∀ i, i < n → wd x i = wd y i) : x = y := by
 apply Nat.eq_of_testBit_eq
 intro j
 by_cases hj : j < 64 * n
 ·have h1 := congrArg (fun z => Nat.testBit z (j % 64)) (h (j / 64) (by omega))
  simp only [ybJ] at h1
  have h2 : j % 64 < 64 := Nat.mod_lt _ (by omega)
  simp only [h2, decide_true, Bool.true_and] at h1
  rwa [show 64 * (j / 64) + j % 64 = j from by omega] at h1
 ·rw [Nat.testBit_lt_two_pow (Nat.lt_of_lt_of_le hx (Nat.pow_le_pow_right (by omega) (by omega))), Nat.testBit_lt_two_pow (Nat.lt_of_lt_of_le hy (Nat.pow_le_pow_right (by omega) (by omega)))]
theorem yto (hi lo : Nat) (hh : hi < 18446744073709551616) (hl : lo < 18446744073709551616) : upd (upd (fun _ => 0) 0 (lo : Int)) 1 (hi : Int) = W (hi * 18446744073709551616 + lo) := by
 funext i
 by_cases h1 : i = 1
 ·subst h1
  rw [ybP, ya8]
  congr 1
  unfold wd
  rw [show 2 ^ (64 * 1) = 18446744073709551616 from rfl]; omega
 ·rw [ycP _ _ _ _ h1]
  by_cases h0 : i = 0
  ·subst h0
   rw [ybP, ya8]
   congr 1
   unfold wd
   rw [show 2 ^ (64 * 0) = 1 from rfl]; omega
  ·rw [ycP _ _ _ _ h0, ya8, ycs]
   ·rfl
   ·refine Nat.lt_of_lt_of_le (show _ < 2 ^ 128 from ?_) (Nat.pow_le_pow_right (by omega) (by omega))
    rw [show (2 : Nat) ^ 128 = 340282366920938463463374607431768211456 from rfl]; omega
theorem yrY (lo : Nat) (hl : lo < 18446744073709551616) : upd (fun _ => 0) 0 (lo : Int) = W lo := by
 have h := yto 0 lo (by omega) hl
 have h2 : upd (upd (fun _ => (0 : Int)) 0 (lo : Int)) 1 ((0 : Nat) : Int) = upd (fun _ => 0) 0 (lo : Int) := by
  funext i
  by_cases h1 : i = 1
  ·subst h1; rw [ybP, ycP _ _ _ _ (by omega)]; rfl
  ·rw [ycP _ _ _ _ h1]
 rw [h2] at h
 rw [h]; congr 1; omega
theorem ykG (x n i : Nat) : wd (x ||| 2 ^ n) i = if i = n / 64 then wd x i ||| 2 ^ (n % 64) else wd x i := by
 apply Nat.eq_of_testBit_eq
 intro j
 have hm : n % 64 < 64 := Nat.mod_lt _ (by omega)
 rw [ybJ, Nat.testBit_or, Nat.testBit_two_pow]
 by_cases hi : i = n / 64
 ·rw [if_pos hi, Nat.testBit_or, ybJ, Nat.testBit_two_pow]
  by_cases hj : j < 64
  ·have : decide (n = 64 * i + j) = decide (n % 64 = j) := by rw [decide_eq_decide]; omega
   simp [hj, this]
  ·have : ¬ (n % 64 = j) := by omega
   simp [hj, this]
 ·rw [if_neg hi, ybJ]
  by_cases hj : j < 64
  ·have : ¬ (n = 64 * i + j) := by omega
   simp [this]
  ·simp [hj]
theorem yq4 (x n : Nat) : upd (W x) (n / 64) (orI .u64 (W x (n / 64)) (ybM .u64 1 ((n % 64 : Nat) : Int))) = W (x ||| 2 ^ n) := by
 have hm : n % 64 < 64 := Nat.mod_lt _ (by omega)
 rw [yoQ _ hm, ya8, yhu _ _ (ydj _ _) (Nat.pow_lt_pow_right (by omega) hm)]
 funext i
 by_cases hi : i = n / 64
 ·subst hi
  rw [ybP, ya8, ykG, if_pos rfl]
 ·rw [ycP _ _ _ _ hi, ya8, ya8, ykG, if_neg hi]
def Hi (x : Nat) : Int := ((x / 18446744073709551616 : Nat) : Int)
def Lo (x : Nat) : Int := ((x % 18446744073709551616 : Nat) : Int)
def two (hi lo : Nat) : Nat := hi * 18446744073709551616 + lo
theorem yoX {x : Nat} (h : x < 2 ^ 128) : x / 18446744073709551616 < 18446744073709551616 := by
 rw [show (2 : Nat) ^ 128 = 340282366920938463463374607431768211456 from rfl] at h; omega
theorem yra (x : Nat) : x % 18446744073709551616 < 18446744073709551616 := Nat.mod_lt _ (by omega)
theorem yoT (x j : Nat) : (x / 18446744073709551616).testBit j = x.testBit (64 + j) := by
 rw [show (18446744073709551616 : Nat) = 2 ^ 64 from rfl, Nat.testBit_div_two_pow, Nat.add_comm]
theorem yo4 (x j : Nat) : (x % 18446744073709551616).testBit j = (decide (j < 64) && x.testBit j) := by
 rw [show (18446744073709551616 : Nat) = 2 ^ 64 from rfl, Nat.testBit_mod_two_pow]
theorem ytK (x : Nat) (h : x < 2 ^ 128) : W x 1 = Hi x := by
 rw [ya8]; unfold Hi wd
 congr 1
 rw [show 2 ^ (64 * 1) = 18446744073709551616 from rfl]
 exact Nat.mod_eq_of_lt (yoX h)
theorem ytM (x : Nat) : W x 0 = Lo x := by
 rw [ya8]; unfold Lo wd
 rw [show 2 ^ (64 * 0) = 1 from rfl, Nat.div_one]
theorem ymQ (x i : Nat) (h : x < 2 ^ 128) (hi : 2 ≤ i) : W x i = 0 := by
 rw [ya8, ycs x i (Nat.lt_of_lt_of_le h (Nat.pow_le_pow_right (by omega) (by omega)))]; rfl
theorem yrs (f : Bool → Bool → Bool) (op : Nat → Nat → Nat) (hop : ∀ a b j, (op a b).testBit j = f (a.testBit j) (b.testBit j)) (hf : f false false = false) (x y : Nat) :
  op x y / 18446744073709551616 = op (x / 18446744073709551616) (y / 18446744073709551616) ∧ op x y % 18446744073709551616 = op (x % 18446744073709551616) (y % 18446744073709551616) := by
 constructor
 ·apply Nat.eq_of_testBit_eq; intro j; rw [yoT, hop, hop, yoT, yoT]
 ·apply Nat.eq_of_testBit_eq; intro j; rw [yo4, hop, hop, yo4, yo4]
  by_cases hj : j < 64
  ·simp [hj]
  ·simp [hj, hf]
theorem yrL (x y : Nat) (hx : x < 2 ^ 128) (hy : y < 2 ^ 128) : yh5 .u64 (Hi x) (Hi y) = Hi (x &&& y) ∧ yh5 .u64 (Lo x) (Lo y) = Lo (x &&& y) := by
 obtain ⟨h1, h2⟩ := yrs (· && ·) (· &&& ·) (fun a b j => Nat.testBit_and a b j) rfl x y
 unfold Hi Lo
 exact ⟨by rw [yhN _ _ (yoX hx) (yoX hy)]; exact congrArg _ h1.symm, by rw [yhN _ _ (yra x) (yra y)]; exact congrArg _ h2.symm⟩
theorem ypb (x y : Nat) (hx : x < 2 ^ 128) (hy : y < 2 ^ 128) : orI .u64 (Hi x) (Hi y) = Hi (x ||| y) ∧ orI .u64 (Lo x) (Lo y) = Lo (x ||| y) := by
 obtain ⟨h1, h2⟩ := yrs (· || ·) (· ||| ·) (fun a b j => Nat.testBit_or a b j) rfl x y
 unfold Hi Lo
 exact ⟨by rw [yhu _ _ (yoX hx) (yoX hy)]; exact congrArg _ h1.symm, by rw [yhu _ _ (yra x) (yra y)]; exact congrArg _ h2.symm⟩
end Go.Ev.S

/- What the document's answer reckons with words, bit by bit. -/
set_option linter.unusedVariables false
set_option linter.unusedSimpArgs false
namespace Go.Ev.S
open Go Go.Ev
theorem yfZ (a i : Nat) (ha : a < 18446744073709551616) (hi : i < 64) (K : Bool → Prop) : zbr a i K = K (a.testBit i) := by
 rw [zbr.is]; unfold zbr.d
 rw [yaD (yba (by omega)), yaD (ya9 (by omega)), yaU (by omega) (by omega), yby (ykX (by omega)), ymA a i ha hi]
theorem yrE (s i : Nat) (h : s < 2 ^ i) : s ||| 2 ^ i = s + 2 ^ i := by
 have := Nat.two_pow_add_eq_or_of_lt h 1
 rw [Nat.mul_one] at this
 rw [Nat.or_comm, ← this, Nat.add_comm]
def ygr (a : Nat) : Nat → Nat
 | 0 => 0
 | i + 1 => cond (a.testBit i) (i + 1) (ygr a i)
theorem yjK (a w : Nat) : ∀ n, ygr a n ≤ w ↔ ∀ i, i < n → w ≤ i → a.testBit i = false
 | 0 => by simp [ygr]
 | n + 1 => by
  have ih := yjK a w n
  cases hb : a.testBit n with
  | true =>
   simp only [ygr, hb, cond_true]
   constructor
   ·intro h i hi hw; omega
   ·intro h
    apply Classical.byContradiction
    intro hc
    have := h n (by omega) (by omega)
    rw [hb] at this; cases this
  | false =>
   simp only [ygr, hb, cond_false]
   rw [ih]
   constructor
   ·intro h i hi hw
    by_cases hin : i = n
    ·subst hin; exact hb
    ·exact h i (by omega) hw
   ·intro h i hi hw; exact h i (by omega) hw
def yav (a : Nat) : Nat := if a = 0 then 0 else a.log2 + 1
theorem yaL (a w : Nat) : yav a ≤ w ↔ a < 2 ^ w := by
 unfold yav
 by_cases h : a = 0
 ·subst h; simp [Nat.two_pow_pos]
 ·rw [if_neg h]
  rw [← Nat.log2_lt h]; omega
theorem yj0 (a : Nat) : a < 2 ^ yav a := (yaL a _).1 (Nat.le_refl _)
theorem yfC {a : Nat} (h : a ≠ 0) : 0 < yav a := by unfold yav; rw [if_neg h]; omega
theorem ypP {a : Nat} (h : a ≠ 0) : 2 ^ (yav a - 1) ≤ a := by
 unfold yav; rw [if_neg h]
 exact Nat.log2_self_le h
theorem ynV (a n : Nat) (ha : a < 2 ^ n) : ygr a n = yav a := by
 apply Nat.le_antisymm
 ·rw [yjK]
  intro i _ hw
  exact Nat.testBit_lt_two_pow (Nat.lt_of_lt_of_le (yj0 a) (Nat.pow_le_pow_right (by omega) hw))
 ·rw [yaL]
  apply Nat.lt_pow_two_of_testBit
  intro i hi
  by_cases hin : i < n
  ·exact (yjK a _ n).1 (Nat.le_refl _) i hin hi
  ·exact Nat.testBit_lt_two_pow (Nat.lt_of_lt_of_le ha (Nat.pow_le_pow_right (by omega) (by omega)))
theorem ygj (a : Nat) (ha : a < 18446744073709551616) (k0 : Int → Prop) (h : k0 (ygr a 64)) : ∀ (j i : Nat), i + j = 64 → zbs.l3 k0 (j + 1) a (ygr a i) i
 | 0, i, hij => by
  have : i = 64 := by omega
  subst this
  unfold zbs.l3 zbs.l3.step
  rw [yaw (by decide)]
  exact h
 | j + 1, i, hij => by
  show br (ltI i 64) (zbr a i fun r0 => br r0 (zbs.l3 k0 (j + 1) a (yai .i64 i 1) (yai .i64 i 1)) (zbs.l3 k0 (j + 1) a (ygr a i) (yai .i64 i 1))) (k0 (ygr a i))
  rw [yaD (ya9 (by omega)), yfZ a i ha (by omega), yap (by omega) (by omega)]
  have ih := ygj a ha k0 h j (i + 1) (by omega)
  have e : ((i + 1 : Nat) : Int) = (i : Int) + 1 := by omega
  rw [e] at ih
  cases hb : a.testBit i with
  | true =>
   rw [yaD rfl]
   simp only [ygr, hb, cond_true] at ih
   rw [e] at ih
   exact ih
  | false =>
   rw [yaw rfl]
   simp only [ygr, hb, cond_false] at ih
   exact ih
theorem yiF (a : Nat) (ha : a < 18446744073709551616) (K : Int → Prop) (h : K (yav a)) : zbs a K := by
 rw [zbs.is]
 refine ⟨65, ygj a ha K ?_ 64 0 rfl⟩
 rw [ynV a 64 ha]; exact h
end Go.Ev.S

/- What the document's answer reckons with numbers of six words. -/
set_option linter.unusedVariables false
set_option linter.unusedSimpArgs false
set_option maxRecDepth 8000
namespace Go.Ev.S
open Go Go.Ev
theorem yqM (z w i : Nat) (hz : z < 2 ^ (64 * i)) (hw : w < 18446744073709551616) : upd (W z) i (w : Int) = W (z + w * 2 ^ (64 * i)) := by
 funext j
 have hP := Nat.two_pow_pos (64 * i)
 by_cases hj : j = i
 ·subst hj
  rw [ybP, ya8]
  congr 1
  unfold wd
  rw [Nat.add_mul_div_right _ _ hP, Nat.div_eq_of_lt hz, Nat.zero_add, Nat.mod_eq_of_lt hw]
 ·rw [ycP _ _ _ _ hj, ya8, ya8]
  congr 1
  by_cases hlt : j < i
  ·unfold wd
   have e : 2 ^ (64 * i) = 2 ^ (64 * j) * (18446744073709551616 * 2 ^ (64 * (i - j - 1))) := by
    rw [show (18446744073709551616 : Nat) = 2 ^ 64 from rfl, ← Nat.pow_add, ← Nat.pow_add]; congr 1; omega
   rw [e, Nat.mul_comm w, Nat.mul_assoc, Nat.add_mul_div_left _ _ (Nat.two_pow_pos _), Nat.mul_assoc, Nat.add_mul_mod_self_left]
  ·rw [ycs z j (Nat.lt_of_lt_of_le hz (Nat.pow_le_pow_right (by omega) (by omega))), ycs]
   have h1 : z + w * 2 ^ (64 * i) < 2 ^ (64 * (i + 1)) := by
    rw [show 64 * (i + 1) = 64 * i + 64 from by omega, Nat.pow_add, show (2 : Nat) ^ 64 = 18446744073709551616 from rfl]
    have : (w + 1) * 2 ^ (64 * i) ≤ 18446744073709551616 * 2 ^ (64 * i) := Nat.mul_le_mul_right _ (by omega)
    rw [Nat.add_mul, Nat.one_mul] at this
    rw [Nat.mul_comm (2 ^ (64 * i))]
    omega
   exact Nat.lt_of_lt_of_le h1 (Nat.pow_le_pow_right (by omega) (by omega))
theorem ygV (x i : Nat) : x % 2 ^ (64 * (i + 1)) = x % 2 ^ (64 * i) + wd x i * 2 ^ (64 * i) := by
 unfold wd
 rw [show 64 * (i + 1) = 64 * i + 64 from by omega, Nat.pow_add, show (2 : Nat) ^ 64 = 18446744073709551616 from rfl, Nat.mod_mul, Nat.mul_comm (2 ^ (64 * i))]
def yiH (x y i : Nat) : Nat := x % 2 ^ (64 * i) + y % 2 ^ (64 * i)
theorem yoU (x y i q : Nat) (hqd : q = (decide (2 ^ (64 * i) ≤ yiH x y i)).toNat) :
  (yiH x y (i + 1) % 2 ^ (64 * (i + 1)) = yiH x y i % 2 ^ (64 * i) + ((wd x i + wd y i + q) % 18446744073709551616) * 2 ^ (64 * i)) ∧
  (decide (2 ^ (64 * (i + 1)) ≤ yiH x y (i + 1)) = decide (18446744073709551616 ≤ wd x i + wd y i + q)) := by
 have hP : 0 < 2 ^ (64 * i) := Nat.two_pow_pos _
 have h1 : x % 2 ^ (64 * i) < 2 ^ (64 * i) := Nat.mod_lt _ hP
 have h2 : y % 2 ^ (64 * i) < 2 ^ (64 * i) := Nat.mod_lt _ hP
 have hT : yiH x y (i + 1) = yiH x y i + (wd x i + wd y i) * 2 ^ (64 * i) := by
  unfold yiH; rw [ygV, ygV, Nat.add_mul]; omega
 have hlt : yiH x y i < 2 * 2 ^ (64 * i) := by unfold yiH; omega
 have h64 : 2 ^ (64 * (i + 1)) = 2 ^ (64 * i) * 18446744073709551616 := by
  rw [show 64 * (i + 1) = 64 * i + 64 from by omega, Nat.pow_add]
 rw [hT, h64]
 clear hT h64 h1 h2
 generalize 2 ^ (64 * i) = P at *
 generalize yiH x y i = T at *
 have hq : T = T % P + q * P := by
  by_cases hc : P ≤ T
  ·have : q = 1 := by rw [hqd]; simp only [hc, decide_true, Bool.toNat_true]
   rw [this, Nat.mod_eq_sub_mod hc, Nat.mod_eq_of_lt (by omega)]; omega
  ·have : q = 0 := by rw [hqd]; simp only [hc, decide_false, Bool.toNat_false]
   rw [this, Nat.mod_eq_of_lt (by omega)]; omega
 have hr : T % P < P := Nat.mod_lt _ hP
 clear hqd
 generalize T % P = r at *
 subst hq
 rw [show r + q * P + (wd x i + wd y i) * P = r + (wd x i + wd y i + q) * P from by rw [Nat.add_mul (wd x i + wd y i)]; omega]
 generalize wd x i + wd y i + q = v
 constructor
 ·rw [Nat.mod_mul, Nat.add_mul_mod_self_right, Nat.mod_eq_of_lt hr, Nat.add_mul_div_right _ _ hP, Nat.div_eq_of_lt hr, Nat.zero_add, Nat.mul_comm P]
 ·rw [decide_eq_decide]
  constructor
  ·intro h
   apply Classical.byContradiction
   intro hc
   have : (v + 1) * P ≤ 18446744073709551616 * P := Nat.mul_le_mul_right _ (by omega)
   rw [Nat.add_mul, Nat.mul_comm 18446744073709551616] at this
   omega
  ·intro h
   have : 18446744073709551616 * P ≤ v * P := Nat.mul_le_mul_right _ h
   rw [Nat.mul_comm 18446744073709551616] at this
   omega
def mix (i : Nat) (x y : Nat) : Nat → Int := fun j => cond (Nat.blt j i) (W x j) (W y j)
theorem ymD (x y : Nat) : mix 0 x y = W y := by
 funext j
 have h1 : Nat.blt j 0 = false := by
  cases hb : Nat.blt j 0 with
  | false => rfl
  | true => have := bltI.1 hb; omega
 simp [mix, h1]
theorem yo5 (x y n : Nat) (hx : x < 2 ^ (64 * n)) (hy : y < 2 ^ (64 * n)) : mix n x y = W x := by
 funext j
 unfold mix
 cases hb : Nat.blt j n with
 | true => rfl
 | false =>
  have hj : n ≤ j := by
   rcases Nat.lt_or_ge j n with h | h
   ·rw [bltI.2 h] at hb; cases hb
   ·exact h
  simp only [cond_false]
  rw [ya8, ya8, ycs x j (Nat.lt_of_lt_of_le hx (Nat.pow_le_pow_right (by omega) (by omega))), ycs y j (Nat.lt_of_lt_of_le hy (Nat.pow_le_pow_right (by omega) (by omega)))]
theorem ymY (x y i : Nat) : upd (mix i x y) i (W x i) = mix (i + 1) x y := by
 funext j
 by_cases hj : j = i
 ·subst hj; rw [ybP]; simp [mix, bltI.2 (show j < j + 1 by omega)]
 ·rw [ycP _ _ _ _ hj]
  unfold mix
  by_cases h : j < i
  ·rw [bltI.2 h, bltI.2 (show j < i + 1 by omega)]
  ·have h1 : Nat.blt j i = false := by
    cases hb : Nat.blt j i with
    | false => rfl
    | true => exact absurd (bltI.1 hb) h
   have h2 : Nat.blt j (i + 1) = false := by
    cases hb : Nat.blt j (i + 1) with
    | false => rfl
    | true => have := bltI.1 hb; omega
   rw [h1, h2]
theorem yry (x y i : Nat) : mix i x y i = W y i := by
 have h1 : Nat.blt i i = false := by
  cases hb : Nat.blt i i with
  | false => rfl
  | true => have := bltI.1 hb; omega
 simp [mix, h1]
theorem ytc (x y i : Nat) : wd (x &&& y) i = wd x i &&& wd y i := by
 apply Nat.eq_of_testBit_eq; intro j
 rw [Nat.testBit_and, ybJ, ybJ, ybJ, Nat.testBit_and]
 by_cases hj : j < 64 <;> simp [hj]
theorem ytt (x y i : Nat) : wd (x ||| y) i = wd x i ||| wd y i := by
 apply Nat.eq_of_testBit_eq; intro j
 rw [Nat.testBit_or, ybJ, ybJ, ybJ, Nat.testBit_or]
 by_cases hj : j < 64 <;> simp [hj]
theorem ysP {x y m : Nat} (h : x < 2 ^ m) : x &&& y < 2 ^ m := Nat.lt_of_le_of_lt Nat.and_le_left h
theorem ydf {x i : Nat} (h : x / 2 ^ i ≠ 0) : yav x = i + yav (x / 2 ^ i) := by
 apply Nat.le_antisymm
 ·rw [yaL, Nat.pow_add, Nat.mul_comm, ← Nat.div_lt_iff_lt_mul (Nat.two_pow_pos i)]
  exact yj0 _
 ·have h1 := ypP h
  have h2 : 2 ^ (i + (yav (x / 2 ^ i) - 1)) ≤ x := by
   rw [Nat.pow_add, Nat.mul_comm]
   exact (Nat.le_div_iff_mul_le (Nat.two_pow_pos i)).1 h1
  have hp := yfC h
  apply Classical.byContradiction
  intro hc
  have h3 : yav x ≤ i + (yav (x / 2 ^ i) - 1) := by omega
  have := (yaL x _).1 h3
  omega
theorem yf5 (x : Nat) (k0 : Int → Prop) (k1 : Prop) (h : x ≠ 0 → k0 (yav x)) (n i : Nat) (hi : i < 6) (hx : x < 2 ^ (64 * (i + 1))) (hrec : x < 2 ^ (64 * i) → zbu.l2 k0 k1 n ((i : Int) - 1) (W x)) :
  zbu.l2 k0 k1 (n + 1) i (W x) := by
 have hwd : wd x i = x / 2 ^ (64 * i) := by
  unfold wd
  apply Nat.mod_eq_of_lt
  rw [Nat.div_lt_iff_lt_mul (Nat.two_pow_pos _), show (18446744073709551616 : Nat) = 2 ^ 64 from rfl, ← Nat.pow_add]
  rw [show 64 + 64 * i = 64 * (i + 1) from by omega]; exact hx
 unfold zbu.l2 zbu.l2.step
 have hi' : (leI 0 (i : Int) && ltI (i : Int) 6) = true := ybG (by omega) (by omega)
 rw [yaD (yba (by omega)), yby hi', Int.toNat_natCast, ya8]
 by_cases hz : wd x i = 0
 ·have hx2 : x < 2 ^ (64 * i) := by
   rw [hwd] at hz
   rcases (Nat.div_eq_zero_iff).1 hz with h' | h'
   ·have := Nat.two_pow_pos (64 * i); omega
   ·exact h'
  rw [yaw (by rw [hz]; rfl), yas (by omega) (by omega)]
  exact hrec hx2
 ·rw [yaD (by rw [show (0 : Int) = ((0 : Nat) : Int) from rfl, ypQ]; simp [hz]), yby hi']
  refine yiF _ (ydj _ _) _ ?_
  have hb : yav (wd x i) ≤ 64 := (yaL _ _).2 (ydj x i)
  rw [ybH (by omega) (by omega), yap (by omega) (by omega)]
  have hx0 : x ≠ 0 := by
   intro e; subst e; exact hz (ycs 0 i (Nat.two_pow_pos _))
  have := h hx0
  rw [hwd] at hz ⊢
  rw [ydf hz] at this
  rw [show (64 * (i : Int) + (yav (x / 2 ^ (64 * i)) : Int)) = ((64 * i + yav (x / 2 ^ (64 * i)) : Nat) : Int) from by omega]
  exact this
theorem ykJ (x : Nat) (k0 : Int → Prop) (k1 : Prop) (h : x ≠ 0 → k0 (yav x)) (h1 : x = 0 → k1) (i : Nat) : i < 6 → x < 2 ^ (64 * (i + 1)) → zbu.l2 k0 k1 (i + 2) i (W x) := by
 induction i with
 | zero =>
  intro hi hx
  refine yf5 x k0 k1 h 1 0 hi hx fun hx2 => ?_
  have hx0 : x = 0 := by
   have : x < 1 := hx2
   omega
  unfold zbu.l2 zbu.l2.step
  rw [yaw (by decide)]
  exact h1 hx0
 | succ i ih =>
  intro hi hx
  refine yf5 x k0 k1 h (i + 2) (i + 1) hi hx fun hx2 => ?_
  rw [show (((i + 1 : Nat) : Int) - 1) = (i : Int) from by omega]
  exact ih (by omega) hx2
theorem yor (x : Nat) (hx : x < Q6) (K : Int → Prop) (h : K (yav x)) : zbu (W x) K := by
 rw [zbu.is]
 obtain ⟨i, hi⟩ : ∃ i, i = 5 := ⟨_, rfl⟩
 have := ykJ x K (K 0) (fun _ => h) (fun e => by subst e; exact h) i (by omega) (by rw [ycK (show 64 * (i + 1) = 384 by omega)]; exact hx)
 rw [hi] at this
 exact ⟨5 + 2, this⟩
end Go.Ev.S

/- What the abacus reckons with words and with numbers of six words. -/
set_option linter.unusedVariables false
set_option linter.unusedSimpArgs false
set_option maxRecDepth 8000
namespace Go.Ev.S
open Go Go.Ev
theorem yps (g : Nat → Int) (i : Nat) (a b : Int) : upd (upd g i a) i b = upd g i b := by
 funext j
 simp only [upd]
 cases Nat.beq j i <;> rfl
theorem yrA (g : Nat → Int) (i : Nat) (a : Int) : upd g i a i = a := by
 simp only [upd]
 have : Nat.beq i i = true := by simp
 rw [this]; rfl
theorem yds (n m : Int) : ycF n m = if n < m then m else n := by
 unfold ycF ltI; by_cases h : n < m <;> simp [h]
theorem yfX (n m : Int) : yiP n m = if m < n then m else n := by
 unfold yiP ltI; by_cases h : m < n <;> simp [h]
theorem ykC (n : Nat) (h : n ≤ 64) (K : Int → Prop) : zej n K = K ((2 ^ n - 1 : Nat)) := by
 rw [zej.is]; unfold zej.d; rw [zek.is]; unfold zek.d
 have e : yiP (ycF (n : Int) 0) 64 = (n : Int) := by
  rw [yds, yfX]; split <;> split <;> omega
 rw [e, yaU (by omega) (by omega)]
 show gd (!ltI (n : Int) 0) (K (yan IntKind.u64 (ybM IntKind.u64 1 (n : Int)) 1)) = _
 rw [yby (ykX (by omega))]
 by_cases hn : n = 64
 ·subst hn; rfl
 ·have hlt : 2 ^ n < 18446744073709551616 := ylg (by omega)
  have hp := Nat.two_pow_pos n
  rw [yoQ n (by omega)]
  generalize 2 ^ n = p at *
  rw [yeV (by omega) (by omega), show ((p : Int) - 1) = ((p - 1 : Nat) : Int) from by omega]
theorem yjz (n : Int) (h : n ≤ 0) (h2 : -9223372036854775808 ≤ n) (K : Int → Prop) : zej n K = K 0 := by
 rw [zej.is]; unfold zej.d; rw [zek.is]; unfold zek.d
 have e : yiP (ycF n 0) 64 = 0 := by
  rw [yds, yfX]; split <;> split <;> omega
 rw [e]; rfl
theorem yju (n : Int) (h : 64 ≤ n) (K : Int → Prop) : zej n K = K ((2 ^ 64 - 1 : Nat)) := by
 rw [zej.is]; unfold zej.d; rw [zek.is]; unfold zek.d
 have e : yiP (ycF n 0) 64 = 64 := by
  rw [yds, yfX]; split <;> split <;> omega
 rw [e]; rfl
theorem ycC (n : Nat) (h : n ≤ 384) (K : Int → Prop) : zef n K = K n := by
 rw [zef.is]; unfold zef.d
 have e : yiP (ycF (n : Int) 0) 384 = (n : Int) := by
  rw [yds, yfX]; split <;> split <;> omega
 rw [e]
theorem yeT (x i : Nat) (hi : i < 384) (K : Bool → Prop) : zdw (W x) i K = K (x.testBit i) := by
 rw [zdw.is]; unfold zdw.d
 have h1 : i % 64 < 64 := Nat.mod_lt _ (by omega)
 rw [yaD (yba (by omega)), yaD (ya9 (by omega)), yrp i (by omega), yqI i, yby (ybG (by omega) (by omega)), yaU (by omega) (by omega), yby (ykX (by omega)), Int.toNat_natCast, ya8, ymA _ _ (ydj _ _) h1, ybJ]
 rw [show 64 * (i / 64) + i % 64 = i from by omega]
 simp [h1]
theorem yjW (x y : Nat) (hx : x < Q6) (k0 : (Nat → Int) → (Nat → Int) → Prop) (z : Nat → Int) (h : k0 (W (x &&& y)) z) :
  ∀ (j i : Nat), i + j = 6 → zdv.l2 k0 (j + 1) i (mix i (x &&& y) x) (W y) z := by
 intro j
 induction j with
 | zero =>
  intro i hij
  have h6 : i = 6 := by omega
  have hx' : x < 2 ^ (64 * i) := by rw [ycK (show 64 * i = 384 by omega)]; exact hx
  unfold zdv.l2 zdv.l2.step
  rw [yaw (ybe (by omega)), yo5 _ _ i (ysP hx') hx']
  exact h
 | succ j ih =>
  intro i hij
  have ih := ih (i + 1) (by omega)
  have e : ((i + 1 : Nat) : Int) = (i : Int) + 1 := by omega
  rw [e] at ih
  unfold zdv.l2 zdv.l2.step
  have hi : (leI 0 (i : Int) && ltI (i : Int) 6) = true := ybG (by omega) (by omega)
  rw [yaD (ya9 (by omega)), yby hi, yby hi, yby hi, Int.toNat_natCast, yry, ya8, ya8, yhN _ _ (ydj _ _) (ydj _ _), ← ytc, ← ya8, ymY, yap (by omega) (by omega)]
  exact ih
theorem ydp (x y : Nat) (hx : x < Q6) (K : (Nat → Int) → Prop) (h : K (W (x &&& y))) : zdv (W x) (W y) K := by
 rw [zdv.is]
 refine ⟨7, ?_⟩
 have := yjW x y hx (fun y0 y1 => K y0) (fun _ => 0) h 6 0 rfl
 rw [ymD] at this
 exact this
theorem ysl (n i : Nat) : ((wd (2 ^ n - 1) i : Nat) : Int) = if 64 * i + 64 ≤ n then ((2 ^ 64 - 1 : Nat) : Int) else if n ≤ 64 * i then 0 else ((2 ^ (n - 64 * i) - 1 : Nat) : Int) := by
 have key : ∀ m, m ≤ 64 → (∀ j, j < 64 → (decide (64 * i + j < n) = decide (j < m))) → wd (2 ^ n - 1) i = 2 ^ m - 1 := by
  intro m hm hj
  apply Nat.eq_of_testBit_eq; intro j
  rw [ybJ, Nat.testBit_two_pow_sub_one, Nat.testBit_two_pow_sub_one]
  by_cases h : j < 64
  ·rw [hj j h]; simp [h]
  ·have : ¬ j < m := by omega
   simp [h, this]
 split
 ·rw [key 64 (Nat.le_refl _) (by intro j hj; apply decide_eq_decide.2; omega)]
 ·split
  ·rw [key 0 (by omega) (by intro j hj; apply decide_eq_decide.2; omega)]; rfl
  ·rw [key (n - 64 * i) (by omega) (by intro j hj; apply decide_eq_decide.2; omega)]
theorem ypq (n i : Nat) (hn : n ≤ 384) (hi : i < 6) (K : Int → Prop) : zej (yan .i64 n (ycj .i64 64 i)) K = K (W (2 ^ n - 1) i) := by
 have e : yan .i64 (n : Int) (ycj .i64 64 (i : Int)) = (n : Int) - 64 * i := by
  rw [ybH (by omega) (by omega), yas (by omega) (by omega)]
 rw [e, ya8, ysl]
 split
 ·rw [yju _ (by omega)]
 ·split
  ·rw [yjz _ (by omega) (by omega)]
  ·rw [show (n : Int) - 64 * i = ((n - 64 * i : Nat) : Int) from by omega, ykC _ (by omega)]
theorem yil (n : Nat) (hn : n ≤ 384) (k0 : (Nat → Int) → (Nat → Int) → Prop) (z : Nat → Int) (h : k0 z (W (2 ^ n - 1))) :
  ∀ (j i : Nat), i + j = 6 → zea.l4 k0 (j + 1) n i z (W ((2 ^ n - 1) % 2 ^ (64 * i))) := by
 intro j
 induction j with
 | zero =>
  intro i hij
  have : i = 6 := by omega
  have hp := Nat.two_pow_pos n
  have hlt : 2 ^ n - 1 < 2 ^ (64 * i) := by
   have := Nat.pow_le_pow_right (n := 2) (by omega) (show n ≤ 64 * i by omega)
   omega
  unfold zea.l4 zea.l4.step
  rw [yaw (ybe (by omega)), Nat.mod_eq_of_lt hlt]
  exact h
 | succ j ih =>
  intro i hij
  have ih := ih (i + 1) (by omega)
  have e : ((i + 1 : Nat) : Int) = (i : Int) + 1 := by omega
  rw [e, ygV] at ih
  unfold zea.l4 zea.l4.step
  rw [yaD (ya9 (by omega)), ypq n i hn (by omega), yby (ybG (by omega) (by omega)), Int.toNat_natCast, ya8, yqM _ _ i (Nat.mod_lt _ (Nat.two_pow_pos _)) (ydj _ _), yap (by omega) (by omega)]
  exact ih
theorem ycT (n : Nat) (hn : n ≤ 384) (K : (Nat → Int) → Prop) (h : K (W (2 ^ n - 1))) : zea n K := by
 rw [zea.is]; unfold zea.d
 rw [ycC n hn]
 refine ⟨7, ?_⟩
 have := yil n hn (fun y0 y1 => K y1) (fun _ => 0) h 6 0 rfl
 rw [Nat.mul_zero, Nat.pow_zero, Nat.mod_one, yhQ] at this
 exact this
theorem ys5 (a : Nat) : ybM .u64 (a : Int) 64 = 0 := by
 have h1 : min (Int.toNat 64) (IntKind.bits .u64) = 64 := rfl
 simp only [ybM, h1]
 rw [ycz]; omega
theorem yiB (x i q r : Nat) (hr : r < 64) : orI .u64 (ya1 .u64 (W x (i + q)) (r : Int)) (ybM .u64 (W x (i + q + 1)) (yan .u64 64 (r : Int))) = W (x / 2 ^ (64 * q + r)) i := by
 rw [yeV (by omega) (by omega), show (64 : Int) - r = ((64 - r : Nat) : Int) from by omega, ya8, ya8, yfK _ _ hr, ya8]
 have hs : wd x (i + q) >>> r < 18446744073709551616 := Nat.lt_of_le_of_lt (Nat.shiftRight_le _ _) (ydj _ _)
 have e : ybM .u64 ((wd x (i + q + 1) : Nat) : Int) ((64 - r : Nat) : Int) = ((wd x (i + q + 1) <<< (64 - r) % 18446744073709551616 : Nat) : Int) := by
  by_cases h0 : r = 0
  ·subst h0
   show ybM .u64 _ 64 = _
   rw [ys5, Nat.shiftLeft_eq]; simp
  ·exact ylF _ _ (by omega)
 rw [e, yhu _ _ hs (Nat.mod_lt _ (by omega))]
 congr 1
 apply Nat.eq_of_testBit_eq; intro j
 rw [Nat.testBit_or, Nat.testBit_shiftRight, show (18446744073709551616 : Nat) = 2 ^ 64 from rfl, Nat.testBit_mod_two_pow, Nat.testBit_shiftLeft, ybJ, ybJ, ybJ, Nat.testBit_div_two_pow]
 by_cases hj : j < 64
 ·by_cases h2 : r + j < 64
  ·have h3 : ¬ (64 - r ≤ j) := by omega
   simp [hj, h2, h3]
   congr 1; omega
  ·have h3 : 64 - r ≤ j := by omega
   have h4 : j - (64 - r) < 64 := by omega
   simp [hj, h2, h3, h4]
   congr 1; omega
 ·have h2 : ¬ r + j < 64 := by omega
  simp [hj, h2]
theorem yn6 (x q r i : Nat) (hr : r < 64) (hx : x < Q6) (hi : i + q = 5) : ya1 .u64 (W x (i + q)) (r : Int) = W (x / 2 ^ (64 * q + r)) i := by
 rw [← yiB x i q r hr]
 have h0 : wd x (i + q + 1) = 0 := ycs x _ (by rw [ycK (by omega)]; exact hx)
 rw [ya8 x (i + q + 1), h0]
 have e : ybM .u64 ((0 : Nat) : Int) (yan .u64 64 (r : Int)) = 0 := by
  rw [yeV (by omega) (by omega)]
  show IntKind.wrap .u64 _ = _
  rw [ycz]; simp
 have hs : wd x (i + q) >>> r < 18446744073709551616 := Nat.lt_of_le_of_lt (Nat.shiftRight_le _ _) (ydj _ _)
 rw [e, ya8, yfK _ _ hr, show (0 : Int) = ((0 : Nat) : Int) from rfl, yhu _ _ hs (by omega), Nat.or_zero]
theorem yhB (x q r : Nat) (hx : x < Q6) (hr : r < 64) (hq : q ≤ 6) (b : Bool) (k0 : Bool → (Nat → Int) → Prop) (h : k0 b (W (x / 2 ^ (64 * q + r)))) :
  ∀ (j i : Nat), i + q + j = 6 → zed.l5 k0 (j + 1) b q r i (W x) (W (x / 2 ^ (64 * q + r) % 2 ^ (64 * i))) := by
 intro j
 induction j with
 | zero =>
  intro i hij
  have hlt : x / 2 ^ (64 * q + r) < 2 ^ (64 * i) := by
   rw [Nat.div_lt_iff_lt_mul (Nat.two_pow_pos _), ← Nat.pow_add]
   exact Nat.lt_of_lt_of_le hx (by rw [← ycK (show 64 * i + 64 * q = 384 by omega)]; exact Nat.pow_le_pow_right (by omega) (by omega))
  unfold zed.l5 zed.l5.step
  rw [yap (by omega) (by omega), yaw (ybe (by omega)), Nat.mod_eq_of_lt hlt]
  exact h
 | succ j ih =>
  intro i hij
  have ih := ih (i + 1) (by omega)
  have e : ((i + 1 : Nat) : Int) = (i : Int) + 1 := by omega
  rw [e, ygV] at ih
  unfold zed.l5 zed.l5.step
  have e1 : yai .i64 (i : Int) (q : Int) = ((i + q : Nat) : Int) := by rw [yap (by omega) (by omega)]; omega
  rw [e1, yaD (ya9 (by omega)), yby (ybG (by omega) (by omega)), yby (ykX (by omega)), yby (ybG (by omega) (by omega)), Int.toNat_natCast, Int.toNat_natCast]
  rw [show yai .i64 (i : Int) 1 = (i : Int) + 1 from yap (by omega) (by omega)]
  have e2 : yai .i64 ((i + q : Nat) : Int) 1 = ((i + q + 1 : Nat) : Int) := by rw [yap (by omega) (by omega)]; omega
  have hsub : yan .u64 64 (r : Int) = 64 - (r : Int) := yeV (by omega) (by omega)
  by_cases h5 : i + q < 5
  ·rw [yaD (ya9 (by omega)), yby (ybG (by omega) (by omega)), e2, yby (ybG (by omega) (by omega)), yby (ykX (by rw [hsub]; omega)), yby (ybG (by omega) (by omega)), Int.toNat_natCast, yps, yrA, yiB x i q r hr, ya8, yqM _ _ i (Nat.mod_lt _ (Nat.two_pow_pos _)) (ydj _ _)]
   exact ih
  ·rw [yaw (ybe (by omega)), yn6 x q r i hr hx (by omega), ya8, yqM _ _ i (Nat.mod_lt _ (Nat.two_pow_pos _)) (ydj _ _)]
   exact ih
end Go.Ev.S

/- The lowest bit: of a word (the table of math/bits), of six words; a shift to the right with what fell off. -/
set_option linter.unusedVariables false
set_option linter.unusedSimpArgs false
set_option maxRecDepth 8000
namespace Go.Ev.S
open Go Go.Ev
theorem yr8 (k q : Nat) (hk : k < 64) (ha : 2 ^ k * (2 * q + 1) < 18446744073709551616) : (2 ^ k * (2 * q + 1)) &&& (18446744073709551616 - 2 ^ k * (2 * q + 1)) = 2 ^ k := by
 have hp := Nat.two_pow_pos k
 have e1 : 2 ^ k * (2 * q + 1) = 2 ^ (k + 1) * q + 2 ^ k := by rw [Nat.pow_succ, Nat.mul_add, Nat.mul_one, Nat.mul_assoc]
 have e2 : 2 ^ k * (2 * q + 1) - 1 = 2 ^ (k + 1) * q + (2 ^ k - 1) := by omega
 have h1 : 2 ^ k < 2 ^ (k + 1) := Nat.pow_lt_pow_right (by omega) (by omega)
 apply Nat.eq_of_testBit_eq; intro j
 have e3 : 18446744073709551616 - 2 ^ k * (2 * q + 1) = 2 ^ 64 - ((2 ^ k * (2 * q + 1) - 1) + 1) := by
  rw [show (2 : Nat) ^ 64 = 18446744073709551616 from rfl]; omega
 rw [Nat.testBit_and, e3, Nat.testBit_two_pow_sub_succ (by rw [show (2 : Nat) ^ 64 = 18446744073709551616 from rfl]; omega), e2]
 conv => lhs; lhs; rw [e1]
 rw [Nat.testBit_two_pow_mul_add _ h1, Nat.testBit_two_pow_mul_add _ (by omega : 2 ^ k - 1 < 2 ^ (k + 1)), Nat.testBit_two_pow, Nat.testBit_two_pow_sub_one]
 by_cases hj : j < k + 1
 ·by_cases hjk : j = k
  ·subst hjk; simp [hk]
  ·have : j < k := by omega
   have h3 : ¬ k = j := by omega
   simp [hj, this, h3]
 ·have h3 : ¬ k = j := by omega
  simp only [hj, if_false, h3, decide_false]
  cases q.testBit (j - (k + 1)) <;> simp
theorem ysu : ((List.range 64).all fun k => ysB ((2 ^ k * 285870213051353865 % 18446744073709551616) >>> 58) == (k : Int)) = true := by decide +kernel
theorem ytF (k q : Nat) (hk : k < 64) (ha : 2 ^ k * (2 * q + 1) < 18446744073709551616) (K : Int → Prop) (h : K k) : zab ((2 ^ k * (2 * q + 1) : Nat) : Int) K := by
 have hp := Nat.two_pow_pos k
 have hpos : 0 < 2 ^ k * (2 * q + 1) := Nat.mul_pos hp (by omega)
 have hl := yr8 k q hk ha
 have hk2 : 2 ^ k < 18446744073709551616 := ylg hk
 have ht := List.all_eq_true.1 ysu k (List.mem_range.2 hk)
 rw [zab.is]; unfold zab.d
 generalize 2 ^ k * (2 * q + 1) = a at *
 have e1 : yqh .u64 (a : Int) = ((18446744073709551616 - a : Nat) : Int) := by
  show IntKind.wrap .u64 _ = _
  rw [ycz]; omega
 have e2 : ycj .u64 ((2 ^ k : Nat) : Int) 285870213051353865 = ((2 ^ k * 285870213051353865 % 18446744073709551616 : Nat) : Int) := by
  show IntKind.wrap .u64 _ = _
  rw [ycz]
  generalize 2 ^ k = p at *
  omega
 have h1 : (2 ^ k * 285870213051353865 % 18446744073709551616) >>> 58 < 64 := by
  rw [Nat.shiftRight_eq_div_pow]
  have := Nat.mod_lt (2 ^ k * 285870213051353865) (show 0 < 18446744073709551616 by omega)
  omega
 rw [yaw (ygQ (by omega)), e1, yhN _ _ (by omega) (by omega), hl, e2, show (58 : Int) = ((58 : Nat) : Int) from rfl, yfK _ 58 (by omega)]
 refine ⟨ybG (by omega) (by omega), ?_⟩
 rw [Int.toNat_natCast, yrF, eq_of_beq ht, yi7 (by omega) (by omega)]
 exact h
theorem yh3 (k q : Nat) (hk : k < 64) (ha : 2 ^ k * (2 * q + 1) < 18446744073709551616) (K : Int → Prop) (h : K k) : zei ((2 ^ k * (2 * q + 1) : Nat) : Int) K := by
 rw [zei.is]; exact ytF k q hk ha _ h
theorem yrc (k q i : Nat) (hi : i < k / 64) : wd (2 ^ k * (2 * q + 1)) i = 0 := by
 unfold wd
 have e : 2 ^ k * (2 * q + 1) = 2 ^ (64 * i) * (18446744073709551616 * (2 ^ (k - 64 * i - 64) * (2 * q + 1))) := by
  rw [show (18446744073709551616 : Nat) = 2 ^ 64 from rfl, ← Nat.mul_assoc, ← Nat.mul_assoc, ← Nat.pow_add, ← Nat.pow_add, show 64 * i + 64 + (k - 64 * i - 64) = k from by omega]
 rw [e, Nat.mul_div_cancel_left _ (Nat.two_pow_pos _), Nat.mul_mod_right]
theorem ymS (k q : Nat) : ∃ q', wd (2 ^ k * (2 * q + 1)) (k / 64) = 2 ^ (k % 64) * (2 * q' + 1) := by
 have hm : k % 64 < 64 := Nat.mod_lt _ (by omega)
 have e : 2 ^ k * (2 * q + 1) = 2 ^ (64 * (k / 64)) * (2 ^ (k % 64) * (2 * q + 1)) := by
  rw [← Nat.mul_assoc, ← Nat.pow_add, Nat.div_add_mod]
 have e64 : (18446744073709551616 : Nat) = 2 ^ (k % 64) * 2 ^ (64 - k % 64) := by rw [← Nat.pow_add, show k % 64 + (64 - k % 64) = 64 from by omega]
 refine ⟨q % 2 ^ (63 - k % 64), ?_⟩
 unfold wd
 rw [e, Nat.mul_div_cancel_left _ (Nat.two_pow_pos _), e64, Nat.mul_mod_mul_left]
 congr 1
 have e2 : 2 ^ (64 - k % 64) = 2 * 2 ^ (63 - k % 64) := by rw [show 64 - k % 64 = (63 - k % 64) + 1 from by omega, Nat.pow_succ, Nat.mul_comm]
 rw [e2]
 have hp := Nat.two_pow_pos (63 - k % 64)
 generalize 2 ^ (63 - k % 64) = p at *
 have h1 := Nat.div_add_mod q p
 have h2 := Nat.mod_lt q hp
 have e3 : 2 * q + 1 = (2 * (q % p) + 1) + (2 * p) * (q / p) := by
  rw [Nat.mul_assoc]; omega
 rw [e3, Nat.add_mul_mod_self_left, Nat.mod_eq_of_lt (by omega)]
theorem yj2 (k q : Nat) (hk : k < 384) (k0 : Int → Prop) (k1 : Prop) (h0 : k0 k) : ∀ (j i : Nat), i + j = k / 64 → zdz.l2 k0 k1 (j + 1) (W (2 ^ k * (2 * q + 1))) i := by
 intro j
 induction j with
 | zero =>
  intro i hij
  have hi : i = k / 64 := by omega
  obtain ⟨q', hq⟩ := ymS k q
  have hlt := ydj (2 ^ k * (2 * q + 1)) (k / 64)
  have hpos : 0 < 2 ^ (k % 64) * (2 * q' + 1) := Nat.mul_pos (Nat.two_pow_pos _) (by omega)
  unfold zdz.l2 zdz.l2.step
  rw [yaD (ya9 (by omega)), yby (ybG (by omega) (by omega)), Int.toNat_natCast, ya8, hi, hq, yaD (by rw [ygQ (by omega)]; rfl)]
  rw [hq] at hlt
  refine yh3 (k % 64) q' (Nat.mod_lt _ (by omega)) hlt _ ?_
  rw [ybH (by omega) (by omega), yap (by omega) (by omega), show (64 : Int) * ((k / 64 : Nat) : Int) + ((k % 64 : Nat) : Int) = (k : Int) from by omega]
  exact h0
 | succ j ih =>
  intro i hij
  have ih := ih (i + 1) (by omega)
  have e : ((i + 1 : Nat) : Int) = (i : Int) + 1 := by omega
  rw [e] at ih
  unfold zdz.l2 zdz.l2.step
  rw [yaD (ya9 (by omega)), yby (ybG (by omega) (by omega)), Int.toNat_natCast, ya8, yrc k q i (by omega), yaw (by rfl), yap (by omega) (by omega)]
  exact ih
theorem ymm (k q : Nat) (hk : k < 384) (K : Int → Prop) (h : K k) : zdz (W (2 ^ k * (2 * q + 1))) K := by
 rw [zdz.is]
 exact ⟨_, yj2 k q hk _ _ h (k / 64) 0 (by omega)⟩
theorem yrm (x : Nat) (h : x ≠ 0) : ∃ k q, x = 2 ^ k * (2 * q + 1) := by
 induction x using Nat.strongRecOn with
 | ind x ih =>
  rcases Nat.mod_two_eq_zero_or_one x with h2 | h2
  ·obtain ⟨k, q, e⟩ := ih (x / 2) (by omega) (by omega)
   exact ⟨k + 1, q, by rw [Nat.pow_succ, Nat.mul_comm (2 ^ k), Nat.mul_assoc, ← e]; omega⟩
  ·exact ⟨0, x / 2, by rw [Nat.pow_zero]; omega⟩
theorem ydw (x n : Nat) (hx : x < Q6) (hn : n ≤ 384) (K : (Nat → Int) → Bool → Prop) (h : K (W (x / 2 ^ n)) (decide (x % 2 ^ n ≠ 0))) : zed (W x) n K := by
 rw [zed.is]; unfold zed.d
 have key : ∀ b, b = decide (x % 2 ^ n ≠ 0) → ∃ m, zed.l5 (fun y0 y1 => K y1 y0) m b (yaI IntKind.i64 (n : Int) 64) (cvI IntKind.u64 (ycm IntKind.i64 (n : Int) 64)) 0 (W x) fun x => 0 := by
  intro b hb
  rw [yrp n (by omega), yqI n, yaU (by omega) (by omega)]
  refine ⟨6 - n / 64 + 1, ?_⟩
  have := yhB x (n / 64) (n % 64) hx (Nat.mod_lt _ (by omega)) (by omega) b (fun y0 y1 => K y1 y0) (by rw [Nat.div_add_mod, hb]; exact h) (6 - n / 64) 0 (by omega)
  rw [Nat.mul_zero, Nat.pow_zero, Nat.mod_one, yhQ] at this
  exact this
 rw [ycC n hn]
 by_cases h0 : x = 0
 ·subst h0
  have hz : (!eqN 6 (W 0) fun x => 0) = false := by
   rw [(yjE 6 _ _).2 (fun i _ => by rw [yhQ])]; rfl
  rw [yaw hz]
  exact key _ (by simp)
 ·obtain ⟨k, q, rfl⟩ := yrm x h0
  have hk : k < 384 := by
   apply Classical.byContradiction
   intro hc
   have h1 := yrV (Nat.le_refl 384)
   obtain ⟨m, hm⟩ : ∃ m : Nat, m = 384 := ⟨_, rfl⟩
   have h2 : Q6 ≤ 2 ^ k := by rw [← ycK hm]; exact Nat.pow_le_pow_right (by omega) (by omega)
   have h3 : 2 ^ k ≤ 2 ^ k * (2 * q + 1) := Nat.le_mul_of_pos_right _ (by omega)
   omega
  have hz : (!eqN 6 (W (2 ^ k * (2 * q + 1))) fun x => 0) = true := by
   cases hb : eqN 6 (W (2 ^ k * (2 * q + 1))) fun x => 0 with
   | false => rfl
   | true =>
    have h4 := (yjE 6 _ _).1 hb (k / 64) (by omega)
    obtain ⟨q', hq⟩ := ymS k q
    rw [ya8, hq] at h4
    have hpos : 0 < 2 ^ (k % 64) * (2 * q' + 1) := Nat.mul_pos (Nat.two_pow_pos _) (by omega)
    omega
  rw [yaD hz]
  refine ymm k q hk _ (key _ ?_)
  rw [yka, decide_eq_decide]
  constructor
  ·intro hkn hmod
   have hd : 2 ^ n ∣ 2 ^ k * (2 * q + 1) := Nat.dvd_of_mod_eq_zero hmod
   rw [show n = k + 1 + (n - k - 1) from by omega, Nat.pow_add, Nat.pow_succ, Nat.mul_assoc] at hd
   have hd2 := Nat.dvd_of_mul_dvd_mul_left (Nat.two_pow_pos k) hd
   obtain ⟨c, hc⟩ := hd2
   rw [Nat.mul_assoc] at hc
   omega
  ·intro hmod
   apply Classical.byContradiction
   intro hkn
   apply hmod
   rw [show k = n + (k - n) from by omega, Nat.pow_add, Nat.mul_assoc]
   exact Nat.mul_mod_right _ _
end Go.Ev.S

/- Lengths, sums and the like: the abacus' words and six words. -/
set_option linter.unusedVariables false
set_option linter.unusedSimpArgs false
set_option maxRecDepth 8000
namespace Go.Ev.S
open Go Go.Ev
theorem ytB (v : Nat) (h : v < 256) : cvI .u8 (v : Int) = (v : Int) := by
 exact ytC (by omega) (by omega)
theorem ycX (L : List UInt8) (hL : ((List.range 256).all fun v => ybm L v == (yav v : Int)) = true) (a n : Nat) (nI S : Int) (hn0 : nI = n) (hS : S = ((a / 2 ^ n : Nat) : Int)) (hlt : a / 2 ^ n < 256) (hn : n ≤ 56)
  (h0 : a / 2 ^ n ≠ 0 ∨ n = 0) (K : Int → Prop) (h : K (yav a)) : gd (leI 0 (cvI .u8 S) && ltI (cvI .u8 S) 256) (K (yai .i64 nI (cvI .i64 (ybm L (Int.toNat (cvI .u8 S)))))) := by
 subst hS hn0
 have hb : ybm L (a / 2 ^ n) = (yav (a / 2 ^ n) : Int) := eq_of_beq (List.all_eq_true.1 hL _ (List.mem_range.2 hlt))
 have hb8 : yav (a / 2 ^ n) ≤ 8 := (yaL _ _).2 hlt
 have e : yav a = n + yav (a / 2 ^ n) := by
  rcases h0 with h0 | h0
  ·exact ydf h0
  ·subst h0; rw [Nat.pow_zero, Nat.div_one, Nat.zero_add]
 generalize a / 2 ^ n = v at *
 rw [ytB _ hlt, yby (ybG (by omega) (by omega)), Int.toNat_natCast, hb, yi7 (by omega) (by omega), yap (by omega) (by omega), show ((n : Nat) : Int) + (yav v : Int) = ((yav a : Nat) : Int) from by rw [e]; omega]
 exact h
theorem yeQ (a i : Nat) (hi : i < 64) : ya1 .u64 (a : Int) (i : Int) = ((a / 2 ^ i : Nat) : Int) := by rw [yfK a i hi, Nat.shiftRight_eq_div_pow]
theorem yjn (a : Nat) (ha : a < 18446744073709551616) (K : Int → Prop) (h : K (yav a)) : zaa a K := by
 have s32 : ya1 .u64 (a : Int) 32 = ((a / 2 ^ 32 : Nat) : Int) := yeQ a 32 (by omega)
 have s16 : ya1 .u64 (a : Int) 16 = ((a / 2 ^ 16 : Nat) : Int) := yeQ a 16 (by omega)
 have s8 : ya1 .u64 (a : Int) 8 = ((a / 2 ^ 8 : Nat) : Int) := yeQ a 8 (by omega)
 have t16 : ya1 .u64 ((a / 2 ^ 32 : Nat) : Int) 16 = ((a / 2 ^ 32 / 2 ^ 16 : Nat) : Int) := yeQ (a / 2 ^ 32) 16 (by omega)
 have t8 : ya1 .u64 ((a / 2 ^ 32 : Nat) : Int) 8 = ((a / 2 ^ 32 / 2 ^ 8 : Nat) : Int) := yeQ (a / 2 ^ 32) 8 (by omega)
 have u8 : ya1 .u64 ((a / 2 ^ 32 / 2 ^ 16 : Nat) : Int) 8 = ((a / 2 ^ 32 / 2 ^ 16 / 2 ^ 8 : Nat) : Int) := yeQ (a / 2 ^ 32 / 2 ^ 16) 8 (by omega)
 have v8 : ya1 .u64 ((a / 2 ^ 16 : Nat) : Int) 8 = ((a / 2 ^ 16 / 2 ^ 8 : Nat) : Int) := yeQ (a / 2 ^ 16) 8 (by omega)
 rw [zaa.is]; unfold zaa.d
 rw [s32, s16, s8, t16, t8, u8, v8]
 have d1 : a / 2 ^ 32 / 2 ^ 16 / 2 ^ 8 = a / 2 ^ 56 := by rw [Nat.div_div_eq_div_mul, Nat.div_div_eq_div_mul]
 have d2 : a / 2 ^ 32 / 2 ^ 16 = a / 2 ^ 48 := by rw [Nat.div_div_eq_div_mul]
 have d3 : a / 2 ^ 32 / 2 ^ 8 = a / 2 ^ 40 := by rw [Nat.div_div_eq_div_mul]
 have d4 : a / 2 ^ 16 / 2 ^ 8 = a / 2 ^ 24 := by rw [Nat.div_div_eq_div_mul]
 rw [d1, d2, d3, d4]
 by_cases c1 : 4294967296 ≤ a
 ·rw [yaD (yba (by omega))]
  by_cases c2 : 65536 ≤ a / 2 ^ 32
  ·rw [yaD (yba (by omega))]
   by_cases c3 : 256 ≤ a / 2 ^ 48
   ·rw [yaD (yba (by omega))]
    exact ycX _ (by decide +kernel) a 56 _ _ rfl rfl (by omega) (by omega) (by omega) K h
   ·rw [yaw (yeK (by omega))]
    exact ycX _ (by decide +kernel) a 48 _ _ rfl rfl (by omega) (by omega) (by omega) K h
  ·rw [yaw (yeK (by omega))]
   by_cases c3 : 256 ≤ a / 2 ^ 32
   ·rw [yaD (yba (by omega))]
    exact ycX _ (by decide +kernel) a 40 _ _ rfl rfl (by omega) (by omega) (by omega) K h
   ·rw [yaw (yeK (by omega))]
    exact ycX _ (by decide +kernel) a 32 _ _ rfl rfl (by omega) (by omega) (by omega) K h
 ·rw [yaw (yeK (by omega))]
  by_cases c2 : 65536 ≤ a
  ·rw [yaD (yba (by omega))]
   by_cases c3 : 256 ≤ a / 2 ^ 16
   ·rw [yaD (yba (by omega))]
    exact ycX _ (by decide +kernel) a 24 _ _ rfl rfl (by omega) (by omega) (by omega) K h
   ·rw [yaw (yeK (by omega))]
    exact ycX _ (by decide +kernel) a 16 _ _ rfl rfl (by omega) (by omega) (by omega) K h
  ·rw [yaw (yeK (by omega))]
   by_cases c3 : 256 ≤ a
   ·rw [yaD (yba (by omega))]
    exact ycX _ (by decide +kernel) a 8 _ _ rfl rfl (by omega) (by omega) (by omega) K h
   ·rw [yaw (yeK (by omega))]
    exact ycX _ (by decide +kernel) a 0 _ _ rfl (by simp) (by simp; omega) (by omega) (.inr rfl) K h
theorem yeH (a : Nat) (ha : a < 18446744073709551616) (K : Int → Prop) (h : K (yav a)) : zeh a K := by
 rw [zeh.is]; exact yjn a ha _ h
theorem yfz (x : Nat) (k0 : Int → Prop) (k1 : Prop) (h : x ≠ 0 → k0 (yav x)) (n i : Nat) (hi : i < 6) (hx : x < 2 ^ (64 * (i + 1))) (hrec : x < 2 ^ (64 * i) → zdy.l2 k0 k1 n ((i : Int) - 1) (W x)) :
  zdy.l2 k0 k1 (n + 1) i (W x) := by
 have hwd : wd x i = x / 2 ^ (64 * i) := by
  unfold wd
  apply Nat.mod_eq_of_lt
  rw [Nat.div_lt_iff_lt_mul (Nat.two_pow_pos _), show (18446744073709551616 : Nat) = 2 ^ 64 from rfl, ← Nat.pow_add]
  rw [show 64 + 64 * i = 64 * (i + 1) from by omega]; exact hx
 unfold zdy.l2 zdy.l2.step
 have hi' : (leI 0 (i : Int) && ltI (i : Int) 6) = true := ybG (by omega) (by omega)
 rw [yaD (yba (by omega)), yby hi', Int.toNat_natCast, ya8]
 by_cases hz : wd x i = 0
 ·have hx2 : x < 2 ^ (64 * i) := by
   rw [hwd] at hz
   rcases (Nat.div_eq_zero_iff).1 hz with h' | h'
   ·have := Nat.two_pow_pos (64 * i); omega
   ·exact h'
  rw [yaw (by rw [hz]; rfl), yas (by omega) (by omega)]
  exact hrec hx2
 ·rw [yaD (by rw [show (0 : Int) = ((0 : Nat) : Int) from rfl, ypQ]; simp [hz]), yby hi']
  refine yeH _ (ydj _ _) _ ?_
  have hb : yav (wd x i) ≤ 64 := (yaL _ _).2 (ydj x i)
  rw [ybH (by omega) (by omega), yap (by omega) (by omega)]
  have hx0 : x ≠ 0 := by
   intro e; subst e; exact hz (ycs 0 i (Nat.two_pow_pos _))
  have := h hx0
  rw [hwd] at hz ⊢
  rw [ydf hz] at this
  rw [show (64 * (i : Int) + (yav (x / 2 ^ (64 * i)) : Int)) = ((64 * i + yav (x / 2 ^ (64 * i)) : Nat) : Int) from by omega]
  exact this
theorem yjO (x : Nat) (k0 : Int → Prop) (k1 : Prop) (h : x ≠ 0 → k0 (yav x)) (h1 : x = 0 → k1) (i : Nat) : i < 6 → x < 2 ^ (64 * (i + 1)) → zdy.l2 k0 k1 (i + 2) i (W x) := by
 induction i with
 | zero =>
  intro hi hx
  refine yfz x k0 k1 h 1 0 hi hx fun hx2 => ?_
  have hx0 : x = 0 := by
   have : x < 1 := hx2
   omega
  unfold zdy.l2 zdy.l2.step
  rw [yaw (by decide)]
  exact h1 hx0
 | succ i ih =>
  intro hi hx
  refine yfz x k0 k1 h (i + 2) (i + 1) hi hx fun hx2 => ?_
  rw [show (((i + 1 : Nat) : Int) - 1) = (i : Int) from by omega]
  exact ih (by omega) hx2
theorem ybo (x : Nat) (hx : x < Q6) (K : Int → Prop) (h : K (yav x)) : zdy (W x) K := by
 rw [zdy.is]
 obtain ⟨i, hi⟩ : ∃ i, i = 5 := ⟨_, rfl⟩
 have := yjO x K (K 0) (fun _ => h) (fun e => by subst e; exact h) i (by omega) (by rw [ycK (show 64 * (i + 1) = 384 by omega)]; exact hx)
 rw [hi] at this
 exact ⟨5 + 2, this⟩
theorem ylE (a b : Nat) (c : Bool) (ha : a < 18446744073709551616) (hb : b < 18446744073709551616) (K : Int → Bool → Prop)
  (h : K (((a + b + c.toNat) % 18446744073709551616 : Nat)) (decide (18446744073709551616 ≤ a + b + c.toNat))) : zeg a b c K := by
 rw [zeg.is]; unfold zeg.d; rw [zel.is]; unfold zel.d
 have e1 : yai .u64 (a : Int) (b : Int) = (((a + b) % 18446744073709551616 : Nat) : Int) := by
  show IntKind.wrap .u64 _ = _
  rw [ycz]; omega
 rw [e1]
 have e2 : yai .u64 (((a + b) % 18446744073709551616 : Nat) : Int) 1 = (((a + b + 1) % 18446744073709551616 : Nat) : Int) := by
  show IntKind.wrap .u64 _ = _
  rw [ycz]; omega
 have e3 : yai .u64 (((a + b) % 18446744073709551616 : Nat) : Int) 0 = (((a + b) % 18446744073709551616 : Nat) : Int) := by
  show IntKind.wrap .u64 _ = _
  rw [ycz]; omega
 cases c with
 | false =>
  rw [yaw rfl]
  dsimp only
  rw [e3, yaw (c := false) rfl, yka]
  simp only [Bool.toNat_false, Nat.add_zero] at h
  by_cases hc : 18446744073709551616 ≤ a + b
  ·rw [yaD (by simp; omega)]; simpa [hc] using h
  ·rw [yaw (by simp; omega)]; simpa [hc] using h
 | true =>
  rw [yaD rfl]
  dsimp only
  rw [e2, yaD (c := true) rfl, yka]
  simp only [Bool.toNat_true] at h
  by_cases hc : 18446744073709551616 ≤ a + b
  ·have h2 : decide (18446744073709551616 ≤ a + b + 1) = true := by simp; omega
   rw [h2] at h
   rw [yaD (by simp; omega)]; exact h
  ·rw [yaw (by simp; omega), show (0 : Int) = ((0 : Nat) : Int) from rfl, ypQ]
   have h2 : decide ((a + b + 1) % 18446744073709551616 = 0) = decide (18446744073709551616 ≤ a + b + 1) := by rw [decide_eq_decide]; omega
   rw [h2]; exact h
theorem yjk (x y : Nat) (k0 : Bool → (Nat → Int) → Prop) (h : k0 (decide (Q6 ≤ yiH x y 6)) (W (yiH x y 6 % Q6))) :
  ∀ (j i : Nat), i + j = 6 → zdu.l2 k0 (j + 1) (decide (2 ^ (64 * i) ≤ yiH x y i)) i (W x) (W y) (W (yiH x y i % 2 ^ (64 * i))) := by
 intro j
 induction j with
 | zero =>
  intro i hij
  have h6 : i = 6 := by omega
  unfold zdu.l2 zdu.l2.step
  rw [yaw (ybe (by omega)), ycK (show 64 * i = 384 by omega), h6]
  exact h
 | succ j ih =>
  intro i hij
  have ih := ih (i + 1) (by omega)
  have e : ((i + 1 : Nat) : Int) = (i : Int) + 1 := by omega
  rw [e] at ih
  obtain ⟨s1, s2⟩ := yoU x y i _ rfl
  rw [s1, s2] at ih
  unfold zdu.l2 zdu.l2.step
  have hi : (leI 0 (i : Int) && ltI (i : Int) 6) = true := ybG (by omega) (by omega)
  rw [yaD (ya9 (by omega)), yby hi, yby hi, Int.toNat_natCast, ya8, ya8]
  refine ylE _ _ _ (ydj _ _) (ydj _ _) _ ?_
  rw [yby hi, yap (by omega) (by omega), yqM _ _ _ (Nat.mod_lt _ (Nat.two_pow_pos _)) (Nat.mod_lt _ (by omega))]
  exact ih
theorem ydn (x y : Nat) (hx : x < Q6) (hy : y < Q6) (K : (Nat → Int) → Bool → Prop) (h : K (W ((x + y) % Q6)) (decide (Q6 ≤ x + y))) : zdu (W x) (W y) K := by
 rw [zdu.is]
 refine ⟨7, ?_⟩
 have h6 : yiH x y 6 = x + y := by
  obtain ⟨i, hi⟩ : ∃ i, i = 6 := ⟨_, rfl⟩
  rw [← hi]
  unfold yiH; rw [ycK (show 64 * i = 384 by omega), Nat.mod_eq_of_lt hx, Nat.mod_eq_of_lt hy]
 have := yjk x y (fun y0 y1 => K y1 y0) (by rw [h6]; exact h) 6 0 rfl
 have e1 : decide (2 ^ (64 * 0) ≤ yiH x y 0) = false := by simp [yiH, Nat.mod_one]
 have e2 : W (yiH x y 0 % 2 ^ (64 * 0)) = fun _ => 0 := by
  rw [show yiH x y 0 % 2 ^ (64 * 0) = 0 from by simp [Nat.mod_one]]; exact yhQ
 rw [e1, e2] at this
 exact this
theorem ydb (x : Nat) (h : x < 18446744073709551616) (K : (Nat → Int) → Prop) : zeb x K = K (W x) := by
 rw [zeb.is]; unfold zeb.d; rw [yrY x h]
theorem ycf (x : Nat) (h : x < 2 ^ 128) (K : Int → Int → Bool → Prop) : zee (W x) K = K (Hi x) (Lo x) true := by
 rw [zee.is]; unfold zee.d
 rw [ymQ x 2 h (by omega), ymQ x 3 h (by omega), ymQ x 4 h (by omega), ymQ x 5 h (by omega), ytK x h, ytM x]
 rfl
theorem yld (x y : Nat) (hx : x < Q6) (hy : y < Q6) (k0 : (Nat → Int) → (Nat → Int) → Prop) (z : Nat → Int) (h : k0 (W (x ||| y)) z) :
  ∀ (j i : Nat), i + j = 6 → zec.l2 k0 (j + 1) i (mix i (x ||| y) x) (W y) z := by
 intro j
 induction j with
 | zero =>
  intro i hij
  have hx' : x < 2 ^ (64 * i) := by rw [ycK (show 64 * i = 384 by omega)]; exact hx
  have hy' : y < 2 ^ (64 * i) := by rw [ycK (show 64 * i = 384 by omega)]; exact hy
  unfold zec.l2 zec.l2.step
  rw [yaw (ybe (by omega)), yo5 _ _ i (Nat.or_lt_two_pow hx' hy') hx']
  exact h
 | succ j ih =>
  intro i hij
  have ih := ih (i + 1) (by omega)
  have e : ((i + 1 : Nat) : Int) = (i : Int) + 1 := by omega
  rw [e] at ih
  unfold zec.l2 zec.l2.step
  have hi : (leI 0 (i : Int) && ltI (i : Int) 6) = true := ybG (by omega) (by omega)
  rw [yaD (ya9 (by omega)), yby hi, yby hi, yby hi, Int.toNat_natCast, yry, ya8, ya8, yhu _ _ (ydj _ _) (ydj _ _), ← ytt, ← ya8, ymY, yap (by omega) (by omega)]
  exact ih
theorem yn8 (x y : Nat) (hx : x < Q6) (hy : y < Q6) (K : (Nat → Int) → Prop) (h : K (W (x ||| y))) : zec (W x) (W y) K := by
 rw [zec.is]
 refine ⟨7, ?_⟩
 have := yld x y hx hy (fun y0 y1 => K y0) (fun _ => 0) h 6 0 rfl
 rw [ymD] at this
 exact this
def part (z i : Nat) : Nat → Int := fun j => cond (Nat.ble i j) (W z j) 0
theorem yqz (z : Nat) (hz : z < Q6) : part z 6 = fun _ => 0 := by
 funext j
 unfold part
 cases h : Nat.ble 6 j with
 | false => rfl
 | true =>
  have hj : 6 ≤ j := Nat.le_of_ble_eq_true h
  show W z j = 0
  rw [ya8, ycs z j]; rfl
  obtain ⟨m, hm⟩ : ∃ m : Nat, m = 384 := ⟨_, rfl⟩
  exact Nat.lt_of_lt_of_le hz (by rw [← ycK hm]; exact Nat.pow_le_pow_right (by omega) (by omega))
theorem ylx (z i : Nat) : upd (part z (i + 1)) i (W z i) = part z i := by
 funext j
 simp only [upd, part]
 by_cases h : j = i
 ·subst h
  have h1 : Nat.beq j j = true := by simp
  have h2 : Nat.ble j j = true := by simp
  rw [h1, h2]; rfl
 ·have h1 : Nat.beq j i = false := by rw [Bool.eq_false_iff]; intro hq; exact h (Nat.eq_of_beq_eq_true hq)
  have h2 : Nat.ble (i + 1) j = Nat.ble i j := by
   rw [Bool.eq_iff_iff, Nat.ble_eq, Nat.ble_eq]; omega
  rw [h1, h2]; rfl
theorem yqn (x q r : Nat) (hx : x < Q6) (hq : q ≤ 6) (hr : r < 64) : part (x * 2 ^ (64 * q + r) % Q6) q = W (x * 2 ^ (64 * q + r) % Q6) := by
 funext j
 unfold part
 cases h : Nat.ble q j with
 | true => rfl
 | false =>
  have hj : j < q := by
   apply Classical.byContradiction; intro hc
   have := Nat.ble_eq_true_of_le (show q ≤ j by omega)
   rw [this] at h; cases h
  show 0 = W _ j
  obtain ⟨m, hm⟩ : ∃ m : Nat, m = 384 := ⟨_, rfl⟩
  rw [ya8]
  have : wd (x * 2 ^ (64 * q + r) % Q6) j = 0 := by
   apply Nat.eq_of_testBit_eq; intro b
   rw [ybJ, Nat.zero_testBit, ← ycK hm, Nat.testBit_mod_two_pow, ← Nat.shiftLeft_eq, Nat.testBit_shiftLeft]
   by_cases hb : b < 64
   ·have : ¬ 64 * q + r ≤ 64 * j + b := by omega
    simp [this]
   ·simp [hb]
  rw [this]; rfl
theorem yss (a s : Nat) (ha : a < 18446744073709551616) (hs : s ≤ 64) : ya1 .u64 (a : Int) (s : Int) = ((a >>> s : Nat) : Int) := by
 by_cases h : s = 64
 ·subst h
  rw [yse a 64 ha (by omega), Nat.shiftRight_eq_div_pow, Nat.div_eq_of_lt (by exact ha)]; rfl
 ·exact yfK a s (by omega)
theorem yr5 (x q r i : Nat) (hi : i < 6) (hq : q ≤ i) (hr : r < 64) :
  wd (x * 2 ^ (64 * q + r) % Q6) i = (wd x (i - q) <<< r % 18446744073709551616) ||| (if q < i then wd x (i - q - 1) >>> (64 - r) else 0) := by
 obtain ⟨m, hm⟩ : ∃ m : Nat, m = 384 := ⟨_, rfl⟩
 apply Nat.eq_of_testBit_eq; intro b
 rw [ybJ, ← ycK hm, Nat.testBit_mod_two_pow, ← Nat.shiftLeft_eq, Nat.testBit_shiftLeft, Nat.testBit_or, show (18446744073709551616 : Nat) = 2 ^ 64 from rfl, Nat.testBit_mod_two_pow, Nat.testBit_shiftLeft, ybJ]
 by_cases hb : b < 64
 ·have h1 : 64 * i + b < m := by omega
  by_cases hbr : r ≤ b
  ·have h2 : 64 * q + r ≤ 64 * i + b := by omega
   have h3 : b - r < 64 := by omega
   have h4 : 64 * i + b - (64 * q + r) = 64 * (i - q) + (b - r) := by omega
   split
   ·rw [Nat.testBit_shiftRight, ybJ]
    have h5 : ¬ 64 - r + b < 64 := by omega
    simp [hb, h1, hbr, h2, h3, h4, h5]
   ·simp [hb, h1, hbr, h2, h3, h4]
  ·split
   ·rename_i hqi
    rw [Nat.testBit_shiftRight, ybJ]
    have h2 : 64 * q + r ≤ 64 * i + b := by omega
    have h5 : 64 - r + b < 64 := by omega
    have h4 : 64 * i + b - (64 * q + r) = 64 * (i - q - 1) + (64 - r + b) := by omega
    simp [hb, h1, hbr, h2, h4, h5]
   ·have h2 : ¬ 64 * q + r ≤ 64 * i + b := by omega
    simp [hb, h1, hbr, h2]
 ·split
  ·rw [Nat.testBit_shiftRight, ybJ]
   have h5 : ¬ 64 - r + b < 64 := by omega
   simp [hb, h5]
  ·simp [hb]
theorem yic (x q r : Nat) (hx : x < Q6) (hr : r < 64) (hq : q ≤ 6) (b : Bool) (k0 : Bool → (Nat → Int) → Prop) (h : k0 b (W (x * 2 ^ (64 * q + r) % Q6))) :
  ∀ (j : Nat), q + j ≤ 6 → zdx.l5 k0 (j + 1) b q r (((q + j : Nat) : Int) - 1) (W x) (part (x * 2 ^ (64 * q + r) % Q6) (q + j)) := by
 intro j
 induction j with
 | zero =>
  intro hij
  unfold zdx.l5 zdx.l5.step
  rw [yaw (yeK (by omega)), Nat.add_zero, yqn x q r hx hq hr]
  exact h
 | succ j ih =>
  intro hij
  have ih := ih (by omega)
  have e : (((q + (j + 1) : Nat) : Int) - 1) = ((q + j : Nat) : Int) := by omega
  rw [e]
  unfold zdx.l5 zdx.l5.step
  have e1 : yan .i64 ((q + j : Nat) : Int) (q : Int) = (j : Int) := by rw [yas (by omega) (by omega)]; omega
  have e2 : yan .i64 ((q + j : Nat) : Int) 1 = ((q + j : Nat) : Int) - 1 := yas (by omega) (by omega)
  have lw := yr5 x q r (q + j) (by omega) (by omega) hr
  have lj : q + j - q = j := by omega
  rw [lj] at lw
  have ha : wd x j <<< r % 18446744073709551616 < 18446744073709551616 := Nat.mod_lt _ (by omega)
  rw [yaD (yba (by omega)), e1, yby (ybG (by omega) (by omega)), yby (ykX (by omega)), yby (ybG (by omega) (by omega)), Int.toNat_natCast, Int.toNat_natCast, ya8 x j, ylF _ r hr, e2]
  by_cases hj : j = 0
  ·rw [if_neg (by omega), Nat.or_zero] at lw
   rw [yaw (ybe (by omega)), ← lw, ← ya8, show q + (j + 1) = q + j + 1 from rfl, ylx]
   exact ih
  ·rw [if_pos (by omega)] at lw
   have hs : wd x (j - 1) >>> (64 - r) < 18446744073709551616 := Nat.lt_of_le_of_lt (Nat.shiftRight_le _ _) (ydj _ _)
   have e3 : yan .i64 (j : Int) 1 = ((j - 1 : Nat) : Int) := by rw [yas (by omega) (by omega)]; omega
   have e4 : yan .u64 64 (r : Int) = ((64 - r : Nat) : Int) := by rw [yeV (by omega) (by omega)]; omega
   rw [yaD (ya9 (by omega)), yby (ybG (by omega) (by omega)), e3, yby (ybG (by omega) (by omega)), e4, yby (ykX (by omega)), yby (ybG (by omega) (by omega)), yps, yrA, Int.toNat_natCast, ya8 x (j - 1), yss _ _ (ydj _ _) (by omega), yhu _ _ ha hs, ← lw, ← ya8, show q + (j + 1) = q + j + 1 from rfl, ylx]
   exact ih
theorem ycu (x n : Nat) (hx : x < Q6) (hn : n ≤ 384) (K : (Nat → Int) → Bool → Prop) (h : ∀ b, K (W (x * 2 ^ n % Q6)) b) : zdx (W x) n K := by
 rw [zdx.is]; unfold zdx.d
 have key : ∀ b, ∃ m, zdx.l5 (fun y0 y1 => K y1 y0) m b (yaI IntKind.i64 (n : Int) 64) (cvI IntKind.u64 (ycm IntKind.i64 (n : Int) 64)) 5 (W x) fun x => 0 := by
  intro b
  rw [yrp n (by omega), yqI n, yaU (by omega) (by omega)]
  refine ⟨6 - n / 64 + 1, ?_⟩
  have hm : n % 64 < 64 := Nat.mod_lt _ (by omega)
  have := yic x (n / 64) (n % 64) hx hm (by omega) b (fun y0 y1 => K y1 y0) (by rw [Nat.div_add_mod]; exact h b) (6 - n / 64) (by omega)
  rw [show n / 64 + (6 - n / 64) = 6 from by omega, yqz _ (Nat.mod_lt _ ys0)] at this
  exact this
 rw [ycC n hn]
 refine ybo x hx _ ?_
 by_cases hc : ltI 384 (yai IntKind.i64 (yav x : Int) (n : Int)) = true
 ·rw [yaD hc]; exact key _
 ·rw [yaw (by simpa using hc)]; exact key _
end Go.Ev.S

/- The formats: their numbers, and the encodings that have names. -/
set_option linter.unusedVariables false
set_option linter.unusedSimpArgs false
set_option maxRecDepth 8000
namespace Go.Ev.S
open Go Go.Ev
def fw : Nat → Nat | 0 => 32 | 1 => 64 | 2 => 16 | 3 => 128 | _ => 0
def fp : Nat → Nat | 0 => 24 | 1 => 53 | 2 => 11 | 3 => 113 | _ => 0
def fe : Nat → Nat | 0 => 127 | 1 => 1023 | 2 => 15 | 3 => 16383 | _ => 0
def sg (f : Nat) (neg : Bool) : Nat := cond neg (2 ^ (fw f - 1)) 0
def enc (f : Nat) (neg : Bool) (e t : Nat) : Nat := sg f neg + e * 2 ^ (fp f - 1) + t
theorem yh6 {f : Nat} (h : f ≤ 3) : f = 0 ∨ f = 1 ∨ f = 2 ∨ f = 3 := by omega
theorem ybg (f : Nat) (h : f ≤ 3) (K : Int → Prop) : zdh f K = K 0 := by
 rw [zdh.is]; unfold zdh.d; rw [yaw (ybe (by omega))]
theorem yc1 (f : Nat) (h : f ≤ 3) (K : Int → Prop) : zdo f K = K (fw f) := by
 rw [zdo.is]; unfold zdo.d; rw [zds.is]
 rcases yh6 h with rfl | rfl | rfl | rfl <;> kernel_rfl
theorem yaC (f : Nat) (h : f ≤ 3) (K : Int → Prop) : zdn f K = K (fp f) := by
 rw [zdn.is]; unfold zdn.d; rw [zds.is]
 rcases yh6 h with rfl | rfl | rfl | rfl <;> kernel_rfl
theorem ya6 (f : Nat) (h : f ≤ 3) (K : Int → Prop) : zdj f K = K (fe f) := by
 rw [zdj.is]; unfold zdj.d; rw [zds.is]
 rcases yh6 h with rfl | rfl | rfl | rfl <;> kernel_rfl
theorem ya3 (f : Nat) (h : f ≤ 3) (K : Int → Prop) : zdk f K = K (1 - (fe f : Int)) := by
 rw [zdk.is]; unfold zdk.d; rw [ybg f h, ya6 f h]
 rcases yh6 h with rfl | rfl | rfl | rfl <;> kernel_rfl
theorem yj1 (f : Nat) (h : f ≤ 3) (K : Int → Int → Prop) : (zdo f fun y0 => zdq 1 (yan IntKind.i64 y0 1) K) = K (Hi (2 ^ (fw f - 1))) (Lo (2 ^ (fw f - 1))) := by
 rw [yc1 f h, zdq.is]
 rcases yh6 h with rfl | rfl | rfl | rfl <;> kernel_rfl
theorem yrP (f : Nat) (h : f ≤ 3) (neg : Bool) : sg f neg < 2 ^ 128 := by
 rcases yh6 h with rfl | rfl | rfl | rfl <;> cases neg <;> decide
theorem ydH (f x : Nat) (h : f ≤ 3) (hx : x < 2 ^ 128) (neg : Bool) (K : Int → Int → Prop) : zdt f (Hi x) (Lo x) neg K = K (Hi (x ||| sg f neg)) (Lo (x ||| sg f neg)) := by
 rw [zdt.is]; unfold zdt.d; rw [ybg f h, yaw (by decide)]
 cases neg with
 | false => rw [yaw rfl]; simp [sg]
 | true =>
  rw [yaD rfl, yj1 f h]
  obtain ⟨h1, h2⟩ := ypb x (2 ^ (fw f - 1)) hx (yrP f h true)
  rw [h1, h2]; rfl
theorem HiLo_zero : Hi 0 = 0 ∧ Lo 0 = 0 := ⟨rfl, rfl⟩
theorem ydr (f : Nat) (h : f ≤ 3) (neg : Bool) (K : Int → Int → Prop) : zdp f neg K = K (Hi (enc f neg 0 0)) (Lo (enc f neg 0 0)) := by
 rw [zdp.is]; unfold zdp.d
 have := ydH f 0 h (by decide) neg K
 rw [HiLo_zero.1, HiLo_zero.2, Nat.zero_or] at this
 rw [this]; simp [enc]
theorem yib (f e : Nat) (h : f ≤ 3) (he : e = 1 ∨ e = fe f ∨ e = 2 * fe f + 1) (K : Int → Int → Prop) : zdr f e K = K (Hi (e * 2 ^ (fp f - 1))) (Lo (e * 2 ^ (fp f - 1))) := by
 rw [zdr.is]; unfold zdr.d; rw [yaC f h, zdq.is]
 rcases he with rfl | rfl | rfl <;> rcases yh6 h with rfl | rfl | rfl | rfl <;> kernel_rfl
theorem yqe (f e : Nat) (h : f ≤ 3) (he : e = 1 ∨ e = fe f ∨ e = 2 * fe f + 1) (neg : Bool) : (e * 2 ^ (fp f - 1)) ||| sg f neg = enc f neg e 0 ∧ e * 2 ^ (fp f - 1) < 2 ^ 128 := by
 rcases he with rfl | rfl | rfl <;> rcases yh6 h with rfl | rfl | rfl | rfl <;> cases neg <;> decide
theorem ydX (f : Nat) (h : f ≤ 3) (neg : Bool) (K : Int → Int → Prop) : zdm f neg K = K (Hi (enc f neg (2 * fe f + 1) 0)) (Lo (enc f neg (2 * fe f + 1) 0)) := by
 rw [zdm.is]; unfold zdm.d; rw [ybg f h, yaw (by decide), ya6 f h]
 have e1 : yai IntKind.i64 (ycj IntKind.i64 2 (fe f)) 1 = ((2 * fe f + 1 : Nat) : Int) := by rcases yh6 h with rfl | rfl | rfl | rfl <;> decide
 obtain ⟨h1, h2⟩ := yqe f _ h (.inr (.inr rfl)) neg
 rw [e1, yib f _ h (.inr (.inr rfl)), ydH f _ h h2 neg, h1]
theorem yc7 (f : Nat) (h : f ≤ 3) (neg : Bool) (K : Int → Int → Prop) : zdl f neg K = K (Hi (enc f neg (2 * fe f) (2 ^ (fp f - 1) - 1))) (Lo (enc f neg (2 * fe f) (2 ^ (fp f - 1) - 1))) := by
 rw [zdl.is]; unfold zdl.d; rw [ydX f h]; simp only [ybg f h, yc1 f h]
 have key : ∀ x : Nat, x < 2 ^ 128 → x ||| sg f neg = enc f neg (2 * fe f) (2 ^ (fp f - 1) - 1) → zdt f (Hi x) (Lo x) neg (fun y0 y1 => K y0 y1) = K (Hi (enc f neg (2 * fe f) (2 ^ (fp f - 1) - 1))) (Lo (enc f neg (2 * fe f) (2 ^ (fp f - 1) - 1))) := by
  intro x hx hq
  rw [ydH f x h hx neg, hq]
 have k2 := key ((2 * fe f) * 2 ^ (fp f - 1) + (2 ^ (fp f - 1) - 1)) (by rcases yh6 h with rfl | rfl | rfl | rfl <;> decide) (by rcases yh6 h with rfl | rfl | rfl | rfl <;> cases neg <;> decide)
 rw [← k2]
 clear key k2
 generalize hq : (zdt f : Int → Int → Bool → (Int → Int → Prop) → Prop) = sw
 clear hq
 rcases yh6 h with rfl | rfl | rfl | rfl <;> (refine Eq.trans ?_ rfl; kernel_rfl)
end Go.Ev.S

/- The document's answer on formats: an encoding of its fields, and its fields. -/
set_option linter.unusedVariables false
set_option linter.unusedSimpArgs false
set_option maxRecDepth 8000
namespace Go.Ev.S
open Go Go.Ev
theorem yke (f : Nat) (h : f ≤ 3) (K : Bool → Prop) : zcq f K = K true := by
 rw [zcq.is]; unfold zcq.d; rw [yba (by omega)]
theorem ykg (f : Nat) (h : 3 < f) (K : Bool → Prop) : zcq f K = K false := by
 rw [zcq.is]; unfold zcq.d; rw [yeK (by omega)]
theorem ygy (f : Nat) (h : f ≤ 3) (K : Int → Prop) : zcp f K = K (fp f) := by
 rw [zcp.is]
 rcases yh6 h with rfl | rfl | rfl | rfl <;> kernel_rfl
theorem ysK (f : Nat) (h : f ≤ 3) : 2 ^ (fw f - 1) = (2 * fe f + 2) * 2 ^ (fp f - 1) := by rcases yh6 h with rfl | rfl | rfl | rfl <;> decide
theorem yd2 (f : Nat) (h : f ≤ 3) : 1 ≤ fw f ∧ fw f ≤ 128 ∧ 2 ≤ fp f ∧ fp f ≤ 113 ∧ fp f < fw f ∧ 2 * fe f + 1 < 32768 := by rcases yh6 h with rfl | rfl | rfl | rfl <;> decide
theorem yoW {f e t : Nat} (h : f ≤ 3) (he : e ≤ 2 * fe f + 1) (ht : t < 2 ^ (fp f - 1)) : e * 2 ^ (fp f - 1) + t < 2 ^ (fw f - 1) := by
 rw [ysK f h]
 have : (e + 1) * 2 ^ (fp f - 1) ≤ (2 * fe f + 2) * 2 ^ (fp f - 1) := Nat.mul_le_mul_right _ (by omega)
 rw [Nat.add_mul, Nat.one_mul] at this
 omega
theorem ysI {f e t : Nat} (h : f ≤ 3) (he : e ≤ 2 * fe f + 1) (ht : t < 2 ^ (fp f - 1)) (neg : Bool) : enc f neg e t < 2 ^ fw f := by
 have h1 := yoW h he ht
 have h2 := (yd2 f h).1
 have h3 : 2 ^ fw f = 2 ^ (fw f - 1) + 2 ^ (fw f - 1) := by
  have : fw f = fw f - 1 + 1 := by omega
  conv => lhs; rw [this, Nat.pow_succ]
  omega
 unfold enc sg
 cases neg <;> simp <;> omega
theorem yts {a : Nat} (h : a ≤ 128) {x : Nat} (hx : x < 2 ^ a) : x < 2 ^ 128 := Nat.lt_of_lt_of_le hx (Nat.pow_le_pow_right (by omega) h)
end Go.Ev.S

/- Encodings, their fields and their signs: the abacus and the document's answer. -/
set_option linter.unusedVariables false
set_option linter.unusedSimpArgs false
set_option maxRecDepth 8000
namespace Go.Ev.S
open Go Go.Ev
def ng (f x : Nat) : Bool := x.testBit (fw f - 1)
def ex (f x : Nat) : Nat := x / 2 ^ (fp f - 1) % (2 * fe f + 2)
def fr (f x : Nat) : Nat := x % 2 ^ (fp f - 1)
theorem yte (f : Nat) (h : f ≤ 3) : yan .i64 (fw f : Int) 1 = ((fw f - 1 : Nat) : Int) := by rcases yh6 h with rfl | rfl | rfl | rfl <;> decide
theorem yrU (f : Nat) (h : f ≤ 3) : yan .i64 (fp f : Int) 1 = ((fp f - 1 : Nat) : Int) := by rcases yh6 h with rfl | rfl | rfl | rfl <;> decide
def cls (f x : Nat) : Int :=
 if ex f x = 2 * fe f + 1 then (if fr f x ≠ 0 then cond ((fr f x).testBit (fp f - 2)) 9 8 else cond (ng f x) 0 7)
 else if ex f x ≠ 0 then cond (ng f x) 1 6 else if fr f x ≠ 0 then cond (ng f x) 2 5 else cond (ng f x) 3 4
theorem yfh (x : Nat) (hx : x < Q6) : eqN 6 (W x) (fun _ => 0) = decide (x = 0) := by
 rw [Bool.eq_iff_iff, yjE, decide_eq_true_iff]
 constructor
 ·intro h
  obtain ⟨n, hn⟩ : ∃ n : Nat, n = 6 := ⟨6, rfl⟩
  refine yqv (n := n) (by rw [ycK (by omega)]; exact hx) (Nat.two_pow_pos _) fun i hi => ?_
  rw [hn] at hi
  have := h i hi
  rw [ya8] at this
  rw [ycs 0 i (Nat.two_pow_pos _)]; omega
 ·intro h i hi; subst h; rw [yhQ]
end Go.Ev.S

/- The plain law of ShapeMakes, and that of ShapeNumbers. -/
set_option linter.unusedVariables false
set_option linter.unusedSimpArgs false
set_option maxRecDepth 8000
namespace Go.Ev.S
open Go Go.Ev
theorem yrD {a : Int} (w : (Lit.int .u8 a).wf = true) : ∃ n : Nat, a = n ∧ n < 256 := by
 obtain ⟨h1, h2⟩ := yqE w
 exact ⟨a.toNat, by omega, by omega⟩
theorem yoM {a : Int} (w : (Lit.int .u64 a).wf = true) : ∃ n : Nat, a = n ∧ n < 18446744073709551616 := by
 obtain ⟨h1, h2⟩ := ypJ w
 exact ⟨a.toNat, by omega, by omega⟩
end Go.Ev.S

/- The law RoundOver. -/
set_option linter.unusedVariables false
set_option linter.unusedSimpArgs false
set_option maxRecDepth 8000
namespace Go.Ev.S
open Go Go.Ev
theorem yeX (m : Nat) (h : m ≤ 4) (K : Int → Prop) : zdi m K = K 0 := by
 rw [zdi.is]; unfold zdi.d; rw [yaw (ybe (by omega))]
theorem yce (f m : Nat) (h : f ≤ 3) (hm : m ≤ 4) (K : Bool → Prop) : zcx f m K = K true := by
 rw [zcx.is]; unfold zcx.d
 rw [ybg f h, yaD (by decide), yeX m hm]; rfl
def gr (m : Nat) (n : Bool) : Bool := m == 1 || (m == 2 && !n) || (m == 3 && n)
def ov (f m : Nat) (n : Bool) : Nat := cond (gr m n) (enc f n (2 * fe f) (2 ^ (fp f - 1) - 1)) (enc f n (2 * fe f + 1) 0)
theorem ysp {m : Nat} (h : m ≤ 4) : m = 0 ∨ m = 1 ∨ m = 2 ∨ m = 3 ∨ m = 4 := by omega
theorem yfD (f m : Nat) (n : Bool) (h : f ≤ 3) (hm : m ≤ 4) (K : Int → Int → Int → Int → Prop) (hK : K (Hi (ov f m n)) (Lo (ov f m n)) 5 0) : zct f m n K := by
 rw [zct.is]; unfold zct.d
 rw [yce f m h hm, yaw (show (!true) = false from rfl), yc7 f h, ydX f h]
 rcases ysp hm with rfl | rfl | rfl | rfl | rfl <;> cases n <;> exact hK
theorem yqU (K : (Nat → Int) → Bool → Prop) (hK : K (W 2048) false) : zcw 0 false (W 4095) 0 false 1 K := by
 have hq : ∀ v : Nat, v < 18446744073709551616 → v < Q6 := fun v hv => yp3 (a := 64) (by omega) hv
 rw [zcw.is]; unfold zcw.d
 have e1 : yan .i64 1 0 = 1 := by decide
 rw [e1, yaw (by decide), zal.is]; unfold zal.d
 have e2 : yiP (ycF 1 0) 385 = ((1 : Nat) : Int) := by decide
 rw [e2]
 refine ydw 4095 1 (hq _ (by omega)) (by omega) _ ?_
 rw [yaw (by decide), yaw (by decide), show yan .i64 ((1 : Nat) : Int) 1 = ((0 : Nat) : Int) from by decide, yeT _ _ (by omega), yaw (by decide)]
 refine ycT 0 (by omega) _ ?_
 refine ydp _ _ (hq _ (by omega)) _ ?_
 rw [show 4095 &&& (2 ^ 0 - 1) = 0 from by decide, yfh 0 (hq _ (by omega)), yaw (by decide)]
 show br false _ (zcv 0 false (eqI (yh5 .u64 (W (4095 / 2 ^ 1) 0) 1) 1) 0 (!decide (4095 % 2 ^ 1 ≠ 0)) fun y0_1 => br y0_1 (zeb 1 fun y0_2 => zdu (W (4095 / 2 ^ 1)) y0_2 fun y0 y1 => K y0 (!decide (4095 % 2 ^ 1 ≠ 0))) (K (W (4095 / 2 ^ 1)) (!decide (4095 % 2 ^ 1 ≠ 0))))
 rw [yaw rfl]
 have e3 : eqI (yh5 .u64 (W (4095 / 2 ^ 1) 0) 1) 1 = true := by decide
 have e4 : (!decide (4095 % 2 ^ 1 ≠ 0)) = false := by decide
 rw [e3, e4, show ∀ K', zcv 0 false true 0 false K' = K' true from fun K' => by rw [zcv.is]; rfl]
 show br true (zeb 1 fun y0_2 => zdu (W (4095 / 2 ^ 1)) y0_2 fun y0 y1 => K y0 false) (K (W (4095 / 2 ^ 1)) false)
 rw [yaD rfl, show (1 : Int) = ((1 : Nat) : Int) from rfl, ydb 1 (by omega)]
 refine ydn _ _ (hq _ (by omega)) (hq _ (by omega)) _ ?_
 rw [show 4095 / 2 ^ 1 + 1 = 2048 from by decide, Nat.mod_eq_of_lt (hq _ (by omega))]
 exact hK
theorem yqf (K : Int → Int → Int → Int → Prop) (hK : K 0 27648 1 0) : zcu 2 0 false (upd (fun _ => 0) 0 4095) 0 false K := by
 have hq : ∀ v : Nat, v < 18446744073709551616 → v < Q6 := fun v hv => yp3 (a := 64) (by omega) hv
 have w : upd (fun _ => 0) 0 4095 = W 4095 := yrY 4095 (by omega)
 have h2 : (2 : Int) = ((2 : Nat) : Int) := rfl
 rw [w, zcu.is]; unfold zcu.d
 rw [show zdn (2 : Int) = zdn ((2 : Nat) : Int) from rfl, yaC 2 (by omega), show zcx (2 : Int) 0 = zcx ((2 : Nat) : Int) ((0 : Nat) : Int) from rfl, yce 2 0 (by omega) (by omega)]
 rw [yaw (show (!true) = false from rfl), yaw (by decide), yaw (by decide), yaw rfl, yfh 4095 (hq _ (by omega)), yaw (by decide)]
 refine ybo 4095 (hq _ (by omega)) _ ?_
 have b1 : yav 4095 = 12 := by decide
 rw [b1, show zdk (2 : Int) = zdk ((2 : Nat) : Int) from rfl, ya3 2 (by omega), show zdj (2 : Int) = zdj ((2 : Nat) : Int) from rfl, ya6 2 (by omega), yaw (by decide)]
 have e1 : yai IntKind.i64 (yan IntKind.i64 (ycF (yai IntKind.i64 (yan IntKind.i64 ((12 : Nat) : Int) 1) 0) (1 - (fe 2 : Int))) (fp 2 : Int)) 1 = 1 := by decide
 rw [e1]
 refine yqU _ ?_
 refine ybo 2048 (hq _ (by omega)) _ ?_
 have b2 : yav 2048 = 12 := by decide
 rw [b2, ya6 2 (by omega), yaw (by decide), yaD (show (!false) = true from rfl), zcy.is]; unfold zcy.d
 rw [show zdk (2 : Int) = zdk ((2 : Nat) : Int) from rfl, ya3 2 (by omega), show zdn (2 : Int) = zdn ((2 : Nat) : Int) from rfl, yaC 2 (by omega), yaD (by decide)]
 have e5 : ltI (yai IntKind.i64 (yan IntKind.i64 ((12 : Nat) : Int) 1) 0) (1 - (fe 2 : Int)) = false := by decide
 rw [e5]
 show br false _ (zeb (cvI IntKind.u64 (yan IntKind.i64 (yai IntKind.i64 (yan IntKind.i64 1 (1 - (fe 2 : Int))) (fp 2 : Int)) 1)) fun y0_9 => zdx y0_9 (yan IntKind.i64 (fp 2 : Int) 1) fun y0 y1 => zdu y0 (W 2048) fun y0 y1 => zee y0 fun y0 y1 y2 => zdp 2 false fun y0_10 y1_1 => K (orI IntKind.u64 y0 y0_10) (orI IntKind.u64 y1 y1_1) 1 0)
 rw [yaw rfl]
 have e2 : cvI IntKind.u64 (yan IntKind.i64 (yai IntKind.i64 (yan IntKind.i64 1 (1 - (fe 2 : Int))) (fp 2 : Int)) 1) = ((25 : Nat) : Int) := by decide
 rw [e2, ydb 25 (by omega), show yan .i64 (fp 2 : Int) 1 = ((10 : Nat) : Int) from by decide]
 refine ycu 25 10 (hq _ (by omega)) (by omega) _ fun b => ?_
 rw [show 25 * 2 ^ 10 = 25600 from by decide, Nat.mod_eq_of_lt (hq _ (by omega))]
 refine ydn _ _ (hq _ (by omega)) (hq _ (by omega)) _ ?_
 rw [show 25600 + 2048 = 27648 from by decide, Nat.mod_eq_of_lt (hq _ (by omega)), ycf _ (by decide), show zdp (2 : Int) = zdp ((2 : Nat) : Int) from rfl, ydr 2 (by omega)]
 have e3 : orI .u64 (Hi 27648) (Hi (enc 2 false 0 0)) = 0 := by decide
 have e4 : orI .u64 (Lo 27648) (Lo (enc 2 false 0 0)) = 27648 := by decide
 rw [e3, e4]
 exact hK
theorem yqX (K : Int → Int → Int → Int → Prop) (hK : K 0 0 0 2) : zcu 2 3 false (upd (fun _ => 0) 0 4095) 0 true K := by
 have hq : ∀ v : Nat, v < 18446744073709551616 → v < Q6 := fun v hv => yp3 (a := 64) (by omega) hv
 have w : upd (fun _ => 0) 0 4095 = W 4095 := yrY 4095 (by omega)
 rw [w, zcu.is]; unfold zcu.d
 rw [show zdn (2 : Int) = zdn ((2 : Nat) : Int) from rfl, yaC 2 (by omega), show zcx (2 : Int) 3 = zcx ((2 : Nat) : Int) ((3 : Nat) : Int) from rfl, yce 2 3 (by omega) (by omega)]
 rw [yaw (show (!true) = false from rfl), yaw (by decide), yaw (by decide), yaD rfl]
 refine ybo 4095 (hq _ (by omega)) _ ?_
 have b1 : yav 4095 = 12 := by decide
 rw [b1, yaD (by decide)]
 exact hK
theorem yim (K : Bool → Prop) (hK : K true) : zap K := by
 rw [zap.is]; unfold zap.d
 refine yqf _ ?_
 refine yqX _ ?_
 exact hK
end Go.Ev.S

/- Digits of natural numbers, as rows have them; texts of bytes as numbers. -/
set_option linter.unusedVariables false
set_option linter.unusedSimpArgs false
namespace Go.Ev.S
open Go Go.Ev
def dg (k x i : Nat) : Nat := x / 2 ^ (k * i) % 2 ^ k
def G (k x : Nat) : Nat → Int := fun i => ((dg k x i : Nat) : Int)
theorem ybr (k x i : Nat) : G k x i = ((dg k x i : Nat) : Int) := rfl
theorem yb4 (k i : Nat) : 2 ^ (k * (i + 1)) = 2 ^ (k * i) * 2 ^ k := by rw [show k * (i + 1) = k * i + k from by rw [Nat.mul_add, Nat.mul_one], Nat.pow_add]
theorem ya0 (k x i : Nat) : dg k x i < 2 ^ k := Nat.mod_lt _ (Nat.two_pow_pos k)
theorem yea (k x i : Nat) (h : x < 2 ^ (k * i)) : dg k x i = 0 := by unfold dg; rw [Nat.div_eq_of_lt h, Nat.zero_mod]
theorem yb1 {k i j : Nat} (h : i ≤ j) : 2 ^ (k * i) ≤ 2 ^ (k * j) := Nat.pow_le_pow_right (by omega) (Nat.mul_le_mul_left k h)
theorem yeL (k x n i : Nat) (h : x < 2 ^ (k * n)) (hi : n ≤ i) : dg k x i = 0 := yea k x i (Nat.lt_of_lt_of_le h (yb1 hi))
theorem yb7 (k : Nat) : G k 0 = fun _ => 0 := by
 funext i
 rw [ybr, yea k 0 i (Nat.two_pow_pos _)]; rfl
theorem ybd (k x i : Nat) : x % 2 ^ (k * (i + 1)) = x % 2 ^ (k * i) + dg k x i * 2 ^ (k * i) := by
 unfold dg
 rw [yb4, Nat.mod_mul, Nat.mul_comm (2 ^ (k * i))]
theorem ydc (k x i : Nat) : x / 2 ^ (k * i) = dg k x i + x / 2 ^ (k * (i + 1)) * 2 ^ k := by
 unfold dg
 rw [yb4, ← Nat.div_div_eq_div_mul]
 have := Nat.div_add_mod (x / 2 ^ (k * i)) (2 ^ k)
 rw [Nat.mul_comm] at this
 omega
theorem yne (k x i j : Nat) : dg k (x / 2 ^ (k * i)) j = dg k x (i + j) := by
 unfold dg
 rw [Nat.div_div_eq_div_mul, ← Nat.pow_add, Nat.mul_add]
theorem yoL (k x i j : Nat) (h : j < i) : dg k (x % 2 ^ (k * i)) j = dg k x j := by
 unfold dg
 have h1 : 2 ^ (k * i) = 2 ^ (k * j) * (2 ^ k * 2 ^ (k * (i - j - 1))) := by
  rw [← Nat.pow_add, ← Nat.pow_add]; congr 1
  have : i = j + (1 + (i - j - 1)) := by omega
  conv => lhs; rw [this]
  rw [Nat.mul_add, Nat.mul_add, Nat.mul_one]
 rw [h1, Nat.mod_mul_right_div_self, Nat.mod_mul_right_mod]
theorem ysk (k x : Nat) (h : x < 2 ^ k) : dg k x 0 = x := by unfold dg; rw [Nat.mul_zero, Nat.pow_zero, Nat.div_one, Nat.mod_eq_of_lt h]
theorem yoV (k z w i j : Nat) (hz : z < 2 ^ (k * i)) (hw : w < 2 ^ k) : dg k (z + w * 2 ^ (k * i)) j = if j = i then w else dg k z j := by
 have hP := Nat.two_pow_pos (k * i)
 by_cases hj : j = i
 ·subst hj
  rw [if_pos rfl]
  unfold dg
  rw [Nat.add_mul_div_right _ _ hP, Nat.div_eq_of_lt hz, Nat.zero_add, Nat.mod_eq_of_lt hw]
 ·rw [if_neg hj]
  by_cases hlt : j < i
  ·have h1 := yoL k (z + w * 2 ^ (k * i)) i j hlt
   rw [Nat.add_mul_mod_self_right, Nat.mod_eq_of_lt hz] at h1
   exact h1.symm
  ·rw [yeL k z i j hz (by omega), yea]
   have h1 : z + w * 2 ^ (k * i) < 2 ^ (k * (i + 1)) := by
    rw [yb4, Nat.mul_comm (2 ^ (k * i))]
    have : (w + 1) * 2 ^ (k * i) ≤ 2 ^ k * 2 ^ (k * i) := Nat.mul_le_mul_right _ hw
    rw [Nat.add_mul, Nat.one_mul] at this
    omega
   exact Nat.lt_of_lt_of_le h1 (yb1 (by omega))
theorem yf8 (k z w i : Nat) (hz : z < 2 ^ (k * i)) (hw : w < 2 ^ k) : z + w * 2 ^ (k * i) < 2 ^ (k * (i + 1)) := by
 rw [yb4, Nat.mul_comm (2 ^ (k * i))]
 have : (w + 1) * 2 ^ (k * i) ≤ 2 ^ k * 2 ^ (k * i) := Nat.mul_le_mul_right _ hw
 rw [Nat.add_mul, Nat.one_mul] at this
 omega
theorem yhZ (k z w i : Nat) (hz : z < 2 ^ (k * i)) (hw : w < 2 ^ k) : upd (G k z) i (w : Int) = G k (z + w * 2 ^ (k * i)) := by
 funext j
 rw [ybr, yoV k z w i j hz hw]
 by_cases hj : j = i
 ·subst hj; rw [ybP, if_pos rfl]
 ·rw [ycP _ _ _ _ hj, if_neg hj, ybr]
theorem ygD (k x i : Nat) : x = x % 2 ^ (k * i) + dg k x i * 2 ^ (k * i) + x / 2 ^ (k * (i + 1)) * 2 ^ (k * (i + 1)) := by
 have h1 := Nat.div_add_mod x (2 ^ (k * (i + 1)))
 rw [ybd, Nat.mul_comm] at h1
 omega
theorem ysf (k x w i j : Nat) (hw : w < 2 ^ k) : dg k (x % 2 ^ (k * i) + w * 2 ^ (k * i) + x / 2 ^ (k * (i + 1)) * 2 ^ (k * (i + 1))) j = if j = i then w else dg k x j := by
 have hP := Nat.two_pow_pos (k * i)
 have hr : x % 2 ^ (k * i) < 2 ^ (k * i) := Nat.mod_lt _ hP
 have hl := yf8 k _ w i hr hw
 by_cases hj : j ≤ i
 ·have h1 := yoL k (x % 2 ^ (k * i) + w * 2 ^ (k * i) + x / 2 ^ (k * (i + 1)) * 2 ^ (k * (i + 1))) (i + 1) j (by omega)
  rw [Nat.add_mul_mod_self_right, Nat.mod_eq_of_lt hl, yoV k _ w i j hr hw] at h1
  rw [← h1]
  by_cases he : j = i
  ·simp [he]
  ·rw [if_neg he, if_neg he, yoL k x i j (by omega)]
 ·rw [if_neg (by omega)]
  have h1 := yne k (x % 2 ^ (k * i) + w * 2 ^ (k * i) + x / 2 ^ (k * (i + 1)) * 2 ^ (k * (i + 1))) (i + 1) (j - (i + 1))
  rw [show i + 1 + (j - (i + 1)) = j from by omega, Nat.add_mul_div_right _ _ (Nat.two_pow_pos _), Nat.div_eq_of_lt hl, Nat.zero_add] at h1
  rw [← h1, yne, show i + 1 + (j - (i + 1)) = j from by omega]
theorem yru (k x w i : Nat) (hw : w < 2 ^ k) : upd (G k x) i (w : Int) = G k (x % 2 ^ (k * i) + w * 2 ^ (k * i) + x / 2 ^ (k * (i + 1)) * 2 ^ (k * (i + 1))) := by
 funext j
 rw [ybr, ysf k x w i j hw]
 by_cases hj : j = i
 ·subst hj; rw [ybP, if_pos rfl]
 ·rw [ycP _ _ _ _ hj, if_neg hj, ybr]
def val (a : List UInt8) : Nat := a.foldl (fun v b => v * 256 + b.toNat) 0
theorem ykq (a : List UInt8) : ∀ (v : Nat), a.foldl (fun v b => v * 256 + b.toNat) v = v * 256 ^ a.length + val a := by
 induction a with
 | nil => intro v; simp [val]
 | cons b l ih =>
  intro v
  simp only [List.foldl_cons, List.length_cons, val]
  rw [ih, ih (0 * 256 + b.toNat), Nat.pow_succ]
  rw [Nat.add_mul, Nat.add_mul, Nat.mul_assoc, Nat.mul_comm 256]
  omega
theorem yhf : val [] = 0 := rfl
theorem ygP (b : UInt8) (l : List UInt8) : val (b :: l) = b.toNat * 256 ^ l.length + val l := by
 show (b :: l).foldl _ 0 = _
 rw [List.foldl_cons, ykq, Nat.zero_mul, Nat.zero_add]
theorem yno (a b : List UInt8) : val (a ++ b) = val a * 256 ^ b.length + val b := by
 show (a ++ b).foldl _ 0 = _
 rw [List.foldl_append, ykq]
 rfl
theorem ymO (a : List UInt8) (b : UInt8) : val (a ++ [b]) = val a * 256 + b.toNat := by
 rw [yno]; simp [val]
theorem yoZ (b : UInt8) : b.toNat < 256 := b.toNat_lt
theorem yg9 (a : List UInt8) : val a < 256 ^ a.length := by
 induction a with
 | nil => simp [val]
 | cons b l ih =>
  rw [ygP, List.length_cons, Nat.pow_succ]
  have := yoZ b
  have : (b.toNat + 1) * 256 ^ l.length ≤ 256 * 256 ^ l.length := Nat.mul_le_mul_right _ (by omega)
  rw [Nat.add_mul] at this
  omega
theorem ymN (n : Nat) : 256 ^ n = 2 ^ (8 * n) := by rw [Nat.pow_mul]
def nb (x : Nat) : List UInt8 := if h : x = 0 then [] else nb (x / 256) ++ [UInt8.ofNat (x % 256)]
decreasing_by omega
theorem yaZ : nb 0 = [] := by rw [nb]; simp
theorem yfb {x : Nat} (h : x ≠ 0) : nb x = nb (x / 256) ++ [UInt8.ofNat (x % 256)] := by rw [nb]; simp [h]
theorem ymy {n : Nat} (h : n < 256) : (UInt8.ofNat n).toNat = n := by
 rw [UInt8.toNat_ofNat']
 exact Nat.mod_eq_of_lt h
theorem yaK (x : Nat) : val (nb x) = x := by
 induction x using Nat.strongRecOn with
 | _ x ih =>
  by_cases h : x = 0
  ·subst h; rw [yaZ]; rfl
  ·rw [yfb h, ymO, ih (x / 256) (by omega), ymy (Nat.mod_lt _ (by omega))]
   omega
def yiS (a : List UInt8) : Bool := match a with | [] => true | b :: _ => !(b.toNat == 0)
theorem yg0 {a b : List UInt8} (h : a ≠ []) : yiS (a ++ b) = yiS a := by cases a <;> simp_all [yiS]
theorem ylZ (x : Nat) : yiS (nb x) = true := by
 induction x using Nat.strongRecOn with
 | _ x ih =>
  by_cases h : x = 0
  ·subst h; rw [yaZ]; rfl
  ·rw [yfb h]
   by_cases h2 : x / 256 = 0
   ·rw [h2, yaZ]
    have : x % 256 ≠ 0 := by omega
    have h3 := ymy (Nat.mod_lt x (show 0 < 256 by omega))
    simp only [List.nil_append, yiS, h3]
    simpa using this
   ·have hne : nb (x / 256) ≠ [] := by rw [yfb h2]; simp
    rw [yg0 hne]
    exact ih _ (by omega)
theorem yiY {a : List UInt8} (h : yiS a = true) : nb (val a) = a := by
 induction hn : a.length generalizing a with
 | zero => have := List.length_eq_zero_iff.1 hn; subst this; exact yaZ
 | succ n ih =>
  have hne : a ≠ [] := by intro e; subst e; simp at hn
  have h1 := List.dropLast_concat_getLast hne
  generalize a.dropLast = c at h1
  generalize a.getLast hne = b at h1
  subst h1
  have hlen : c.length = n := by simpa using hn
  have hb := yoZ b
  rw [ymO]
  by_cases hc : c = []
  ·subst hc
   have : b.toNat ≠ 0 := by simpa [yiS] using h
   rw [yhf, Nat.zero_mul, Nat.zero_add, yfb this, Nat.div_eq_of_lt hb, yaZ, Nat.mod_eq_of_lt hb]
   simp
  ·rw [yg0 hc] at h
   have ihc := ih h hlen
   have hv : val c ≠ 0 := by
    intro e
    rw [e, yaZ] at ihc
    exact hc ihc.symm
   rw [yfb (by omega), show (val c * 256 + b.toNat) / 256 = val c from by omega, show (val c * 256 + b.toNat) % 256 = b.toNat from by omega, ihc]
   simp
theorem ysD {x y : Nat} (h : nb x = nb y) : x = y := by rw [← yaK x, h, yaK]
theorem yso {a b : List UInt8} (ha : yiS a = true) (hb : yiS b = true) (h : val a = val b) : a = b := by rw [← yiY ha, h, yiY hb]
theorem ybs (x n : Nat) : (nb x).length ≤ n ↔ x < 256 ^ n := by
 induction n generalizing x with
 | zero =>
  constructor
  ·intro h
   have : nb x = [] := List.length_eq_zero_iff.1 (by omega)
   have h2 := yaK x
   rw [this] at h2
   simp [val] at h2 ⊢; omega
  ·intro h
   have : x = 0 := by simp at h; omega
   subst this; rw [yaZ]; simp
 | succ n ih =>
  by_cases h : x = 0
  ·subst h; rw [yaZ]; simp [Nat.pow_pos]
  ·rw [yfb h, List.length_append, List.length_singleton, Nat.pow_succ]
   have := ih (x / 256)
   rw [Nat.div_lt_iff_lt_mul (by omega)] at this
   omega
theorem yli {x : Nat} (h : x ≠ 0) : nb x ≠ [] := by rw [yfb h]; simp
theorem yna (a : List UInt8) : ∀ (i : Nat), i < a.length → ((a[a.length - 1 - i]?).getD 0).toNat = dg 8 (val a) i := by
 induction a with
 | nil => intro i hi; simp at hi
 | cons b l ih =>
  intro i hi
  rw [List.length_cons] at hi ⊢
  have hl := yg9 l
  rw [ymN] at hl
  rw [ygP, ymN, Nat.add_comm (b.toNat * _)]
  have h2 := yoV 8 (val l) b.toNat l.length i hl (by have := yoZ b; simpa using this)
  rw [h2]
  by_cases he : i = l.length
  ·subst he
   rw [if_pos rfl, show l.length + 1 - 1 - l.length = 0 from by omega]
   rfl
  ·rw [if_neg he, show l.length + 1 - 1 - i = (l.length - 1 - i) + 1 from by omega, List.getElem?_cons_succ]
   exact ih i (by omega)
end Go.Ev.S

/- Rows of digits: a digit set, carried, cut; bytes the highest first. Whole numbers of the machine, plainly. -/
set_option linter.unusedVariables false
set_option linter.unusedSimpArgs false
namespace Go.Ev.S
open Go Go.Ev
theorem yaE (p : Prop) : gd true p = p := rfl
theorem ya5 (p q : Prop) : br true p q = p := rfl
theorem yeg (p q : Prop) : br false p q = q := rfl
theorem ybI {a b : Int} (h : 0 ≤ a) (h2 : a < 9223372036854775808) (hb : 0 < b) : yaI .i64 a b = a / b := by
 show IntKind.wrap .i64 (a.tdiv b) = _
 rw [Int.tdiv_eq_ediv_of_nonneg h]
 have h1 : 0 ≤ a / b := Int.ediv_nonneg h (by omega)
 have h3 : a / b ≤ a := Int.ediv_le_self _ h
 exact yd9 (by omega) (by omega)
theorem yfP {k : IntKind} {a b : Int} (h : 0 ≤ a) : ycm k a b = a % b := Int.tmod_eq_emod_of_nonneg h
theorem ycn (n : Int) : cvI .u32 n = n % 4294967296 := ymZ n
theorem ygo (n : Int) : cvI .u8 n = n % 256 := ypc n
theorem yd4 {k : IntKind} {a : Int} {j : Nat} (h : j ≤ k.bits) : ya1 k a (j : Int) = a / 2 ^ j := by
 have h1 : min (Int.toNat (j : Int)) k.bits = j := by rw [Int.toNat_natCast]; omega
 simp only [ya1, h1]
 exact Int.fdiv_eq_ediv_of_nonneg _ (Int.le_of_lt (Int.pow_pos (by omega)))
theorem yc8 (a : Int) : ya1 .u64 a 32 = a / 4294967296 := yd4 (k := .u64) (j := 32) (by decide)
theorem yop (a : Int) : ya1 .i64 a 32 = a / 4294967296 := yd4 (k := .i64) (j := 32) (by decide)
theorem yho (a : Int) : ya1 .i64 a 8 = a / 256 := yd4 (k := .i64) (j := 8) (by decide)
theorem ypv {a b : Int} (h : 0 ≤ a * b) (h2 : a * b < 18446744073709551616) : ycj .u64 a b = a * b := yh0 h h2
theorem yg4 {k N N' w j : Nat} (h : N' + dg k N j * 2 ^ (k * j) = N + w * 2 ^ (k * j)) (hw : w < 2 ^ k) : upd (G k N) j (w : Int) = G k N' := by
 rw [yru k N w j hw]
 congr 1
 have := ygD k N j
 omega
theorem yrW (g : Nat → Int) (i : Nat) (v w : Int) (h : v = w) : upd g i v = upd g i w := by rw [h]
def wl (k x : Nat) : Nat := if h : x = 0 ∨ k = 0 then 0 else wl k (x / 2 ^ k) + 1
termination_by x
decreasing_by
 have hk : 1 < 2 ^ k := Nat.one_lt_two_pow (by omega)
 exact Nat.div_lt_self (by omega) hk
theorem ydu (k : Nat) : wl k 0 = 0 := by rw [wl]; simp
theorem yja {k x : Nat} (hx : x ≠ 0) (hk : k ≠ 0) : wl k x = wl k (x / 2 ^ k) + 1 := by rw [wl]; simp [hx, hk]
theorem yeD (k : Nat) (hk : k ≠ 0) (x : Nat) : x < 2 ^ (k * wl k x) := by
 induction x using Nat.strongRecOn with
 | _ x ih =>
  by_cases h : x = 0
  ·subst h; exact Nat.two_pow_pos _
  ·rw [yja h hk, yb4]
   have := ih (x / 2 ^ k) (Nat.div_lt_self (by omega) (Nat.one_lt_two_pow hk))
   exact (Nat.div_lt_iff_lt_mul (Nat.two_pow_pos k)).1 this
theorem yet (k : Nat) (hk : k ≠ 0) (x n : Nat) : wl k x ≤ n ↔ x < 2 ^ (k * n) := by
 constructor
 ·intro h; exact Nat.lt_of_lt_of_le (yeD k hk x) (yb1 h)
 ·induction n generalizing x with
  | zero =>
   intro h
   have : x = 0 := by simp at h; omega
   subst this; rw [ydu]; omega
  | succ n ih =>
   intro h
   by_cases hx : x = 0
   ·subst hx; rw [ydu]; omega
   ·rw [yja hx hk]
    have := ih (x / 2 ^ k) (by rw [Nat.div_lt_iff_lt_mul (Nat.two_pow_pos k), ← yb4]; exact h)
    omega
theorem ymP (k : Nat) (hk : k ≠ 0) (x : Nat) (h : x ≠ 0) : dg k x (wl k x - 1) ≠ 0 := by
 intro he
 have h1 := yeD k hk x
 have hp : wl k x ≠ 0 := by rw [yja h hk]; omega
 have h2 := ybd k x (wl k x - 1)
 rw [show wl k x - 1 + 1 = wl k x from by omega, Nat.mod_eq_of_lt h1, he, Nat.zero_mul, Nat.add_zero] at h2
 have h3 : x < 2 ^ (k * (wl k x - 1)) := by
  have := Nat.mod_lt x (Nat.two_pow_pos (k * (wl k x - 1)))
  omega
 have := (yet k hk x _).2 h3
 omega
theorem ytA (k : Nat) (hk : k ≠ 0) (x n : Nat) (h : x < 2 ^ (k * n)) (ht : n = 0 ∨ dg k x (n - 1) ≠ 0) : wl k x = n := by
 have h1 := (yet k hk x n).2 h
 rcases ht with rfl | ht
 ·omega
 ·apply Classical.byContradiction
  intro hne
  exact ht (yea k x (n - 1) ((yet k hk x (n - 1)).1 (by omega)))
theorem ytv (x : Nat) : wl 8 x = (nb x).length := by
 have h1 := (yet 8 (by omega) x (nb x).length).2 (by rw [← ymN]; exact (ybs x _).1 (Nat.le_refl _))
 have h2 := (ybs x (wl 8 x)).2 (by rw [ymN]; exact yeD 8 (by omega) x)
 omega
theorem ybZ {k x y : Nat} (hk : k ≠ 0) (h : x ≤ y) : wl k x ≤ wl k y := (yet k hk x _).2 (Nat.lt_of_le_of_lt h (yeD k hk y))
theorem yqV : ∀ (n x : Nat) (g : Nat → Int), (∀ j, j < n → g j = (dg 8 x (n - 1 - j) : Int)) → x < 2 ^ (8 * n) → (n = 0 ∨ dg 8 x (n - 1) ≠ 0) → ybD n g = nb x := by
 intro n
 induction n with
 | zero =>
  intro x g _ hx _
  have : x = 0 := by simp at hx; omega
  subst this; rw [yaZ]; rfl
 | succ n ih =>
  intro x g hg hx ht
  have hx0 : x ≠ 0 := by
   intro e; subst e
   rcases ht with h | h
   ·omega
   ·exact h (yea 8 0 _ (Nat.two_pow_pos _))
  have e8 : (2 : Nat) ^ 8 = 256 := rfl
  have hd : ∀ j, dg 8 (x / 256) j = dg 8 x (1 + j) := fun j => by
   have := yne 8 x 1 j
   rwa [show 2 ^ (8 * 1) = 256 from rfl] at this
  have h1 : ybD n g = nb (x / 256) := by
   refine ih (x / 256) g (fun j hj => ?_) ?_ ?_
   ·rw [hg j (by omega), hd]; congr 2; omega
   ·rw [Nat.div_lt_iff_lt_mul (by omega)]; rw [yb4, e8] at hx; exact hx
   ·rcases Nat.eq_zero_or_pos n with h | h
    ·exact .inl h
    ·right
     rw [hd, show 1 + (n - 1) = n + 1 - 1 from by omega]
     exact ht.resolve_left (by omega)
  have h2 : ybD (n + 1) g = ybD n g ++ [UInt8.ofNat (g n).toNat] := by
   unfold ybD
   rw [List.range_succ, List.map_append]; rfl
  rw [h2, h1, yfb hx0, hg n (by omega), Int.toNat_natCast, show n + 1 - 1 - n = 0 from by omega]
  congr 2
  unfold dg
  rw [Nat.mul_zero, Nat.pow_zero, Nat.div_one]
theorem ymd (n o : Nat) (g : Nat → Int) : ybD n (shift o g) = ybD n (fun j => g (o + j)) := by
 unfold ybD
 refine List.map_congr_left fun i _ => ?_
 rw [ycc]
def BE (L i x : Nat) : Nat → Int := fun j => if L - i ≤ j ∧ j < L then (dg 8 x (L - 1 - j) : Int) else 0
theorem yp0 (L x : Nat) : BE L 0 x = fun _ => 0 := by
 funext j; unfold BE; rw [if_neg (by omega)]
theorem ypu (L i x : Nat) (hi : i < L) : upd (BE L i x) (L - 1 - i) (dg 8 x i : Int) = BE L (i + 1) x := by
 funext j
 by_cases hj : j = L - 1 - i
 ·subst hj
  rw [ybP]; unfold BE
  rw [if_pos (by omega), show L - 1 - (L - 1 - i) = i from by omega]
 ·rw [ycP _ _ _ _ hj]; unfold BE
  by_cases h : L - i ≤ j ∧ j < L
  ·rw [if_pos h, if_pos (by omega)]
  ·rw [if_neg h, if_neg (by omega)]
theorem ysR (L x j : Nat) (hj : j < L) : BE L L x j = (dg 8 x (L - 1 - j) : Int) := by unfold BE; rw [if_pos (by omega)]
theorem ymL (L o n x : Nat) (ho : o + n = L) (hx : x < 2 ^ (8 * n)) (ht : n = 0 ∨ dg 8 x (n - 1) ≠ 0) : ybD n (fun j => BE L L x (o + j)) = nb x := by
 refine yqV n x _ (fun j hj => ?_) hx ht
 rw [ysR L x _ (by omega)]; congr 2; omega
end Go.Ev.S

/- Natural numbers as rows of words: made of texts, told as texts, cut, held against each other. -/
set_option linter.unusedVariables false
set_option linter.unusedSimpArgs false
set_option maxRecDepth 8000
namespace Go.Ev.S
open Go Go.Ev
theorem yrG {k : IntKind} (hk : k.signed = false) (a b : Nat) (ha : a < 2 ^ k.bits) (hb : b < 2 ^ k.bits) : orI k a b = ((a ||| b : Nat) : Int) := by
 have h3 : a ||| b < 2 ^ k.bits := Nat.or_lt_two_pow ha hb
 show IntKind.wrap k (((BitVec.ofInt k.bits (a : Int) ||| BitVec.ofInt k.bits (b : Int) : BitVec k.bits).toNat : Nat) : Int) = _
 rw [BitVec.toNat_or, BitVec.ofInt_natCast, BitVec.ofInt_natCast, BitVec.toNat_ofNat, BitVec.toNat_ofNat, Nat.mod_eq_of_lt ha, Nat.mod_eq_of_lt hb]
 simp only [IntKind.wrap, hk]
 have : ((a ||| b : Nat) : Int) % 2 ^ k.bits = ((a ||| b : Nat) : Int) := by
  refine Int.emod_eq_of_lt (by omega) ?_
  have e : ((2 ^ k.bits : Nat) : Int) = (2 : Int) ^ k.bits := by simp
  rw [← e]; omega
 simpa using this
theorem yn3 {k : IntKind} (hk : k.signed = false) (a s : Nat) (hs : s ≤ k.bits) : ybM k a s = ((a * 2 ^ s % 2 ^ k.bits : Nat) : Int) := by
 have h1 : min (Int.toNat (s : Int)) k.bits = s := by rw [Int.toNat_natCast]; omega
 simp only [ybM, h1, IntKind.wrap, hk]
 simp
theorem yqF (d b s : Nat) (hd : d < 2 ^ s) (hs : s + 8 ≤ 32) (hb : b < 256) : orI .u32 (d : Int) (ybM .u32 (b : Int) (s : Int)) = ((d + b * 2 ^ s : Nat) : Int) := by
 have hP := Nat.two_pow_pos s
 have e32 : (2 : Nat) ^ 32 = 4294967296 := rfl
 have h1 : b * 2 ^ s + 2 ^ s ≤ 2 ^ 32 := by
  have h2 : (b + 1) * 2 ^ s ≤ 256 * 2 ^ s := Nat.mul_le_mul_right _ (by omega)
  have h3 : 256 * 2 ^ s ≤ 2 ^ 32 := by
   rw [show (256 : Nat) = 2 ^ 8 from rfl, ← Nat.pow_add]; exact Nat.pow_le_pow_right (by omega) (by omega)
  rw [Nat.add_mul] at h2; omega
 rw [yn3 (k := .u32) rfl b s (by simp [IntKind.bits]; omega)]
 have hb32 : IntKind.bits .u32 = 32 := rfl
 rw [hb32, Nat.mod_eq_of_lt (by omega), yrG (k := .u32) rfl _ _ (by rw [hb32]; omega) (by rw [hb32]; omega)]
 congr 1
 have := Nat.shiftLeft_add_eq_or_of_lt hd b
 rw [Nat.shiftLeft_eq] at this
 rw [Nat.or_comm, ← this]; omega
theorem yfa (a : List UInt8) (i : Nat) (hi : i < a.length) : ybm a (a.length - 1 - i) = (dg 8 (val a) i : Int) := by
 unfold ybm
 rw [yna a i hi]
def May (a : List UInt8) : Prop := a.length ≤ 16384 ∧ yiS a = true
instance (a : List UInt8) : Decidable (May a) := inferInstanceAs (Decidable (_ ∧ _))
theorem ybn (a : List UInt8) : eqS a [] = decide (a = []) := by cases a <;> simp [eqS]
theorem ydB (b : UInt8) (l : List UInt8) : ybm (b :: l) 0 = (b.toNat : Int) := rfl
theorem yaY (a : List UInt8) (K : Int → Prop) : zar a K = K (if May a then 0 else 2) := by
 rw [zar.is]; unfold zar.d
 by_cases h : a.length ≤ 16384
 ·rw [yaw (ybe (by omega)), ybn]
  cases a with
  | nil => rw [yaw (by simp), if_pos ⟨by simp, rfl⟩]
  | cons b l =>
   have hl : (0 : Int) < ((b :: l).length : Int) := by simp only [List.length_cons]; omega
   rw [yaD (by simp), yby (ya9 hl), ydB]
   by_cases hb : b.toNat = 0
   ·rw [yaD (yj7 (by omega)), if_neg]
    intro hm; have := hm.2; simp [yiS, hb] at this
   ·rw [yaw (ygQ (by omega)), if_pos ⟨h, by simpa [yiS] using hb⟩]
 ·rw [yaD (ya9 (by omega)), if_neg fun hm => h hm.1]
theorem yku (k x q s : Nat) (h : x < 2 ^ (k * q + s)) : dg k x q < 2 ^ s := by
 unfold dg
 refine Nat.lt_of_le_of_lt (Nat.mod_le _ _) ?_
 rw [Nat.div_lt_iff_lt_mul (Nat.two_pow_pos _), ← Nat.pow_add, Nat.add_comm s]
 exact h
theorem yia (a : List UInt8) (hL : a.length ≤ 1000000) (n : Nat) (hn : n = (a.length + 3) / 4) (c m : Nat) (k0 : Nat → Nat → Nat → (Nat → Int) → Prop) (h : k0 n c m (G 32 (val a))) :
  ∀ (j i : Nat), i + j = a.length → zbq.l3 k0 (j + 1) a n c a.length i m (G 32 (val a % 2 ^ (8 * i))) := by
 intro j
 induction j with
 | zero =>
  intro i hi
  unfold zbq.l3 zbq.l3.step
  rw [yaw (ybe (by omega)), Nat.mod_eq_of_lt (by have := yg9 a; rw [ymN] at this; rwa [show i = a.length from by omega])]
  exact h
 | succ j ih =>
  intro i hi
  have ih := ih (i + 1) (by omega)
  have e : ((i + 1 : Nat) : Int) = (i : Int) + 1 := by omega
  rw [e] at ih
  unfold zbq.l3 zbq.l3.step
  simp (disch := omega) only [ybI, yfP, yas, yap, ybH, yaU, ya9, yba, ybe, yaE, ya5, Bool.and_self, Bool.not_false]
  have e1 : Int.toNat ((i : Int) / 4) = i / 4 := by omega
  have e2 : Int.toNat ((a.length : Int) - 1 - i) = a.length - 1 - i := by omega
  have e3 : 8 * ((i : Int) % 4) = ((8 * (i % 4) : Nat) : Int) := by omega
  have hd := ya0 8 (val a) i
  have e8 : (2 : Nat) ^ 8 = 256 := rfl
  rw [e1, e2, e3, yfa a i (by omega), ycn, Int.emod_eq_of_lt (by omega) (by omega), ybr,
   yqF _ _ _ (yku 32 _ (i / 4) (8 * (i % 4)) (by rw [show 32 * (i / 4) + 8 * (i % 4) = 8 * i from by omega]; exact Nat.mod_lt _ (Nat.two_pow_pos _))) (by omega) (by omega)]
  rw [yg4 (k := 32) (N' := val a % 2 ^ (8 * (i + 1)))]
  ·exact ih
  ·rw [ybd, Nat.add_mul, Nat.mul_assoc, ← Nat.pow_add, show 8 * (i % 4) + 32 * (i / 4) = 8 * i from by omega]; omega
  ·have h1 := yku 32 (val a % 2 ^ (8 * i)) (i / 4) (8 * (i % 4)) (by rw [show 32 * (i / 4) + 8 * (i % 4) = 8 * i from by omega]; exact Nat.mod_lt _ (Nat.two_pow_pos _))
   have h2 : (dg 8 (val a) i + 1) * 2 ^ (8 * (i % 4)) ≤ 256 * 2 ^ (8 * (i % 4)) := Nat.mul_le_mul_right _ (by omega)
   have h3 : 256 * 2 ^ (8 * (i % 4)) ≤ 2 ^ 32 := by
    rw [show (256 : Nat) = 2 ^ 8 from rfl, ← Nat.pow_add]; exact Nat.pow_le_pow_right (by omega) (by omega)
   rw [Nat.add_mul] at h2
   omega
theorem yge (a : List UInt8) (hL : a.length ≤ 1000000) (K : Nat → (Nat → Int) → Prop) (h : K ((a.length + 3) / 4) (G 32 (val a))) : zbq a K := by
 rw [zbq.is]; unfold zbq.d
 simp (disch := omega) only [ybI, yap, yba, yaE, Bool.and_self]
 have e1 : Int.toNat (((a.length : Int) + 3) / 4) = (a.length + 3) / 4 := by omega
 rw [e1]
 refine ⟨a.length + 1, ?_⟩
 have := yia a hL ((a.length + 3) / 4) rfl ((a.length + 3) / 4) ((a.length + 3) / 4) (fun y0 y1 y2 y3 => K y0 y3) h a.length 0 (by omega)
 rw [Nat.mul_zero, Nat.pow_zero, Nat.mod_one, yb7] at this
 exact this
theorem yje {x n : Nat} (hn : n ≠ 0) (hx : x < 2 ^ (32 * n)) : (dg 32 x (n - 1) = 0 → x < 2 ^ (32 * (n - 1))) ∧ (dg 32 x (n - 1) ≠ 0 → wl 32 x = n) := by
 refine ⟨fun h => ?_, fun h => ytA 32 (by omega) x n hx (.inr h)⟩
 have h2 := ybd 32 x (n - 1)
 rw [show n - 1 + 1 = n from by omega, Nat.mod_eq_of_lt hx, h, Nat.zero_mul, Nat.add_zero] at h2
 have := Nat.mod_lt x (Nat.two_pow_pos (32 * (n - 1)))
 omega
theorem yip (k0 : Nat → (Nat → Int) → Prop) (x : Nat) (h : k0 (wl 32 x) (G 32 x)) : ∀ (n : Nat), n ≤ 1000000000 → x < 2 ^ (32 * n) → zbe.l1 k0 (n + 1) n (G 32 x) := by
 intro n
 induction n with
 | zero =>
  intro _ hx
  have hx0 : x = 0 := by simp at hx; omega
  unfold zbe.l1 zbe.l1.step
  rw [yaw (ybe (by omega))]
  have e := ydu 32
  subst hx0; rwa [e] at h
 | succ n ih =>
  intro hn hx
  obtain ⟨s1, s2⟩ := yje (show n + 1 ≠ 0 by omega) hx
  rw [show n + 1 - 1 = n from by omega] at s1 s2
  unfold zbe.l1 zbe.l1.step
  simp (disch := omega) only [yas, ya9, yba, yaE, ya5, Bool.and_self]
  have e1 : Int.toNat (((n + 1 : Nat) : Int) - 1) = n := by omega
  rw [e1, ybr]
  by_cases hd : dg 32 x n = 0
  ·rw [yaD (yj7 (by omega))]
   exact ih (by omega) (s1 hd)
  ·rw [yaw (ygQ (by omega))]
   rw [s2 hd] at h; exact h
theorem yki (n x : Nat) (hn : n ≤ 1000000000) (hx : x < 2 ^ (32 * n)) (K : Nat → (Nat → Int) → Prop) (h : K (wl 32 x) (G 32 x)) : zbe n (G 32 x) K := by
 rw [zbe.is]; unfold zbe.d
 exact ⟨n + 1, yip _ x h n hn hx⟩
theorem yin (k0 : Nat → Nat → Nat → (Nat → Int) → Prop) (x m : Nat) (h : ∀ c, k0 (wl 32 x) c m (G 32 x)) : ∀ (n c : Nat), n ≤ 1000000000 → n ≤ c → x < 2 ^ (32 * n) → zbd.l1 k0 (n + 1) n c m (G 32 x) := by
 intro n
 induction n with
 | zero =>
  intro c _ _ hx
  have hx0 : x = 0 := by simp at hx; omega
  unfold zbd.l1 zbd.l1.step
  rw [yaw (ybe (by omega))]
  have e := ydu 32
  subst hx0; rw [e] at h; exact h c
 | succ n ih =>
  intro c hn hc hx
  obtain ⟨s1, s2⟩ := yje (show n + 1 ≠ 0 by omega) hx
  rw [show n + 1 - 1 = n from by omega] at s1 s2
  unfold zbd.l1 zbd.l1.step
  simp (disch := omega) only [yas, ya9, yba, yaE, ya5, Bool.and_self]
  have e1 : Int.toNat (((n + 1 : Nat) : Int) - 1) = n := by omega
  rw [e1, ybr]
  by_cases hd : dg 32 x n = 0
  ·rw [yaD (yj7 (by omega))]
   exact ih (c - 0) (by omega) (by omega) (s1 hd)
  ·rw [yaw (ygQ (by omega))]
   rw [s2 hd] at h; exact h c
theorem ycW (n c m x : Nat) (hn : n ≤ 1000000000) (hc : n ≤ c) (hx : x < 2 ^ (32 * n)) (K : Nat → Nat → Nat → (Nat → Int) → Prop) (h : ∀ c, K (wl 32 x) c m (G 32 x)) : zbd n c m (G 32 x) K := by
 rw [zbd.is]; unfold zbd.d
 exact ⟨n + 1, yin _ x m h n c hn hc hx⟩
theorem yij (k0 : Nat → Nat → (Nat → Int) → Prop) (x m : Nat) (h : k0 (wl 32 x) m (G 32 x)) : ∀ (n : Nat), n ≤ 1000000000 → x < 2 ^ (32 * n) → zbc.l1 k0 (n + 1) n m (G 32 x) := by
 intro n
 induction n with
 | zero =>
  intro _ hx
  have hx0 : x = 0 := by simp at hx; omega
  unfold zbc.l1 zbc.l1.step
  rw [yaw (ybe (by omega))]
  have e := ydu 32
  subst hx0; rwa [e] at h
 | succ n ih =>
  intro hn hx
  obtain ⟨s1, s2⟩ := yje (show n + 1 ≠ 0 by omega) hx
  rw [show n + 1 - 1 = n from by omega] at s1 s2
  unfold zbc.l1 zbc.l1.step
  simp (disch := omega) only [yas, ya9, yba, yaE, ya5, Bool.and_self]
  have e1 : Int.toNat (((n + 1 : Nat) : Int) - 1) = n := by omega
  rw [e1, ybr]
  by_cases hd : dg 32 x n = 0
  ·rw [yaD (yj7 (by omega))]
   exact ih (by omega) (s1 hd)
  ·rw [yaw (ygQ (by omega))]
   rw [s2 hd] at h; exact h
theorem ydZ (n m x : Nat) (hn : n ≤ 1000000000) (hx : x < 2 ^ (32 * n)) (K : Nat → Nat → (Nat → Int) → Prop) (h : K (wl 32 x) m (G 32 x)) : zbc n m (G 32 x) K := by
 rw [zbc.is]; unfold zbc.d
 exact ⟨n + 1, yij _ x m h n hn hx⟩
theorem ys9 (x q s : Nat) (hs : s < 4) : dg 8 x (4 * q + s) = dg 32 x q / 2 ^ (8 * s) % 256 := by
 unfold dg
 rw [show 8 * (4 * q + s) = 32 * q + 8 * s from by omega, Nat.pow_add, ← Nat.div_div_eq_div_mul]
 generalize x / 2 ^ (32 * q) = y
 have h1 : (2 : Nat) ^ 32 = 2 ^ (8 * s) * (256 * 2 ^ (8 * (3 - s))) := by
  rw [show (256 : Nat) = 2 ^ 8 from rfl, ← Nat.pow_add, ← Nat.pow_add]; congr 1; omega
 rw [h1, Nat.mod_mul_right_div_self, Nat.mod_mul_right_mod]
theorem yr1 (a s : Nat) (hs : s ≤ 32) : ya1 .u32 (a : Int) (s : Int) = ((a / 2 ^ s : Nat) : Int) := by
 rw [yd4 (k := .u32) hs]; simp
theorem yhi (x n : Nat) (hn : n ≤ 100000000) (L c m : Nat) (hL : L = 4 * n) (k0 : Nat → Nat → Nat → (Nat → Int) → Prop) (h : k0 L c m (BE L L x)) :
  ∀ (j i : Nat), i + j = L → zbi.l4 k0 (j + 1) n (G 32 x) L c L i m (BE L i x) := by
 intro j
 induction j with
 | zero =>
  intro i hi
  unfold zbi.l4 zbi.l4.step
  rw [yaw (ybe (by omega)), show i = L from by omega]
  exact h
 | succ j ih =>
  intro i hi
  have ih := ih (i + 1) (by omega)
  have e : ((i + 1 : Nat) : Int) = (i : Int) + 1 := by omega
  rw [e] at ih
  unfold zbi.l4 zbi.l4.step
  simp (disch := omega) only [ybI, yfP, yas, yap, ybH, yaU, ya9, yba, ybe, yaE, ya5, Bool.and_self, Bool.not_false]
  have e1 : Int.toNat ((i : Int) / 4) = i / 4 := by omega
  have e2 : Int.toNat ((L : Int) - 1 - i) = L - 1 - i := by omega
  have e3 : 8 * ((i : Int) % 4) = ((8 * (i % 4) : Nat) : Int) := by omega
  rw [e1, e2, e3, ybr, yr1 _ _ (by omega), ygo, yrW _ _ _ (dg 8 x i : Int), ypu L i x (by omega)]
  ·exact ih
  ·have := ys9 x (i / 4) (i % 4) (by omega)
   rw [show 4 * (i / 4) + i % 4 = i from by omega] at this
   rw [this]; simp
theorem ygw (x L : Nat) (hL : L ≤ 400000000) (c m : Nat) (k0 : Nat → Nat → Nat → Nat → (Nat → Int) → Prop)
  (h : ∀ o n c, o + n = L → x < 2 ^ (8 * n) → (n = 0 ∨ dg 8 x (n - 1) ≠ 0) → k0 o n c m (BE L L x)) :
  ∀ (n o c : Nat), o + n = L → n ≤ c → x < 2 ^ (8 * n) → zbi.l8 k0 (n + 1) o n c m (BE L L x) := by
 intro n
 induction n with
 | zero =>
  intro o c ho _ hx
  unfold zbi.l8 zbi.l8.step
  rw [yaw (ybe (by omega))]
  exact h o 0 c ho hx (.inl rfl)
 | succ n ih =>
  intro o c ho hc hx
  unfold zbi.l8 zbi.l8.step
  simp (disch := omega) only [ya9, yba, yaE, ya5, Bool.and_self, yfd]
  rw [ysR L x _ (by omega), show L - 1 - (o + 0) = n from by omega]
  by_cases hd : dg 8 x n = 0
  ·rw [yaD (yj7 (by omega))]
   have e1 : Int.toNat ((n + 1 : Nat) : Int) - 1 = n := by omega
   rw [e1]
   refine ih (o + 1) (c - 1) (by omega) (by omega) ?_
   have h2 := ybd 8 x n
   rw [Nat.mod_eq_of_lt hx, hd, Nat.zero_mul, Nat.add_zero] at h2
   have := Nat.mod_lt x (Nat.two_pow_pos (8 * n))
   omega
  ·rw [yaw (ygQ (by omega))]
   exact h o (n + 1) c ho hx (.inr hd)
theorem ybY (n x : Nat) (hn : n ≤ 100000000) (hx : x < 2 ^ (32 * n)) (K : List UInt8 → Prop) (h : K (nb x)) : zbi n (G 32 x) K := by
 rw [zbi.is]; unfold zbi.d
 refine yki n x (by omega) hx _ ?_
 have hw := (yet 32 (by omega) x n).2 hx
 have hl := yeD 32 (by omega) x
 generalize wl 32 x = w at hw hl
 simp (disch := omega) only [ybH, yba, yaE, Bool.and_self]
 have e1 : Int.toNat (4 * (w : Int)) = 4 * w := by omega
 rw [e1]
 refine ⟨4 * w + 1, ?_⟩
 have := yhi x w (by omega) (4 * w) (4 * w) (4 * w) rfl (fun y0 y1 y2 y3 => ∃ n, zbi.l8 (fun y0 y1 y2 y3 y4 => K (ybD y1 (shift y0 y4))) n 0 y0 y1 y2 y3) ?_ (4 * w) 0 (by omega)
 ·rw [yp0] at this
  exact this
 ·refine ⟨4 * w + 1, ?_⟩
  refine ygw x (4 * w) (by omega) (4 * w) (4 * w) _ ?_ (4 * w) 0 (4 * w) (by omega) (Nat.le_refl _) (by rw [show 8 * (4 * w) = 32 * w from by omega]; exact hl)
  intro o n c ho hx' ht
  rw [ymd, ymL (4 * w) o n x ho hx' ht]
  exact h
theorem yg8 (n x : Nat) (hn : n ≤ 100000000) (hx : x < 2 ^ (32 * n)) (K : List UInt8 → Int → Prop) (h : if 16384 < (nb x).length then K [] 4 else K (nb x) 0) : zbn n (G 32 x) K := by
 rw [zbn.is]; unfold zbn.d
 refine ybY n x hn hx _ ?_
 by_cases hl : 16384 < (nb x).length
 ·rw [yaD (ya9 (by omega))]; rwa [if_pos hl] at h
 ·rw [yaw (ybe (by omega))]; rwa [if_neg hl] at h
def sgn (x y : Nat) : Int := if x < y then -1 else if y < x then 1 else 0
theorem ykp (x y n m : Nat) (k0 : Int → Prop) (k1 : Prop) (hn : n ≤ 1000000000) (h : x / 2 ^ (32 * n) = y / 2 ^ (32 * n)) :
  ∀ (i : Nat), i ≤ n → i ≤ m → x / 2 ^ (32 * i) = y / 2 ^ (32 * i) → (x < y → k0 (-1)) → (y < x → k0 1) → (x = y → k1) → ∀ (j : Nat), n = n → zbb.l6 k0 k1 (i + 1) n (G 32 x) m (G 32 y) ((i : Int) - 1) := by
 intro i
 induction i with
 | zero =>
  intro _ _ he _ _ h3 _ _
  unfold zbb.l6 zbb.l6.step
  rw [yaw (yeK (by omega))]
  simp at he
  exact h3 he
 | succ i ih =>
  intro hin him he h1 h2 h3 j _
  unfold zbb.l6 zbb.l6.step
  have e0 : ((i + 1 : Nat) : Int) - 1 = (i : Int) := by omega
  rw [e0]
  simp (disch := omega) only [yas, ya9, yba, yaE, ya5, Bool.and_self, Int.toNat_natCast]
  rw [ybr, ybr, yka, yka]
  have d1 := ydc 32 x i
  have d2 := ydc 32 y i
  rw [← he] at d2
  by_cases hlt : dg 32 x i < dg 32 y i
  ·rw [yaD (by simpa using hlt)]
   refine h1 (Classical.byContradiction fun hc => ?_)
   have := Nat.div_le_div_right (c := 2 ^ (32 * i)) (show y ≤ x by omega)
   omega
  ·rw [yaw (by simpa using hlt)]
   by_cases hgt : dg 32 y i < dg 32 x i
   ·rw [yaD (by simpa using hgt)]
    refine h2 (Classical.byContradiction fun hc => ?_)
    have := Nat.div_le_div_right (c := 2 ^ (32 * i)) (show x ≤ y by omega)
    omega
   ·rw [yaw (by simpa using hgt)]
    exact ih (by omega) (by omega) (by omega) h1 h2 h3 j rfl
theorem yi0 (x y n m : Nat) (hn : n ≤ 1000000000) (hm : m ≤ 1000000000) (hxn : n = wl 32 x) (hym : m = wl 32 y) (K : Int → Prop) (h : K (sgn x y)) : zbb n (G 32 x) m (G 32 y) K := by
 rw [zbb.is]; unfold zbb.d
 have h32 : (32 : Nat) ≠ 0 := by omega
 by_cases hlt : n < m
 ·have : x < y := Classical.byContradiction fun hc => by have := ybZ h32 (show y ≤ x by omega); omega
  rw [yaD (ya9 (by omega))]
  unfold sgn at h; rwa [if_pos this] at h
 ·rw [yaw (ybe (by omega))]
  by_cases hgt : m < n
  ·have : y < x := Classical.byContradiction fun hc => by have := ybZ h32 (show x ≤ y by omega); omega
   rw [yaD (ya9 (by omega))]
   unfold sgn at h; rwa [if_neg (by omega), if_pos this] at h
  ·rw [yaw (ybe (by omega)), yas (by omega) (by omega)]
   have h1 := yeD 32 h32 x
   have h2 := yeD 32 h32 y
   have hnm : n = m := by omega
   have q : x / 2 ^ (32 * n) = y / 2 ^ (32 * n) := by
    rw [Nat.div_eq_of_lt (hxn ▸ h1), Nat.div_eq_of_lt (by rw [hnm, hym]; exact h2)]
   refine ⟨n + 1, ykp x y n m _ _ hn q n (Nat.le_refl _) (by omega) q (fun hl => ?_) (fun hl => ?_) (fun he => ?_) 0 rfl⟩
   ·unfold sgn at h; rwa [if_pos hl] at h
   ·unfold sgn at h; rwa [if_neg (by omega), if_pos hl] at h
   ·unfold sgn at h; rwa [if_neg (by omega), if_neg (by omega)] at h
end Go.Ev.S

/- Natural numbers as rows of words: sums, differences, products. -/
set_option linter.unusedVariables false
set_option linter.unusedSimpArgs false
set_option maxRecDepth 8000
namespace Go.Ev.S
open Go Go.Ev
theorem ynk {k N j s : Nat} {P : Nat} (hP : P = 2 ^ (k * j)) : ∃ N', N' + dg k N j * P = N + s % 2 ^ k * P ∧ N' + s / 2 ^ k * 2 ^ (k * (j + 1)) + dg k N j * P = N + s * P := by
 have h := ygD k N j
 refine ⟨N % 2 ^ (k * j) + s % 2 ^ k * 2 ^ (k * j) + N / 2 ^ (k * (j + 1)) * 2 ^ (k * (j + 1)), ?_, ?_⟩
 ·rw [hP]; omega
 ·have h2 := Nat.div_add_mod s (2 ^ k)
  have h3 : s * P = s % 2 ^ k * P + s / 2 ^ k * 2 ^ (k * (j + 1)) := by
   conv => lhs; rw [← h2]
   rw [Nat.add_mul, yb4, ← hP, Nat.mul_comm (2 ^ k), Nat.mul_assoc, Nat.mul_comm (2 ^ k)]
   omega
  rw [h3, hP]; omega
theorem ysX (x n : Nat) (hx : x < 2 ^ (32 * n)) : ovl 0 (ygl n (n + 1)) (G 32 x) (fun _ => 0) = G 32 x := by
 funext i
 have hm : ygl n (n + 1) = n := by unfold ygl; exact Nat.min_eq_left (by omega)
 rw [hm]
 unfold ovl
 by_cases hi : i < n
 ·have : (Nat.ble 0 i && Nat.blt i (0 + n)) = true := by simp [hi]
  rw [this]; rfl
 ·have : (Nat.ble 0 i && Nat.blt i (0 + n)) = false := by
   rw [Bool.eq_false_iff]; intro h; exact hi (by simpa using h)
  rw [this]
  show (0 : Int) = G 32 x i
  rw [ybr, yeL 32 x n i hx (by omega)]; rfl
theorem B32 : (2 : Nat) ^ 32 = 4294967296 := rfl
theorem ykY (x y n m : Nat) (hn : n ≤ 1000000) (hm : m ≤ n) (hx : x < 2 ^ (32 * n)) (hy : y < 2 ^ (32 * m)) (c0 m0 : Nat) (k0 : Nat → Nat → Nat → (Nat → Int) → Prop) (h : k0 (n + 1) c0 m0 (G 32 (x + y))) :
  ∀ (j i N c : Nat), i + j = n + 1 → N + c * 2 ^ (32 * i) = x + y % 2 ^ (32 * i) → c < 4294967296 → zbl.l7 k0 (j + 1) m (G 32 y) (n + 1) c0 c i m0 (G 32 N) := by
 have hxy : x + y < 2 ^ (32 * (n + 1)) := by
  have h1 : y < 2 ^ (32 * n) := Nat.lt_of_lt_of_le hy (yb1 hm)
  rw [yb4, B32]; omega
 have fin : ∀ (i N : Nat), m ≤ i → N = x + y % 2 ^ (32 * i) → N = x + y := by
  intro i N hi hN
  rw [hN, Nat.mod_eq_of_lt (Nat.lt_of_lt_of_le hy (yb1 hi))]
 intro j
 induction j with
 | zero =>
  intro i N c hi hN hc
  have hi : i = n + 1 := by omega
  have hc0 : c = 0 := by
   apply Classical.byContradiction
   intro hne
   have h1 : 1 * 2 ^ (32 * i) ≤ c * 2 ^ (32 * i) := Nat.mul_le_mul_right _ (by omega)
   have h2 := Nat.mod_le y (2 ^ (32 * i))
   rw [hi] at h1 hN h2
   omega
  have hN2 := fin i N (by omega) (by rw [hc0] at hN; omega)
  unfold zbl.l7 zbl.l7.step
  rw [yaw (ybe (by omega)), yaw (ybe (by omega)), hN2]
  exact h
 | succ j ih =>
  intro i N c hi hN hc
  have hdN := ya0 32 N i
  have hdy := ya0 32 y i
  rw [B32] at hdN hdy
  obtain ⟨N', s1, s2⟩ := ynk (k := 32) (N := N) (j := i) (s := c + dg 32 N i + dg 32 y i) rfl
  have hy1 := ybd 32 y i
  have next := ih (i + 1) N' ((c + dg 32 N i + dg 32 y i) / 4294967296) (by omega) (by
   rw [hy1]
   rw [Nat.add_mul, Nat.add_mul] at s2
   rw [B32] at s2
   omega) (by omega)
  have e : ((i + 1 : Nat) : Int) = (i : Int) + 1 := by omega
  rw [e] at next
  have hG : upd (G 32 N) i (((c + dg 32 N i + dg 32 y i) % 4294967296 : Nat) : Int) = G 32 N' := yg4 s1 (Nat.mod_lt _ (by omega))
  unfold zbl.l7 zbl.l7.step
  by_cases hlt : i < m
  ·have e1 : ((c : Int) + (dg 32 N i : Int) + (dg 32 y i : Int)) / 4294967296 = (((c + dg 32 N i + dg 32 y i) / 4294967296 : Nat) : Int) := by omega
   have e2 : ((c : Int) + (dg 32 N i : Int) + (dg 32 y i : Int)) % 4294967296 = (((c + dg 32 N i + dg 32 y i) % 4294967296 : Nat) : Int) := by omega
   simp (disch := omega) only [ya9, yba, yaE, ya5, Bool.and_self, Int.toNat_natCast, ybr, yaU, yfQ, yap, yc8, ycn, e1, e2]
   rw [hG]; exact next
  ·have hd0 : dg 32 y i = 0 := yeL 32 y m i hy (by omega)
   rw [hd0, Nat.add_zero] at next hG
   rw [yaw (ybe (by omega))]
   by_cases hc0 : c = 0
   ·rw [yaw (ybe (by omega)), fin i N (by omega) (by rw [hc0] at hN; omega)]
    exact h
   ·have e1 : ((c : Int) + (dg 32 N i : Int)) / 4294967296 = (((c + dg 32 N i) / 4294967296 : Nat) : Int) := by omega
    have e2 : ((c : Int) + (dg 32 N i : Int)) % 4294967296 = (((c + dg 32 N i) % 4294967296 : Nat) : Int) := by omega
    simp (disch := omega) only [ya9, ybe, yba, yaE, ya5, yeg, Bool.and_self, Int.toNat_natCast, ybr, yaU, yfQ, yap, yc8, ycn, e1, e2]
    rw [hG]; exact next
theorem yn9 (x y n m : Nat) (hn : n ≤ 1000000) (hm : m ≤ 1000000) (hx : x < 2 ^ (32 * n)) (hy : y < 2 ^ (32 * m)) (K : Nat → (Nat → Int) → Prop) (h : K (wl 32 (x + y)) (G 32 (x + y))) : zbl n (G 32 x) m (G 32 y) K := by
 have main : ∀ (x y n m : Nat), n ≤ 1000000 → m ≤ n → x < 2 ^ (32 * n) → y < 2 ^ (32 * m) → K (wl 32 (x + y)) (G 32 (x + y)) →
   ∃ f, zbl.l7 (fun y0 y1 y2 y3 => zbd y0 y1 y2 y3 fun y0 y1 y2 y3 => K y0 y3) f m (G 32 y) (n + 1) (n + 1) 0 0 (n + 1) (G 32 x) := by
  intro x y n m hn hm hx hy h
  refine ⟨n + 2, ?_⟩
  have := ykY x y n m hn hm hx hy (n + 1) (n + 1) (fun y0 y1 y2 y3 => zbd y0 y1 y2 y3 fun y0 y1 y2 y3 => K y0 y3) ?_ (n + 1) 0 x 0 (by omega) (by simp [Nat.mod_one]) (by omega)
  ·exact this
  ·refine ycW (n + 1) (n + 1) (n + 1) (x + y) (by omega) (Nat.le_refl _) ?_ _ fun c => h
   have h1 : y < 2 ^ (32 * n) := Nat.lt_of_lt_of_le hy (yb1 hm)
   rw [yb4, B32]; omega
 rw [zbl.is]; unfold zbl.d
 by_cases hlt : n < m
 ·have e1 : Int.toNat ((m : Int) + 1) = m + 1 := by omega
  simp (disch := omega) only [ya9, yba, yap, yaE, ya5, Bool.and_self, e1]
  rw [ysX y m hy]
  exact main y x m n hm (by omega) hy hx (by rw [Nat.add_comm]; exact h)
 ·have e1 : Int.toNat ((n : Int) + 1) = n + 1 := by omega
  simp (disch := omega) only [ybe, yba, yap, yaE, yeg, Bool.and_self, e1]
  rw [ysX x n hx]
  exact main x y n m hn (by omega) hx hy h
end Go.Ev.S

/- The functions of natural numbers: held against each other, added, subtracted, multiplied; their texts. -/
set_option linter.unusedVariables false
set_option linter.unusedSimpArgs false
set_option maxRecDepth 8000
namespace Go.Ev.S
open Go Go.Ev
theorem yc0 (a b : List UInt8) (K : Bool → Prop) : zbk a b K = K (decide (May a ∧ May b)) := by
 rw [zbk.is]; unfold zbk.d
 rw [yaY, yaY]
 by_cases ha : May a
 ·rw [if_pos ha, yaD (by rfl)]
  by_cases hb : May b
  ·rw [if_pos hb]; simp [ha, hb]; rfl
  ·rw [if_neg hb]; simp [ha, hb]; rfl
 ·rw [if_neg ha, yaw (by rfl)]; simp [ha]
theorem yqk (x : Nat) : wl 32 x = (wl 8 x + 3) / 4 := by
 have e : ∀ m, wl 32 x ≤ m ↔ wl 8 x ≤ 4 * m := fun m => by
  rw [yet 32 (by omega), yet 8 (by omega), show 8 * (4 * m) = 32 * m from by omega]
 have h1 := (e (wl 32 x)).1 (Nat.le_refl _)
 have h2 := (e ((wl 8 x + 3) / 4)).2 (by omega)
 omega
theorem ykB {a : List UInt8} (h : yiS a = true) : wl 8 (val a) = a.length := by rw [ytv, yiY h]
theorem ync {a : List UInt8} (h : yiS a = true) : (a.length + 3) / 4 = wl 32 (val a) := by rw [yqk, ykB h]
theorem ys2 {x y n : Nat} (hx : wl 32 x ≤ n) (hy : wl 32 y ≤ n) : wl 32 (x + y) ≤ n + 1 := by
 have h1 := (yet 32 (by omega) _ _).1 hx
 have h2 := (yet 32 (by omega) _ _).1 hy
 exact (yet 32 (by omega) _ _).2 (by rw [yb4, B32]; omega)
theorem May.words {a : List UInt8} (h : May a) (K : Nat → (Nat → Int) → Prop) (hk : K (wl 32 (val a)) (G 32 (val a))) : zbq a K := by
 refine yge a (by have := h.1; omega) K ?_
 rw [ync h.2]; exact hk
theorem May.wl {a : List UInt8} (h : May a) : wl 32 (val a) ≤ 4096 := by rw [← ync h.2]; have := h.1; omega
theorem May.lt {a : List UInt8} (h : May a) : val a < 2 ^ (32 * Ev.S.wl 32 (val a)) := yeD 32 (by omega) _
theorem May.nb {a : List UInt8} (h : May a) : nb (val a) = a := yiY h.2
theorem yfT (x : Nat) : x < 2 ^ (32 * wl 32 x) := yeD 32 (by omega) _
def yom (K : List UInt8 → Int → Prop) (x : Nat) : Prop := if 16384 < (nb x).length then K [] 4 else K (nb x) 0
theorem ynJ (a b : List UInt8) (K : Int → Int → Prop) (h1 : ¬ (May a ∧ May b) → K 0 2) (h2 : May a → May b → K (sgn (val a) (val b)) 0) : zas a b K := by
 rw [zas.is]; unfold zas.d
 rw [yc0]
 by_cases h : May a ∧ May b
 ·rw [yaw (by simp [h])]
  refine h.1.words _ (h.2.words _ ?_)
  have := h.1.wl; have := h.2.wl
  exact yi0 _ _ _ _ (by omega) (by omega) rfl rfl _ (h2 h.1 h.2)
 ·rw [yaD (by simp [h])]; exact h1 h
theorem yoi (a b : List UInt8) (K : List UInt8 → Int → Prop) (h1 : ¬ (May a ∧ May b) → K [] 2) (h2 : May a → May b → yom K (val a + val b)) : zaq a b K := by
 rw [zaq.is]; unfold zaq.d
 rw [yc0]
 by_cases h : May a ∧ May b
 ·rw [yaw (by simp [h])]
  refine h.1.words _ (h.2.words _ ?_)
  have w1 := h.1.wl; have w2 := h.2.wl
  refine yn9 _ _ _ _ (by omega) (by omega) h.1.lt h.2.lt _ ?_
  refine yg8 _ _ ?_ (yfT _) _ (h2 h.1 h.2)
  have := ys2 w1 w2
  omega
 ·rw [yaD (by simp [h])]; exact h1 h
theorem ypF (x y : Nat) : ltI (sgn x y) 0 = decide (x < y) := by
 unfold sgn
 by_cases h : x < y
 ·rw [if_pos h, ya9 (by omega)]; simp [h]
 ·rw [if_neg h]
  by_cases h2 : y < x
  ·rw [if_pos h2, ybe (by omega)]; simp [h]
  ·rw [if_neg h2, ybe (by omega)]; simp [h]
theorem yjF : ∀ (a b : List UInt8), a.length = b.length → Op.bytesLess a b = decide (val a < val b) := by
 intro a
 induction a with
 | nil => intro b h; cases b with
  | nil => rfl
  | cons _ _ => simp at h
 | cons x l ih =>
  intro b h
  cases b with
  | nil => exact absurd h (by simp)
  | cons y r =>
   have hl : l.length = r.length := by simpa using h
   have h1 := yg9 l
   have h2 := yg9 r
   rw [hl] at h1
   rw [ygP, ygP, hl]
   simp only [Op.bytesLess]
   rw [ih r hl]
   have hP := Nat.pow_pos (n := r.length) (show 0 < 256 by omega)
   generalize 256 ^ r.length = P at *
   by_cases hxy : x = y
   ·subst hxy; simp
   ·have hne : x.toNat ≠ y.toNat := fun e => hxy (UInt8.toNat_inj.1 e)
    have e1 : (x == y) = false := by simpa using hxy
    rw [e1, Bool.false_and, Bool.or_false]
    rw [decide_eq_decide, UInt8.lt_iff_toNat_lt]
    constructor
    ·intro hlt
     have : (x.toNat + 1) * P ≤ y.toNat * P := Nat.mul_le_mul_right _ hlt
     rw [Nat.add_mul] at this; omega
    ·intro hlt
     apply Classical.byContradiction
     intro hc
     have : (y.toNat + 1) * P ≤ x.toNat * P := Nat.mul_le_mul_right _ (by omega)
     rw [Nat.add_mul] at this; omega
theorem yr7 (a b : List UInt8) (h : a.length = b.length) : ltS a b = decide (val a < val b) := yjF a b h
theorem yjA (a b : List UInt8) : eqS a b = decide (a = b) := by
 unfold eqS
 by_cases h : a = b <;> simp [h]
def ytN (n : Nat) : UInt8 := UInt8.ofNat (if n < 10 then 48 + n else 87 + n)
def hx (x : Nat) : List UInt8 := if h : x = 0 then [] else hx (x / 16) ++ [ytN (x % 16)]
decreasing_by omega
theorem ytE {a b : Nat} (h : a ≤ b) : leN a b = true := Nat.ble_eq_true_of_le h
end Go.Ev.S

/- Natural numbers as rows of words: moved to the left and to the right; how long they are. -/
set_option linter.unusedVariables false
set_option linter.unusedSimpArgs false
set_option maxRecDepth 8000
namespace Go.Ev.S
open Go Go.Ev
theorem yeM {d m r : Nat} (hd : d < 2 ^ r) (hm : m % 2 ^ r = 0) : d ||| m = d + m := by
 have h5 := Nat.div_add_mod m (2 ^ r)
 rw [hm, Nat.add_zero, Nat.mul_comm] at h5
 have := Nat.shiftLeft_add_eq_or_of_lt hd (m / 2 ^ r)
 rw [Nat.shiftLeft_eq, h5] at this
 rw [Nat.or_comm, ← this, Nat.add_comm]
theorem B64 : (2 : Nat) ^ 64 = 18446744073709551616 := rfl
theorem yk9 (a r : Nat) (ha : a < 4294967296) (hr : r < 32) : ybM .u64 (a : Int) (r : Int) = ((a * 2 ^ r : Nat) : Int) ∧ a * 2 ^ r < 9223372036854775808 := by
 have h1 : a * 2 ^ r < 2 ^ 63 := by
  have h2 : a * 2 ^ r < 2 ^ 32 * 2 ^ 31 := Nat.mul_lt_mul_of_lt_of_le (by rw [B32]; exact ha) (Nat.pow_le_pow_right (by omega) (by omega)) (Nat.two_pow_pos _)
  rwa [← Nat.pow_add] at h2
 have e63 : (2 : Nat) ^ 63 = 9223372036854775808 := rfl
 have hb : IntKind.bits .u64 = 64 := rfl
 refine ⟨?_, by omega⟩
 rw [yn3 (k := .u64) rfl a r (by rw [hb]; omega), hb, Nat.mod_eq_of_lt (by rw [B64]; omega)]
theorem yjs (s B P : Nat) : s % B * P + s / B * (P * B) = s * P := by
 have := Nat.div_add_mod s B
 conv => rhs; rw [← this]
 rw [Nat.add_mul, Nat.mul_comm B, Nat.mul_assoc, Nat.mul_comm B, Nat.add_comm]
theorem yrN (x i s t y N : Nat) (ht : t = i + s / 32) (hy : dg 32 x i * 2 ^ (s % 32) = y) (hNN : x % 2 ^ (32 * i) * 2 ^ s = N) :
  ∃ N1, upd (G 32 N) t (((dg 32 N t ||| y % 4294967296 : Nat)) : Int) = G 32 N1 ∧ dg 32 N1 (t + 1) = 0 ∧ upd (G 32 N1) (t + 1) ((y / 4294967296 : Nat) : Int) = G 32 (x % 2 ^ (32 * (i + 1)) * 2 ^ s) := by
 have hdx := ya0 32 x i
 rw [B32] at hdx
 have hr : s % 32 < 32 := Nat.mod_lt _ (by omega)
 have hx := Nat.mod_lt x (Nat.two_pow_pos (32 * i))
 have hp : 2 ^ (32 * i) * 2 ^ s = 2 ^ (32 * t + s % 32) := by rw [← Nat.pow_add]; congr 1; omega
 have hN : N < 2 ^ (32 * t + s % 32) := by
  rw [← hp, ← hNN]; exact Nat.mul_lt_mul_of_pos_right hx (Nat.two_pow_pos _)
 have hlow := yku 32 N t (s % 32) hN
 have hN1 : N < 2 ^ (32 * (t + 1)) := Nat.lt_of_lt_of_le hN (Nat.pow_le_pow_right (by omega) (by omega))
 have hym : y % 4294967296 % 2 ^ (s % 32) = 0 := by
  rw [show (4294967296 : Nat) = 2 ^ 32 from rfl, Nat.mod_mod_of_dvd _ (Nat.pow_dvd_pow 2 (by omega)), ← hy]
  exact Nat.mul_mod_left _ _
 have hor : dg 32 N t ||| y % 4294967296 = dg 32 N t + y % 4294967296 := yeM hlow hym
 have hsum : dg 32 N t + y % 4294967296 < 2 ^ 32 := by
  rw [← hor]; exact Nat.or_lt_two_pow (ya0 32 N t) (by rw [B32]; exact Nat.mod_lt _ (by omega))
 have hyl : y / 4294967296 < 2 ^ 32 := by
  rw [B32, Nat.div_lt_iff_lt_mul (by omega), ← hy]
  have : dg 32 x i * 2 ^ (s % 32) < 2 ^ 32 * 2 ^ 32 := Nat.mul_lt_mul_of_lt_of_le (by rw [B32]; exact hdx) (Nat.pow_le_pow_right (by omega) (by omega)) (Nat.two_pow_pos _)
  rw [B32] at this; exact this
 have hG1 : upd (G 32 N) t (((dg 32 N t ||| y % 4294967296 : Nat)) : Int) = G 32 (N + y % 4294967296 * 2 ^ (32 * t)) := by
  rw [hor]
  refine yg4 ?_ hsum
  rw [Nat.add_mul]; omega
 have hlt : N + y % 4294967296 * 2 ^ (32 * t) < 2 ^ (32 * (t + 1)) := by
  have hNl : N = N % 2 ^ (32 * t) + dg 32 N t * 2 ^ (32 * t) := by
   have := ybd 32 N t
   rw [Nat.mod_eq_of_lt hN1] at this; exact this
  have h1 := yf8 32 (N % 2 ^ (32 * t)) (dg 32 N t + y % 4294967296) t (Nat.mod_lt _ (Nat.two_pow_pos _)) hsum
  rw [Nat.add_mul] at h1
  omega
 refine ⟨N + y % 4294967296 * 2 ^ (32 * t), hG1, yea 32 _ _ hlt, ?_⟩
 rw [yhZ 32 _ _ (t + 1) hlt hyl]
 refine congrArg (G 32) ?_
 have h2 := yjs y 4294967296 (2 ^ (32 * t))
 rw [yb4, B32]
 have h3 : y * 2 ^ (32 * t) = dg 32 x i * 2 ^ (32 * i) * 2 ^ s := by
  rw [← hy, Nat.mul_assoc, ← Nat.pow_add, Nat.mul_assoc, ← Nat.pow_add]; congr 2; omega
 rw [ybd, Nat.add_mul, hNN, ← h3]
 omega
theorem ymr (x n s : Nat) (hn : n ≤ 1000000) (hs : s ≤ 100000000) (hx : x < 2 ^ (32 * n)) (c0 m0 : Nat) (k0 : Nat → Nat → Nat → (Nat → Int) → Prop) (h : k0 (n + s / 32 + 1) c0 m0 (G 32 (x * 2 ^ s))) :
  ∀ (j i : Nat), i + j = n → zbo.l5 k0 (j + 1) s (n + s / 32 + 1) c0 n (G 32 x) n i m0 (G 32 (x % 2 ^ (32 * i) * 2 ^ s)) := by
 intro j
 induction j with
 | zero =>
  intro i hi
  unfold zbo.l5 zbo.l5.step
  rw [yaw (ybe (by omega)), show i = n from by omega, Nat.mod_eq_of_lt hx]
  exact h
 | succ j ih =>
  intro i hi
  have ih := ih (i + 1) (by omega)
  have e : ((i + 1 : Nat) : Int) = (i : Int) + 1 := by omega
  obtain ⟨N1, u1, u2, u3⟩ := yrN x i s _ _ _ rfl rfl rfl
  rw [e, ← u3] at ih
  have hd := ya0 32 x i
  rw [B32] at hd
  obtain ⟨q1, q2⟩ := yk9 (dg 32 x i) (s % 32) hd (Nat.mod_lt _ (by omega))
  have e1 : Int.toNat ((i : Int) + (s : Int) / 32) = i + s / 32 := by omega
  have e2 : Int.toNat ((i : Int) + (s : Int) / 32 + 1) = i + s / 32 + 1 := by omega
  have e3 : (s : Int) % 32 = ((s % 32 : Nat) : Int) := by omega
  have e4 : ((dg 32 x i * 2 ^ (s % 32) : Nat) : Int) % 4294967296 = ((dg 32 x i * 2 ^ (s % 32) % 4294967296 : Nat) : Int) := by omega
  have e5 : ((dg 32 x i * 2 ^ (s % 32) : Nat) : Int) / 4294967296 % 4294967296 = ((dg 32 x i * 2 ^ (s % 32) / 4294967296 : Nat) : Int) := by omega
  have hb : IntKind.bits .u32 = 32 := rfl
  have o1 : orI .u32 ((dg 32 (x % 2 ^ (32 * i) * 2 ^ s) (i + s / 32) : Nat) : Int) ((dg 32 x i * 2 ^ (s % 32) % 4294967296 : Nat) : Int) = ((dg 32 (x % 2 ^ (32 * i) * 2 ^ s) (i + s / 32) ||| dg 32 x i * 2 ^ (s % 32) % 4294967296 : Nat) : Int) :=
   yrG (k := .u32) rfl _ _ (by rw [hb]; exact ya0 32 _ _) (by rw [hb, B32]; exact Nat.mod_lt _ (by omega))
  have o2 : orI .u32 ((0 : Nat) : Int) ((dg 32 x i * 2 ^ (s % 32) / 4294967296 : Nat) : Int) = ((dg 32 x i * 2 ^ (s % 32) / 4294967296 : Nat) : Int) := by
   rw [yrG (k := .u32) rfl _ _ (by rw [hb, B32]; omega) (by rw [hb, B32]; omega), Nat.zero_or]
  unfold zbo.l5 zbo.l5.step
  simp (disch := omega) only [ya9, ybe, yba, yaE, ya5, Bool.and_self, Bool.not_false, Int.toNat_natCast, ybI, yfP, yap, yaU, ybr, e1, e2, e3, q1, ycn, yc8, e4, e5, o1, u1, u2, o2]
  exact ih
theorem yi9 (x n s : Nat) (hn : n ≤ 1000000) (hs : s ≤ 100000000) (hx : x < 2 ^ (32 * n)) : x * 2 ^ s < 2 ^ (32 * (n + s / 32 + 1)) := by
 have : x * 2 ^ s < 2 ^ (32 * n) * 2 ^ s := Nat.mul_lt_mul_of_pos_right hx (Nat.two_pow_pos _)
 rw [← Nat.pow_add] at this
 exact Nat.lt_of_lt_of_le this (Nat.pow_le_pow_right (by omega) (by omega))
theorem yhG (x n s : Nat) (hn : n ≤ 1000000) (hs : s ≤ 100000000) (hx : x < 2 ^ (32 * n)) (K0 : Prop) (K1 : Nat → Nat → Nat → (Nat → Int) → Prop) (h0 : n = 0 → K0) (h1 : n ≠ 0 → ∀ c m, K1 (wl 32 (x * 2 ^ s)) c m (G 32 (x * 2 ^ s))) :
  zbo n (G 32 x) s K0 K1 := by
 rw [zbo.is]; unfold zbo.d
 by_cases hz : n = 0
 ·rw [yaD (yj7 (by omega))]; exact h0 hz
 ·rw [yaw (ygQ (by omega))]
  have e1 : Int.toNat ((n : Int) + (s : Int) / 32 + 1) = n + s / 32 + 1 := by omega
  simp (disch := omega) only [ybI, yap, yba, yaE, Bool.and_self, e1]
  refine ⟨n + 1, ?_⟩
  have := ymr x n s hn hs hx (n + s / 32 + 1) (n + s / 32 + 1) (fun y0 y1 y2 y3 => zbd y0 y1 y2 y3 fun y0 y1 y2 y3 => K1 y0 y1 y2 y3) ?_ n 0 (by omega)
  ·rw [Nat.mul_zero, Nat.pow_zero, Nat.mod_one, Nat.zero_mul, yb7] at this; exact this
  ·exact ycW _ _ _ _ (by omega) (Nat.le_refl _) (yi9 x n s hn hs hx) _ fun c => h1 hz c _
theorem ysc (x s i : Nat) : (dg 32 x (i + s / 32) + dg 32 x (i + s / 32 + 1) * 4294967296) / 2 ^ (s % 32) % 4294967296 = dg 32 (x / 2 ^ s) i := by
 have hr : s % 32 < 32 := Nat.mod_lt _ (by omega)
 have h1 : dg 32 x (i + s / 32) + dg 32 x (i + s / 32 + 1) * 4294967296 = x / 2 ^ (32 * (i + s / 32)) % 2 ^ 64 := by
  have a := ydc 32 x (i + s / 32)
  have b := ydc 32 x (i + s / 32 + 1)
  rw [B32] at a b
  rw [a, b, B64]
  have c := ya0 32 x (i + s / 32)
  have d := ya0 32 x (i + s / 32 + 1)
  rw [B32] at c d
  omega
 rw [h1]
 unfold dg
 rw [Nat.div_div_eq_div_mul, ← Nat.pow_add]
 have h2 : (2 : Nat) ^ 64 = 2 ^ (s % 32) * 2 ^ (64 - s % 32) := by rw [← Nat.pow_add]; congr 1; omega
 rw [h2, Nat.mod_mul_right_div_self, Nat.div_div_eq_div_mul, ← Nat.pow_add, show (4294967296 : Nat) = 2 ^ 32 from rfl, Nat.mod_mod_of_dvd _ (Nat.pow_dvd_pow 2 (by omega))]
 congr 3; omega
theorem yjC (x n s : Nat) (hn : n ≤ 1000000) (hx : x < 2 ^ (32 * n)) (hs : s / 32 < n) (c0 m0 : Nat) (k0 : Nat → Nat → Nat → (Nat → Int) → Prop) (h : k0 (n - s / 32) c0 m0 (G 32 (x / 2 ^ s % 2 ^ (32 * (n - s / 32))))) :
  ∀ (j i : Nat), i + j = n - s / 32 → zbf.l5 k0 (j + 1) n (G 32 x) s (n - s / 32) c0 ((n - s / 32 : Nat) : Int) i m0 (G 32 (x / 2 ^ s % 2 ^ (32 * i))) := by
 intro j
 induction j with
 | zero =>
  intro i hi
  unfold zbf.l5 zbf.l5.step
  rw [yaw (ybe (by omega)), show i = n - s / 32 from by omega]
  exact h
 | succ j ih =>
  intro i hi
  have ih := ih (i + 1) (by omega)
  have e : ((i + 1 : Nat) : Int) = (i : Int) + 1 := by omega
  have hr : s % 32 < 32 := Nat.mod_lt _ (by omega)
  have hw := ysc x s i
  have hdw := ya0 32 (x / 2 ^ s) i
  rw [e, ybd, ← yhZ 32 _ _ i (Nat.mod_lt _ (Nat.two_pow_pos _)) hdw, ← hw] at ih
  have hd := ya0 32 x (i + s / 32)
  have hd2 := ya0 32 x (i + s / 32 + 1)
  rw [B32] at hd hd2
  have e1 : Int.toNat ((i : Int) + (s : Int) / 32) = i + s / 32 := by omega
  have e2 : Int.toNat ((i : Int) + (s : Int) / 32 + 1) = i + s / 32 + 1 := by omega
  have e3 : (s : Int) % 32 = ((s % 32 : Nat) : Int) := by omega
  have hb : IntKind.bits .u64 = 64 := rfl
  have sh : ∀ z : Nat, ya1 .u64 (z : Int) ((s % 32 : Nat) : Int) = ((z / 2 ^ (s % 32) : Nat) : Int) := fun z => by
   rw [yd4 (k := .u64) (by rw [hb]; omega)]; simp
  unfold zbf.l5 zbf.l5.step
  by_cases hlt : i + s / 32 + 1 < n
  ·have o1 : orI .u64 ((dg 32 x (i + s / 32) : Nat) : Int) (ybM .u64 ((dg 32 x (i + s / 32 + 1) : Nat) : Int) 32) = ((dg 32 x (i + s / 32) + dg 32 x (i + s / 32 + 1) * 4294967296 : Nat) : Int) := by
    have := yn3 (k := .u64) rfl (dg 32 x (i + s / 32 + 1)) 32 (by rw [hb]; omega)
    rw [show ((32 : Nat) : Int) = 32 from rfl] at this
    rw [this, hb, B32, Nat.mod_eq_of_lt (by rw [B64]; omega), yrG (k := .u64) rfl _ _ (by rw [hb, B64]; omega) (by rw [hb, B64]; omega)]
    congr 1
    exact yeM (r := 32) (by rw [B32]; exact hd) (by rw [B32]; exact Nat.mul_mod_left _ _)
   have e4 : (((dg 32 x (i + s / 32) + dg 32 x (i + s / 32 + 1) * 4294967296) / 2 ^ (s % 32) : Nat) : Int) % 4294967296 = (((dg 32 x (i + s / 32) + dg 32 x (i + s / 32 + 1) * 4294967296) / 2 ^ (s % 32) % 4294967296 : Nat) : Int) := by omega
   simp (disch := omega) only [ya9, ybe, yba, yaE, ya5, Bool.and_self, Bool.not_false, Int.toNat_natCast, ybI, yfP, yap, yaU, ybr, e1, e2, e3, o1, sh, ycn, e4]
   exact ih
  ·have hz : dg 32 x (i + s / 32 + 1) = 0 := yeL 32 x n _ hx (by omega)
   rw [hz, Nat.zero_mul, Nat.add_zero] at ih
   have e4 : ((dg 32 x (i + s / 32) / 2 ^ (s % 32) : Nat) : Int) % 4294967296 = ((dg 32 x (i + s / 32) / 2 ^ (s % 32) % 4294967296 : Nat) : Int) := by omega
   simp (disch := omega) only [ya9, ybe, yba, yaE, ya5, yeg, Bool.and_self, Bool.not_false, Int.toNat_natCast, ybI, yfP, yap, yaU, ybr, e1, e2, e3, sh, ycn, e4]
   exact ih
theorem yhr (x n s : Nat) (hn : n ≤ 1000000) (hs : s < 9223372036854775808) (hx : x < 2 ^ (32 * n)) (K : Nat → (Nat → Int) → Prop) (h : K (wl 32 (x / 2 ^ s)) (G 32 (x / 2 ^ s))) : zbf n (G 32 x) s K := by
 rw [zbf.is]; unfold zbf.d
 rw [ybI (by omega) (by omega) (by omega)]
 by_cases hlt : n ≤ s / 32
 ·rw [yaD (yba (by omega))]
  have hz : x / 2 ^ s = 0 := Nat.div_eq_of_lt (Nat.lt_of_lt_of_le hx (Nat.pow_le_pow_right (by omega) (by omega)))
  rw [hz, ydu, yb7] at h
  exact h
 ·rw [yaw (yeK (by omega))]
  have e1 : Int.toNat ((n : Int) - (s : Int) / 32) = n - s / 32 := by omega
  have e2 : (n : Int) - (s : Int) / 32 = ((n - s / 32 : Nat) : Int) := by omega
  simp (disch := omega) only [yas, yba, yaE, Bool.and_self, e1]
  have hlt2 : x / 2 ^ s < 2 ^ (32 * (n - s / 32)) := by
   rw [Nat.div_lt_iff_lt_mul (Nat.two_pow_pos _), ← Nat.pow_add]
   exact Nat.lt_of_lt_of_le hx (Nat.pow_le_pow_right (by omega) (by omega))
  refine ⟨n - s / 32 + 1, ?_⟩
  have := yjC x n s hn hx (by omega) (n - s / 32) (n - s / 32) (fun y0 y1 y2 y3 => zbd y0 y1 y2 y3 fun y0 y1 y2 y3 => K y0 y3) ?_ (n - s / 32) 0 (by omega)
  ·rw [Nat.mul_zero, Nat.pow_zero, Nat.mod_one, yb7] at this; exact this
  ·rw [Nat.mod_eq_of_lt hlt2]
   exact ycW _ _ _ _ (by omega) (Nat.le_refl _) hlt2 _ fun c => h
theorem ymC (k x : Nat) (hk : k ≠ 0) (hx : x ≠ 0) : yav x = k * (wl k x - 1) + yav (dg k x (wl k x - 1)) := by
 have h1 := yeD k hk x
 have hp : wl k x ≠ 0 := by rw [yja hx hk]; omega
 have h2 : x / 2 ^ (k * (wl k x - 1)) = dg k x (wl k x - 1) := by
  have := ydc k x (wl k x - 1)
  rw [show wl k x - 1 + 1 = wl k x from by omega, Nat.div_eq_of_lt h1] at this
  omega
 have h3 := ymP k hk x hx
 rw [← h2] at h3 ⊢
 exact ydf h3
theorem ypS (b : UInt8) (l : List UInt8) : dg 8 (val (b :: l)) l.length = b.toNat := by
 have := yna (b :: l) l.length (by simp)
 rw [show (b :: l).length - 1 - l.length = 0 from by simp] at this
 exact this.symm
theorem yfW (a : List UInt8) (K : Int → Prop) (h : K (if May a then (yav (val a) : Int) else 0)) : zaw a K := by
 rw [zaw.is]; unfold zaw.d
 rw [yaY]
 by_cases hm : May a
 ·rw [if_pos hm] at h
  rw [if_pos hm, yaw (by rfl), ybn]
  cases a with
  | nil => rw [yaD (by simp)]; exact h
  | cons b l =>
   have hl := hm.1
   rw [List.length_cons] at hl
   have hv : val (b :: l) ≠ 0 := fun e => by have := hm.nb; rw [e, yaZ] at this; cases this
   have hb := ymC 8 _ (by omega) hv
   rw [ykB hm.2, List.length_cons, Nat.add_sub_cancel, ypS] at hb
   have hbl := yoZ b
   rw [yaw (by simp), yby (ya9 (by rw [List.length_cons]; omega)), ydB, yaU (by omega) (by omega)]
   refine yeH _ (by omega) _ ?_
   have h8 : yav b.toNat ≤ 8 := (yaL _ _).2 hbl
   rw [List.length_cons]
   simp (disch := omega) only [yas, ybH, yap]
   rw [show 8 * (((l.length + 1 : Nat) : Int) - 1) + (yav b.toNat : Int) = ((yav (val (b :: l)) : Nat) : Int) from by rw [hb]; omega]
   exact h
 ·rw [if_neg hm] at h
  rw [if_neg hm, yaD (by rfl)]; exact h
def ybk (x : Nat) : Nat := if h : x % 2 = 1 ∨ x = 0 then 0 else ybk (x / 2) + 1
decreasing_by omega
theorem yd6 (x : Nat) (h : x ≠ 0) : ∃ q, x = 2 ^ ybk x * (2 * q + 1) := by
 induction x using Nat.strongRecOn with
 | _ x ih =>
  by_cases h1 : x % 2 = 1
  ·have : ybk x = 0 := by rw [ybk]; simp [h1]
   exact ⟨x / 2, by rw [this, Nat.pow_zero, Nat.one_mul]; omega⟩
  ·have : ybk x = ybk (x / 2) + 1 := by rw [ybk]; rw [dif_neg (by omega)]
   obtain ⟨q, hq⟩ := ih (x / 2) (by omega) (by omega)
   refine ⟨q, ?_⟩
   rw [this, Nat.pow_succ, Nat.mul_assoc, Nat.mul_comm 2, ← Nat.mul_assoc, ← hq]; omega
theorem ymn (k q : Nat) : ybk (2 ^ k * (2 * q + 1)) = k := by
 induction k with
 | zero => rw [ybk]; rw [dif_pos (by left; omega)]
 | succ k ih =>
  have hp := Nat.two_pow_pos k
  have hpos : 0 < 2 ^ k * (2 * q + 1) := Nat.mul_pos hp (by omega)
  have e : 2 ^ (k + 1) * (2 * q + 1) = 2 * (2 ^ k * (2 * q + 1)) := by rw [Nat.pow_succ, Nat.mul_comm (2 ^ k) 2, Nat.mul_assoc]
  rw [e, ybk, dif_neg (by omega), show 2 * (2 ^ k * (2 * q + 1)) / 2 = 2 ^ k * (2 * q + 1) from by omega, ih]
theorem yly (x t : Nat) (h0 : x % 2 ^ (8 * t) = 0) (hd : dg 8 x t ≠ 0) : ybk x = 8 * t + ybk (dg 8 x t) := by
 obtain ⟨q, hq⟩ := yd6 _ hd
 have hlt := ya0 8 x t
 have hk : ybk (dg 8 x t) < 8 := by
  apply Classical.byContradiction
  intro hc
  have h1 : 2 ^ 8 ≤ 2 ^ ybk (dg 8 x t) := Nat.pow_le_pow_right (by omega) (by omega)
  have h2 : 2 ^ ybk (dg 8 x t) * 1 ≤ 2 ^ ybk (dg 8 x t) * (2 * q + 1) := Nat.mul_le_mul_left _ (by omega)
  omega
 have hx := ygD 8 x t
 rw [h0, Nat.zero_add] at hx
 generalize hkk : ybk (dg 8 x t) = k at *
 have h8 : (2 : Nat) ^ (8 * (t + 1)) = 2 ^ (8 * t) * (2 ^ k * (2 * 2 ^ (7 - k))) := by
  rw [show (2 : Nat) * 2 ^ (7 - k) = 2 ^ (8 - k) from by rw [show 8 - k = 7 - k + 1 from by omega, Nat.pow_succ, Nat.mul_comm], ← Nat.pow_add, ← Nat.pow_add]; congr 1; omega
 have e : x = 2 ^ (8 * t + k) * (2 * (q + x / 2 ^ (8 * (t + 1)) * 2 ^ (7 - k)) + 1) := by
  conv => lhs; rw [hx, hq]
  generalize x / 2 ^ (8 * (t + 1)) = y
  rw [h8, Nat.pow_add]
  generalize 2 ^ (8 * t) = P
  generalize 2 ^ k = Q
  generalize 2 ^ (7 - k) = R
  have e1 : y * (P * (Q * (2 * R))) = P * Q * (2 * (y * R)) := by
   rw [Nat.mul_left_comm y P, Nat.mul_left_comm y Q, Nat.mul_left_comm y 2, ← Nat.mul_assoc P]
  rw [e1, Nat.mul_comm (Q * _) P, ← Nat.mul_assoc, ← Nat.mul_add]
  congr 1; omega
 have := ymn (8 * t + k) (q + x / 2 ^ (8 * (t + 1)) * 2 ^ (7 - k))
 rw [← e] at this
 exact this
theorem ykF : ybk 0 = 0 := by rw [ybk]; simp
theorem ylc (a : List UInt8) (hl : a.length ≤ 100000) (k0 : Int → Prop) (k1 : Prop) (h0 : val a ≠ 0 → k0 (ybk (val a))) (h1 : val a = 0 → k1) :
  ∀ (j t : Nat), t + j = a.length → val a % 2 ^ (8 * t) = 0 → zax.l4 k0 k1 (j + 1) a ((a.length : Int) - 1 - t) := by
 intro j
 induction j with
 | zero =>
  intro t ht hm
  unfold zax.l4 zax.l4.step
  rw [yaw (yeK (by omega))]
  refine h1 ?_
  rw [Nat.mod_eq_of_lt (by have := yg9 a; rw [ymN] at this; rwa [show t = a.length from by omega])] at hm
  exact hm
 | succ j ih =>
  intro t ht hm
  have hd := ya0 8 (val a) t
  have e8 : (2 : Nat) ^ 8 = 256 := rfl
  have e1 : Int.toNat ((a.length : Int) - 1 - t) = a.length - 1 - t := by omega
  have e2 : (a.length : Int) - 1 - ((a.length : Int) - 1 - t) = t := by omega
  have e3 : (a.length : Int) - 1 - t - 1 = (a.length : Int) - 1 - ((t + 1 : Nat) : Int) := by omega
  unfold zax.l4 zax.l4.step
  simp (disch := omega) only [ya9, yba, yaE, ya5, Bool.and_self, e1]
  rw [yfa a t (by omega)]
  by_cases hz : dg 8 (val a) t = 0
  ·rw [yj7 (by omega), yaw (by rfl)]
   simp (disch := omega) only [yas, e3]
   refine ih (t + 1) (by omega) ?_
   rw [ybd, hm, hz]; omega
  ·rw [ygQ (by omega), yaD (by rfl), yaU (by omega) (by omega)]
   obtain ⟨q, hq⟩ := yd6 _ hz
   have hk : ybk (dg 8 (val a) t) < 64 := by
    apply Classical.byContradiction
    intro hc
    have h1 : 2 ^ 64 ≤ 2 ^ ybk (dg 8 (val a) t) := Nat.pow_le_pow_right (by omega) (by omega)
    have h2 : 2 ^ ybk (dg 8 (val a) t) * 1 ≤ 2 ^ ybk (dg 8 (val a) t) * (2 * q + 1) := Nat.mul_le_mul_left _ (by omega)
    rw [B64] at h1; omega
   have hlow := yly (val a) t hm hz
   have := yh3 (ybk (dg 8 (val a) t)) q hk (by rw [← hq]; omega) (fun y0 => k0 (yai .i64 (ycj .i64 8 (yan .i64 (yan .i64 (a.length : Int) 1) ((a.length : Int) - 1 - t))) y0)) ?_
   ·rw [← hq] at this; exact this
   ·simp (disch := omega) only [yas, ybH, yap, e2]
    rw [show 8 * (t : Int) + (ybk (dg 8 (val a) t) : Int) = ((ybk (val a) : Nat) : Int) from by rw [hlow]; omega]
    refine h0 fun e => hz ?_
    rw [e]; exact yea 8 0 t (Nat.two_pow_pos _)
theorem yej (a : List UInt8) (K : Int → Prop) (h : K (if May a then (ybk (val a) : Int) else 0)) : zax a K := by
 rw [zax.is]; unfold zax.d
 rw [yaY]
 by_cases hm : May a
 ·rw [if_pos hm] at h
  have hl := hm.1
  rw [if_pos hm, yaw (by rfl), yas (by omega) (by omega)]
  refine ⟨a.length + 1, ?_⟩
  have := ylc a (by omega) (fun y0 => K y0) (K 0) (fun _ => h) (fun e => by rw [e, ykF] at h; exact h) a.length 0 (by omega) (by simp [Nat.mod_one])
  rw [show (a.length : Int) - 1 - ((0 : Nat) : Int) = (a.length : Int) - 1 from by omega] at this
  exact this
 ·rw [if_neg hm] at h
  rw [if_neg hm, yaD (by rfl)]; exact h
end Go.Ev.S

/- Natural numbers as rows of words: divided. -/
set_option linter.unusedVariables false
set_option linter.unusedSimpArgs false
set_option maxRecDepth 8000
namespace Go.Ev.S
open Go Go.Ev
theorem yqA {B P U D v1 v2 dl x u2 ul q left : Nat} (hP : 0 < P) (hD : D = (v1 * B + v2) * P + dl) (hU : U = (x * B + u2) * P + ul) (hul : ul < P) (hx : q * v1 + left = x) (hD0 : 0 < D) (hUB : U < D * B)
  (h : B ≤ q ∨ left * B + u2 < q * v2) : U / D < q := by
 rw [Nat.div_lt_iff_lt_mul hD0]
 rcases h with h | h
 ·exact Nat.lt_of_lt_of_le hUB (by rw [Nat.mul_comm q]; exact Nat.mul_le_mul_left _ h)
 ·have h1 : (x * B + u2 + 1) * P ≤ q * ((v1 * B + v2) * P) := by
   rw [← Nat.mul_assoc]
   refine Nat.mul_le_mul_right _ ?_
   rw [← hx, Nat.mul_add, Nat.add_mul, ← Nat.mul_assoc]
   omega
  have h2 : q * ((v1 * B + v2) * P) ≤ q * D := Nat.mul_le_mul_left _ (by omega)
  rw [Nat.add_mul, Nat.one_mul] at h1
  omega
theorem yqY {B P U D v1 v2 dl x u2 ul q left : Nat} (hD : D = (v1 * B + v2) * P + dl) (hdl : dl < P) (hU : U = (x * B + u2) * P + ul) (hx : q * v1 + left = x) (hD0 : 0 < D) (hv : 0 < v1) (hqB : q < B) (h : q * v2 ≤ left * B + u2) : q ≤ U / D + 1 := by
 have key : (q - 1) * D ≤ U := by
  have h1 : (q - 1) * D ≤ (q - 1) * ((v1 * B + v2 + 1) * P) := Nat.mul_le_mul_left _ (by rw [Nat.add_mul (v1 * B + v2)]; omega)
  have h2 : (q - 1) * (v1 * B + v2 + 1) ≤ x * B + u2 := by
   rcases Nat.eq_zero_or_pos q with h0 | h0
   ·subst h0; simp
   ·have e1 : (q - 1) * (v1 * B + v2 + 1) = q * (v1 * B + v2) + (q - 1) - (v1 * B + v2) := by
     obtain ⟨t, rfl⟩ : ∃ t, q = t + 1 := ⟨q - 1, by omega⟩
     rw [Nat.add_sub_cancel, Nat.mul_add t, Nat.add_mul t 1]
     omega
    have e2 : q * (v1 * B + v2) ≤ x * B + u2 := by
     rw [← hx, Nat.mul_add, Nat.add_mul, ← Nat.mul_assoc]; omega
    have e3 : B ≤ v1 * B := Nat.le_mul_of_pos_left _ hv
    omega
  have h3 : (q - 1) * ((v1 * B + v2 + 1) * P) ≤ (x * B + u2) * P := by
   rw [← Nat.mul_assoc]; exact Nat.mul_le_mul_right _ h2
  omega
 have := (Nat.le_div_iff_mul_le hD0).2 key
 omega
theorem yhq (a b : Nat) (ha : a < 4294967296) (hb : b < 4294967296) : orI .u64 (ybM .u64 (a : Int) 32) (b : Int) = ((a * 4294967296 + b : Nat) : Int) := by
 have hb64 : IntKind.bits .u64 = 64 := rfl
 have := yn3 (k := .u64) rfl a 32 (by rw [hb64]; omega)
 rw [show ((32 : Nat) : Int) = 32 from rfl] at this
 rw [this, hb64, B32, Nat.mod_eq_of_lt (by rw [B64]; omega), yrG (k := .u64) rfl _ _ (by rw [hb64, B64]; omega) (by rw [hb64, B64]; omega)]
 congr 1
 rw [Nat.or_comm, yeM (r := 32) (by rw [B32]; exact hb) (by rw [B32]; exact Nat.mul_mod_left _ _), Nat.add_comm]
theorem ypf (a b : Nat) (ha : a < 18446744073709551616) : yaI .u64 (a : Int) (b : Int) = ((a / b : Nat) : Int) := by
 have h : a / b ≤ a := Nat.div_le_self a b
 show IntKind.wrap .u64 ((a : Int).tdiv b) = _
 rw [Int.tdiv_eq_ediv_of_nonneg (by omega)]
 have : (a : Int) / (b : Int) = ((a / b : Nat) : Int) := by simp
 rw [this]
 generalize a / b = q at h ⊢
 exact yh0 (by omega) (by omega)
theorem yi6 {again : Nat → Int → Nat → Nat → Int → Int → Int → Int → Nat → (Nat → Int) → Nat → (Nat → Int) → Nat → (Nat → Int) → Prop} {k0 : Nat → Int → Nat → Nat → Int → Int → Int → Nat → (Nat → Int) → Nat → (Nat → Int) → Nat → (Nat → Int) → Prop} (n0 : Nat) (s : Int) (L md i : Nat) (hmd : 2 ≤ md) (hmd2 : md ≤ 1000000) (c1 c2 c3 : Nat) (f1 f3 : Nat → Int) (D v1 q left : Nat) (hv1 : v1 < 4294967296) (hl : left < 4294967296) (e1 : dg 32 D (md - 1) = v1) (hq1 : q + 1 < 18446744073709551616)
  (h1 : left + v1 < 4294967296 → again n0 s md L md i q (left + v1 : Nat) c1 f1 c2 (G 32 D) c3 f3) (h2 : 4294967296 ≤ left + v1 → k0 n0 s md L md i q c1 f1 c2 (G 32 D) c3 f3) :
  gd (leI 0 (yan IntKind.i64 (md : Int) 1) && ltI (yan IntKind.i64 (md : Int) 1) (md : Int)) (br (leI 4294967296 (yai IntKind.u64 (left : Int) (cvI IntKind.u64 (G 32 D (Int.toNat (yan IntKind.i64 (md : Int) 1)))))) (k0 n0 s md L md i (yan IntKind.u64 ((q + 1 : Nat) : Int) 1) c1 f1 c2 (G 32 D) c3 f3) (again n0 s md L md i (yan IntKind.u64 ((q + 1 : Nat) : Int) 1) (yai IntKind.u64 (left : Int) (cvI IntKind.u64 (G 32 D (Int.toNat (yan IntKind.i64 (md : Int) 1))))) c1 f1 c2 (G 32 D) c3 f3)) := by
 have s1 : yan .u64 ((q + 1 : Nat) : Int) 1 = (q : Int) := by rw [yeV (by omega) (by omega)]; omega
 have a1 : yai .u64 (left : Int) ((v1 : Nat) : Int) = ((left + v1 : Nat) : Int) := by rw [yfQ (by omega) (by omega)]; omega
 have i0 : yan IntKind.i64 (md : Int) 1 = (md : Int) - 1 := by rw [yas (by omega) (by omega)]
 have i1 : Int.toNat ((md : Int) - 1) = md - 1 := by omega
 have i2 : cvI IntKind.u64 ((v1 : Nat) : Int) = v1 := by rw [yaU (by omega) (by omega)]
 rw [i0, i1, ybr, e1, i2, a1, s1, yby (by rw [yba (by omega), ya9 (by omega)]; rfl)]
 by_cases hl2 : left + v1 < 4294967296
 ·rw [yaw (yeK (by omega))]; exact h1 hl2
 ·rw [yaD (yba (by omega))]; exact h2 (by omega)
theorem ynN (left u2 q v2 : Nat) (hl : left < 4294967296) (hu : u2 < 4294967296) (hq : q < 4294967296) (hv : v2 < 4294967296) : ltI (orI IntKind.u64 (ybM IntKind.u64 (left : Int) 32) (cvI IntKind.u64 (u2 : Int))) (ycj IntKind.u64 (q : Int) (cvI IntKind.u64 (v2 : Int))) = decide (left * 4294967296 + u2 < q * v2) := by
 have h1 : q * v2 ≤ 4294967295 * 4294967295 := Nat.mul_le_mul (by omega) (by omega)
 have e4 : ((q : Int) * ((v2 : Nat) : Int)) = ((q * v2 : Nat) : Int) := by simp
 rw [yaU (by omega) (by omega), yaU (by omega) (by omega), yhq left u2 hl hu, ypv (by rw [e4]; omega) (by rw [e4]; omega), e4]
 generalize q * v2 = t
 by_cases h : left * 4294967296 + u2 < t
 ·rw [ya9 (by omega)]; exact (decide_eq_true h).symm
 ·rw [ybe (by omega)]; exact (decide_eq_false h).symm
theorem yiI {again : Nat → Int → Nat → Nat → Int → Int → Int → Int → Nat → (Nat → Int) → Nat → (Nat → Int) → Nat → (Nat → Int) → Prop} {k0 : Nat → Int → Nat → Nat → Int → Int → Int → Nat → (Nat → Int) → Nat → (Nat → Int) → Nat → (Nat → Int) → Prop} (n0 : Nat) (s : Int) (L md i : Nat) (hi : i ≤ 1000000) (hmd : 2 ≤ md) (hmd2 : md ≤ 1000000) (hL : i + md < L) (c1 c2 c3 : Nat) (f1 : Nat → Int) (D N v1 v2 u2 q left : Nat) (hv1 : v1 < 4294967296) (hv2 : v2 < 4294967296) (hu2 : u2 < 4294967296) (hl : left < 4294967296)
  (e1 : dg 32 D (md - 1) = v1) (e2 : dg 32 D (md - 2) = v2) (e3 : dg 32 N (i + md - 2) = u2) (hq1 : q < 18446744073709551616)
  (hd : 4294967296 ≤ q ∨ left * 4294967296 + u2 < q * v2 → ∃ p, q = p + 1 ∧ (left + v1 < 4294967296 → again n0 s md L md i p (left + v1 : Nat) c1 f1 c2 (G 32 D) c3 (G 32 N)) ∧ (4294967296 ≤ left + v1 → k0 n0 s md L md i p c1 f1 c2 (G 32 D) c3 (G 32 N)))
  (hk : q < 4294967296 → q * v2 ≤ left * 4294967296 + u2 → k0 n0 s md L md i q c1 f1 c2 (G 32 D) c3 (G 32 N)) :
  zbj.l24.step again k0 n0 s md L md i q left c1 f1 c2 (G 32 D) c3 (G 32 N) := by
 unfold zbj.l24.step
 by_cases hbig : 4294967296 ≤ q
 ·rw [yaD (yba (by omega))]
  obtain ⟨p, rfl, h1, h2⟩ := hd (.inl hbig)
  exact yi6 n0 s L md i hmd hmd2 c1 c2 c3 f1 _ D v1 p left hv1 hl e1 (by omega) h1 h2
 ·rw [yaw (yeK (by omega))]
  have i0 : yan IntKind.i64 (md : Int) 2 = (md : Int) - 2 := by rw [yas (by omega) (by omega)]
  have i1 : yai IntKind.i64 (i : Int) (md : Int) = (i : Int) + md := by rw [yap (by omega) (by omega)]
  have i2 : yan IntKind.i64 ((i : Int) + md) 2 = (i : Int) + md - 2 := by rw [yas (by omega) (by omega)]
  have i3 : Int.toNat ((md : Int) - 2) = md - 2 := by omega
  have i4 : Int.toNat ((i : Int) + md - 2) = i + md - 2 := by omega
  rw [i0, i1, i2, i3, i4, yby (by rw [yba (by omega), ya9 (by omega)]; rfl), yby (by rw [yba (by omega), ya9 (by omega)]; rfl), ybr, ybr, e2, e3, ynN left u2 q v2 hl hu2 (by omega) hv2]
  by_cases ht : left * 4294967296 + u2 < q * v2
  ·rw [yaD (decide_eq_true ht)]
   obtain ⟨p, rfl, h1, h2⟩ := hd (.inr ht)
   exact yi6 n0 s L md i hmd hmd2 c1 c2 c3 f1 _ D v1 p left hv1 hl e1 (by omega) h1 h2
  ·rw [yaw (decide_eq_false ht)]
   exact hk (by omega) (by omega)
theorem yon {B v1 x q left : Nat} (hxv : x / B ≤ v1) (hB : 0 < B) (hx : q * v1 + left = x) (hq : B ≤ q) : left < B := by
 have h1 : B * v1 ≤ q * v1 := Nat.mul_le_mul_right _ hq
 have h2 := Nat.div_add_mod x B
 have h3 := Nat.mod_lt x hB
 have h4 : B * (x / B) ≤ B * v1 := Nat.mul_le_mul_left _ hxv
 omega
theorem ynG {B q v2 left u2 : Nat} (hq : q < B) (hv : v2 < B) (hl : B ≤ left) : q * v2 ≤ left * B + u2 := by
 have h1 : q * v2 ≤ B * B := Nat.mul_le_mul (by omega) (by omega)
 have h2 : B * B ≤ left * B := Nat.mul_le_mul_right _ hl
 omega
theorem yhO (n s : Int) (L md i : Nat) (hi : i ≤ 1000000) (hmd : 2 ≤ md) (hmd2 : md ≤ 1000000) (hL : i + md < L) (n0 : Nat) (D N : Nat) (c1 c2 c3 : Nat) (f1 : Nat → Int)
  (U v1 v2 dl x u2 ul P : Nat) (hP : 0 < P) (hD : D = (v1 * 4294967296 + v2) * P + dl) (hdl : dl < P) (hU : U = (x * 4294967296 + u2) * P + ul) (hul : ul < P) (hD0 : 0 < D) (hUB : U < D * 4294967296) (hv : 0 < v1)
  (hxv : x / 4294967296 ≤ v1) (hx2 : x < 18446744073709551616)
  (e1 : dg 32 D (md - 1) = v1) (e2 : dg 32 D (md - 2) = v2) (e3 : dg 32 N (i + md - 2) = u2)
  (k0 : Nat → Int → Nat → Nat → Int → Int → Int → Nat → (Nat → Int) → Nat → (Nat → Int) → Nat → (Nat → Int) → Prop)
  (h : ∀ q : Nat, U / D ≤ q → q ≤ U / D + 1 → q < 4294967296 → k0 n0 s md L md i q c1 f1 c2 (G 32 D) c3 (G 32 N)) :
  ∀ (q left : Nat), q * v1 + left = x → left < 4294967296 → U / D ≤ q → zbj.l24 k0 (q + 1) n0 s md L md i q left c1 f1 c2 (G 32 D) c3 (G 32 N) := by
 have hv1 := ya0 32 D (md - 1)
 have hv2 := ya0 32 D (md - 2)
 have hu2 := ya0 32 N (i + md - 2)
 rw [B32, e1] at hv1
 rw [B32, e2] at hv2
 rw [B32, e3] at hu2
 have done : ∀ q left : Nat, q * v1 + left = x → U / D ≤ q → q < 4294967296 → q * v2 ≤ left * 4294967296 + u2 → k0 n0 s md L md i q c1 f1 c2 (G 32 D) c3 (G 32 N) :=
  fun q left hx hge hlt ht => h q hge (yqY hD hdl hU hx hD0 hv hlt ht) hlt
 have qx : ∀ q left : Nat, q * v1 + left = x → q < 18446744073709551616 := fun q left hx => by
  have : q * 1 ≤ q * v1 := Nat.mul_le_mul_left _ hv
  omega
 intro q
 induction q with
 | zero =>
  intro left hx hl hge
  unfold zbj.l24
  refine yiI n0 s L md i hi hmd hmd2 hL c1 c2 c3 f1 D N v1 v2 u2 0 left hv1 hv2 hu2 hl e1 e2 e3 (by omega) (fun hc => ?_) (fun a b => done 0 left hx hge a b)
  rw [Nat.zero_mul] at hc
  omega
 | succ q ih =>
  intro left hx hl hge
  have hqx := qx (q + 1) left hx
  have hx' : q * v1 + (left + v1) = x := by rw [Nat.add_mul] at hx; omega
  have hover : 4294967296 ≤ left + v1 → q < 4294967296 := fun hl2 => by
   apply Classical.byContradiction
   intro hc
   have := yon hxv (by omega) hx' (by omega)
   omega
  unfold zbj.l24
  refine yiI n0 s L md i hi hmd hmd2 hL c1 c2 c3 f1 D N v1 v2 u2 (q + 1) left hv1 hv2 hu2 hl e1 e2 e3 hqx (fun hc => ?_) (fun a b => done (q + 1) left hx hge a b)
  have hlt := yqA hP hD hU hul hx hD0 hUB hc
  have hge' : U / D ≤ q := Nat.le_of_lt_succ hlt
  exact ⟨q, rfl, fun hl2 => ih (left + v1) hx' hl2 hge', fun hl2 => done q (left + v1) hx' hge' (hover hl2) (ynG (hover hl2) hv2 hl2)⟩
theorem yq1 (k n x : Nat) (hk : k ≠ 0) (h : ∀ i, n ≤ i → dg k x i = 0) : x < 2 ^ (k * n) := by
 rw [← yet k hk]
 apply Classical.byContradiction
 intro hc
 have hx : x ≠ 0 := by intro e; subst e; rw [ydu] at hc; omega
 exact ymP k hk x hx (h _ (by omega))
theorem yl9 {k N N' w j n : Nat} (hk : k ≠ 0) (hN : N < 2 ^ (k * n)) (hj : j < n) (hw : w < 2 ^ k) (h : N' + dg k N j * 2 ^ (k * j) = N + w * 2 ^ (k * j)) : N' < 2 ^ (k * n) := by
 refine yq1 k n N' hk fun i hi => ?_
 have h1 := congrFun (yg4 h hw) i
 rw [ycP _ _ _ _ (by omega), ybr, ybr, yeL k N n i hN hi] at h1
 omega
theorem yif (n0 : Nat) (s : Int) (L md i q : Nat) (hi : i ≤ 1000000) (hmd2 : md ≤ 1000000) (hL : i + md < L) (hq : q < 4294967296) (c1 c2 c3 : Nat) (f1 : Nat → Int) (D N0 : Nat) (hD : D < 2 ^ (32 * md)) (hN0 : N0 < 2 ^ (32 * (i + md + 1)))
  (k0 : Nat → Int → Nat → Nat → Int → Int → Int → Int → Int → Nat → (Nat → Int) → Nat → (Nat → Int) → Nat → (Nat → Int) → Prop)
  (h : ∀ (N c : Nat) (b : Int), N < 2 ^ (32 * (i + md + 1)) → c < 4294967296 → -1 ≤ b → b ≤ 0 → (N : Int) + (b - c) * ((2 ^ (32 * (i + md)) : Nat) : Int) = N0 - ((q * D * 2 ^ (32 * i) : Nat) : Int) → k0 n0 s md L md i q c b c1 f1 c2 (G 32 D) c3 (G 32 N)) :
  ∀ (j k N c : Nat) (b : Int), k + j = md → N < 2 ^ (32 * (i + md + 1)) → c < 4294967296 → -1 ≤ b → b ≤ 0 → (N : Int) + (b - c) * ((2 ^ (32 * (i + k)) : Nat) : Int) = N0 - ((q * (D % 2 ^ (32 * k)) * 2 ^ (32 * i) : Nat) : Int) →
   zbj.l31 k0 (j + 1) n0 s md L md i q c b md k c1 f1 c2 (G 32 D) c3 (G 32 N) := by
 intro j
 induction j with
 | zero =>
  intro k N c b hk hN hc hb1 hb2 hE
  have hk : k = md := by omega
  subst hk
  unfold zbj.l31 zbj.l31.step
  rw [yaw (ybe (by omega))]
  rw [Nat.mod_eq_of_lt hD] at hE
  exact h N c b hN hc hb1 hb2 hE
 | succ j ih =>
  intro k N c b hk hN hc hb1 hb2 hE
  have hdN := ya0 32 N (i + k)
  have hdD := ya0 32 D k
  rw [B32] at hdN hdD
  have hm : q * dg 32 D k ≤ 4294967295 * 4294967295 := Nat.mul_le_mul (by omega) (by omega)
  have hD1 := ybd 32 D k
  -- the product's low word, and what is carried
  have hs : ∀ (t : Nat) (z : Int), t = c + q * dg 32 D k → z = b + ((dg 32 N (i + k) : Int) - ((t % 4294967296 : Nat) : Int)) →
    zbj.l31 k0 (j + 1) n0 s md L md i q ((t / 4294967296 : Nat) : Int) (z / 4294967296) md ((k : Int) + 1) c1 f1 c2 (G 32 D) c3 (upd (G 32 N) (i + k) (z % 4294967296)) := by
   intro t z ht hz
   have hw : z % 4294967296 = ((z % 4294967296).toNat : Int) := by omega
   have hwl : (z % 4294967296).toNat < 2 ^ 32 := by rw [B32]; omega
   have e : ((k + 1 : Nat) : Int) = (k : Int) + 1 := by omega
   have hsp := ygD 32 N (i + k)
   obtain ⟨N', hN'⟩ : ∃ N', N' + dg 32 N (i + k) * 2 ^ (32 * (i + k)) = N + (z % 4294967296).toNat * 2 ^ (32 * (i + k)) :=
    ⟨N % 2 ^ (32 * (i + k)) + (z % 4294967296).toNat * 2 ^ (32 * (i + k)) + N / 2 ^ (32 * (i + k + 1)) * 2 ^ (32 * (i + k + 1)), by omega⟩
   rw [hw, yg4 hN' hwl, ← e]
   refine ih (k + 1) N' _ _ (by omega) (yl9 (by omega) hN (by omega) hwl hN') (by omega) (by omega) (by omega) ?_
   rw [hD1, show i + (k + 1) = i + k + 1 from by omega, yb4, B32]
   have hp : 2 ^ (32 * (i + k)) = 2 ^ (32 * k) * 2 ^ (32 * i) := by rw [← Nat.pow_add, show 32 * k + 32 * i = 32 * (i + k) from by omega]
   have h1 : ((q * (D % 2 ^ (32 * k) + dg 32 D k * 2 ^ (32 * k)) * 2 ^ (32 * i) : Nat) : Int) = ((q * (D % 2 ^ (32 * k)) * 2 ^ (32 * i) : Nat) : Int) + ((q * dg 32 D k : Nat) : Int) * ((2 ^ (32 * (i + k)) : Nat) : Int) := by
    rw [hp, Nat.mul_add, Nat.add_mul, ← Nat.mul_assoc q (dg 32 D k), Nat.mul_assoc (q * dg 32 D k)]
    simp
   rw [h1]
   generalize 2 ^ (32 * (i + k)) = P at *
   have h4 := Int.emod_add_mul_ediv z 4294967296
   have h5 : z * (P : Int) = (z % 4294967296).toNat * (P : Int) + z / 4294967296 * ((P : Int) * 4294967296) := by
    conv => lhs; rw [← h4]
    rw [← hw, Int.add_mul, Int.mul_comm (4294967296 : Int), Int.mul_assoc, Int.mul_comm (4294967296 : Int)]
   have h6 : z * (P : Int) = b * P + (dg 32 N (i + k) : Int) * P - ((t % 4294967296 : Nat) : Int) * P := by rw [hz, Int.add_mul, Int.sub_mul]; omega
   have h7 : ((t : Nat) : Int) * (P : Int) = ((t % 4294967296 : Nat) : Int) * P + ((t / 4294967296 : Nat) : Int) * ((P : Int) * 4294967296) := by
    have := yjs t 4294967296 P
    have h8 : ((t % 4294967296 * P + t / 4294967296 * (P * 4294967296) : Nat) : Int) = ((t * P : Nat) : Int) := by rw [this]
    simpa using h8.symm
   have h9 : ((t : Nat) : Int) * (P : Int) = (c : Int) * P + ((q * dg 32 D k : Nat) : Int) * P := by rw [ht]; rw [show ((c + q * dg 32 D k : Nat) : Int) = (c : Int) + ((q * dg 32 D k : Nat) : Int) from by omega, Int.add_mul]
   have h10 : (N' : Int) + (dg 32 N (i + k) : Int) * P = N + ((z % 4294967296).toNat : Int) * P := by
    have : ((N' + dg 32 N (i + k) * P : Nat) : Int) = ((N + (z % 4294967296).toNat * P : Nat) : Int) := by rw [hN']
    simpa using this
   have c4 : ((P * 4294967296 : Nat) : Int) = (P : Int) * 4294967296 := by simp
   rw [c4, Int.sub_mul]
   rw [Int.sub_mul] at hE
   omega
  have e0 : Int.toNat ((i : Int) + k) = i + k := by omega
  have e5 : ycj .u64 (q : Int) (dg 32 D k : Int) = ((q * dg 32 D k : Nat) : Int) := by
   have e4 : ((q : Int) * (dg 32 D k : Int)) = ((q * dg 32 D k : Nat) : Int) := by simp
   rw [ypv (by rw [e4]; omega) (by rw [e4]; omega), e4]
  have e6 : (c : Int) + ((q * dg 32 D k : Nat) : Int) = ((c + q * dg 32 D k : Nat) : Int) := by omega
  have e7 : ((c + q * dg 32 D k : Nat) : Int) / 4294967296 = (((c + q * dg 32 D k) / 4294967296 : Nat) : Int) := by omega
  have e8 : ((c + q * dg 32 D k : Nat) : Int) % 4294967296 = (((c + q * dg 32 D k) % 4294967296 : Nat) : Int) := by omega
  unfold zbj.l31 zbj.l31.step
  simp (disch := omega) only [ya9, yba, yaE, ya5, Bool.and_self, Int.toNat_natCast, yap, yas, yaU, yfQ, ybr, e0, e5, e6, yc8, yop, ycn, e7, e8, yi7]
  exact hs _ _ rfl rfl
theorem yir (n0 : Nat) (s : Int) (L md i : Nat) (q : Int) (hi : i ≤ 1000000) (hmd2 : md ≤ 1000000) (hL : i + md < L) (c1 c2 c3 : Nat) (f1 : Nat → Int) (D N0 : Nat) (hD : D < 2 ^ (32 * md))
  (k0 : Nat → Int → Nat → Nat → Int → Int → Int → Int → Nat → (Nat → Int) → Nat → (Nat → Int) → Nat → (Nat → Int) → Prop)
  (h : ∀ (N c : Nat), N < 2 ^ (32 * (i + md + 1)) → c < 4294967296 → N + c * 2 ^ (32 * (i + md)) = N0 + D * 2 ^ (32 * i) → k0 n0 s md L md i q c c1 f1 c2 (G 32 D) c3 (G 32 N)) :
  ∀ (j k N c : Nat), k + j = md → N < 2 ^ (32 * (i + md + 1)) → c < 2 → N + c * 2 ^ (32 * (i + k)) = N0 + D % 2 ^ (32 * k) * 2 ^ (32 * i) → zbj.l45 k0 (j + 1) n0 s md L md i q c md k c1 f1 c2 (G 32 D) c3 (G 32 N) := by
 intro j
 induction j with
 | zero =>
  intro k N c hk hN hc hE
  have hk : k = md := by omega
  subst hk
  unfold zbj.l45 zbj.l45.step
  rw [yaw (ybe (by omega))]
  rw [Nat.mod_eq_of_lt hD] at hE
  exact h N c hN (by omega) hE
 | succ j ih =>
  intro k N c hk hN hc hE
  have hdN := ya0 32 N (i + k)
  have hdD := ya0 32 D k
  rw [B32] at hdN hdD
  have hD1 := ybd 32 D k
  obtain ⟨N', s1, s2⟩ := ynk (k := 32) (N := N) (j := i + k) (s := c + (dg 32 N (i + k) + dg 32 D k)) rfl
  have hw : (c + (dg 32 N (i + k) + dg 32 D k)) % 4294967296 < 2 ^ 32 := Nat.mod_lt _ (by omega)
  have e : ((k + 1 : Nat) : Int) = (k : Int) + 1 := by omega
  have next := ih (k + 1) N' ((c + (dg 32 N (i + k) + dg 32 D k)) / 4294967296) (by omega) (yl9 (by omega) hN (by omega) hw s1) (by omega) (by
   rw [hD1, show i + (k + 1) = i + k + 1 from by omega]
   rw [B32, Nat.add_mul, Nat.add_mul] at s2
   have hp : dg 32 D k * 2 ^ (32 * k) * 2 ^ (32 * i) = dg 32 D k * 2 ^ (32 * (i + k)) := by rw [Nat.mul_assoc, ← Nat.pow_add, show 32 * k + 32 * i = 32 * (i + k) from by omega]
   rw [Nat.add_mul, hp]
   omega)
  rw [e] at next
  have hG : upd (G 32 N) (i + k) (((c + (dg 32 N (i + k) + dg 32 D k)) % 4294967296 : Nat) : Int) = G 32 N' := yg4 s1 hw
  have e0 : Int.toNat ((i : Int) + k) = i + k := by omega
  have e1 : ((c : Int) + ((dg 32 N (i + k) : Int) + (dg 32 D k : Int))) / 4294967296 = (((c + (dg 32 N (i + k) + dg 32 D k)) / 4294967296 : Nat) : Int) := by omega
  have e2 : ((c : Int) + ((dg 32 N (i + k) : Int) + (dg 32 D k : Int))) % 4294967296 = (((c + (dg 32 N (i + k) + dg 32 D k)) % 4294967296 : Nat) : Int) := by omega
  unfold zbj.l45 zbj.l45.step
  simp (disch := omega) only [ya9, yba, yaE, ya5, Bool.and_self, Int.toNat_natCast, yap, yaU, yfQ, ybr, e0, yc8, ycn, e1, e2]
  rw [hG]; exact next
end Go.Ev.S

/- Natural numbers as rows of words: the loop of the long division. -/
set_option linter.unusedVariables false
set_option linter.unusedSimpArgs false
set_option maxRecDepth 8000
namespace Go.Ev.S
open Go Go.Ev
theorem yoD {PT E R T q qs Nl : Nat} {z : Int} (hE : E < PT) (hNl : Nl < PT) (h1 : qs * E ≤ R) (h2 : R < qs * E + E) (hT : T = q * E) (h : (Nl : Int) + z * (PT : Int) = R - (T : Int)) (hq1 : qs ≤ q) (hq2 : q ≤ qs + 1) :
  (q = qs ∧ z = 0 ∧ Nl = R - qs * E) ∨ (q = qs + 1 ∧ z = -1 ∧ Nl + E = PT + (R - qs * E)) := by
 have zp : z ≥ 1 → (PT : Int) ≤ z * PT := fun hz => by
  have := Int.mul_le_mul_of_nonneg_right hz (show (0 : Int) ≤ PT by omega)
  omega
 have zn : z ≤ -1 → z * PT ≤ -(PT : Int) := fun hz => by
  have := Int.mul_le_mul_of_nonneg_right hz (show (0 : Int) ≤ PT by omega)
  omega
 have zn2 : z ≤ -2 → z * PT ≤ -(PT : Int) - PT := fun hz => by
  have := Int.mul_le_mul_of_nonneg_right hz (show (0 : Int) ≤ PT by omega)
  omega
 rcases (by omega : q = qs ∨ q = qs + 1) with e | e
 ·left
  rw [e] at hT
  have hz : z = 0 := by
   rcases (by omega : z ≥ 1 ∨ z ≤ -1 ∨ z = 0) with hz | hz | hz
   ·have := zp hz; omega
   ·have := zn hz; omega
   ·exact hz
  subst hz
  refine ⟨e, rfl, ?_⟩
  rw [Int.zero_mul] at h
  omega
 ·right
  rw [e, Nat.add_mul, Nat.one_mul] at hT
  have hz : z = -1 := by
   rcases (by omega : z ≥ 1 ∨ z ≤ -2 ∨ z = 0 ∨ z = -1) with hz | hz | hz | hz
   ·have := zp hz; omega
   ·have := zn2 hz; omega
   ·subst hz; rw [Int.zero_mul] at h; omega
   ·exact hz
  subst hz
  refine ⟨e, rfl, ?_⟩
  omega
theorem yl4 (D R md i : Nat) (hmd : 2 ≤ md) (hD : D < 2 ^ (32 * md)) (hv : dg 32 D (md - 1) ≠ 0) (hR : R < D * 2 ^ (32 * (i + 1))) :
  ∃ dl ul P, 0 < P ∧ dl < P ∧ ul < P ∧ D = (dg 32 D (md - 1) * 4294967296 + dg 32 D (md - 2)) * P + dl ∧
   R / 2 ^ (32 * i) = ((dg 32 R (i + md) * 4294967296 + dg 32 R (i + md - 1)) * 4294967296 + dg 32 R (i + md - 2)) * P + ul ∧
   R / 2 ^ (32 * i) < D * 4294967296 ∧ dg 32 R (i + md) ≤ dg 32 D (md - 1) ∧ R / 2 ^ (32 * i) / D ≤ (dg 32 R (i + md) * 4294967296 + dg 32 R (i + md - 1)) / dg 32 D (md - 1) := by
 obtain ⟨m, rfl⟩ : ∃ m, md = m + 2 := ⟨md - 2, by omega⟩
 have hU : R / 2 ^ (32 * i) < D * 4294967296 := by
  rw [Nat.div_lt_iff_lt_mul (Nat.two_pow_pos _), Nat.mul_assoc, Nat.mul_comm 4294967296, ← B32, ← yb4]
  exact hR
 have hd := fun j => yne 32 R i j
 generalize R / 2 ^ (32 * i) = U at *
 have hUB : U < 2 ^ (32 * (m + 3)) := by
  rw [yb4, B32]
  exact Nat.lt_trans hU (Nat.mul_lt_mul_of_pos_right hD (by omega))
 have a1 := ydc 32 D m
 have a2 := ydc 32 D (m + 1)
 have b1 := ydc 32 U m
 have b2 := ydc 32 U (m + 1)
 have b3 := ydc 32 U (m + 2)
 rw [Nat.div_eq_of_lt hD] at a2
 rw [Nat.div_eq_of_lt hUB] at b3
 rw [B32] at a1 a2 b1 b2 b3
 rw [hd] at b1 b2 b3
 rw [show m + 1 + 1 = m + 2 from rfl] at b2
 have hP := Nat.two_pow_pos (32 * m)
 have c1 := Nat.div_add_mod D (2 ^ (32 * m))
 have c2 := Nat.div_add_mod U (2 ^ (32 * m))
 have c3 := Nat.mod_lt D hP
 have c4 := Nat.mod_lt U hP
 have c5 := Nat.mod_lt D (Nat.two_pow_pos (32 * (m + 1)))
 have c6 := Nat.div_add_mod D (2 ^ (32 * (m + 1)))
 have d1 : D / 2 ^ (32 * m) = dg 32 D (m + 1) * 4294967296 + dg 32 D m := by omega
 have d2 : U / 2 ^ (32 * m) = (dg 32 R (i + (m + 2)) * 4294967296 + dg 32 R (i + (m + 1))) * 4294967296 + dg 32 R (i + m) := by omega
 have d3 : D / 2 ^ (32 * (m + 1)) = dg 32 D (m + 1) := by omega
 have d4 : U / 2 ^ (32 * (m + 1)) = dg 32 R (i + (m + 2)) * 4294967296 + dg 32 R (i + (m + 1)) := by omega
 have d5 : U / 2 ^ (32 * (m + 2)) = dg 32 R (i + (m + 2)) := by omega
 simp only [show m + 2 - 1 = m + 1 from rfl, show m + 2 - 2 = m from rfl, show i + (m + 2) - 1 = i + (m + 1) from rfl, show i + (m + 2) - 2 = i + m from rfl] at hv ⊢
 refine ⟨D % 2 ^ (32 * m), U % 2 ^ (32 * m), 2 ^ (32 * m), hP, c3, c4, ?_, ?_, hU, ?_, ?_⟩
 ·rw [← d1, Nat.mul_comm]; exact c1.symm
 ·rw [← d2, Nat.mul_comm]; exact c2.symm
 ·rw [← d5]
  have : U < (dg 32 D (m + 1) + 1) * 2 ^ (32 * (m + 2)) := by
   rw [show m + 2 = m + 1 + 1 from rfl, yb4 32 (m + 1), B32, ← Nat.mul_assoc]
   refine Nat.lt_of_lt_of_le hU (Nat.mul_le_mul_right _ ?_)
   rw [Nat.add_mul, ← d3, Nat.mul_comm (D / _)]
   omega
  have := (Nat.div_lt_iff_lt_mul (Nat.two_pow_pos (32 * (m + 2)))).2 this
  omega
 ·rw [← d4, Nat.div_div_eq_div_mul]
  refine Nat.div_le_div_left ?_ (Nat.mul_pos (Nat.two_pow_pos _) (by omega))
  rw [← d3]; exact Nat.mul_div_le D _
theorem yjf {N t w z : Nat} (hN : N < 2 ^ (32 * (t + 1))) (hw : w < 2 ^ 32) : upd (G 32 N) t (w : Int) = G 32 (N % 2 ^ (32 * t) + w * 2 ^ (32 * t)) := by
 rw [yru 32 N w t hw, Nat.div_eq_of_lt hN, Nat.zero_mul, Nat.add_zero]
theorem yhJ (n0 : Nat) (s : Int) (L md i : Nat) (hmd : 2 ≤ md) (hmd2 : md ≤ 1000000) (hi : i ≤ 1000000) (hL : i + md < L) (hL2 : L ≤ 2000000) (hin : i < n0) (hn : n0 ≤ 1000000) (c1 c2 c3 : Nat) (D Q R : Nat)
  (hD : D < 2 ^ (32 * md)) (hv : dg 32 D (md - 1) ≠ 0) (hR : R < D * 2 ^ (32 * (i + 1))) (hQ : Q % 2 ^ (32 * (i + 1)) = 0)
  (again : Nat → Int → Nat → Nat → Int → Int → Nat → (Nat → Int) → Nat → (Nat → Int) → Nat → (Nat → Int) → Prop) (k0 : Nat → Int → Nat → Nat → (Nat → Int) → Nat → (Nat → Int) → Prop)
  (h : ∀ q R', q < 4294967296 → R' + q * (D * 2 ^ (32 * i)) = R → R' < D * 2 ^ (32 * i) → again n0 s md L md ((i : Int) - 1) c1 (G 32 (Q + q * 2 ^ (32 * i))) c2 (G 32 D) c3 (G 32 R')) :
  zbj.l20.step again k0 n0 s md L md i c1 (G 32 Q) c2 (G 32 D) c3 (G 32 R) := by
 obtain ⟨dl, ul, P, hP, hdl, hul, hDe, hUe, hUB, hu1, hq0⟩ := yl4 D R md i hmd hD hv hR
 have hv1 := ya0 32 D (md - 1)
 have hv2 := ya0 32 D (md - 2)
 have hr0 := ya0 32 R (i + md)
 have hr1 := ya0 32 R (i + md - 1)
 rw [B32] at hv1 hv2 hr0 hr1
 have hD0 : 0 < D := by
  rcases Nat.eq_zero_or_pos D with e | e
  ·rw [e] at hR; omega
  ·exact e
 have hx2 : dg 32 R (i + md) * 4294967296 + dg 32 R (i + md - 1) < 18446744073709551616 := by omega
 have hqs : R / 2 ^ (32 * i) / D < 4294967296 := (Nat.div_lt_iff_lt_mul hD0).2 (by rw [Nat.mul_comm 4294967296]; exact hUB)
 have hPi := Nat.two_pow_pos (32 * i)
 have hE : D * 2 ^ (32 * i) < 2 ^ (32 * (i + md)) := by
  rw [show 32 * (i + md) = 32 * md + 32 * i from by omega, Nat.pow_add]
  exact Nat.mul_lt_mul_of_pos_right hD hPi
 have hRlt : R < 2 ^ (32 * (i + md + 1)) := by
  refine Nat.lt_trans hR ?_
  rw [show 32 * (i + md + 1) = 32 * md + 32 * (i + 1) from by omega, Nat.pow_add]
  exact Nat.mul_lt_mul_of_pos_right hD (Nat.two_pow_pos _)
 have hq1 : R / 2 ^ (32 * i) / D * (D * 2 ^ (32 * i)) ≤ R := by
  rw [Nat.div_div_eq_div_mul, Nat.mul_comm (2 ^ (32 * i)) D]; exact Nat.div_mul_le_self _ _
 have hq2 : R < R / 2 ^ (32 * i) / D * (D * 2 ^ (32 * i)) + D * 2 ^ (32 * i) := by
  rw [Nat.div_div_eq_div_mul, Nat.mul_comm (2 ^ (32 * i)) D]
  have a := Nat.div_add_mod R (D * 2 ^ (32 * i))
  have b := Nat.mod_lt R (Nat.mul_pos hD0 hPi)
  rw [Nat.mul_comm] at a
  omega
 generalize R / 2 ^ (32 * i) = U at *
 have fin := h (U / D) (R - U / D * (D * 2 ^ (32 * i))) hqs (by omega) (by omega)
 generalize hqse : U / D = qs at *
 have i0 : yan IntKind.i64 (md : Int) 1 = (md : Int) - 1 := by rw [yas (by omega) (by omega)]
 have i1 : yai IntKind.i64 (i : Int) (md : Int) = (i : Int) + md := by rw [yap (by omega) (by omega)]
 have i2 : yan IntKind.i64 ((i : Int) + md) 1 = (i : Int) + md - 1 := by rw [yas (by omega) (by omega)]
 have i3 : Int.toNat ((md : Int) - 1) = md - 1 := by omega
 have i4 : Int.toNat ((i : Int) + md - 1) = i + md - 1 := by omega
 have i5 : Int.toNat ((i : Int) + md) = i + md := by omega
 have i6 : yan IntKind.i64 (i : Int) 1 = (i : Int) - 1 := by rw [yas (by omega) (by omega)]
 have w0 : (leI 0 ((i : Int) + md) && ltI ((i : Int) + md) (L : Int)) = true := by rw [yba (by omega), ya9 (by omega)]; rfl
 have w1 : (leI 0 ((i : Int) + md - 1) && ltI ((i : Int) + md - 1) (L : Int)) = true := by rw [yba (by omega), ya9 (by omega)]; rfl
 have w2 : (leI 0 ((md : Int) - 1) && ltI ((md : Int) - 1) (md : Int)) = true := by rw [yba (by omega), ya9 (by omega)]; rfl
 have w3 : (leI 0 (i : Int) && ltI (i : Int) (n0 : Int)) = true := by rw [yba (by omega), ya9 (by omega)]; rfl
 have w4 : (!eqI ((dg 32 D (md - 1) : Nat) : Int) 0) = true := by rw [ygQ (by omega)]; rfl
 have c0 : ∀ j, cvI IntKind.u64 ((dg 32 D j : Nat) : Int) = (dg 32 D j : Nat) := fun j => by
  have := ya0 32 D j; rw [B32] at this; rw [yaU (by omega) (by omega)]
 have c4 : ∀ j, cvI IntKind.u64 ((dg 32 R j : Nat) : Int) = (dg 32 R j : Nat) := fun j => by
  have := ya0 32 R j; rw [B32] at this; rw [yaU (by omega) (by omega)]
 -- the quotient's word
 have setQ : ∀ q : Nat, q = qs → upd (G 32 Q) i (cvI IntKind.u32 (q : Int)) = G 32 (Q + qs * 2 ^ (32 * i)) := by
  intro q e
  have hz : dg 32 Q i = 0 := by
   have := ybd 32 Q i
   rw [hQ] at this
   have h0 : dg 32 Q i * 2 ^ (32 * i) = 0 := by omega
   rcases Nat.mul_eq_zero.1 h0 with h0 | h0
   ·exact h0
   ·omega
  rw [e, ycn, show ((qs : Nat) : Int) % 4294967296 = ((qs : Nat) : Int) from by omega]
  exact yg4 (by rw [hz]; omega) (by rw [B32]; exact hqs)
 unfold zbj.l20.step
 rw [yaD (yba (by omega)), i1, i2, i0, i3, i4, i5, yby w0, yby w1, yby w2]
 simp only [ybr]
 rw [c0, c4, c4, yby w4, yby w2, yby w4, yhq _ _ hr0 hr1, ypf _ _ hx2, yfP (by omega), ← Int.natCast_emod]
 refine ⟨_, yhO 0 s L md i hi hmd hmd2 hL n0 D R c1 c2 c3 (G 32 Q) U (dg 32 D (md - 1)) (dg 32 D (md - 2)) dl _ (dg 32 R (i + md - 2)) ul P hP hDe hdl hUe hul hD0 hUB (by omega) ?_ hx2 rfl rfl rfl _ ?_ _ _ ?_ ?_ ?_⟩
 ·omega
 ·-- behind the guess
  intro q hge hle hqB
  rw [hqse] at hge hle
  refine ⟨md + 1, ?_⟩
  refine yif n0 s L md i q hi hmd2 hL hqB c1 c2 c3 (G 32 Q) D R hD hRlt _ ?_ md 0 R 0 0 (by omega) hRlt (by omega) (by omega) (by omega) (by simp [Nat.mod_one])
  intro N c b hN hc hb1 hb2 hE2
  have hdN := ya0 32 N (i + md)
  rw [B32] at hdN
  have hNs := ybd 32 N (i + md)
  rw [Nat.mod_eq_of_lt hN] at hNs
  have hNl := Nat.mod_lt N (Nat.two_pow_pos (32 * (i + md)))
  have e1 : ((dg 32 N (i + md) : Nat) : Int) - (c : Int) = (dg 32 N (i + md) : Int) - c := rfl
  have cz : yai IntKind.i64 b (yan IntKind.i64 (cvI IntKind.i64 ((dg 32 N (i + md) : Nat) : Int)) (cvI IntKind.i64 (c : Int))) = b + ((dg 32 N (i + md) : Int) - c) := by
   rw [yi7 (by omega) (by omega), yi7 (by omega) (by omega), yas (by omega) (by omega), yap (by omega) (by omega)]
  have hf := yoD (z := b + ((dg 32 N (i + md) : Int) - c)) (T := q * D * 2 ^ (32 * i)) (q := q) hE hNl hq1 hq2 (by rw [Nat.mul_assoc]) (by
   rw [← hE2]
   have e2 : (N : Int) = ((N % 2 ^ (32 * (i + md)) : Nat) : Int) + (dg 32 N (i + md) : Int) * ((2 ^ (32 * (i + md)) : Nat) : Int) := by
    have : ((N : Nat) : Int) = ((N % 2 ^ (32 * (i + md)) + dg 32 N (i + md) * 2 ^ (32 * (i + md)) : Nat) : Int) := by rw [← hNs]
    rw [this]; simp
   rw [e2]
   generalize ((2 ^ (32 * (i + md)) : Nat) : Int) = PT
   rw [show b + ((dg 32 N (i + md) : Int) - c) = dg 32 N (i + md) + (b - c) from by omega, Int.add_mul]
   omega) hge hle
  show gd _ _
  rw [i1, i5, yby w0, yby w0]
  simp only [ybr]
  rw [cz]
  rcases hf with ⟨hq, hz, hNe⟩ | ⟨hq, hz, hNe⟩
  ·rw [hz, yaw (by rfl), yby w3, i6, Int.toNat_natCast, setQ q hq]
   have : upd (G 32 N) (i + md) (cvI IntKind.u32 0) = G 32 (R - qs * (D * 2 ^ (32 * i))) := by
    have := yjf (w := 0) (z := 0) hN (by omega)
    rw [Nat.zero_mul, Nat.add_zero, hNe] at this
    exact this
   rw [this]; exact fin
  ·rw [hz, yaD (by rfl)]
   have hup : upd (G 32 N) (i + md) (cvI IntKind.u32 (-1)) = G 32 (N % 2 ^ (32 * (i + md)) + 4294967295 * 2 ^ (32 * (i + md))) :=
    yjf (w := 4294967295) (z := 0) hN (by omega)
   have hNlt := yf8 32 (N % 2 ^ (32 * (i + md))) 4294967295 (i + md) hNl (by omega)
   have hs1 : yan IntKind.u64 (q : Int) 1 = ((qs : Nat) : Int) := by rw [yeV (by omega) (by omega)]; omega
   rw [hup, hs1]
   refine ⟨md + 1, ?_⟩
   refine yir n0 s L md i (qs : Int) hi hmd2 hL c1 c2 c3 (G 32 Q) D (N % 2 ^ (32 * (i + md)) + 4294967295 * 2 ^ (32 * (i + md))) hD _ ?_ md 0 _ 0 (by omega) hNlt (by omega) (by simp [Nat.mod_one])
   intro N2 c5 hN2 hc5 hE3
   have hd2 := ya0 32 N2 (i + md)
   rw [B32] at hd2
   have hNs2 := ybd 32 N2 (i + md)
   rw [Nat.mod_eq_of_lt hN2] at hNs2
   have hNl2 := Nat.mod_lt N2 (Nat.two_pow_pos (32 * (i + md)))
   have cc : cvI IntKind.u32 (c5 : Int) = c5 := by rw [ycn]; omega
   -- the sum of the two highest words is the base
   have hsum : dg 32 N2 (i + md) + c5 = 4294967296 ∧ N2 % 2 ^ (32 * (i + md)) = R - qs * (D * 2 ^ (32 * i)) := by
    have hl : N2 % 2 ^ (32 * (i + md)) + (dg 32 N2 (i + md) + c5) * 2 ^ (32 * (i + md)) = (R - qs * (D * 2 ^ (32 * i))) + 4294967296 * 2 ^ (32 * (i + md)) := by
     rw [Nat.add_mul]; omega
    have hlt : R - qs * (D * 2 ^ (32 * i)) < 2 ^ (32 * (i + md)) := by omega
    generalize 2 ^ (32 * (i + md)) = PT at *
    generalize dg 32 N2 (i + md) + c5 = t at *
    generalize R - qs * (D * 2 ^ (32 * i)) = v at *
    generalize N2 % PT = u at *
    have hPT : 0 < PT := by omega
    have a1 : (u + t * PT) / PT = t := by rw [Nat.add_mul_div_right _ _ hPT, Nat.div_eq_of_lt hNl2, Nat.zero_add]
    have a2 : (v + 4294967296 * PT) / PT = 4294967296 := by rw [Nat.add_mul_div_right _ _ hPT, Nat.div_eq_of_lt hlt, Nat.zero_add]
    rw [hl, a2] at a1
    subst a1
    exact ⟨rfl, by omega⟩
   show gd _ _
   rw [i1, i5, yby w0, yby w0, yby w3, i6, Int.toNat_natCast, setQ qs rfl]
   simp only [ybr]
   have ha : yai IntKind.u32 ((dg 32 N2 (i + md) : Nat) : Int) (cvI IntKind.u32 (c5 : Int)) = ((0 : Nat) : Int) := by
    rw [cc, show yai IntKind.u32 ((dg 32 N2 (i + md) : Nat) : Int) (c5 : Int) = IntKind.wrap .u32 (((dg 32 N2 (i + md) : Nat) : Int) + c5) from rfl, ymZ]
    omega
   rw [ha, yjf (w := 0) (z := 0) hN2 (by omega), Nat.zero_mul, Nat.add_zero, hsum.2]
   exact fin
 ·rw [Nat.mul_comm]; exact Nat.div_add_mod _ _
 ·exact Nat.lt_trans (Nat.mod_lt _ (by omega)) hv1
 ·rw [hqse]; exact hq0
theorem yp7 {Q n m : Nat} (h : Q % 2 ^ m = 0) (hn : n ≤ m) : Q % 2 ^ n = 0 := by
 have : 2 ^ n ∣ 2 ^ m := Nat.pow_dvd_pow 2 hn
 exact Nat.mod_eq_zero_of_dvd (Nat.dvd_trans this (Nat.dvd_of_mod_eq_zero h))
theorem yis (n0 : Nat) (s : Int) (L md : Nat) (hmd : 2 ≤ md) (hmd2 : md ≤ 1000000) (hL2 : L ≤ 2000000) (hn : n0 ≤ 1000000) (c1 c2 c3 : Nat) (D N0 : Nat)
  (hD : D < 2 ^ (32 * md)) (hv : dg 32 D (md - 1) ≠ 0)
  (k0 : Nat → Int → Nat → Nat → (Nat → Int) → Nat → (Nat → Int) → Prop)
  (h : ∀ Q R, Q * D + R = N0 → R < D → Q < 2 ^ (32 * n0) → k0 n0 s L c1 (G 32 Q) c3 (G 32 R)) :
  ∀ (t Q R : Nat), t + md ≤ L → t ≤ n0 → R < D * 2 ^ (32 * t) → Q % 2 ^ (32 * t) = 0 → Q < 2 ^ (32 * n0) → Q * D + R = N0 → zbj.l20 k0 (t + 1) n0 s md L md ((t : Int) - 1) c1 (G 32 Q) c2 (G 32 D) c3 (G 32 R) := by
 intro t
 induction t with
 | zero =>
  intro Q R hL ht hR hQ hQ2 hN
  unfold zbj.l20 zbj.l20.step
  rw [yaw (yeK (by omega))]
  refine h Q R hN ?_ hQ2
  rw [Nat.mul_zero, Nat.pow_zero, Nat.mul_one] at hR; exact hR
 | succ t ih =>
  intro Q R hL ht hR hQ hQ2 hN
  unfold zbj.l20
  rw [show ((t + 1 : Nat) : Int) - 1 = (t : Int) from by omega]
  refine yhJ n0 s L md t hmd hmd2 (by omega) (by omega) hL2 (by omega) hn c1 c2 c3 D Q R hD hv hR hQ _ _ fun q R' hq he hR' => ?_
  have hz : dg 32 Q t = 0 := by
   have h1 := ybd 32 Q t
   rw [hQ] at h1
   have h0 : dg 32 Q t * 2 ^ (32 * t) = 0 := by omega
   have hp := Nat.two_pow_pos (32 * t)
   rcases Nat.mul_eq_zero.1 h0 with h0 | h0
   ·exact h0
   ·omega
  refine ih _ R' (by omega) (by omega) hR' ?_ (yl9 (w := q) (j := t) (by omega) hQ2 (by omega) (by rw [B32]; exact hq) (by rw [hz]; omega)) ?_
  ·rw [Nat.add_mul_mod_self_right]; exact yp7 hQ (by omega)
  ·rw [Nat.add_mul, Nat.mul_assoc, Nat.mul_comm (2 ^ (32 * t)) D]; omega
theorem yjT (x y n : Nat) (hn : n ≤ 1000000) (hy : y ≠ 0) (hyB : y < 4294967296) (k0 : Nat → Int → Nat → (Nat → Int) → Prop) (c : Nat) (h : k0 n ((x % y : Nat) : Int) c (G 32 (x / y))) :
  ∀ t, t ≤ n → zbj.l7 k0 (t + 1) n (G 32 x) 1 (G 32 y) n ((x / 2 ^ (32 * t) % y : Nat) : Int) ((t : Int) - 1) c (G 32 (x / 2 ^ (32 * t) / y * 2 ^ (32 * t))) := by
 intro t
 induction t with
 | zero =>
  intro ht
  unfold zbj.l7 zbj.l7.step
  rw [yaw (yeK (by omega)), Nat.mul_zero, Nat.pow_zero, Nat.div_one, Nat.mul_one]
  exact h
 | succ t ih =>
  intro ht
  have ih := ih (by omega)
  have hX := ydc 32 x t
  rw [B32] at hX
  have hd := ya0 32 x t
  rw [B32] at hd
  have hp := Nat.two_pow_pos (32 * t)
  generalize hX1 : x / 2 ^ (32 * (t + 1)) = X1 at *
  rw [hX] at ih
  have hr := Nat.mod_lt X1 (show 0 < y by omega)
  have hdm := Nat.div_add_mod X1 y
  generalize hre : X1 % y = r at *
  generalize hqe : X1 / y = Q1 at *
  have hsum : dg 32 x t + X1 * 4294967296 = r * 4294967296 + dg 32 x t + y * (Q1 * 4294967296) := by
   rw [← hdm, Nat.add_mul, Nat.mul_assoc]; omega
  have hmod : (dg 32 x t + X1 * 4294967296) % y = (r * 4294967296 + dg 32 x t) % y := by rw [hsum, Nat.add_mul_mod_self_left]
  have hdiv : (dg 32 x t + X1 * 4294967296) / y = (r * 4294967296 + dg 32 x t) / y + Q1 * 4294967296 := by rw [hsum, Nat.add_mul_div_left _ _ (by omega)]
  rw [hmod, hdiv] at ih
  have hq : (r * 4294967296 + dg 32 x t) / y < 4294967296 := by
   rw [Nat.div_lt_iff_lt_mul (by omega)]
   have : (r + 1) * 4294967296 ≤ y * 4294967296 := Nat.mul_le_mul_right _ hr
   omega
  have hw : r * 4294967296 + dg 32 x t < 18446744073709551616 := by omega
  have hG : upd (G 32 (Q1 * 2 ^ (32 * (t + 1)))) t (((r * 4294967296 + dg 32 x t) / y : Nat) : Int) = G 32 (((r * 4294967296 + dg 32 x t) / y + Q1 * 4294967296) * 2 ^ (32 * t)) := by
   have hz : dg 32 (Q1 * 2 ^ (32 * (t + 1))) t = 0 := by
    unfold dg
    rw [yb4, B32, Nat.mul_comm (2 ^ _), ← Nat.mul_assoc, Nat.mul_div_cancel _ hp]
    exact Nat.mul_mod_left _ _
   refine yg4 ?_ (by rw [B32]; exact hq)
   rw [hz, yb4, B32, Nat.add_mul, Nat.mul_comm (2 ^ (32 * t)) 4294967296, ← Nat.mul_assoc]
   omega
  rw [← hG] at ih
  have o := yhq r (dg 32 x t) (by omega) hd
  have y0 : G 32 y 0 = (y : Int) := by rw [ybr, ysk 32 y (by rw [B32]; exact hyB)]
  have e1 : ((t + 1 : Nat) : Int) - 1 = (t : Int) := by omega
  have w0 : (leI 0 (t : Int) && ltI (t : Int) (n : Int)) = true := by rw [yba (by omega), ya9 (by omega)]; rfl
  have w1 : (!eqI (y : Int) 0) = true := by rw [ygQ (by omega)]; rfl
  have cy : cvI IntKind.u64 (y : Int) = y := by rw [yaU (by omega) (by omega)]
  have cx : cvI IntKind.u64 ((dg 32 x t : Nat) : Int) = (dg 32 x t : Nat) := by rw [yaU (by omega) (by omega)]
  have r0 : ∀ a : Nat, ycm IntKind.u64 ((a : Nat) : Int) ((y : Nat) : Int) = ((a % y : Nat) : Int) := fun a => by rw [yfP (by omega), ← Int.natCast_emod]
  unfold zbj.l7 zbj.l7.step
  rw [e1, yaD (yba (by omega)), yby w0, yby (ya9 (by omega)), y0, cy, yby w1, yby w0, yby (ya9 (by omega)), yby w1, Int.toNat_natCast, ybr, cx, o, ypf _ _ hw, r0, ycn, yas (by omega) (by omega)]
  have e2 : ∀ q : Nat, q < 4294967296 → ((q : Nat) : Int) % 4294967296 = q := fun q h => by omega
  rw [e2 _ hq]
  exact ih
theorem ytp (n x : Nat) (hx : x < 2 ^ (32 * n)) : app n (G 32 x) (upd (fun _ => 0) 0 0) = G 32 x := by
 funext i
 unfold app
 by_cases h : i < n
 ·have : Nat.blt i n = true := by simpa using h
  rw [this]; rfl
 ·have : Nat.blt i n = false := by
   apply Bool.eq_false_iff.2; intro hc; simp at hc; omega
  rw [this, ybr, yeL 32 x n i hx (by omega)]
  show upd (fun _ => 0) 0 0 (i - n) = _
  by_cases h0 : i - n = 0
  ·rw [h0, ybP]; rfl
  ·rw [ycP _ _ _ _ h0]; rfl
theorem ymt (x y s : Nat) : x * 2 ^ s / (y * 2 ^ s) = x / y := Nat.mul_div_mul_right _ _ (Nat.two_pow_pos s)
theorem ylA (x y s : Nat) : x * 2 ^ s % (y * 2 ^ s) = x % y * 2 ^ s := Nat.mul_mod_mul_right _ _ _
theorem ytD (k : Nat) (hk : k ≠ 0) (x n : Nat) : n < wl k x ↔ 2 ^ (k * n) ≤ x := by
 have := yet k hk x n
 omega
theorem ygf (x y : Nat) (hx : wl 32 x ≤ 100000) (hy0 : y ≠ 0) (hy : wl 32 y ≤ 100000) (K : Nat → (Nat → Int) → Nat → (Nat → Int) → Prop) (h : K (wl 32 (x / y)) (G 32 (x / y)) (wl 32 (x % y)) (G 32 (x % y))) :
  zbj (wl 32 x) (G 32 x) (wl 32 y) (G 32 y) K := by
 have h32 : (32 : Nat) ≠ 0 := by omega
 rw [zbj.is]; unfold zbj.d
 refine yi0 x y _ _ (by omega) (by omega) rfl rfl _ ?_
 rw [ypF]
 by_cases hlt : x < y
 ·rw [yaD (by simpa using hlt)]
  rw [Nat.div_eq_of_lt hlt, Nat.mod_eq_of_lt hlt, ydu, yb7] at h
  exact h
 ·rw [yaw (by simpa using hlt)]
  have hxl := yeD 32 h32 x
  have hyl := yeD 32 h32 y
  have hyt := ymP 32 h32 y hy0
  have hxy := ybZ (k := 32) h32 (show y ≤ x by omega)
  have hyp : wl 32 y ≠ 0 := by rw [yja hy0 h32]; omega
  have hdx : x / y < 2 ^ (32 * wl 32 x) := Nat.lt_of_le_of_lt (Nat.div_le_self x y) hxl
  generalize hne : wl 32 x = n at *
  rw [yby (by rw [yba (by omega), yba (by omega), yba (by omega)]; rfl)]
  by_cases h1 : wl 32 y = 1
  ·have hyB : y < 4294967296 := by rw [h1] at hyl; exact hyl
   rw [h1, yaD (yj7 (by omega)), Int.toNat_natCast, yas (by omega) (by omega)]
   refine ⟨n + 1, ?_⟩
   have := yjT x y n (by omega) hy0 hyB (fun y0 y1 y2 y3 => zbc y0 y2 y3 fun y0 y1_1 y2 => zbd 1 1 1 (upd (fun x => 0) 0 (cvI IntKind.u32 y1)) fun y0_1 y1 y2_1 y3 => K y0 y2 y0_1 y3) n ?_ n (Nat.le_refl _)
   ·rw [Nat.div_eq_of_lt hxl, Nat.zero_mod, Nat.zero_div, Nat.zero_mul, yb7] at this
    exact this
   ·refine ydZ n n _ (by omega) hdx _ ?_
    have hm := Nat.mod_lt x (show 0 < y by omega)
    have := yhZ 32 0 (x % y) 0 (by simp) (by rw [B32]; omega)
    rw [Nat.mul_zero, Nat.pow_zero, Nat.mul_one, Nat.zero_add, yb7] at this
    rw [ycn, show ((x % y : Nat) : Int) % 4294967296 = ((x % y : Nat) : Int) from by generalize x % y = r at *; omega, this]
    exact ycW 1 1 1 _ (by omega) (by omega) (by rw [show 32 * 1 = 32 from rfl, B32]; omega) _ fun c => h
  ·rw [yaw (ygQ (by omega))]
   have hdt := ya0 32 y (wl 32 y - 1)
   rw [B32] at hdt
   have e1 : Int.toNat ((wl 32 y : Int) - 1) = wl 32 y - 1 := by omega
   rw [yas (by omega) (by omega), e1, yby (by rw [yba (by omega), ya9 (by omega)]; rfl), ybr, yaU (by omega) (by omega)]
   refine yeH _ (by omega) _ ?_
   have hb : yav (dg 32 y (wl 32 y - 1)) ≤ 32 := (yaL _ _).2 (by rw [B32]; exact hdt)
   have es : yan IntKind.i64 32 ((yav (dg 32 y (wl 32 y - 1)) : Nat) : Int) = ((32 - yav (dg 32 y (wl 32 y - 1)) : Nat) : Int) := by
    rw [yas (by omega) (by omega)]; omega
   rw [es]
   generalize hse : 32 - yav (dg 32 y (wl 32 y - 1)) = s
   have hs : s ≤ 32 := by omega
   -- the divisor moved
   have hps := Nat.two_pow_pos s
   have hD0 : y * 2 ^ s ≠ 0 := by
    intro e; rcases Nat.mul_eq_zero.1 e with e | e
    ·exact hy0 e
    ·omega
   have hX0 : x * 2 ^ s ≠ 0 := by
    intro e; rcases Nat.mul_eq_zero.1 e with e | e
    ·omega
    ·omega
   have hle : ∀ z : Nat, z ≤ z * 2 ^ s := fun z => Nat.le_mul_of_pos_right z hps
   have wD1 := ybZ (k := 32) h32 (hle y)
   have wX1 := ybZ (k := 32) h32 (hle x)
   have wup : ∀ z m : Nat, z < 2 ^ (32 * m) → wl 32 (z * 2 ^ s) ≤ m + 1 := fun z m hz => by
    rw [yet 32 h32, yb4]
    exact Nat.mul_lt_mul_of_lt_of_le hz (Nat.pow_le_pow_right (by omega) hs) (Nat.two_pow_pos _)
   have wD2 := wup y _ hyl
   have wX2 := wup x _ hxl
   have wDX : wl 32 (y * 2 ^ s) ≤ wl 32 (x * 2 ^ s) := ybZ (k := 32) h32 (Nat.mul_le_mul_right _ (by omega))
   rw [hne] at wX1
   refine yhG y _ s (by omega) (by omega) hyl _ _ (fun e => absurd e hyp) fun _ c2 m2 => ?_
   refine yhG x _ s (by omega) (by omega) hxl _ _ (fun e => absurd e (by omega)) fun _ c3 m3 => ?_
   have hDl := yeD 32 h32 (y * 2 ^ s)
   have hDt := ymP 32 h32 _ hD0
   have hXl := yeD 32 h32 (x * 2 ^ s)
   rw [ytp _ _ hXl]
   generalize hmd : wl 32 (y * 2 ^ s) = md at *
   generalize hL : wl 32 (x * 2 ^ s) = L at *
   rw [yby (ytE (by omega))]
   refine ⟨1, ?_⟩
   unfold zbj.l16 zbj.l16.step
   rw [yap (by omega) (by omega), yaw (ybe (by omega)), Int.toNat_natCast]
   dsimp only
   have ei : yan IntKind.i64 (yan IntKind.i64 ((L + 1 : Nat) : Int) (md : Int)) 1 = ((L + 1 - md : Nat) : Int) - 1 := by
    simp (disch := omega) only [yas]
    omega
   rw [ei]
   refine ⟨L + 1 - md + 1, ?_⟩
   rw [← yb7 32]
   refine yis n s (L + 1) md (by omega) (by omega) (by omega) (by omega) n m2 (L + 1) (y * 2 ^ s) (x * 2 ^ s) hDl hDt _ (fun Q R he hR hQ => ?_) (L + 1 - md) 0 (x * 2 ^ s) (by omega) (by omega) ?_ (by simp) (Nat.two_pow_pos _) (by omega)
   ·have hq : Q = x / y := by
     rw [← ymt x y s, ← he, Nat.mul_comm Q, Nat.mul_add_div (by omega), Nat.div_eq_of_lt hR, Nat.add_zero]
    have hr : R = x % y * 2 ^ s := by
     rw [← ylA x y s, ← he, Nat.mul_comm Q, Nat.mul_add_mod, Nat.mod_eq_of_lt hR]
    refine ydZ n n Q (by omega) hQ _ ?_
    have hRX : R < 2 ^ (32 * (L + 1)) := by
     have h1 : R ≤ x * 2 ^ s := by rw [← he]; omega
     have h2 : (2 : Nat) ^ (32 * L) ≤ 2 ^ (32 * (L + 1)) := Nat.pow_le_pow_right (by omega) (by omega)
     omega
    refine ydZ (L + 1) (L + 1) R (by omega) hRX _ ?_
    refine yhr R _ s ?_ (by omega) (yeD 32 h32 R) _ ?_
    ·have := (yet 32 h32 R (L + 1)).2 hRX
     omega
    ·have : R / 2 ^ s = x % y := by rw [hr, Nat.mul_div_cancel _ hps]
     rw [this, hq]; exact h
   ·have h1 : 2 ^ (32 * (md - 1)) ≤ y * 2 ^ s := (ytD 32 h32 _ _).1 (by omega)
    have h2 : 2 ^ (32 * (md - 1)) * 2 ^ (32 * (L + 1 - md)) ≤ y * 2 ^ s * 2 ^ (32 * (L + 1 - md)) := Nat.mul_le_mul_right _ h1
    rw [← Nat.pow_add, show 32 * (md - 1) + 32 * (L + 1 - md) = 32 * L from by omega] at h2
    omega
end Go.Ev.S

/- Natural numbers: quotients, greatest common divisors, roots. -/
set_option linter.unusedVariables false
set_option linter.unusedSimpArgs false
set_option maxRecDepth 8000
namespace Go.Ev.S
open Go Go.Ev
theorem yjg {a : List UInt8} (h : yiS a = true) : val a = 0 ↔ a = [] := by
 constructor
 ·intro e; rw [← yiY h, e, yaZ]
 ·intro e; subst e; rfl
theorem yfO (a b : List UInt8) (K : List UInt8 → List UInt8 → Int → Prop) (h1 : ¬ (May a ∧ May b) → K [] [] 2) (h0 : b = [] → K [] [] 2) (h2 : May a → May b → val b ≠ 0 → K (nb (val a / val b)) (nb (val a % val b)) 0) : zat a b K := by
 rw [zat.is]; unfold zat.d
 rw [yc0]
 by_cases h : May a ∧ May b
 ·rw [yaw (by simp [h]), ybn]
  by_cases hb : b = []
  ·rw [yaD (by simpa using hb)]; exact h0 hb
  ·rw [yaw (by simpa using hb)]
   have hv : val b ≠ 0 := fun e => hb ((yjg h.2.2).1 e)
   refine h.1.words _ (h.2.words _ ?_)
   have w1 := h.1.wl; have w2 := h.2.wl
   have w3 := ybZ (k := 32) (by omega) (Nat.div_le_self (val a) (val b))
   have w4 := ybZ (k := 32) (by omega) (Nat.mod_le (val a) (val b))
   refine ygf _ _ (by omega) hv (by omega) _ ?_
   refine ybY _ _ (by omega) (yfT _) _ ?_
   exact ybY _ _ (by omega) (yfT _) _ (h2 h.1 h.2 hv)
 ·rw [yaD (by simp [h])]; exact h1 h
theorem yk8 (k0 : Nat → (Nat → Int) → Prop) : ∀ (y x : Nat), wl 32 x ≤ 100000 → wl 32 y ≤ 100000 → k0 (wl 32 (Nat.gcd x y)) (G 32 (Nat.gcd x y)) → ∃ f, zau.l4 k0 f (wl 32 x) (G 32 x) (wl 32 y) (G 32 y) := by
 intro y
 induction y using Nat.strongRecOn with
 | _ y ih =>
  intro x hx hy hk
  by_cases h0 : y = 0
  ·subst h0
   refine ⟨1, ?_⟩
   unfold zau.l4 zau.l4.step
   rw [ydu, yaw (ybe (by omega))]
   rw [Nat.gcd_zero_right] at hk; exact hk
  ·have hm := Nat.mod_lt x (show 0 < y by omega)
   have w := ybZ (k := 32) (by omega) (Nat.le_of_lt hm)
   have hg : Nat.gcd y (x % y) = Nat.gcd x y := by rw [Nat.gcd_comm x y, Nat.gcd_rec y x, Nat.gcd_comm]
   obtain ⟨f, hf⟩ := ih (x % y) hm y hy (by omega) (by rw [hg]; exact hk)
   refine ⟨f + 1, ?_⟩
   unfold zau.l4 zau.l4.step
   have hp : wl 32 y ≠ 0 := by rw [yja h0 (by omega)]; omega
   rw [yaD (ya9 (by omega))]
   exact ygf x y hx h0 hy _ hf
theorem ynX (x y : Nat) : Nat.gcd x y ≤ x ∨ Nat.gcd x y ≤ y := by
 rcases Nat.eq_zero_or_pos x with e | e
 ·right; subst e; rw [Nat.gcd_zero_left]; omega
 ·left; exact Nat.gcd_le_left y e
theorem yiL (a b : List UInt8) (K : List UInt8 → Int → Prop) (h1 : ¬ (May a ∧ May b) → K [] 2) (h2 : May a → May b → K (nb (Nat.gcd (val a) (val b))) 0) : zau a b K := by
 rw [zau.is]; unfold zau.d
 rw [yc0]
 by_cases h : May a ∧ May b
 ·rw [yaw (by simp [h])]
  refine h.1.words _ (h.2.words _ ?_)
  have w1 := h.1.wl; have w2 := h.2.wl
  refine yk8 _ _ _ (by omega) (by omega) ?_
  have w3 : wl 32 (Nat.gcd (val a) (val b)) ≤ 4096 := by
   rcases ynX (val a) (val b) with e | e
   ·have := ybZ (k := 32) (by omega) e; omega
   ·have := ybZ (k := 32) (by omega) e; omega
  exact ybY _ _ (by omega) (yfT _) _ (h2 h.1 h.2)
 ·rw [yaD (by simp [h])]; exact h1 h
end Go.Ev.S

/- What the document's answer reckons with natural numbers, byte by byte. -/
set_option linter.unusedVariables false
set_option linter.unusedSimpArgs false
set_option maxRecDepth 8000
namespace Go.Ev.S
open Go Go.Ev
theorem B8 : (2 : Nat) ^ 8 = 256 := rfl
theorem ylU (n0 x : Nat) (hn0 : n0 ≤ 1000000000) (k0 : Nat → (Nat → Int) → Int → Prop) (h : ∀ n : Nat, n ≤ n0 → x < 2 ^ (8 * n) → (n = 0 ∨ dg 8 x (n - 1) ≠ 0) → k0 n0 (G 8 x) n) :
  ∀ (n : Nat), n ≤ n0 → x < 2 ^ (8 * n) → zck.l2 k0 (n + 1) n0 (G 8 x) n := by
 intro n
 induction n with
 | zero =>
  intro hn hx
  unfold zck.l2 zck.l2.step
  rw [yaw (ybe (by omega))]
  exact h 0 hn hx (.inl rfl)
 | succ n ih =>
  intro hn hx
  unfold zck.l2 zck.l2.step
  have e1 : ((n + 1 : Nat) : Int) - 1 = (n : Int) := by omega
  simp (disch := omega) only [yas, ya9, yba, yaE, ya5, Bool.and_self, e1, Int.toNat_natCast, ybr]
  by_cases hd : dg 8 x n = 0
  ·rw [yaD (yj7 (by omega))]
   refine ih (by omega) ?_
   have h2 := ybd 8 x n
   rw [Nat.mod_eq_of_lt hx, hd, Nat.zero_mul, Nat.add_zero] at h2
   have := Nat.mod_lt x (Nat.two_pow_pos (8 * n))
   omega
  ·rw [yaw (ygQ (by omega))]
   exact h (n + 1) hn hx (.inr hd)
theorem yks (n0 x L c m : Nat) (hL : L ≤ n0) (hn0 : n0 ≤ 1000000000) (k0 : Nat → Nat → Nat → (Nat → Int) → Prop) (h : k0 L c m (BE L L x)) :
  ∀ (j i : Nat), i + j = L → zck.l6 k0 (j + 1) n0 (G 8 x) L L c i m (BE L i x) := by
 intro j
 induction j with
 | zero =>
  intro i hi
  unfold zck.l6 zck.l6.step
  rw [yaw (ybe (by omega)), show i = L from by omega]
  exact h
 | succ j ih =>
  intro i hi
  have ih := ih (i + 1) (by omega)
  have e : ((i + 1 : Nat) : Int) = (i : Int) + 1 := by omega
  rw [e] at ih
  have e2 : Int.toNat ((L : Int) - 1 - i) = L - 1 - i := by omega
  unfold zck.l6 zck.l6.step
  simp (disch := omega) only [yas, yap, ya9, yba, yaE, ya5, Bool.and_self, Int.toNat_natCast, e2, ybr]
  rw [ypu L i x (by omega)]
  exact ih
theorem ybV (n x : Nat) (hn : n ≤ 1000000000) (hx : x < 2 ^ (8 * n)) (K : List UInt8 → Prop) (h : K (nb x)) : zck n (G 8 x) K := by
 rw [zck.is]; unfold zck.d
 refine ⟨n + 1, ylU n x hn _ (fun L hL hx' ht => ?_) n (Nat.le_refl _) hx⟩
 simp (disch := omega) only [yba, yaE, Bool.and_self, Int.toNat_natCast]
 refine ⟨L + 1, ?_⟩
 have := yks n x L L L hL hn (fun y0 y1 y2 y3 => K (ybD y0 y3)) ?_ L 0 (by omega)
 ·rw [yp0] at this; exact this
 ·have h2 := ymL L 0 L x (by omega) hx' ht
  have e : (fun j => BE L L x (0 + j)) = BE L L x := by funext j; rw [Nat.zero_add]
  rw [e] at h2
  show K (ybD L (BE L L x))
  rw [h2]; exact h
theorem ybA (a : List UInt8) (i : Nat) (hi : i ≤ 1000000000) (hl : a.length ≤ 1000000000) (K : Int → Prop) : zch a i K = K (dg 8 (val a) i : Int) := by
 rw [zch.is]; unfold zch.d
 by_cases h : a.length ≤ i
 ·rw [yaD (yba (by omega)), yeL 8 (val a) a.length i (by rw [← ymN]; exact yg9 a) h]; rfl
 ·have e2 : Int.toNat ((a.length : Int) - 1 - i) = a.length - 1 - i := by omega
  have hd := ya0 8 (val a) i
  rw [B8] at hd
  simp (disch := omega) only [yas, ya9, yeK, yba, yaE, yeg, Bool.and_self, e2]
  rw [yfa a i (by omega), yi7 (by omega) (by omega)]
theorem yem (a : List UInt8) (K : Bool → Prop) : zcc a K = K (decide (May a)) := by
 rw [zcc.is]; unfold zcc.d
 by_cases h : a.length ≤ 16384
 ·rw [yaD (yba (by omega)), ybn]
  cases a with
  | nil => rw [yaD (by simp)]; congr 1
  | cons b l =>
   have hl : (0 : Int) < ((b :: l).length : Int) := by simp only [List.length_cons]; omega
   rw [yaw (by simp), yby (ya9 hl), ydB]
   by_cases hb : b.toNat = 0
   ·rw [yj7 (by omega)]
    congr 1
    have : ¬ May (b :: l) := fun hm => by have := hm.2; simp [yiS, hb] at this
    simp [this]
   ·rw [ygQ (by omega)]
    congr 1
    have : May (b :: l) := ⟨h, by simpa [yiS] using hb⟩
    simp [this]
 ·rw [yaw (yeK (by omega))]
  congr 1
  have : ¬ May a := fun hm => h hm.1
  simp [this]
theorem ylN (x : Nat) (K : List UInt8 → Int → Prop) : zcl (nb x) K = yom K x := by
 rw [zcl.is]; unfold zcl.d yom
 by_cases h : 16384 < (nb x).length
 ·rw [yaD (ya9 (by omega)), if_pos h]
 ·rw [yaw (ybe (by omega)), if_neg h]
theorem ybj (a : List UInt8) : val a < 2 ^ (8 * a.length) := by rw [← ymN]; exact yg9 a
theorem ysF (s B P : Nat) : s % B * P + s / B * (P * B) = s * P := by
 have := Nat.div_add_mod s B
 conv => rhs; rw [← this]
 rw [Nat.add_mul, Nat.mul_comm B, Nat.mul_assoc, Nat.mul_comm B, Nat.add_comm]
theorem ykl (a b : List UInt8) (n : Nat) (hn : n ≤ 1000000) (ha : a.length ≤ n) (hb : b.length ≤ n) (c0 m0 : Nat) (k0 : Nat → Nat → Nat → (Nat → Int) → Prop) (h : k0 (n + 1) c0 m0 (G 8 (val a + val b))) :
  ∀ (j i z c : Nat), i + j = n + 1 → z < 2 ^ (8 * i) → z + c * 2 ^ (8 * i) = val a % 2 ^ (8 * i) + val b % 2 ^ (8 * i) → c < 2 → zcg.l7 k0 (j + 1) a b n (n + 1) c0 c i m0 (G 8 z) := by
 have hx : val a < 2 ^ (8 * n) := Nat.lt_of_lt_of_le (ybj a) (yb1 ha)
 have hy : val b < 2 ^ (8 * n) := Nat.lt_of_lt_of_le (ybj b) (yb1 hb)
 intro j
 induction j with
 | zero =>
  intro i z c hi hz hN hc
  have hi : i = n + 1 := by omega
  subst hi
  unfold zcg.l7 zcg.l7.step
  rw [yaw (yeK (by omega))]
  rw [yb4, B8] at hN hz
  rw [Nat.mod_eq_of_lt (by omega), Nat.mod_eq_of_lt (by omega)] at hN
  have hc0 : c = 0 := by
   rcases (show c = 0 ∨ c = 1 by omega) with h0 | h0
   ·exact h0
   ·subst h0; omega
  subst hc0
  rw [show val a + val b = z from by omega] at h
  exact h
 | succ j ih =>
  intro i z c hi hz hN hc
  have hdx := ya0 8 (val a) i
  have hdy := ya0 8 (val b) i
  rw [B8] at hdx hdy
  have hw : (c + dg 8 (val a) i + dg 8 (val b) i) % 256 < 2 ^ 8 := Nat.mod_lt _ (by omega)
  have next := ih (i + 1) (z + (c + dg 8 (val a) i + dg 8 (val b) i) % 256 * 2 ^ (8 * i)) ((c + dg 8 (val a) i + dg 8 (val b) i) / 256) (by omega) (yf8 8 z _ i hz hw) (by
   have h1 := ybd 8 (val a) i
   have h2 := ybd 8 (val b) i
   have h3 := ysF (c + dg 8 (val a) i + dg 8 (val b) i) 256 (2 ^ (8 * i))
   rw [Nat.add_mul, Nat.add_mul] at h3
   rw [h1, h2, yb4, B8]
   omega) (by omega)
  have e : ((i + 1 : Nat) : Int) = (i : Int) + 1 := by omega
  rw [e, ← yhZ 8 z _ i hz hw] at next
  have e1 : ((c : Int) + (dg 8 (val a) i : Int) + (dg 8 (val b) i : Int)) / 256 = (((c + dg 8 (val a) i + dg 8 (val b) i) / 256 : Nat) : Int) := by omega
  have e2 : ((c : Int) + (dg 8 (val a) i : Int) + (dg 8 (val b) i : Int)) % 256 = (((c + dg 8 (val a) i + dg 8 (val b) i) % 256 : Nat) : Int) := by omega
  unfold zcg.l7 zcg.l7.step
  rw [yaD (yba (by omega)), ybA a i (by omega) (by omega), ybA b i (by omega) (by omega)]
  simp (disch := omega) only [ya9, yba, yaE, Bool.and_self, Int.toNat_natCast, yap, yho, ygo, e1, e2]
  exact next
theorem ynP (a b : List UInt8) (ha : a.length ≤ 1000000) (hb : b.length ≤ 1000000) (K : List UInt8 → Prop) (h : K (nb (val a + val b))) : zcg a b K := by
 have main : ∀ n, n ≤ 1000000 → a.length ≤ n → b.length ≤ n → ∃ f, zcg.l7 (fun y0 y1 y2 y3 => zck y0 y3 fun y0 => K y0) f a b n (n + 1) (n + 1) 0 0 (n + 1) (fun _ => 0) := by
  intro n hn h1 h2
  refine ⟨n + 2, ?_⟩
  have := ykl a b n hn h1 h2 (n + 1) (n + 1) (fun y0 y1 y2 y3 => zck y0 y3 fun y0 => K y0) ?_ (n + 1) 0 0 0 (by omega) (Nat.two_pow_pos _) (by simp [Nat.mod_one]) (by omega)
  ·rw [yb7] at this; exact this
  ·refine ybV _ _ (by omega) ?_ _ h
   have e1 := Nat.lt_of_lt_of_le (ybj a) (yb1 (k := 8) h1)
   have e2 := Nat.lt_of_lt_of_le (ybj b) (yb1 (k := 8) h2)
   rw [yb4, B8]; omega
 rw [zcg.is]; unfold zcg.d
 by_cases hlt : a.length < b.length
 ·have e1 : Int.toNat ((b.length : Int) + 1) = b.length + 1 := by omega
  simp (disch := omega) only [ya9, yba, yap, yaE, ya5, Bool.and_self, e1]
  exact main _ hb (by omega) (Nat.le_refl _)
 ·have e1 : Int.toNat ((a.length : Int) + 1) = a.length + 1 := by omega
  simp (disch := omega) only [ybe, yba, yap, yaE, yeg, Bool.and_self, e1]
  exact main _ ha (Nat.le_refl _) (by omega)
theorem ykh (a b : List UInt8) (ha : a.length ≤ 1000000) (hb : b.length ≤ 1000000) (hle : val b ≤ val a) (c0 m0 : Nat) (k0 : Nat → Nat → Nat → (Nat → Int) → Prop) (h : k0 a.length c0 m0 (G 8 (val a - val b))) :
  ∀ (j i z : Nat) (c : Int), i + j = a.length → z < 2 ^ (8 * i) → (z : Int) - c * (2 ^ (8 * i) : Nat) = (val a % 2 ^ (8 * i) : Nat) - (val b % 2 ^ (8 * i) : Nat) → (c = 0 ∨ c = 1) →
   zcm.l4 k0 (j + 1) a b a.length c0 c i m0 (G 8 z) := by
 intro j
 induction j with
 | zero =>
  intro i z c hi hz hN hc
  have hi : i = a.length := by omega
  subst hi
  unfold zcm.l4 zcm.l4.step
  rw [yaw (ybe (by omega))]
  have hx := ybj a
  rw [Nat.mod_eq_of_lt hx, Nat.mod_eq_of_lt (by omega)] at hN
  have hc0 : c = 0 := by
   rcases hc with h0 | h0
   ·exact h0
   ·exfalso; subst h0; omega
  subst hc0
  rw [show val a - val b = z from by omega] at h
  exact h
 | succ j ih =>
  intro i z c hi hz hN hc
  have hdx := ya0 8 (val a) i
  have hdy := ya0 8 (val b) i
  rw [B8] at hdx hdy
  have step : ∀ (s c' : Int), s = (dg 8 (val a) i : Int) - (dg 8 (val b) i : Int) - c → (c' = if s < 0 then 1 else 0) → zcm.l4 k0 (j + 1) a b a.length c0 c' ((i : Int) + 1) m0 (upd (G 8 z) i (s % 256)) := by
   intro s c' hs hc'
   have hw : s % 256 = ((s % 256).toNat : Int) := by omega
   have hwl : (s % 256).toNat < 2 ^ 8 := by rw [B8]; omega
   have e : ((i + 1 : Nat) : Int) = (i : Int) + 1 := by omega
   rw [hw, yhZ 8 z _ i hz hwl, ← e]
   refine ih (i + 1) _ _ (by omega) (yf8 8 z _ i hz hwl) ?_ (by rw [hc']; split <;> simp)
   rw [ybd, ybd, yb4, B8]
   generalize 2 ^ (8 * i) = P at *
   have h4 : s = (s % 256).toNat - 256 * c' := by rw [hc']; split <;> omega
   have h5 : s * (P : Int) = (s % 256).toNat * (P : Int) - c' * ((P : Int) * 256) := by
    conv => lhs; rw [h4]
    rw [Int.sub_mul, Int.mul_comm (256 : Int), Int.mul_assoc, Int.mul_comm (256 : Int)]
   have h6 : s * (P : Int) = (dg 8 (val a) i : Int) * P - (dg 8 (val b) i : Int) * P - c * P := by rw [hs, Int.sub_mul, Int.sub_mul]
   have c1 : ((z + (s % 256).toNat * P : Nat) : Int) = (z : Int) + ((s % 256).toNat : Int) * (P : Int) := by simp
   have c2 : ((val a % P + dg 8 (val a) i * P : Nat) : Int) = ((val a % P : Nat) : Int) + (dg 8 (val a) i : Int) * (P : Int) := by simp
   have c3 : ((val b % P + dg 8 (val b) i * P : Nat) : Int) = ((val b % P : Nat) : Int) + (dg 8 (val b) i : Int) * (P : Int) := by simp
   have c4 : ((P * 256 : Nat) : Int) = (P : Int) * 256 := by simp
   rw [c1, c2, c3, c4]
   omega
  unfold zcm.l4 zcm.l4.step
  rw [yaD (ya9 (by omega)), ybA a i (by omega) (by omega), ybA b i (by omega) (by omega)]
  simp (disch := omega) only [ya9, yba, yaE, Bool.and_self, Int.toNat_natCast, yap, yas, ygo]
  by_cases hs : (dg 8 (val a) i : Int) - (dg 8 (val b) i : Int) - c < 0
  ·rw [yaD (ya9 hs)]; exact step _ 1 rfl (by rw [if_pos hs])
  ·rw [yaw (ybe (by omega))]; exact step _ 0 rfl (by rw [if_neg hs])
theorem yoa (a b : List UInt8) (ha : a.length ≤ 1000000) (hb : b.length ≤ 1000000) (hle : val b ≤ val a) (K : List UInt8 → Prop) (h : K (nb (val a - val b))) : zcm a b K := by
 rw [zcm.is]; unfold zcm.d
 simp (disch := omega) only [yba, yaE, Bool.and_self, Int.toNat_natCast]
 refine ⟨a.length + 1, ?_⟩
 have := ykh a b ha hb hle a.length a.length (fun y0 y1 y2 y3 => zck y0 y3 fun y0 => K y0) ?_ a.length 0 0 0 (by omega) (Nat.two_pow_pos _) (by simp [Nat.mod_one]) (.inl rfl)
 ·rw [yb7] at this; exact this
 ·refine ybV _ _ (by omega) ?_ _ h
  have := ybj a
  omega
theorem yi1 (a b : List UInt8) (ha : yiS a = true) (hb : yiS b = true) (K : Int → Prop) : zbw a b K = K (sgn (val a) (val b)) := by
 rw [zbw.is]; unfold zbw.d
 have la := ykB ha; have lb := ykB hb
 by_cases hl : a.length = b.length
 ·rw [hl, yj7 rfl, yaw (by rfl), yr7 a b hl, yjA]
  unfold sgn
  by_cases h : val a < val b
  ·rw [yaD (by simpa using h), if_pos h]
  ·rw [yaw (by simpa using h), if_neg h]
   by_cases he : a = b
   ·rw [yaw (by simp [he]), he, if_neg (by omega)]
   ·have : val a ≠ val b := fun e => he (yso ha hb e)
    rw [yaD (by simp [h, he]), if_pos (by omega)]
 ·rw [ygQ (by omega), yaD (by rfl)]
  unfold sgn
  by_cases h : a.length < b.length
  ·have : val a < val b := Classical.byContradiction fun hc => by have := ybZ (k := 8) (by omega) (show val b ≤ val a by omega); omega
   rw [yaD (ya9 (by omega)), if_pos this]
  ·have : val b < val a := Classical.byContradiction fun hc => by have := ybZ (k := 8) (by omega) (show val a ≤ val b by omega); omega
   rw [yaw (ybe (by omega)), if_neg (by omega), if_pos this]
theorem ynB (a b : List UInt8) (ha : a.length ≤ 1000000) (hb : b.length ≤ 1000000) (K : List UInt8 → Int → Prop) (h : yom K (val a + val b)) : zbv a b K := by
 rw [zbv.is]; unfold zbv.d
 refine ynP a b ha hb _ ?_
 rw [ylN]; exact h
end Go.Ev.S

/- What the document's answer reckons with natural numbers: products. -/
set_option linter.unusedVariables false
set_option linter.unusedSimpArgs false
set_option maxRecDepth 8000
namespace Go.Ev.S
open Go Go.Ev
end Go.Ev.S

/- What the document's answer reckons with natural numbers: made, measured, moved. -/
set_option linter.unusedVariables false
set_option linter.unusedSimpArgs false
set_option maxRecDepth 8000
namespace Go.Ev.S
open Go Go.Ev
theorem ypK (a s : Nat) (hs : s ≤ 63) (h : a * 2 ^ s < 9223372036854775808) : ybM .i64 (a : Int) (s : Int) = ((a * 2 ^ s : Nat) : Int) := by
 have hb : IntKind.bits .i64 = 64 := rfl
 have h1 : min (Int.toNat (s : Int)) (IntKind.bits .i64) = s := by rw [Int.toNat_natCast, hb]; omega
 simp only [ybM, h1]
 have e : (a : Int) * 2 ^ s = ((a * 2 ^ s : Nat) : Int) := by simp
 rw [e]
 exact yd9 (by omega) (by omega)
theorem ysV (a b : Nat) (ha : a < 2 ^ 62) (hb : b < 2 ^ 62) : orI .i64 (a : Int) (b : Int) = ((a ||| b : Nat) : Int) := by
 have h3 : a ||| b < 2 ^ 62 := Nat.or_lt_two_pow ha hb
 have e62 : (2 : Nat) ^ 62 = 4611686018427387904 := rfl
 show IntKind.wrap .i64 (((BitVec.ofInt 64 (a : Int) ||| BitVec.ofInt 64 (b : Int) : BitVec 64).toNat : Nat) : Int) = _
 rw [BitVec.toNat_or, BitVec.ofInt_natCast, BitVec.ofInt_natCast, BitVec.toNat_ofNat, BitVec.toNat_ofNat, Nat.mod_eq_of_lt (by rw [B64]; omega), Nat.mod_eq_of_lt (by rw [B64]; omega)]
 exact yd9 (by omega) (by omega)
theorem yoA (a : Nat) (ha : a < 2 ^ 62) : yh5 .i64 (a : Int) 1 = ((a % 2 : Nat) : Int) := by
 have e62 : (2 : Nat) ^ 62 = 4611686018427387904 := rfl
 show IntKind.wrap .i64 (((BitVec.ofInt 64 (a : Int) &&& BitVec.ofInt 64 ((1 : Nat) : Int) : BitVec 64).toNat : Nat) : Int) = _
 rw [BitVec.toNat_and, BitVec.ofInt_natCast, BitVec.ofInt_natCast, BitVec.toNat_ofNat, BitVec.toNat_ofNat, Nat.mod_eq_of_lt (by rw [B64]; omega), Nat.mod_eq_of_lt (by rw [B64]; omega)]
 have : a &&& 1 = a % 2 := Nat.and_one_is_mod a
 rw [this]
 exact yd9 (by omega) (by omega)
theorem ypH (a s : Nat) (hs : s ≤ 64) : ya1 .i64 (a : Int) (s : Int) = ((a / 2 ^ s : Nat) : Int) := by
 rw [yd4 (k := .i64) hs]; simp
theorem yl3 (x : Nat) (hx : x < 18446744073709551616) (k0 : (Nat → Int) → Prop) (h : k0 (G 8 x)) : ∀ (j i : Nat), i + j = 8 → zcd.l3 k0 (j + 1) x i (G 8 (x % 2 ^ (8 * i))) := by
 intro j
 induction j with
 | zero =>
  intro i hi
  have hi : i = 8 := by omega
  subst hi
  unfold zcd.l3 zcd.l3.step
  rw [yaw (ybe (by omega)), Nat.mod_eq_of_lt (by rw [show 8 * 8 = 64 from rfl, B64]; exact hx)]
  exact h
 | succ j ih =>
  intro i hi
  have ih := ih (i + 1) (by omega)
  have e : ((i + 1 : Nat) : Int) = (i : Int) + 1 := by omega
  rw [e, ybd, ← yhZ 8 _ _ i (Nat.mod_lt _ (Nat.two_pow_pos _)) (ya0 8 x i)] at ih
  have e1 : 8 * (i : Int) = ((8 * i : Nat) : Int) := by omega
  have e2 : ya1 .u64 (x : Int) ((8 * i : Nat) : Int) = ((x / 2 ^ (8 * i) : Nat) : Int) := by
   rw [yd4 (k := .u64) (by
     have : IntKind.bits .u64 = 64 := rfl
     rw [this]; omega)]
   simp
  have e3 : ((x / 2 ^ (8 * i) : Nat) : Int) % 256 = ((dg 8 x i : Nat) : Int) := by
   unfold dg; rw [B8]; omega
  unfold zcd.l3 zcd.l3.step
  simp (disch := omega) only [ya9, ybe, yba, yaE, ya5, Bool.and_self, Bool.not_false, ybH, yaU, yap, Int.toNat_natCast, e1, e2, ygo, e3]
  exact ih
theorem ypi (x : Nat) (hx : x < 18446744073709551616) (K : List UInt8 → Prop) (h : K (nb x)) : zcd x K := by
 rw [zcd.is]; unfold zcd.d
 refine ⟨9, ?_⟩
 have := yl3 x hx (fun y0 => zck 8 y0 fun y0 => K y0) ?_ 8 0 rfl
 ·rw [Nat.mul_zero, Nat.pow_zero, Nat.mod_one, yb7] at this; exact this
 ·exact ybV 8 x (by omega) (by rw [show 8 * 8 = 64 from rfl, B64]; exact hx) _ h
theorem W_G (x : Nat) : W x = G 64 x := rfl
theorem yrj {i : Nat} (h : i = 48) : 2 ^ (8 * i) = Q6 := ycK (by omega)
theorem yrk (x i : Nat) : wd x (i / 8) / 2 ^ (8 * (i % 8)) % 256 = dg 8 x i := by
 unfold wd dg
 have hr : i % 8 < 8 := Nat.mod_lt _ (by omega)
 have h1 : (18446744073709551616 : Nat) = 2 ^ (8 * (i % 8)) * (2 ^ 8 * 2 ^ (56 - 8 * (i % 8))) := by
  rw [← Nat.pow_add, ← Nat.pow_add, show (18446744073709551616 : Nat) = 2 ^ 64 from rfl]; congr 1; omega
 rw [h1, Nat.mod_mul_right_div_self, show (256 : Nat) = 2 ^ 8 from rfl, Nat.mod_mul_right_mod, Nat.div_div_eq_div_mul, ← Nat.pow_add]
 congr 3; omega
theorem yhL (x : Nat) (hx : x < Q6) (k0 : (Nat → Int) → Prop) (h : k0 (G 8 x)) : ∀ (j i : Nat), i + j = 48 → zce.l3 k0 (j + 1) i (W x) (G 8 (x % 2 ^ (8 * i))) := by
 intro j
 induction j with
 | zero =>
  intro i hi
  have hi : i = 48 := by omega
  unfold zce.l3 zce.l3.step
  rw [yaw (ybe (by omega)), Nat.mod_eq_of_lt (by rw [yrj hi]; exact hx)]
  exact h
 | succ j ih =>
  intro i hi
  have ih := ih (i + 1) (by omega)
  have e : ((i + 1 : Nat) : Int) = (i : Int) + 1 := by omega
  rw [e, ybd, ← yhZ 8 _ _ i (Nat.mod_lt _ (Nat.two_pow_pos _)) (ya0 8 x i)] at ih
  have e0 : Int.toNat ((i : Int) / 8) = i / 8 := by omega
  have e1 : 8 * ((i : Int) % 8) = ((8 * (i % 8) : Nat) : Int) := by omega
  have e2 : ya1 .u64 ((wd x (i / 8) : Nat) : Int) ((8 * (i % 8) : Nat) : Int) = ((wd x (i / 8) / 2 ^ (8 * (i % 8)) : Nat) : Int) := by
   rw [yd4 (k := .u64) (by
     have : IntKind.bits .u64 = 64 := rfl
     rw [this]; omega)]
   simp
  have e3 : ((wd x (i / 8) / 2 ^ (8 * (i % 8)) : Nat) : Int) % 256 = ((dg 8 x i : Nat) : Int) := by
   have := yrk x i; omega
  unfold zce.l3 zce.l3.step
  simp (disch := omega) only [ya9, ybe, yba, yaE, ya5, Bool.and_self, Bool.not_false, ybI, yfP, ybH, yaU, yap, Int.toNat_natCast, ya8, e0, e1, e2, ygo, e3]
  exact ih
theorem yjM (x : Nat) (hx : x < Q6) (K : List UInt8 → Prop) (h : K (nb x)) : zce (W x) K := by
 rw [zce.is]; unfold zce.d
 refine ⟨49, ?_⟩
 have := yhL x hx (fun y0 => zck 48 y0 fun y0 => K y0) ?_ 48 0 rfl
 ·rw [Nat.mul_zero, Nat.pow_zero, Nat.mod_one, yb7] at this; exact this
 ·exact ybV 48 x (by omega) (Nat.lt_of_lt_of_eq hx (yrj rfl).symm) _ h
theorem yq5 (d b s w : Nat) (hd : d < 2 ^ s) (hs : s + w ≤ 64) (hb : b < 2 ^ w) : orI .u64 (d : Int) (ybM .u64 (b : Int) (s : Int)) = ((d + b * 2 ^ s : Nat) : Int) := by
 have hb64 : IntKind.bits .u64 = 64 := rfl
 have h1 : b * 2 ^ s + 2 ^ s ≤ 2 ^ 64 := by
  have h2 : (b + 1) * 2 ^ s ≤ 2 ^ w * 2 ^ s := Nat.mul_le_mul_right _ hb
  have h3 : 2 ^ w * 2 ^ s ≤ 2 ^ 64 := by rw [← Nat.pow_add]; exact Nat.pow_le_pow_right (by omega) (by omega)
  rw [Nat.add_mul] at h2; omega
 have hP := Nat.two_pow_pos s
 rw [yn3 (k := .u64) rfl b s (by rw [hb64]; omega), hb64, Nat.mod_eq_of_lt (by omega), yrG (k := .u64) rfl _ _ (by rw [hb64]; omega) (by rw [hb64]; omega)]
 congr 1
 exact yeM hd (Nat.mul_mod_left _ _)
theorem yqW {d b s w : Nat} (hd : d < 2 ^ s) (hs : s + w ≤ 64) (hb : b < 2 ^ w) : d + b * 2 ^ s < 2 ^ 64 := by
 have h2 : (b + 1) * 2 ^ s ≤ 2 ^ w * 2 ^ s := Nat.mul_le_mul_right _ hb
 have h3 : 2 ^ w * 2 ^ s ≤ 2 ^ 64 := by rw [← Nat.pow_add]; exact Nat.pow_le_pow_right (by omega) (by omega)
 rw [Nat.add_mul] at h2; omega
theorem yf1 (a : List UInt8) (K : Int → Prop) (h : K (if May a then (yav (val a) : Int) else 0)) : zca a K := by
 rw [zca.is]; unfold zca.d
 rw [yem]
 by_cases hm : May a
 ·rw [if_pos hm] at h
  rw [yaw (by simp [hm]), ybn]
  cases a with
  | nil => rw [yaD (by simp)]; exact h
  | cons b l =>
   have hl := hm.1
   rw [List.length_cons] at hl
   have hv : val (b :: l) ≠ 0 := fun e => by have := hm.nb; rw [e, yaZ] at this; cases this
   have hb := ymC 8 _ (by omega) hv
   rw [ykB hm.2, List.length_cons, Nat.add_sub_cancel, ypS] at hb
   have hbl := yoZ b
   rw [yaw (by simp), yby (ya9 (by rw [List.length_cons]; omega)), ydB, yaU (by omega) (by omega)]
   refine yiF _ (by omega) _ ?_
   have h8 : yav b.toNat ≤ 8 := (yaL _ _).2 hbl
   rw [List.length_cons]
   simp (disch := omega) only [yas, ybH, yap]
   rw [show 8 * (((l.length + 1 : Nat) : Int) - 1) + (yav b.toNat : Int) = ((yav (val (b :: l)) : Nat) : Int) from by rw [hb]; omega]
   exact h
 ·rw [if_neg hm] at h
  rw [yaD (by simp [hm])]; exact h
theorem ykt (x : Nat) (h : x ≠ 0) : x.testBit (ybk x) = true ∧ ∀ i, i < ybk x → x.testBit i = false := by
 obtain ⟨q, hq⟩ := yd6 x h
 generalize ybk x = k at *
 subst hq
 constructor
 ·rw [Nat.testBit_two_pow_mul]; simp [Nat.testBit_zero]
 ·intro i hi
  rw [Nat.testBit_two_pow_mul]; simp; omega
theorem ylq (x : Nat) (h0 : x ≠ 0) (hx : x < 18446744073709551616) (hk : ybk x < 64) (k0 : Int → Prop) (k1 : Prop) (h : k0 (ybk x)) : ∀ (j i : Nat), i + j = ybk x → zbt.l2 k0 k1 (j + 1) x i := by
 obtain ⟨b1, b2⟩ := ykt x h0
 intro j
 induction j with
 | zero =>
  intro i hi
  unfold zbt.l2 zbt.l2.step
  rw [yaD (ya9 (by omega)), yfZ x i hx (by omega), show i = ybk x from by omega, b1, ya5]
  exact h
 | succ j ih =>
  intro i hi
  have ih := ih (i + 1) (by omega)
  have e : ((i + 1 : Nat) : Int) = (i : Int) + 1 := by omega
  rw [e] at ih
  unfold zbt.l2 zbt.l2.step
  rw [yaD (ya9 (by omega)), yfZ x i hx (by omega), b2 i (by omega), yeg, yap (by omega) (by omega)]
  exact ih
theorem yf0 (x n : Nat) (h0 : x ≠ 0) (hx : x < 2 ^ n) : ybk x < n := by
 obtain ⟨b1, _⟩ := ykt x h0
 apply Classical.byContradiction
 intro hc
 rw [Nat.testBit_lt_two_pow (Nat.lt_of_lt_of_le hx (Nat.pow_le_pow_right (by omega) (by omega)))] at b1
 cases b1
theorem yos (x : Nat) (h0 : x ≠ 0) (hx : x < 18446744073709551616) (K : Int → Prop) (h : K (ybk x)) : zbt x K := by
 rw [zbt.is]; unfold zbt.d
 exact ⟨ybk x + 1, ylq x h0 hx (yf0 x 64 h0 hx) _ _ h (ybk x) 0 (by omega)⟩
theorem yk7 (a : List UInt8) (hl : a.length ≤ 100000) (k0 : Int → Prop) (k1 : Prop) (h0 : val a ≠ 0 → k0 (ybk (val a))) (h1 : val a = 0 → k1) :
  ∀ (j t : Nat), t + j = a.length → val a % 2 ^ (8 * t) = 0 → zcb.l4 k0 k1 (j + 1) a t := by
 intro j
 induction j with
 | zero =>
  intro t ht hm
  unfold zcb.l4 zcb.l4.step
  rw [yaw (ybe (by omega))]
  refine h1 ?_
  rw [Nat.mod_eq_of_lt (by have := ybj a; rwa [show t = a.length from by omega])] at hm
  exact hm
 | succ j ih =>
  intro t ht hm
  have hd := ya0 8 (val a) t
  rw [B8] at hd
  unfold zcb.l4 zcb.l4.step
  rw [yaD (ya9 (by omega)), ybA a t (by omega) (by omega)]
  by_cases hz : dg 8 (val a) t = 0
  ·rw [yj7 (by omega), yaw (by rfl), yap (by omega) (by omega)]
   have := ih (t + 1) (by omega) (by rw [ybd, hm, hz]; omega)
   rw [show ((t + 1 : Nat) : Int) = (t : Int) + 1 from by omega] at this
   exact this
  ·rw [ygQ (by omega), yaD (by rfl), ybA a t (by omega) (by omega), yaU (by omega) (by omega)]
   refine yos _ hz (by omega) _ ?_
   have hlow := yly (val a) t hm hz
   have hk := yf0 _ 8 hz (by rw [B8]; exact hd)
   simp (disch := omega) only [ybH, yap]
   rw [show 8 * (t : Int) + (ybk (dg 8 (val a) t) : Int) = ((ybk (val a) : Nat) : Int) from by rw [hlow]; omega]
   refine h0 fun e => hz ?_
   rw [e]; exact yea 8 0 t (Nat.two_pow_pos _)
theorem yfI (a : List UInt8) (K : Int → Prop) (h : K (if May a then (ybk (val a) : Int) else 0)) : zcb a K := by
 rw [zcb.is]; unfold zcb.d
 rw [yem]
 by_cases hm : May a
 ·rw [if_pos hm] at h
  have hl := hm.1
  rw [yaw (by simp [hm])]
  exact ⟨a.length + 1, yk7 a (by omega) (fun y0 => K y0) (K 0) (fun _ => h) (fun e => by rw [e, ykF] at h; exact h) a.length 0 (by omega) (by simp [Nat.mod_one])⟩
 ·rw [if_neg hm] at h
  rw [yaD (by simp [hm])]; exact h
theorem yqJ (x i s t y N : Nat) (ht : t = i + s / 8) (hy : dg 8 x i * 2 ^ (s % 8) = y) (hNN : x % 2 ^ (8 * i) * 2 ^ s = N) :
  ∃ N1, upd (G 8 N) t (((dg 8 N t ||| y % 256 : Nat)) : Int) = G 8 N1 ∧ upd (G 8 N1) (t + 1) ((y / 256 : Nat) : Int) = G 8 (x % 2 ^ (8 * (i + 1)) * 2 ^ s) := by
 have hdx := ya0 8 x i
 rw [B8] at hdx
 have hr : s % 8 < 8 := Nat.mod_lt _ (by omega)
 have hx := Nat.mod_lt x (Nat.two_pow_pos (8 * i))
 have hp : 2 ^ (8 * i) * 2 ^ s = 2 ^ (8 * t + s % 8) := by rw [← Nat.pow_add]; congr 1; omega
 have hN : N < 2 ^ (8 * t + s % 8) := by
  rw [← hp, ← hNN]; exact Nat.mul_lt_mul_of_pos_right hx (Nat.two_pow_pos _)
 have hlow := yku 8 N t (s % 8) hN
 have hN1 : N < 2 ^ (8 * (t + 1)) := Nat.lt_of_lt_of_le hN (Nat.pow_le_pow_right (by omega) (by omega))
 have hym : y % 256 % 2 ^ (s % 8) = 0 := by
  rw [show (256 : Nat) = 2 ^ 8 from rfl, Nat.mod_mod_of_dvd _ (Nat.pow_dvd_pow 2 (by omega)), ← hy]
  exact Nat.mul_mod_left _ _
 have hor : dg 8 N t ||| y % 256 = dg 8 N t + y % 256 := yeM hlow hym
 have hsum : dg 8 N t + y % 256 < 2 ^ 8 := by
  rw [← hor]; exact Nat.or_lt_two_pow (ya0 8 N t) (by rw [B8]; exact Nat.mod_lt _ (by omega))
 have hyl : y / 256 < 2 ^ 8 := by
  rw [B8, Nat.div_lt_iff_lt_mul (by omega), ← hy]
  have : dg 8 x i * 2 ^ (s % 8) < 2 ^ 8 * 2 ^ 8 := Nat.mul_lt_mul_of_lt_of_le (by rw [B8]; exact hdx) (Nat.pow_le_pow_right (by omega) (by omega)) (Nat.two_pow_pos _)
  rw [B8] at this; exact this
 have hG1 : upd (G 8 N) t (((dg 8 N t ||| y % 256 : Nat)) : Int) = G 8 (N + y % 256 * 2 ^ (8 * t)) := by
  rw [hor]
  refine yg4 ?_ hsum
  rw [Nat.add_mul]; omega
 have hlt : N + y % 256 * 2 ^ (8 * t) < 2 ^ (8 * (t + 1)) := by
  have hNl : N = N % 2 ^ (8 * t) + dg 8 N t * 2 ^ (8 * t) := by
   have := ybd 8 N t
   rw [Nat.mod_eq_of_lt hN1] at this; exact this
  have h1 := yf8 8 (N % 2 ^ (8 * t)) (dg 8 N t + y % 256) t (Nat.mod_lt _ (Nat.two_pow_pos _)) hsum
  rw [Nat.add_mul] at h1
  omega
 refine ⟨N + y % 256 * 2 ^ (8 * t), hG1, ?_⟩
 rw [yhZ 8 _ _ (t + 1) hlt hyl]
 refine congrArg (G 8) ?_
 have h2 := yjs y 256 (2 ^ (8 * t))
 rw [yb4, B8]
 have h3 : y * 2 ^ (8 * t) = dg 8 x i * 2 ^ (8 * i) * 2 ^ s := by
  rw [← hy, Nat.mul_assoc, ← Nat.pow_add, Nat.mul_assoc, ← Nat.pow_add]; congr 2; omega
 rw [ybd, Nat.add_mul, hNN, ← h3]
 omega
theorem yjB (a : List UInt8) (s : Nat) (hl : a.length ≤ 100000) (hs : s ≤ 1000000) (c0 m0 : Nat) (k0 : Nat → Nat → Nat → (Nat → Int) → Prop) (h : k0 (a.length + s / 8 + 1) c0 m0 (G 8 (val a * 2 ^ s))) :
  ∀ (j i : Nat), i + j = a.length → zbz.l9 k0 (j + 1) a s (a.length + s / 8 + 1) c0 i m0 (G 8 (val a % 2 ^ (8 * i) * 2 ^ s)) := by
 intro j
 induction j with
 | zero =>
  intro i hi
  unfold zbz.l9 zbz.l9.step
  rw [yaw (ybe (by omega)), show i = a.length from by omega, Nat.mod_eq_of_lt (ybj a)]
  exact h
 | succ j ih =>
  intro i hi
  have ih := ih (i + 1) (by omega)
  have e : ((i + 1 : Nat) : Int) = (i : Int) + 1 := by omega
  obtain ⟨N1, u1, u3⟩ := yqJ (val a) i s _ _ _ rfl rfl rfl
  rw [e, ← u3] at ih
  have hd := ya0 8 (val a) i
  rw [B8] at hd
  have hy : dg 8 (val a) i * 2 ^ (s % 8) < 256 * 256 := Nat.mul_lt_mul_of_lt_of_le hd (by
   have : 2 ^ (s % 8) ≤ 2 ^ 8 := Nat.pow_le_pow_right (by omega) (by omega)
   rwa [B8] at this) (by omega)
  have q1 := ypK (dg 8 (val a) i) (s % 8) (by omega) (by omega)
  have e1 : Int.toNat ((i : Int) + (s : Int) / 8) = i + s / 8 := by omega
  have e2 : Int.toNat ((i : Int) + (s : Int) / 8 + 1) = i + s / 8 + 1 := by omega
  have e3 : (s : Int) % 8 = ((s % 8 : Nat) : Int) := by omega
  have e4 : ((dg 8 (val a) i * 2 ^ (s % 8) : Nat) : Int) % 256 = ((dg 8 (val a) i * 2 ^ (s % 8) % 256 : Nat) : Int) := by omega
  have e5 : ((dg 8 (val a) i * 2 ^ (s % 8) : Nat) : Int) / 256 % 256 = ((dg 8 (val a) i * 2 ^ (s % 8) / 256 : Nat) : Int) := by omega
  have hb : IntKind.bits .u8 = 8 := rfl
  have o1 : orI .u8 ((dg 8 (val a % 2 ^ (8 * i) * 2 ^ s) (i + s / 8) : Nat) : Int) ((dg 8 (val a) i * 2 ^ (s % 8) % 256 : Nat) : Int) = ((dg 8 (val a % 2 ^ (8 * i) * 2 ^ s) (i + s / 8) ||| dg 8 (val a) i * 2 ^ (s % 8) % 256 : Nat) : Int) :=
   yrG (k := .u8) rfl _ _ (by rw [hb]; exact ya0 8 _ _) (by rw [hb, B8]; exact Nat.mod_lt _ (by omega))
  unfold zbz.l9 zbz.l9.step
  rw [yaD (ya9 (by omega)), ybA a i (by omega) (by omega)]
  simp (disch := omega) only [ya9, ybe, yba, yaE, Bool.and_self, Bool.not_false, Int.toNat_natCast, ybI, yfP, yap, yaU, ybr, e1, e2, e3, q1, ygo, yho, e4, e5, o1, u1]
  exact ih
theorem ygW (x s : Nat) (h : x ≠ 0) : yav (x * 2 ^ s) = yav x + s := by
 have h1 : x * 2 ^ s / 2 ^ s = x := Nat.mul_div_cancel _ (Nat.two_pow_pos s)
 have := ydf (x := x * 2 ^ s) (i := s) (by rw [h1]; exact h)
 rw [this, h1, Nat.add_comm]
theorem ypr (x n : Nat) : (nb x).length ≤ n ↔ yav x ≤ 8 * n := by
 rw [ybs, yaL, ymN]
theorem ygB (x : Nat) : (nb x).length ≤ 16384 ↔ yav x ≤ 131072 := by
 have := ypr x 16384
 omega
theorem ylS (a : List UInt8) (n : Int) (hn : n < 9223372036854775808) (hm : May a) (K : List UInt8 → Int → Prop) (h1 : n < 0 → K [] 2) (h2 : 0 ≤ n → a = [] → K [] 0)
  (h3 : 0 ≤ n → a ≠ [] → 131072 < (yav (val a) : Int) + n → K [] 4) (h4 : 0 ≤ n → a ≠ [] → (yav (val a) : Int) + n ≤ 131072 → K (nb (val a * 2 ^ n.toNat)) 0) : zbz a n K := by
 rw [zbz.is]; unfold zbz.d
 by_cases hneg : n < 0
 ·rw [yaD (ya9 hneg)]; exact h1 hneg
 rw [yaw (ybe (by omega)), ybn]
 by_cases h0 : a = []
 ·rw [yaD (by simp [h0])]; exact h2 (by omega) h0
 rw [yaw (by simp [h0])]
 have hl := hm.1
 by_cases hbig : 131072 < n
 ·rw [yaD (ya9 hbig)]; exact h3 (by omega) h0 (by omega)
 rw [yaw (ybe (by omega))]
 refine yf1 a _ ?_
 rw [if_pos hm]
 have hbl : yav (val a) ≤ 131072 := by
  rw [← ygB, hm.nb]; exact hl
 rw [yap (by omega) (by omega)]
 by_cases hlong : 131072 < (yav (val a) : Int) + n
 ·rw [yaD (ya9 hlong)]; exact h3 (by omega) h0 hlong
 rw [yaw (ybe (by omega))]
 obtain ⟨s, rfl⟩ : ∃ s : Nat, n = s := ⟨n.toNat, by omega⟩
 have e1 : Int.toNat ((a.length : Int) + (s : Int) / 8 + 1) = a.length + s / 8 + 1 := by omega
 simp (disch := omega) only [ybI, yap, yba, yaE, Bool.and_self, e1]
 have h4 := h4 (by omega) h0 (by omega)
 rw [Int.toNat_natCast] at h4
 refine ⟨a.length + 1, ?_⟩
 have := yjB a s (by omega) (by omega) (a.length + s / 8 + 1) (a.length + s / 8 + 1) (fun y0 y1 y2 y3 => zck y0 y3 fun y0 => K y0 0) ?_ a.length 0 (by omega)
 ·rw [Nat.mul_zero, Nat.pow_zero, Nat.mod_one, Nat.zero_mul, yb7] at this; exact this
 ·refine ybV _ _ (by omega) ?_ _ h4
  have : val a * 2 ^ s < 2 ^ (8 * a.length) * 2 ^ s := Nat.mul_lt_mul_of_pos_right (ybj a) (Nat.two_pow_pos _)
  rw [← Nat.pow_add] at this
  exact Nat.lt_of_lt_of_le this (Nat.pow_le_pow_right (by omega) (by omega))
theorem yqu (x s i : Nat) : (dg 8 x (i + s / 8) + dg 8 x (i + s / 8 + 1) * 256) / 2 ^ (s % 8) % 256 = dg 8 (x / 2 ^ s) i := by
 have hr : s % 8 < 8 := Nat.mod_lt _ (by omega)
 have h1 : dg 8 x (i + s / 8) + dg 8 x (i + s / 8 + 1) * 256 = x / 2 ^ (8 * (i + s / 8)) % 2 ^ 16 := by
  have a := ydc 8 x (i + s / 8)
  have b := ydc 8 x (i + s / 8 + 1)
  rw [B8] at a b
  rw [a, b, show (2 : Nat) ^ 16 = 65536 from rfl]
  have c := ya0 8 x (i + s / 8)
  have d := ya0 8 x (i + s / 8 + 1)
  rw [B8] at c d
  omega
 rw [h1]
 unfold dg
 rw [Nat.div_div_eq_div_mul, ← Nat.pow_add]
 have h2 : (2 : Nat) ^ 16 = 2 ^ (s % 8) * 2 ^ (16 - s % 8) := by rw [← Nat.pow_add]; congr 1; omega
 rw [h2, Nat.mod_mul_right_div_self, Nat.div_div_eq_div_mul, ← Nat.pow_add, show (256 : Nat) = 2 ^ 8 from rfl, Nat.mod_mod_of_dvd _ (Nat.pow_dvd_pow 2 (by omega))]
 congr 3; omega
theorem yh9 (a : List UInt8) (s : Nat) (hl : a.length ≤ 100000) (hs : s / 8 ≤ a.length) (lost : Bool) (c0 m0 : Nat) (k0 : Bool → Nat → Nat → Nat → (Nat → Int) → Prop) (h : k0 lost (a.length - s / 8) c0 m0 (G 8 (val a / 2 ^ s % 2 ^ (8 * (a.length - s / 8))))) :
  ∀ (j i : Nat), i + j = a.length - s / 8 → zcf.l11 k0 (j + 1) a s lost ((a.length - s / 8 : Nat) : Int) (a.length - s / 8) c0 i m0 (G 8 (val a / 2 ^ s % 2 ^ (8 * i))) := by
 intro j
 induction j with
 | zero =>
  intro i hi
  unfold zcf.l11 zcf.l11.step
  rw [yaw (ybe (by omega)), show i = a.length - s / 8 from by omega]
  exact h
 | succ j ih =>
  intro i hi
  have ih := ih (i + 1) (by omega)
  have e : ((i + 1 : Nat) : Int) = (i : Int) + 1 := by omega
  have hw := yqu (val a) s i
  have hdw := ya0 8 (val a / 2 ^ s) i
  rw [e, ybd, ← yhZ 8 _ _ i (Nat.mod_lt _ (Nat.two_pow_pos _)) hdw, ← hw] at ih
  have hd := ya0 8 (val a) (i + s / 8)
  have hd2 := ya0 8 (val a) (i + s / 8 + 1)
  rw [B8] at hd hd2
  have e1 : (i : Int) + (s : Int) / 8 = ((i + s / 8 : Nat) : Int) := by omega
  have e2 : ((i + s / 8 : Nat) : Int) + 1 = ((i + s / 8 + 1 : Nat) : Int) := by omega
  have e3 : (s : Int) % 8 = ((s % 8 : Nat) : Int) := by omega
  have q1 := ypK (dg 8 (val a) (i + s / 8 + 1)) 8 (by omega) (by rw [B8]; omega)
  rw [B8, show ((8 : Nat) : Int) = 8 from rfl] at q1
  have e62 : (2 : Nat) ^ 62 = 4611686018427387904 := rfl
  have o1 : orI .i64 ((dg 8 (val a) (i + s / 8) : Nat) : Int) ((dg 8 (val a) (i + s / 8 + 1) * 256 : Nat) : Int) = ((dg 8 (val a) (i + s / 8) + dg 8 (val a) (i + s / 8 + 1) * 256 : Nat) : Int) := by
   rw [ysV _ _ (by omega) (by omega)]
   congr 1
   exact yeM (r := 8) (by rw [B8]; exact hd) (by rw [B8]; exact Nat.mul_mod_left _ _)
  have sh := ypH (dg 8 (val a) (i + s / 8) + dg 8 (val a) (i + s / 8 + 1) * 256) (s % 8) (by omega)
  have e4 : (((dg 8 (val a) (i + s / 8) + dg 8 (val a) (i + s / 8 + 1) * 256) / 2 ^ (s % 8) : Nat) : Int) % 256 = (((dg 8 (val a) (i + s / 8) + dg 8 (val a) (i + s / 8 + 1) * 256) / 2 ^ (s % 8) % 256 : Nat) : Int) := by omega
  unfold zcf.l11 zcf.l11.step
  simp (disch := omega) only [ya9, ya5, ybI, yap, e1, e2]
  rw [ybA a _ (by omega) (by omega), ybA a _ (by omega) (by omega)]
  simp (disch := omega) only [ya9, ybe, yba, yaE, Bool.and_self, Bool.not_false, Int.toNat_natCast, yfP, yaU, e3, q1, o1, sh, ygo, e4]
  exact ih
theorem yrC (x n : Int) : ltI x n = decide (x < n) := by simp [ltI]
theorem ygb (a : List UInt8) (n : Int) (hn : n < 9223372036854775808) (hm : May a) (K : List UInt8 → Bool → Int → Prop) (h1 : n < 0 → K [] false 2) (h2 : 0 ≤ n → a = [] → K [] false 0)
  (h3 : 0 ≤ n → a ≠ [] → K (nb (val a / 2 ^ n.toNat)) (decide ((ybk (val a) : Int) < n)) 0) : zcf a n K := by
 rw [zcf.is]; unfold zcf.d
 by_cases hneg : n < 0
 ·rw [yaD (ya9 hneg)]; exact h1 hneg
 rw [yaw (ybe (by omega)), ybn]
 by_cases h0 : a = []
 ·rw [yaD (by simp [h0])]; exact h2 (by omega) h0
 rw [yaw (by simp [h0])]
 have hl := hm.1
 obtain ⟨s, rfl⟩ : ∃ s : Nat, n = s := ⟨n.toNat, by omega⟩
 have h3 := h3 (by omega) h0
 rw [Int.toNat_natCast] at h3
 refine yfI a _ ?_
 rw [if_pos hm, yrC, ybH (by omega) (by omega)]
 by_cases hbig : 8 * a.length ≤ s
 ·rw [yaD (yba (by omega))]
  have : val a / 2 ^ s = 0 := Nat.div_eq_of_lt (Nat.lt_of_lt_of_le (ybj a) (Nat.pow_le_pow_right (by omega) hbig))
  rw [this, yaZ] at h3
  exact h3
 ·rw [yaw (yeK (by omega))]
  have e1 : Int.toNat ((a.length : Int) - (s : Int) / 8) = a.length - s / 8 := by omega
  have e2 : (a.length : Int) - (s : Int) / 8 = ((a.length - s / 8 : Nat) : Int) := by omega
  simp (disch := omega) only [ybI, yas, yba, yaE, Bool.and_self, e1]
  rw [e2]
  have hlt2 : val a / 2 ^ s < 2 ^ (8 * (a.length - s / 8)) := by
   rw [Nat.div_lt_iff_lt_mul (Nat.two_pow_pos _), ← Nat.pow_add]
   exact Nat.lt_of_lt_of_le (ybj a) (Nat.pow_le_pow_right (by omega) (by omega))
  refine ⟨a.length - s / 8 + 1, ?_⟩
  have := yh9 a s (by omega) (by omega) (decide ((ybk (val a) : Int) < s)) (a.length - s / 8) (a.length - s / 8) (fun y0 y1 y2 y3 y4 => zck y1 y4 fun y0_1 => K y0_1 y0 0) ?_ (a.length - s / 8) 0 (by omega)
  ·rw [Nat.mul_zero, Nat.pow_zero, Nat.mod_one, yb7] at this; exact this
  ·rw [Nat.mod_eq_of_lt hlt2]
   exact ybV _ _ (by omega) hlt2 _ h3
end Go.Ev.S

/- What the document's answer reckons with natural numbers: quotients, greatest common divisors, roots. -/
set_option linter.unusedVariables false
set_option linter.unusedSimpArgs false
set_option maxRecDepth 8000
namespace Go.Ev.S
open Go Go.Ev
theorem ysE {x y : Nat} (h : y ≤ x) : leI 0 (sgn x y) = true := by
 unfold sgn
 rw [if_neg (by omega)]
 split
 ·exact yba (by omega)
 ·exact yba (by omega)
theorem ys3 {x y : Nat} (h : x < y) : leI 0 (sgn x y) = false := by
 unfold sgn
 rw [if_pos h]
 exact yeK (by omega)
theorem ysW (x i : Nat) : dg 8 x (i / 8) / 2 ^ (i % 8) % 2 = x / 2 ^ i % 2 := by
 unfold dg
 have h2 : (2 : Nat) ^ 8 = 2 ^ (i % 8) * 2 ^ (8 - i % 8) := by rw [← Nat.pow_add]; congr 1; omega
 have h3 : (2 : Nat) ∣ 2 ^ (8 - i % 8) := Nat.dvd_trans (by rw [Nat.pow_one]; exact Nat.dvd_refl _ : (2 : Nat) ∣ 2 ^ 1) (Nat.pow_dvd_pow 2 (by omega))
 rw [h2, Nat.mod_mul_right_div_self, Nat.mod_mod_of_dvd _ h3, Nat.div_div_eq_div_mul, ← Nat.pow_add, show 8 * (i / 8) + i % 8 = i from by omega]
theorem ynv (a : List UInt8) (i : Nat) (hi : i ≤ 1000000000) (hl : a.length ≤ 1000000000) (K : Int → Prop) : zci a i K = K ((val a / 2 ^ i % 2 : Nat) : Int) := by
 rw [zci.is]; unfold zci.d
 have hd := ya0 8 (val a) (i / 8)
 rw [B8] at hd
 have e62 : (2 : Nat) ^ 62 = 4611686018427387904 := rfl
 have e0 : yaI IntKind.i64 (i : Int) 8 = ((i / 8 : Nat) : Int) := by rw [ybI (by omega) (by omega) (by omega)]; omega
 have e1 : cvI IntKind.u64 (ycm IntKind.i64 (i : Int) 8) = ((i % 8 : Nat) : Int) := by rw [yfP (by omega), yaU (by omega) (by omega)]; omega
 have hle := Nat.div_le_self (dg 8 (val a) (i / 8)) (2 ^ (i % 8))
 rw [e0, e1, ybA a _ (by omega) hl, ybe (by omega), ypH _ _ (by omega), yoA _ (by omega), ysW]
 rfl
theorem yhW (a : List UInt8) (one : Nat) (h1 : one < 2) (hl : a.length ≤ 1000000) (c0 m0 : Nat) (k0 : Nat → Nat → Nat → (Nat → Int) → Prop) (h : k0 (a.length + 1) c0 m0 (G 8 (2 * val a + one))) :
  ∀ (j i Z c : Nat), i + j = a.length + 1 → Z < 2 ^ (8 * i) → c < 2 → Z + c * 2 ^ (8 * i) = 2 * (val a % 2 ^ (8 * i)) + one → zcj.l4 k0 (j + 1) a (a.length + 1) c0 c i m0 (G 8 Z) := by
 intro j
 induction j with
 | zero =>
  intro i Z c hi hZ hc hE
  have hi : i = a.length + 1 := by omega
  subst hi
  have hx := ybj a
  have hp : 2 ^ (8 * (a.length + 1)) = 2 ^ (8 * a.length) * 256 := by rw [yb4, B8]
  have hpp := Nat.two_pow_pos (8 * a.length)
  rw [Nat.mod_eq_of_lt (by omega)] at hE
  have hc0 : c = 0 := by
   rcases (by omega : c = 0 ∨ c = 1) with e | e
   ·exact e
   ·subst e; omega
  subst hc0
  unfold zcj.l4 zcj.l4.step
  rw [yaw (yeK (by omega))]
  rw [← hE, Nat.zero_mul, Nat.add_zero] at h
  exact h
 | succ j ih =>
  intro i Z c hi hZ hc hE
  have hd := ya0 8 (val a) i
  rw [B8] at hd
  have e1 : ycj IntKind.i64 2 ((dg 8 (val a) i : Nat) : Int) = ((2 * dg 8 (val a) i : Nat) : Int) := by rw [ybH (by omega) (by omega)]; omega
  have e2 : yai IntKind.i64 (c : Int) ((2 * dg 8 (val a) i : Nat) : Int) = ((c + 2 * dg 8 (val a) i : Nat) : Int) := by rw [yap (by omega) (by omega)]; omega
  have e3 : ya1 IntKind.i64 ((c + 2 * dg 8 (val a) i : Nat) : Int) 8 = (((c + 2 * dg 8 (val a) i) / 256 : Nat) : Int) := by rw [yho]; omega
  have e4 : cvI IntKind.u8 ((c + 2 * dg 8 (val a) i : Nat) : Int) = (((c + 2 * dg 8 (val a) i) % 256 : Nat) : Int) := by rw [ygo]; omega
  have e5 : yai IntKind.i64 (i : Int) 1 = ((i + 1 : Nat) : Int) := by rw [yap (by omega) (by omega)]; omega
  have hw : (c + 2 * dg 8 (val a) i) % 256 < 2 ^ 8 := Nat.mod_lt _ (by omega)
  unfold zcj.l4 zcj.l4.step
  rw [yaD (yba (by omega)), ybA a i (by omega) (by omega), yby (by rw [yba (by omega), ya9 (by omega)]; rfl), e1, e2, e3, e4, e5, Int.toNat_natCast, yhZ 8 Z _ i hZ hw]
  refine ih (i + 1) _ _ (by omega) (yf8 8 Z _ i hZ hw) (by omega) ?_
  rw [ybd, yb4, B8]
  have := yjs (c + 2 * dg 8 (val a) i) 256 (2 ^ (8 * i))
  rw [Nat.add_mul c, Nat.mul_assoc] at this
  rw [Nat.mul_add]
  omega
theorem yjV (a : List UInt8) (one : Nat) (h1 : one < 2) (hl : a.length ≤ 1000000) (K : List UInt8 → Prop) (h : K (nb (2 * val a + one))) : zcj a one K := by
 rw [zcj.is]; unfold zcj.d
 have e1 : Int.toNat ((a.length : Int) + 1) = a.length + 1 := by omega
 simp (disch := omega) only [yba, yaE, Bool.and_self, yap, e1]
 refine ⟨a.length + 2, ?_⟩
 have hx := ybj a
 have := yhW a one h1 hl (a.length + 1) (a.length + 1) (fun y0 y1 y2 y3 => zck y0 y3 fun y0 => K y0) ?_ (a.length + 1) 0 0 one (by omega) (by simp) h1 (by simp [Nat.mod_one])
 ·rw [yb7] at this; exact this
 ·refine ybV _ _ (by omega) ?_ _ h
  rw [yb4, B8]; omega
theorem yqr (x t : Nat) : x / 2 ^ t = 2 * (x / 2 ^ (t + 1)) + x / 2 ^ t % 2 := by
 rw [Nat.pow_succ, ← Nat.div_div_eq_div_mul]
 omega
theorem yqT (X y q r b : Nat) (hy : 0 < y) (hq : X / y = q) (hr : X % y = r) (hb : b < 2) :
  (y ≤ 2 * r + b → (2 * X + b) / y = 2 * q + 1 ∧ (2 * X + b) % y = 2 * r + b - y) ∧ (2 * r + b < y → (2 * X + b) / y = 2 * q ∧ (2 * X + b) % y = 2 * r + b) := by
 have h1 := Nat.div_add_mod X y
 have h2 := Nat.mod_lt X hy
 rw [hq, hr] at h1
 rw [hr] at h2
 have h3 : 2 * X + b = 2 * r + b + y * (2 * q) := by rw [← h1, Nat.mul_left_comm y 2 q]; omega
 constructor
 ·intro h
  have h4 : 2 * X + b = (2 * r + b - y) + y * (2 * q + 1) := by rw [h3, Nat.mul_add]; omega
  rw [h4, Nat.add_mul_div_left _ _ hy, Nat.add_mul_mod_self_left, Nat.div_eq_of_lt (by omega), Nat.mod_eq_of_lt (by omega)]
  omega
 ·intro h
  rw [h3, Nat.add_mul_div_left _ _ hy, Nat.add_mul_mod_self_left, Nat.div_eq_of_lt h, Nat.mod_eq_of_lt h]
  omega
theorem yrX (q t : Nat) : upd (G 8 (q * 2 ^ (t + 1))) (t / 8) (orI IntKind.u8 ((dg 8 (q * 2 ^ (t + 1)) (t / 8) : Nat) : Int) (ybM IntKind.u8 1 ((t % 8 : Nat) : Int))) = G 8 ((2 * q + 1) * 2 ^ t) := by
 have hb : IntKind.bits .u8 = 8 := rfl
 have hd := ya0 8 (q * 2 ^ (t + 1)) (t / 8)
 have h8 : (2 : Nat) ^ 8 = 2 ^ (t % 8 + 1) * 2 ^ (8 - (t % 8 + 1)) := by rw [← Nat.pow_add]; congr 1; omega
 have hmod : dg 8 (q * 2 ^ (t + 1)) (t / 8) % 2 ^ (t % 8 + 1) = 0 := by
  unfold dg
  rw [Nat.mod_mod_of_dvd _ ⟨_, h8⟩, show t + 1 = t % 8 + 1 + 8 * (t / 8) from by omega, Nat.pow_add, ← Nat.mul_assoc, Nat.mul_div_cancel _ (Nat.two_pow_pos _)]
  exact Nat.mul_mod_left _ _
 have hlt : 2 ^ (t % 8) < 2 ^ (t % 8 + 1) := Nat.pow_lt_pow_right (by omega) (by omega)
 have h1 : ybM IntKind.u8 1 ((t % 8 : Nat) : Int) = ((2 ^ (t % 8) : Nat) : Int) := by
  have := yn3 (k := .u8) rfl 1 (t % 8) (by rw [hb]; omega)
  rw [Nat.one_mul, hb, Nat.mod_eq_of_lt (Nat.pow_lt_pow_right (by omega) (by omega))] at this
  exact this
 have hs : dg 8 (q * 2 ^ (t + 1)) (t / 8) ||| 2 ^ (t % 8) = 2 ^ (t % 8) + dg 8 (q * 2 ^ (t + 1)) (t / 8) := by
  rw [Nat.or_comm]; exact yeM hlt hmod
 have hs2 : dg 8 (q * 2 ^ (t + 1)) (t / 8) ||| 2 ^ (t % 8) < 2 ^ 8 := Nat.or_lt_two_pow hd (Nat.pow_lt_pow_right (by omega) (by omega))
 rw [h1, yrG (k := .u8) rfl _ _ (by rw [hb]; exact hd) (by rw [hb]; exact Nat.pow_lt_pow_right (by omega) (by omega))]
 refine yg4 ?_ hs2
 rw [hs, Nat.add_mul (2 ^ (t % 8)), ← Nat.pow_add, show t % 8 + 8 * (t / 8) = t from by omega, Nat.add_mul (2 * q) 1, Nat.one_mul, Nat.pow_succ, Nat.mul_comm (2 ^ t) 2, ← Nat.mul_assoc, Nat.mul_comm q 2]
 omega
theorem ymv {x n : Nat} (h : x < 2 ^ (8 * n)) : (nb x).length ≤ n := (ybs x n).2 (by rw [ymN]; exact h)
theorem ykx (a b : List UInt8) (hl : a.length ≤ 100000) (hlb : b.length ≤ 100000) (hb : yiS b = true) (hy : 0 < val b) (c0 m0 : Nat) (k0 : List UInt8 → Nat → Nat → Nat → (Nat → Int) → Prop)
  (h : k0 (nb (val a % val b)) (a.length + 1) c0 m0 (G 8 (val a / val b))) :
  ∀ t, t ≤ 8 * a.length → zbx.l10 k0 (t + 1) a b (nb (val a / 2 ^ t % val b)) (a.length + 1) c0 ((t : Int) - 1) m0 (G 8 (val a / 2 ^ t / val b * 2 ^ t)) := by
 intro t
 induction t with
 | zero =>
  intro ht
  unfold zbx.l10 zbx.l10.step
  rw [yaw (yeK (by omega)), Nat.pow_zero, Nat.div_one, Nat.mul_one]
  exact h
 | succ t ih =>
  intro ht
  have ih := ih (by omega)
  have hx := yqr (val a) t
  have hb2 : val a / 2 ^ t % 2 < 2 := Nat.mod_lt _ (by omega)
  generalize hbit : val a / 2 ^ t % 2 = bit at *
  rw [hx] at ih
  generalize val a / 2 ^ (t + 1) = X at *
  obtain ⟨s1, s2⟩ := yqT X (val b) _ _ bit hy rfl rfl hb2
  have hr := Nat.mod_lt X hy
  have hyl := ybj b
  generalize hre : X % val b = r at *
  generalize hqe : X / val b = q at *
  have lr : (nb r).length ≤ b.length := ymv (by omega)
  have e1 : ((t + 1 : Nat) : Int) - 1 = (t : Int) := by omega
  have e2 : yaI IntKind.i64 (t : Int) 8 = ((t / 8 : Nat) : Int) := by rw [ybI (by omega) (by omega) (by omega)]; omega
  have e3 : cvI IntKind.u64 (ycm IntKind.i64 (t : Int) 8) = ((t % 8 : Nat) : Int) := by rw [yfP (by omega), yaU (by omega) (by omega)]; omega
  have e4 : yan IntKind.i64 (t : Int) 1 = (t : Int) - 1 := by rw [yas (by omega) (by omega)]
  have w0 : (leI 0 ((t / 8 : Nat) : Int) && ltI ((t / 8 : Nat) : Int) ((a.length + 1 : Nat) : Int)) = true := by rw [yba (by omega), ya9 (by omega)]; rfl
  unfold zbx.l10 zbx.l10.step
  rw [e1, yaD (yba (by omega)), ynv a t (by omega) (by omega), hbit]
  refine yjV (nb r) bit hb2 (by omega) _ ?_
  rw [yaK, yi1 _ b (ylZ _) hb, yaK]
  have l2 : (nb (2 * r + bit)).length ≤ b.length + 1 := ymv (by rw [yb4, B8]; omega)
  by_cases hc : val b ≤ 2 * r + bit
  ·obtain ⟨g1, g2⟩ := s1 hc
   rw [g1, g2] at ih
   rw [yaD (ysE hc)]
   refine yoa _ b (by omega) (by omega) (by rw [yaK]; exact hc) _ ?_
   rw [yaK, e2, e3, yby w0, yby (by rw [ybe (by omega)]; rfl), yby w0, Int.toNat_natCast, ybr, yrX, e4]
   exact ih
  ·obtain ⟨g1, g2⟩ := s2 (by omega)
   rw [g1, g2, show 2 * q * 2 ^ t = q * 2 ^ (t + 1) from by rw [Nat.pow_succ, Nat.mul_comm 2 q, Nat.mul_assoc, Nat.mul_comm 2]] at ih
   rw [yaw (ys3 (by omega)), e4]
   exact ih
theorem yfM (a b : List UInt8) (ha : May a) (hb : May b) (K : List UInt8 → List UInt8 → Int → Prop) (h0 : b = [] → K [] [] 2) (h2 : val b ≠ 0 → K (nb (val a / val b)) (nb (val a % val b)) 0) : zbx a b K := by
 rw [zbx.is]; unfold zbx.d
 rw [ybn]
 by_cases hz : b = []
 ·rw [yaD (by simpa using hz)]; exact h0 hz
 ·rw [yaw (by simpa using hz), yi1 a b ha.2 hb.2, ypF]
  have hv : val b ≠ 0 := fun e => hz ((yjg hb.2).1 e)
  have h2 := h2 hv
  have l1 := ha.1; have l2 := hb.1
  by_cases hlt : val a < val b
  ·rw [yaD (by simpa using hlt)]
   rw [Nat.div_eq_of_lt hlt, Nat.mod_eq_of_lt hlt, yaZ, ha.nb] at h2
   exact h2
  ·rw [yaw (by simpa using hlt)]
   have va : val a ≠ 0 := by omega
   refine yf1 a _ (yf1 b _ ?_)
   rw [if_pos ha, if_pos hb]
   have ba : yav (val a) ≤ 8 * a.length := (yaL _ _).2 (ybj a)
   have bb : yav (val b) ≤ 8 * b.length := (yaL _ _).2 (ybj b)
   have bp := yfC hv
   have bm : yav (val b) ≤ yav (val a) := (yaL _ _).2 (by have := yj0 (val a); omega)
   have e1 : yan IntKind.i64 ((yav (val a) : Nat) : Int) (yan IntKind.i64 ((yav (val b) : Nat) : Int) 1) = ((yav (val a) - (yav (val b) - 1) : Nat) : Int) := by
    simp (disch := omega) only [yas]; omega
   rw [e1]
   have hT : val a / 2 ^ (yav (val a) - (yav (val b) - 1)) < val b := by
    rw [Nat.div_lt_iff_lt_mul (Nat.two_pow_pos _)]
    have g1 := ypP hv
    have g2 := yj0 (val a)
    have g3 := Nat.mul_le_mul_right (2 ^ (yav (val a) - (yav (val b) - 1))) g1
    rw [← Nat.pow_add, show yav (val b) - 1 + (yav (val a) - (yav (val b) - 1)) = yav (val a) from by omega] at g3
    omega
   generalize hTe : yav (val a) - (yav (val b) - 1) = T at *
   refine ygb a _ (by omega) ha _ (fun e => by omega) (fun _ e => absurd ((yjg ha.2).2 e) va) fun _ _ => ?_
   rw [Int.toNat_natCast]
   have e2 : yai IntKind.i64 ((a.length : Nat) : Int) 1 = (a.length : Int) + 1 := by rw [yap (by omega) (by omega)]
   have e3 : Int.toNat ((a.length : Int) + 1) = a.length + 1 := by omega
   rw [e2, yby (by rw [yba (by omega), yba (by omega), yba (by omega)]; rfl), e3, yas (by omega) (by omega)]
   refine ⟨T + 1, ?_⟩
   have := ykx a b (by omega) (by omega) hb.2 (by omega) (a.length + 1) (a.length + 1) (fun y0 y1 y2 y3 y4 => zck y1 y4 fun y0_3 => K y0_3 y0 0) ?_ T (by omega)
   ·rw [Nat.mod_eq_of_lt hT, Nat.div_eq_of_lt hT, Nat.zero_mul, yb7] at this
    exact this
   ·refine ybV _ _ (by omega) ?_ _ h2
    have g1 := Nat.div_le_self (val a) (val b)
    have g2 := ybj a
    have g3 : 2 ^ (8 * a.length) ≤ 2 ^ (8 * (a.length + 1)) := yb1 (by omega)
    omega
theorem yqD {x y : Nat} (h : x ≤ y) (hm : May (nb y)) : May (nb x) := by
 refine ⟨?_, ylZ x⟩
 have := (ybs y _).1 hm.1
 exact (ybs x _).2 (by omega)
theorem yk4 (k0 : List UInt8 → Prop) : ∀ (y x : Nat), May (nb x) → May (nb y) → k0 (nb (Nat.gcd x y)) → ∃ f, zby.l1 k0 f (nb x) (nb y) := by
 intro y
 induction y using Nat.strongRecOn with
 | _ y ih =>
  intro x hx hy hk
  by_cases h0 : y = 0
  ·subst h0
   refine ⟨1, ?_⟩
   unfold zby.l1 zby.l1.step
   rw [yaZ, ybn, yaw (by rfl)]
   rw [Nat.gcd_zero_right] at hk; exact hk
  ·have hm := Nat.mod_lt x (show 0 < y by omega)
   have hg : Nat.gcd y (x % y) = Nat.gcd x y := by rw [Nat.gcd_comm x y, Nat.gcd_rec y x, Nat.gcd_comm]
   obtain ⟨f, hf⟩ := ih (x % y) hm y hy (yqD (Nat.le_of_lt hm) hy) (by rw [hg]; exact hk)
   refine ⟨f + 1, ?_⟩
   unfold zby.l1 zby.l1.step
   rw [ybn, yaD (by simp [yli h0])]
   refine yfM _ _ hx hy _ (fun e => absurd e (yli h0)) fun _ => ?_
   rw [yaK, yaK]; exact hf
theorem ynM (a b : List UInt8) (ha : May a) (hb : May b) (K : List UInt8 → Prop) (h : K (nb (Nat.gcd (val a) (val b)))) : zby a b K := by
 rw [zby.is]; unfold zby.d
 have := yk4 (fun y0 => K y0) (val b) (val a) (by rw [ha.nb]; exact ha) (by rw [hb.nb]; exact hb) h
 rw [ha.nb, hb.nb] at this
 exact this
end Go.Ev.S

/- The laws of natural numbers that need no quotient: sums, products, a ring. -/
set_option linter.unusedVariables false
set_option linter.unusedSimpArgs false
set_option maxRecDepth 8000
namespace Go.Ev.S
open Go Go.Ev
theorem ygF (a : Int) : eqI a a = true := by simp [eqI]
end Go.Ev.S

/- The law of shifts. -/
set_option linter.unusedVariables false
set_option linter.unusedSimpArgs false
set_option maxRecDepth 8000
namespace Go.Ev.S
open Go Go.Ev
theorem yrz {a : List UInt8} (hm : May a) (h : a ≠ []) : val a ≠ 0 := fun e => by have := hm.nb; rw [e, yaZ] at this; exact h this.symm
theorem yqi {a : List UInt8} (hm : May a) : yav (val a) ≤ 131072 := by rw [← ygB, hm.nb]; exact hm.1
theorem ylT (a : List UInt8) (n : Int) (hn : n < 9223372036854775808) (K : List UInt8 → Int → Prop) (h0 : ¬ May a → K [] 2) (h1 : May a → n < 0 → K [] 2) (h2 : May a → 0 ≤ n → a = [] → K [] 0)
  (h3 : May a → 0 ≤ n → a ≠ [] → 131072 < (yav (val a) : Int) + n → K [] 4) (h4 : May a → 0 ≤ n → a ≠ [] → (yav (val a) : Int) + n ≤ 131072 → K (nb (val a * 2 ^ n.toNat)) 0) : zav a n K := by
 rw [zav.is]; unfold zav.d
 rw [yaY]
 by_cases hm : May a
 ·rw [if_pos hm, yaw (by rfl)]
  by_cases hneg : n < 0
  ·rw [yaD (ya9 hneg)]; exact h1 hm hneg
  rw [yaw (ybe (by omega)), ybn]
  by_cases hz : a = []
  ·rw [yaD (by simp [hz])]; exact h2 hm (by omega) hz
  rw [yaw (by simp [hz])]
  refine yfW a _ ?_
  have hb := yqi hm
  rw [if_pos hm, yas (by omega) (by omega)]
  by_cases hlong : 131072 < (yav (val a) : Int) + n
  ·rw [yaD (ya9 (by omega))]; exact h3 hm (by omega) hz hlong
  rw [yaw (ybe (by omega))]
  obtain ⟨s, rfl⟩ : ∃ s : Nat, n = s := ⟨n.toNat, by omega⟩
  have h4 := h4 hm (by omega) hz (by omega)
  rw [Int.toNat_natCast] at h4
  refine hm.words _ ?_
  have hw := hm.wl
  refine yhG _ _ s (by omega) (by omega) hm.lt _ _ (fun hc => ?_) fun _ c m => ?_
  ·exfalso
   have := hm.lt
   rw [hc] at this
   have h0 := yrz hm hz
   simp at this; omega
  ·refine yg8 _ _ ?_ (yfT _) _ ?_
   ·have hl := yi9 (val a) _ s (by omega) (by omega) hm.lt
    have := (yet 32 (by omega) _ _).2 hl
    omega
   ·have : (nb (val a * 2 ^ s)).length ≤ 16384 := by
     rw [ygB, ygW _ _ (yrz hm hz)]; omega
    rw [if_neg (by omega)]; exact h4
 ·rw [if_neg hm, yaD (by rfl)]; exact h0 hm
theorem ykm (a : List UInt8) (n : Int) (hn : n < 9223372036854775808) (K : List UInt8 → Bool → Int → Prop) (h0 : ¬ May a → K [] false 2) (h1 : May a → n < 0 → K [] false 2) (h2 : May a → 0 ≤ n → a = [] → K [] false 0)
  (h3 : May a → 0 ≤ n → a ≠ [] → K (nb (val a / 2 ^ n.toNat)) (decide ((ybk (val a) : Int) < n)) 0) : zay a n K := by
 rw [zay.is]; unfold zay.d
 rw [yaY]
 by_cases hm : May a
 ·rw [if_pos hm, yaw (by rfl)]
  by_cases hneg : n < 0
  ·rw [yaD (ya9 hneg)]; exact h1 hm hneg
  rw [yaw (ybe (by omega)), ybn]
  by_cases hz : a = []
  ·rw [yaD (by simp [hz])]; exact h2 hm (by omega) hz
  rw [yaw (by simp [hz])]
  obtain ⟨s, rfl⟩ : ∃ s : Nat, n = s := ⟨n.toNat, by omega⟩
  have h3 := h3 hm (by omega) hz
  rw [Int.toNat_natCast] at h3
  refine hm.words _ ?_
  have hw := hm.wl
  refine yhr _ _ s (by omega) (by omega) hm.lt _ ?_
  have hle : wl 32 (val a / 2 ^ s) ≤ wl 32 (val a) := ybZ (by omega) (Nat.div_le_self _ _)
  refine ybY _ _ (by omega) (yfT _) _ ?_
  refine yej a _ ?_
  rw [if_pos hm, yrC]; exact h3
 ·rw [if_neg hm, yaD (by rfl)]; exact h0 hm
end Go.Ev.S
