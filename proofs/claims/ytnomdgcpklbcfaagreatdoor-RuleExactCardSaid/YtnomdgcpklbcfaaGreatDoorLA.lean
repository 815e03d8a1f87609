/- Numbers of several words as natural ones; bits set one by one. -/
import Derived.Test.YtnomdgcpklbcfaaGreatDoorEvC
import Derived.Test.YtnomdgcpklbcfaaGreatDoorDA
import Derived.KernelRfl
set_option linter.unusedVariables false
set_option linter.unusedSimpArgs false
namespace Go.Ev.S
open Go Go.Ev
theorem ybL {i n : Int} (h : 0 ≤ i) (h2 : i < n) : (leI 0 i && ltI i n) = true := by rw [ybd h, ya9 h2]; rfl
theorem yhJ {i : Int} (h : 0 ≤ i) : (!ltI i 0) = true := by rw [ybj h]; rfl
theorem yr5 (a b : Nat) (ha : a < 9223372036854775808) (hb : 0 < b) : yaF .i64 (a : Int) (b : Int) = ((a / b : Nat) : Int) := by
 have h : a / b ≤ a := Nat.div_le_self a b
 show IntKind.wrap .i64 ((a : Int).tdiv b) = _
 rw [Int.tdiv_eq_ediv_of_nonneg (by omega)]
 have : (a : Int) / (b : Int) = ((a / b : Nat) : Int) := by simp
 rw [this]
 generalize a / b = q at h ⊢
 exact yd5 (by omega) (by omega)
theorem yr2 (k : IntKind) (a b : Nat) : ych k (a : Int) (b : Int) = ((a % b : Nat) : Int) := by
 show (a : Int).tmod b = _
 rw [Int.tmod_eq_emod_of_nonneg (by omega)]
 simp
theorem yo5 (a : Nat) (ha : a < 9223372036854775808) : yaF .i64 (a : Int) 64 = ((a / 64 : Nat) : Int) := yr5 a 64 ha (by omega)
theorem yoF (a : Nat) : ych .i64 (a : Int) 64 = ((a % 64 : Nat) : Int) := yr2 .i64 a 64
theorem ypi (i : Nat) (hi : i < 64) : ybE .u64 1 (i : Int) = ((2 ^ i : Nat) : Int) := by
 have := ymg 1 i hi
 rw [show (1 : Int) = ((1 : Nat) : Int) from rfl, this, Nat.shiftLeft_eq, Nat.one_mul]
 have h : 2 ^ i < 2 ^ 64 := Nat.pow_lt_pow_right (by omega) hi
 rw [Nat.mod_eq_of_lt h]
theorem yj9 {i : Nat} (h : i < 64) : 2 ^ i < 18446744073709551616 := Nat.pow_lt_pow_right (a := 2) (m := i) (n := 64) (by omega) h
theorem yk0 (a b : Nat) : eqI (a : Int) (b : Int) = decide (a = b) := by
 by_cases h : a = b
 ·subst h; simp [eqI]
 ·rw [ygq (by omega)]; simp [h]
theorem yrq (a b : Nat) : ltI (a : Int) (b : Int) = decide (a < b) := by simp [ltI]
theorem yeY {a b : Int} (h : 0 ≤ a - b) (h2 : a - b < 18446744073709551616) : yan .u64 a b = a - b := yhC h h2
theorem yf1 {a b : Int} (h : 0 ≤ a + b) (h2 : a + b < 18446744073709551616) : yak .u64 a b = a + b := yhC h h2
def Q6 : Nat := 2 ^ 192 * 2 ^ 192
theorem yfn {n : Nat} (h : n = 384) : 2 ^ n = Q6 := by
 obtain ⟨a, ha⟩ : ∃ a, a = 192 := ⟨_, rfl⟩
 have : n = a + a := by omega
 rw [this, Nat.pow_add, ha]; exact rfl
theorem ytr : 0 < Q6 := Nat.mul_pos (Nat.two_pow_pos _) (Nat.two_pow_pos _)
theorem ytk {a : Nat} (h : a ≤ 384) : 2 ^ a ≤ Q6 := by
 obtain ⟨n, hn⟩ : ∃ n, n = 384 := ⟨_, rfl⟩
 rw [← yfn hn]; exact Nat.pow_le_pow_right (by omega) (by omega)
theorem yt2 {a : Nat} (h : a < 384) : 2 ^ a < Q6 := by
 obtain ⟨n, hn⟩ : ∃ n, n = 384 := ⟨_, rfl⟩
 rw [← yfn hn]; exact Nat.pow_lt_pow_right (by omega) (by omega)
theorem ysG {a : Nat} (h : a ≤ 384) {x : Nat} (hx : x < 2 ^ a) : x < Q6 := Nat.lt_of_lt_of_le hx (ytk h)
def wd (x i : Nat) : Nat := x / 2 ^ (64 * i) % 18446744073709551616
theorem yd3 (x i : Nat) : wd x i < 18446744073709551616 := Nat.mod_lt _ (by omega)
theorem ybN (x i j : Nat) : (wd x i).testBit j = (decide (j < 64) && x.testBit (64 * i + j)) := by
 unfold wd
 rw [show (18446744073709551616 : Nat) = 2 ^ 64 from rfl, Nat.testBit_mod_two_pow, Nat.testBit_div_two_pow, Nat.add_comm]
theorem ycM (x i : Nat) (h : x < 2 ^ (64 * i)) : wd x i = 0 := by
 unfold wd; rw [Nat.div_eq_of_lt h]
def W (x : Nat) : Nat → Int := fun i => ((wd x i : Nat) : Int)
theorem ybg (x i : Nat) : W x i = ((wd x i : Nat) : Int) := rfl
theorem W_zero : W 0 = fun _ => 0 := by
 funext i
 have : wd 0 i = 0 := ycM 0 i (Nat.two_pow_pos _)
 simp [ybg, this]
theorem yqQ {x y : Nat} {n : Nat} (hx : x < 2 ^ (64 * n)) (hy : y < 2 ^ (64 * n)) (h : ∀ i, i < n → wd x i = wd y i) : x = y := by
 apply Nat.eq_of_testBit_eq
 intro j
 by_cases hj : j < 64 * n
 ·have h1 := congrArg (fun z => Nat.testBit z (j % 64)) (h (j / 64) (by omega))
  simp only [ybN] at h1
  have h2 : j % 64 < 64 := Nat.mod_lt _ (by omega)
  simp only [h2, decide_true, Bool.true_and] at h1
  rwa [show 64 * (j / 64) + j % 64 = j from by omega] at h1
 ·rw [Nat.testBit_lt_two_pow (Nat.lt_of_lt_of_le hx (Nat.pow_le_pow_right (by omega) (by omega))), Nat.testBit_lt_two_pow (Nat.lt_of_lt_of_le hy (Nat.pow_le_pow_right (by omega) (by omega)))]
theorem yty (hi lo : Nat) (hh : hi < 18446744073709551616) (hl : lo < 18446744073709551616) : upd (upd (fun _ => 0) 0 (lo : Int)) 1 (hi : Int) = W (hi * 18446744073709551616 + lo) := by
 funext i
 by_cases h1 : i = 1
 ·subst h1
  rw [ybZ, ybg]
  congr 1
  unfold wd
  rw [show 2 ^ (64 * 1) = 18446744073709551616 from rfl]; omega
 ·rw [ycI _ _ _ _ h1]
  by_cases h0 : i = 0
  ·subst h0
   rw [ybZ, ybg]
   congr 1
   unfold wd
   rw [show 2 ^ (64 * 0) = 1 from rfl]; omega
  ·rw [ycI _ _ _ _ h0, ybg, ycM]
   ·rfl
   ·refine Nat.lt_of_lt_of_le (show _ < 2 ^ 128 from ?_) (Nat.pow_le_pow_right (by omega) (by omega))
    rw [show (2 : Nat) ^ 128 = 340282366920938463463374607431768211456 from rfl]; omega
theorem ytV (lo : Nat) (hl : lo < 18446744073709551616) : upd (fun _ => 0) 0 (lo : Int) = W lo := by
 have h := yty 0 lo (by omega) hl
 have h2 : upd (upd (fun _ => (0 : Int)) 0 (lo : Int)) 1 ((0 : Nat) : Int) = upd (fun _ => 0) 0 (lo : Int) := by
  funext i
  by_cases h1 : i = 1
  ·subst h1; rw [ybZ, ycI _ _ _ _ (by omega)]; rfl
  ·rw [ycI _ _ _ _ h1]
 rw [h2] at h
 rw [h]; congr 1; omega
theorem ykO (x n i : Nat) : wd (x ||| 2 ^ n) i = if i = n / 64 then wd x i ||| 2 ^ (n % 64) else wd x i := by
 apply Nat.eq_of_testBit_eq
 intro j
 have hm : n % 64 < 64 := Nat.mod_lt _ (by omega)
 rw [ybN, Nat.testBit_or, Nat.testBit_two_pow]
 by_cases hi : i = n / 64
 ·rw [if_pos hi, Nat.testBit_or, ybN, Nat.testBit_two_pow]
  by_cases hj : j < 64
  ·have : decide (n = 64 * i + j) = decide (n % 64 = j) := by rw [decide_eq_decide]; omega
   simp [hj, this]
  ·have : ¬ (n % 64 = j) := by omega
   simp [hj, this]
 ·rw [if_neg hi, ybN]
  by_cases hj : j < 64
  ·have : ¬ (n = 64 * i + j) := by omega
   simp [this]
  ·simp [hj]
theorem ymB (x n : Nat) : upd (W x) (n / 64) (orI .u64 (W x (n / 64)) (ybE .u64 1 ((n % 64 : Nat) : Int))) = W (x ||| 2 ^ n) := by
 have hm : n % 64 < 64 := Nat.mod_lt _ (by omega)
 rw [ypi _ hm, ybg, yg3 _ _ (yd3 _ _) (Nat.pow_lt_pow_right (by omega) hm)]
 funext i
 by_cases hi : i = n / 64
 ·subst hi
  rw [ybZ, ybg, ykO, if_pos rfl]
 ·rw [ycI _ _ _ _ hi, ybg, ybg, ykO, if_neg hi]
def Hi (x : Nat) : Int := ((x / 18446744073709551616 : Nat) : Int)
def Lo (x : Nat) : Int := ((x % 18446744073709551616 : Nat) : Int)
def two (hi lo : Nat) : Nat := hi * 18446744073709551616 + lo
theorem ytq {hi lo : Nat} (h : lo < 18446744073709551616) : Hi (two hi lo) = hi := by unfold Hi two; congr 1; omega
theorem ytG {hi lo : Nat} (h : lo < 18446744073709551616) : Lo (two hi lo) = lo := by unfold Lo two; congr 1; omega
theorem ysW {hi lo : Nat} (h : hi < 18446744073709551616) (h2 : lo < 18446744073709551616) : two hi lo < 2 ^ 128 := by
 unfold two; rw [show (2 : Nat) ^ 128 = 340282366920938463463374607431768211456 from rfl]; omega
theorem yrn {x : Nat} (h : x < 2 ^ 128) : x / 18446744073709551616 < 18446744073709551616 := by
 rw [show (2 : Nat) ^ 128 = 340282366920938463463374607431768211456 from rfl] at h; omega
theorem yr9 (x : Nat) : x % 18446744073709551616 < 18446744073709551616 := Nat.mod_lt _ (by omega)
theorem ypq (x j : Nat) : (x / 18446744073709551616).testBit j = x.testBit (64 + j) := by
 rw [show (18446744073709551616 : Nat) = 2 ^ 64 from rfl, Nat.testBit_div_two_pow, Nat.add_comm]
theorem ypE (x j : Nat) : (x % 18446744073709551616).testBit j = (decide (j < 64) && x.testBit j) := by
 rw [show (18446744073709551616 : Nat) = 2 ^ 64 from rfl, Nat.testBit_mod_two_pow]
theorem yta (x : Nat) (h : x < 2 ^ 128) : upd (upd (fun _ => 0) 0 (Lo x)) 1 (Hi x) = W x := by
 have := yty (x / 18446744073709551616) (x % 18446744073709551616) (yrn h) (yr9 x)
 unfold Lo Hi
 rw [this]; congr 1; omega
theorem yuq (x : Nat) (h : x < 2 ^ 128) : W x 1 = Hi x := by
 rw [ybg]; unfold Hi wd
 congr 1
 rw [show 2 ^ (64 * 1) = 18446744073709551616 from rfl]
 exact Nat.mod_eq_of_lt (yrn h)
theorem yuo (x : Nat) : W x 0 = Lo x := by
 rw [ybg]; unfold Lo wd
 rw [show 2 ^ (64 * 0) = 1 from rfl, Nat.div_one]
theorem ym9 (x i : Nat) (h : x < 2 ^ 128) (hi : 2 ≤ i) : W x i = 0 := by
 rw [ybg, ycM x i (Nat.lt_of_lt_of_le h (Nat.pow_le_pow_right (by omega) (by omega)))]; rfl
theorem ysO (f : Bool → Bool → Bool) (op : Nat → Nat → Nat) (hop : ∀ a b j, (op a b).testBit j = f (a.testBit j) (b.testBit j)) (hf : f false false = false) (x y : Nat) :
  op x y / 18446744073709551616 = op (x / 18446744073709551616) (y / 18446744073709551616) ∧ op x y % 18446744073709551616 = op (x % 18446744073709551616) (y % 18446744073709551616) := by
 constructor
 ·apply Nat.eq_of_testBit_eq; intro j; rw [ypq, hop, hop, ypq, ypq]
 ·apply Nat.eq_of_testBit_eq; intro j; rw [ypE, hop, hop, ypE, ypE]
  by_cases hj : j < 64
  ·simp [hj]
  ·simp [hj, hf]
theorem ys1 (x y : Nat) (hx : x < 2 ^ 128) (hy : y < 2 ^ 128) : orI .u64 (Hi x) (Hi y) = Hi (x ||| y) ∧ orI .u64 (Lo x) (Lo y) = Lo (x ||| y) := by
 obtain ⟨h1, h2⟩ := ysO (· || ·) (· ||| ·) (fun a b j => Nat.testBit_or a b j) rfl x y
 unfold Hi Lo
 exact ⟨by rw [yg3 _ _ (yrn hx) (yrn hy)]; exact congrArg _ h1.symm, by rw [yg3 _ _ (yr9 x) (yr9 y)]; exact congrArg _ h2.symm⟩
end Go.Ev.S

/- What the document's answer reckons with words, bit by bit. -/
set_option linter.unusedVariables false
set_option linter.unusedSimpArgs false
namespace Go.Ev.S
open Go Go.Ev
theorem yfQ (a i : Nat) (ha : a < 18446744073709551616) (hi : i < 64) (K : Bool → Prop) : zcc a i K = K (a.testBit i) := by
 rw [zcc.is]; unfold zcc.d
 rw [yaC (ybd (by omega)), yaC (ya9 (by omega)), yaV (by omega) (by omega), yby (yhJ (by omega)), ymO a i ha hi]
theorem yqw (a i : Nat) : a % 2 ^ (i + 1) = a % 2 ^ i + (a.testBit i).toNat * 2 ^ i := by
 have h : (a.testBit i).toNat = a / 2 ^ i % 2 := by
  rw [Nat.testBit_eq_decide_div_mod_eq]
  rcases Nat.mod_two_eq_zero_or_one (a / 2 ^ i) with h | h <;> rw [h] <;> rfl
 rw [h, Nat.mod_pow_succ, Nat.mul_comm]
theorem yrz (s i : Nat) (h : s < 2 ^ i) : s ||| 2 ^ i = s + 2 ^ i := by
 have := Nat.two_pow_add_eq_or_of_lt h 1
 rw [Nat.mul_one] at this
 rw [Nat.or_comm, ← this, Nat.add_comm]
def ygz (a : Nat) : Nat → Nat
 | 0 => 0
 | i + 1 => cond (a.testBit i) (i + 1) (ygz a i)
theorem yjf (a w : Nat) : ∀ n, ygz a n ≤ w ↔ ∀ i, i < n → w ≤ i → a.testBit i = false
 | 0 => by simp [ygz]
 | n + 1 => by
  have ih := yjf a w n
  cases hb : a.testBit n with
  | true =>
   simp only [ygz, hb, cond_true]
   constructor
   ·intro h i hi hw; omega
   ·intro h
    apply Classical.byContradiction
    intro hc
    have := h n (by omega) (by omega)
    rw [hb] at this; cases this
  | false =>
   simp only [ygz, hb, cond_false]
   rw [ih]
   constructor
   ·intro h i hi hw
    by_cases hin : i = n
    ·subst hin; exact hb
    ·exact h i (by omega) hw
   ·intro h i hi hw; exact h i (by omega) hw
def yav (a : Nat) : Nat := if a = 0 then 0 else a.log2 + 1
theorem yaI (a w : Nat) : yav a ≤ w ↔ a < 2 ^ w := by
 unfold yav
 by_cases h : a = 0
 ·subst h; simp [Nat.two_pow_pos]
 ·rw [if_neg h]
  rw [← Nat.log2_lt h]; omega
theorem yjS (a : Nat) : a < 2 ^ yav a := (yaI a _).1 (Nat.le_refl _)
theorem ymG {a : Nat} (h : a ≠ 0) : 0 < yav a := by unfold yav; rw [if_neg h]; omega
theorem ypt {a : Nat} (h : a ≠ 0) : 2 ^ (yav a - 1) ≤ a := by
 unfold yav; rw [if_neg h]
 exact Nat.log2_self_le h
theorem ynM (a n : Nat) (ha : a < 2 ^ n) : ygz a n = yav a := by
 apply Nat.le_antisymm
 ·rw [yjf]
  intro i _ hw
  exact Nat.testBit_lt_two_pow (Nat.lt_of_lt_of_le (yjS a) (Nat.pow_le_pow_right (by omega) hw))
 ·rw [yaI]
  apply Nat.lt_pow_two_of_testBit
  intro i hi
  by_cases hin : i < n
  ·exact (yjf a _ n).1 (Nat.le_refl _) i hin hi
  ·exact Nat.testBit_lt_two_pow (Nat.lt_of_lt_of_le ha (Nat.pow_le_pow_right (by omega) (by omega)))
theorem ygn (a : Nat) (ha : a < 18446744073709551616) (k0 : Int → Prop) (h : k0 (ygz a 64)) : ∀ (j i : Nat), i + j = 64 → zcd.l3 k0 (j + 1) a (ygz a i) i
 | 0, i, hij => by
  have : i = 64 := by omega
  subst this
  unfold zcd.l3 zcd.l3.step
  rw [yat (by decide)]
  exact h
 | j + 1, i, hij => by
  show br (ltI i 64) (zcc a i fun r0 => br r0 (zcd.l3 k0 (j + 1) a (yak .i64 i 1) (yak .i64 i 1)) (zcd.l3 k0 (j + 1) a (ygz a i) (yak .i64 i 1))) (k0 (ygz a i))
  rw [yaC (ya9 (by omega)), yfQ a i ha (by omega), yap (by omega) (by omega)]
  have ih := ygn a ha k0 h j (i + 1) (by omega)
  have e : ((i + 1 : Nat) : Int) = (i : Int) + 1 := by omega
  rw [e] at ih
  cases hb : a.testBit i with
  | true =>
   rw [yaC rfl]
   simp only [ygz, hb, cond_true] at ih
   rw [e] at ih
   exact ih
  | false =>
   rw [yat rfl]
   simp only [ygz, hb, cond_false] at ih
   exact ih
theorem yn9 (a : Nat) (ha : a < 18446744073709551616) (K : Int → Prop) (h : K (yav a)) : zcd a K := by
 rw [zcd.is]
 refine ⟨65, ygn a ha K ?_ 64 0 rfl⟩
 rw [ynM a 64 ha]; exact h
end Go.Ev.S

/- What the document's answer reckons with numbers of six words. -/
set_option linter.unusedVariables false
set_option linter.unusedSimpArgs false
set_option maxRecDepth 8000
namespace Go.Ev.S
open Go Go.Ev
theorem ysc (z w i : Nat) (hz : z < 2 ^ (64 * i)) (hw : w < 18446744073709551616) : upd (W z) i (w : Int) = W (z + w * 2 ^ (64 * i)) := by
 funext j
 have hP := Nat.two_pow_pos (64 * i)
 by_cases hj : j = i
 ·subst hj
  rw [ybZ, ybg]
  congr 1
  unfold wd
  rw [Nat.add_mul_div_right _ _ hP, Nat.div_eq_of_lt hz, Nat.zero_add, Nat.mod_eq_of_lt hw]
 ·rw [ycI _ _ _ _ hj, ybg, ybg]
  congr 1
  by_cases hlt : j < i
  ·unfold wd
   have e : 2 ^ (64 * i) = 2 ^ (64 * j) * (18446744073709551616 * 2 ^ (64 * (i - j - 1))) := by
    rw [show (18446744073709551616 : Nat) = 2 ^ 64 from rfl, ← Nat.pow_add, ← Nat.pow_add]; congr 1; omega
   rw [e, Nat.mul_comm w, Nat.mul_assoc, Nat.add_mul_div_left _ _ (Nat.two_pow_pos _), Nat.mul_assoc, Nat.add_mul_mod_self_left]
  ·rw [ycM z j (Nat.lt_of_lt_of_le hz (Nat.pow_le_pow_right (by omega) (by omega))), ycM]
   have h1 : z + w * 2 ^ (64 * i) < 2 ^ (64 * (i + 1)) := by
    rw [show 64 * (i + 1) = 64 * i + 64 from by omega, Nat.pow_add, show (2 : Nat) ^ 64 = 18446744073709551616 from rfl]
    have : (w + 1) * 2 ^ (64 * i) ≤ 18446744073709551616 * 2 ^ (64 * i) := Nat.mul_le_mul_right _ (by omega)
    rw [Nat.add_mul, Nat.one_mul] at this
    rw [Nat.mul_comm (2 ^ (64 * i))]
    omega
   exact Nat.lt_of_lt_of_le h1 (Nat.pow_le_pow_right (by omega) (by omega))
theorem ymQ (x i : Nat) : x % 2 ^ (64 * (i + 1)) = x % 2 ^ (64 * i) + wd x i * 2 ^ (64 * i) := by
 unfold wd
 rw [show 64 * (i + 1) = 64 * i + 64 from by omega, Nat.pow_add, show (2 : Nat) ^ 64 = 18446744073709551616 from rfl, Nat.mod_mul, Nat.mul_comm (2 ^ (64 * i))]
def mix (i : Nat) (x y : Nat) : Nat → Int := fun j => cond (Nat.blt j i) (W x j) (W y j)
theorem ym7 (x y : Nat) : mix 0 x y = W y := by
 funext j
 have h1 : Nat.blt j 0 = false := by
  cases hb : Nat.blt j 0 with
  | false => rfl
  | true => have := bltI.1 hb; omega
 simp [mix, h1]
theorem yo4 (x y n : Nat) (hx : x < 2 ^ (64 * n)) (hy : y < 2 ^ (64 * n)) : mix n x y = W x := by
 funext j
 unfold mix
 cases hb : Nat.blt j n with
 | true => rfl
 | false =>
  have hj : n ≤ j := by
   rcases Nat.lt_or_ge j n with h | h
   ·rw [bltI.2 h] at hb; cases hb
   ·exact h
  simp only [cond_false]
  rw [ybg, ybg, ycM x j (Nat.lt_of_lt_of_le hx (Nat.pow_le_pow_right (by omega) (by omega))), ycM y j (Nat.lt_of_lt_of_le hy (Nat.pow_le_pow_right (by omega) (by omega)))]
theorem ym6 (x y i : Nat) : upd (mix i x y) i (W x i) = mix (i + 1) x y := by
 funext j
 by_cases hj : j = i
 ·subst hj; rw [ybZ]; simp [mix, bltI.2 (show j < j + 1 by omega)]
 ·rw [ycI _ _ _ _ hj]
  unfold mix
  by_cases h : j < i
  ·rw [bltI.2 h, bltI.2 (show j < i + 1 by omega)]
  ·have h1 : Nat.blt j i = false := by
    cases hb : Nat.blt j i with
    | false => rfl
    | true => exact absurd (bltI.1 hb) h
   have h2 : Nat.blt j (i + 1) = false := by
    cases hb : Nat.blt j (i + 1) with
    | false => rfl
    | true => have := bltI.1 hb; omega
   rw [h1, h2]
theorem yrE (x y i : Nat) : mix i x y i = W y i := by
 have h1 : Nat.blt i i = false := by
  cases hb : Nat.blt i i with
  | false => rfl
  | true => have := bltI.1 hb; omega
 simp [mix, h1]
theorem ytz (x y i : Nat) : wd (x &&& y) i = wd x i &&& wd y i := by
 apply Nat.eq_of_testBit_eq; intro j
 rw [Nat.testBit_and, ybN, ybN, ybN, Nat.testBit_and]
 by_cases hj : j < 64 <;> simp [hj]
theorem yue (x y i : Nat) : wd (x ||| y) i = wd x i ||| wd y i := by
 apply Nat.eq_of_testBit_eq; intro j
 rw [Nat.testBit_or, ybN, ybN, ybN, Nat.testBit_or]
 by_cases hj : j < 64 <;> simp [hj]
theorem ysV {x y m : Nat} (h : x < 2 ^ m) : x &&& y < 2 ^ m := Nat.lt_of_le_of_lt Nat.and_le_left h
theorem yey {x i : Nat} (h : x / 2 ^ i ≠ 0) : yav x = i + yav (x / 2 ^ i) := by
 apply Nat.le_antisymm
 ·rw [yaI, Nat.pow_add, Nat.mul_comm, ← Nat.div_lt_iff_lt_mul (Nat.two_pow_pos i)]
  exact yjS _
 ·have h1 := ypt h
  have h2 : 2 ^ (i + (yav (x / 2 ^ i) - 1)) ≤ x := by
   rw [Nat.pow_add, Nat.mul_comm]
   exact (Nat.le_div_iff_mul_le (Nat.two_pow_pos i)).1 h1
  have hp := ymG h
  apply Classical.byContradiction
  intro hc
  have h3 : yav x ≤ i + (yav (x / 2 ^ i) - 1) := by omega
  have := (yaI x _).1 h3
  omega
end Go.Ev.S

/- What the abacus reckons with words and with numbers of six words. -/
set_option linter.unusedVariables false
set_option linter.unusedSimpArgs false
set_option maxRecDepth 8000
namespace Go.Ev.S
open Go Go.Ev
theorem ypB (g : Nat → Int) (i : Nat) (a b : Int) : upd (upd g i a) i b = upd g i b := by
 funext j
 simp only [upd]
 cases Nat.beq j i <;> rfl
theorem yrs (g : Nat → Int) (i : Nat) (a : Int) : upd g i a i = a := by
 simp only [upd]
 have : Nat.beq i i = true := by simp
 rw [this]; rfl
theorem ysp (x y : Int) : ∃ m : Nat, m < 18446744073709551616 ∧ yb4 .u64 x y = (m : Int) := by
 refine ⟨(yb4 .u64 x y).toNat, ?_, ?_⟩ <;> (show _; simp only [yb4]; rw [ydu]; omega)
theorem ytF (a : Int) (K : Int → Prop) (h : ∀ v, K v) : zab a K := by
 rw [zab.is]; unfold zab.d
 obtain ⟨m, hm, e⟩ := ysp (yi5 IntKind.u64 a (yru IntKind.u64 a)) 285870213051353865
 rw [e, show (58 : Int) = ((58 : Nat) : Int) from rfl, ydY m 58 (by omega)]
 have h1 : m >>> 58 < 64 := by rw [Nat.shiftRight_eq_div_pow]; omega
 by_cases h0 : eqI a 0 = true
 ·rw [yaC h0]; exact h _
 ·rw [yat (by simpa using h0)]; exact ⟨ybL (by omega) (by omega), h _⟩
theorem yk5 (a : Int) (K : Int → Prop) (h : ∀ v, K v) : zef a K := by
 rw [zef.is]; exact ytF a _ fun v => h v
theorem yfV (x : Nat → Int) (k0 : Int → Prop) (k1 : Prop) (h0 : ∀ v, k0 v) (h1 : k1) : ∀ (j i : Nat), i + j = 6 → zdw.l2 k0 k1 (j + 1) x i := by
 intro j
 induction j with
 | zero =>
  intro i hij
  unfold zdw.l2 zdw.l2.step
  rw [yat (ybj (by omega))]; exact h1
 | succ j ih =>
  intro i hij
  have ih := ih (i + 1) (by omega)
  have e : ((i + 1 : Nat) : Int) = (i : Int) + 1 := by omega
  rw [e] at ih
  unfold zdw.l2 zdw.l2.step
  rw [yaC (ya9 (by omega)), yby (ybL (by omega) (by omega)), yap (by omega) (by omega)]
  by_cases hz : (!eqI (x (Int.toNat (i : Int))) 0) = true
  ·rw [yaC hz]; exact yk5 _ _ fun v => h0 _
  ·rw [yat (by simpa using hz)]; exact ih
theorem ykw (x : Nat → Int) (K : Int → Prop) (h : ∀ v, K v) : zdw x K := by
 rw [zdw.is]
 exact ⟨7, yfV x _ _ (fun v => h v) (h _) 6 0 rfl⟩
theorem yf5 (n m : Int) : yhT n m = if n < m then m else n := by
 unfold yhT ltI; by_cases h : n < m <;> simp [h]
theorem yjT (n m : Int) : yoy n m = if m < n then m else n := by
 unfold yoy ltI; by_cases h : m < n <;> simp [h]
theorem ykF (n : Nat) (h : n ≤ 64) (K : Int → Prop) : zeg n K = K ((2 ^ n - 1 : Nat)) := by
 rw [zeg.is]; unfold zeg.d; rw [zeh.is]; unfold zeh.d
 have e : yoy (yhT (n : Int) 0) 64 = (n : Int) := by
  rw [yf5, yjT]; split <;> split <;> omega
 rw [e, yaV (by omega) (by omega)]
 show gd (!ltI (n : Int) 0) (K (yan IntKind.u64 (ybE IntKind.u64 1 (n : Int)) 1)) = _
 rw [yby (yhJ (by omega))]
 by_cases hn : n = 64
 ·subst hn; rfl
 ·have hlt : 2 ^ n < 18446744073709551616 := yj9 (by omega)
  have hp := Nat.two_pow_pos n
  rw [ypi n (by omega)]
  generalize 2 ^ n = p at *
  rw [yeY (by omega) (by omega), show ((p : Int) - 1) = ((p - 1 : Nat) : Int) from by omega]
theorem yjB (n : Int) (h : n ≤ 0) (h2 : -9223372036854775808 ≤ n) (K : Int → Prop) : zeg n K = K 0 := by
 rw [zeg.is]; unfold zeg.d; rw [zeh.is]; unfold zeh.d
 have e : yoy (yhT n 0) 64 = 0 := by
  rw [yf5, yjT]; split <;> split <;> omega
 rw [e]; rfl
theorem yj6 (n : Int) (h : 64 ≤ n) (K : Int → Prop) : zeg n K = K ((2 ^ 64 - 1 : Nat)) := by
 rw [zeg.is]; unfold zeg.d; rw [zeh.is]; unfold zeh.d
 have e : yoy (yhT n 0) 64 = 64 := by
  rw [yf5, yjT]; split <;> split <;> omega
 rw [e]; rfl
theorem ydw (n : Nat) (h : n ≤ 384) (K : Int → Prop) : zed n K = K n := by
 rw [zed.is]; unfold zed.d
 have e : yoy (yhT (n : Int) 0) 384 = (n : Int) := by
  rw [yf5, yjT]; split <;> split <;> omega
 rw [e]
theorem yh8 (x : Nat) (h : x < 2 ^ 128) (K : (Nat → Int) → Prop) : zdz (Hi x) (Lo x) K = K (W x) := by
 rw [zdz.is]; unfold zdz.d; rw [yta x h]
theorem yeZ (x i : Nat) (hi : i < 384) (K : Bool → Prop) : zdt (W x) i K = K (x.testBit i) := by
 rw [zdt.is]; unfold zdt.d
 have h1 : i % 64 < 64 := Nat.mod_lt _ (by omega)
 rw [yaC (ybd (by omega)), yaC (ya9 (by omega)), yo5 i (by omega), yoF i, yby (ybL (by omega) (by omega)), yaV (by omega) (by omega), yby (yhJ (by omega)), Int.toNat_natCast, ybg, ymO _ _ (yd3 _ _) h1, ybN]
 rw [show 64 * (i / 64) + i % 64 = i from by omega]
 simp [h1]
theorem yi7 (x y : Nat) (hx : x < Q6) (k0 : (Nat → Int) → (Nat → Int) → Prop) (z : Nat → Int) (h : k0 (W (x &&& y)) z) :
  ∀ (j i : Nat), i + j = 6 → zds.l2 k0 (j + 1) i (mix i (x &&& y) x) (W y) z := by
 intro j
 induction j with
 | zero =>
  intro i hij
  have h6 : i = 6 := by omega
  have hx' : x < 2 ^ (64 * i) := by rw [yfn (show 64 * i = 384 by omega)]; exact hx
  unfold zds.l2 zds.l2.step
  rw [yat (ybj (by omega)), yo4 _ _ i (ysV hx') hx']
  exact h
 | succ j ih =>
  intro i hij
  have ih := ih (i + 1) (by omega)
  have e : ((i + 1 : Nat) : Int) = (i : Int) + 1 := by omega
  rw [e] at ih
  unfold zds.l2 zds.l2.step
  have hi : (leI 0 (i : Int) && ltI (i : Int) 6) = true := ybL (by omega) (by omega)
  rw [yaC (ya9 (by omega)), yby hi, yby hi, yby hi, Int.toNat_natCast, yrE, ybg, ybg, ylV _ _ (yd3 _ _) (yd3 _ _), ← ytz, ← ybg, ym6, yap (by omega) (by omega)]
  exact ih
theorem yeV (x y : Nat) (hx : x < Q6) (K : (Nat → Int) → Prop) (h : K (W (x &&& y))) : zds (W x) (W y) K := by
 rw [zds.is]
 refine ⟨7, ?_⟩
 have := yi7 x y hx (fun y0 y1 => K y0) (fun _ => 0) h 6 0 rfl
 rw [ym7] at this
 exact this
theorem yso (n i : Nat) : ((wd (2 ^ n - 1) i : Nat) : Int) = if 64 * i + 64 ≤ n then ((2 ^ 64 - 1 : Nat) : Int) else if n ≤ 64 * i then 0 else ((2 ^ (n - 64 * i) - 1 : Nat) : Int) := by
 have key : ∀ m, m ≤ 64 → (∀ j, j < 64 → (decide (64 * i + j < n) = decide (j < m))) → wd (2 ^ n - 1) i = 2 ^ m - 1 := by
  intro m hm hj
  apply Nat.eq_of_testBit_eq; intro j
  rw [ybN, Nat.testBit_two_pow_sub_one, Nat.testBit_two_pow_sub_one]
  by_cases h : j < 64
  ·rw [hj j h]; simp [h]
  ·have : ¬ j < m := by omega
   simp [h, this]
 split
 ·rw [key 64 (Nat.le_refl _) (by intro j hj; apply decide_eq_decide.2; omega)]
 ·split
  ·rw [key 0 (by omega) (by intro j hj; apply decide_eq_decide.2; omega)]; rfl
  ·rw [key (n - 64 * i) (by omega) (by intro j hj; apply decide_eq_decide.2; omega)]
theorem yp1 (n i : Nat) (hn : n ≤ 384) (hi : i < 6) (K : Int → Prop) : zeg (yan .i64 n (yb4 .i64 64 i)) K = K (W (2 ^ n - 1) i) := by
 have e : yan .i64 (n : Int) (yb4 .i64 64 (i : Int)) = (n : Int) - 64 * i := by
  rw [yb1 (by omega) (by omega), yas (by omega) (by omega)]
 rw [e, ybg, yso]
 split
 ·rw [yj6 _ (by omega)]
 ·split
  ·rw [yjB _ (by omega) (by omega)]
  ·rw [show (n : Int) - 64 * i = ((n - 64 * i : Nat) : Int) from by omega, ykF _ (by omega)]
theorem yim (n : Nat) (hn : n ≤ 384) (k0 : (Nat → Int) → (Nat → Int) → Prop) (z : Nat → Int) (h : k0 z (W (2 ^ n - 1))) :
  ∀ (j i : Nat), i + j = 6 → zdx.l4 k0 (j + 1) n i z (W ((2 ^ n - 1) % 2 ^ (64 * i))) := by
 intro j
 induction j with
 | zero =>
  intro i hij
  have : i = 6 := by omega
  have hp := Nat.two_pow_pos n
  have hlt : 2 ^ n - 1 < 2 ^ (64 * i) := by
   have := Nat.pow_le_pow_right (n := 2) (by omega) (show n ≤ 64 * i by omega)
   omega
  unfold zdx.l4 zdx.l4.step
  rw [yat (ybj (by omega)), Nat.mod_eq_of_lt hlt]
  exact h
 | succ j ih =>
  intro i hij
  have ih := ih (i + 1) (by omega)
  have e : ((i + 1 : Nat) : Int) = (i : Int) + 1 := by omega
  rw [e, ymQ] at ih
  unfold zdx.l4 zdx.l4.step
  rw [yaC (ya9 (by omega)), yp1 n i hn (by omega), yby (ybL (by omega) (by omega)), Int.toNat_natCast, ybg, ysc _ _ i (Nat.mod_lt _ (Nat.two_pow_pos _)) (yd3 _ _), yap (by omega) (by omega)]
  exact ih
theorem yd8 (n : Nat) (hn : n ≤ 384) (K : (Nat → Int) → Prop) (h : K (W (2 ^ n - 1))) : zdx n K := by
 rw [zdx.is]; unfold zdx.d
 rw [ydw n hn]
 refine ⟨7, ?_⟩
 have := yim n hn (fun y0 y1 => K y1) (fun _ => 0) h 6 0 rfl
 rw [Nat.mul_zero, Nat.pow_zero, Nat.mod_one, W_zero] at this
 exact this
theorem ytm (a : Nat) : ybE .u64 (a : Int) 64 = 0 := by
 have h1 : min (Int.toNat 64) (IntKind.bits .u64) = 64 := rfl
 simp only [ybE, h1]
 rw [ydu]; omega
theorem yiY (x i q r : Nat) (hr : r < 64) : orI .u64 (yaO .u64 (W x (i + q)) (r : Int)) (ybE .u64 (W x (i + q + 1)) (yan .u64 64 (r : Int))) = W (x / 2 ^ (64 * q + r)) i := by
 rw [yeY (by omega) (by omega), show (64 : Int) - r = ((64 - r : Nat) : Int) from by omega, ybg, ybg, ydY _ _ hr, ybg]
 have hs : wd x (i + q) >>> r < 18446744073709551616 := Nat.lt_of_le_of_lt (Nat.shiftRight_le _ _) (yd3 _ _)
 have e : ybE .u64 ((wd x (i + q + 1) : Nat) : Int) ((64 - r : Nat) : Int) = ((wd x (i + q + 1) <<< (64 - r) % 18446744073709551616 : Nat) : Int) := by
  by_cases h0 : r = 0
  ·subst h0
   show ybE .u64 _ 64 = _
   rw [ytm, Nat.shiftLeft_eq]; simp
  ·exact ymg _ _ (by omega)
 rw [e, yg3 _ _ hs (Nat.mod_lt _ (by omega))]
 congr 1
 apply Nat.eq_of_testBit_eq; intro j
 rw [Nat.testBit_or, Nat.testBit_shiftRight, show (18446744073709551616 : Nat) = 2 ^ 64 from rfl, Nat.testBit_mod_two_pow, Nat.testBit_shiftLeft, ybN, ybN, ybN, Nat.testBit_div_two_pow]
 by_cases hj : j < 64
 ·by_cases h2 : r + j < 64
  ·have h3 : ¬ (64 - r ≤ j) := by omega
   simp [hj, h2, h3]
   congr 1; omega
  ·have h3 : 64 - r ≤ j := by omega
   have h4 : j - (64 - r) < 64 := by omega
   simp [hj, h2, h3, h4]
   congr 1; omega
 ·have h2 : ¬ r + j < 64 := by omega
  simp [hj, h2]
theorem ynA (x q r i : Nat) (hr : r < 64) (hx : x < Q6) (hi : i + q = 5) : yaO .u64 (W x (i + q)) (r : Int) = W (x / 2 ^ (64 * q + r)) i := by
 rw [← yiY x i q r hr]
 have h0 : wd x (i + q + 1) = 0 := ycM x _ (by rw [yfn (by omega)]; exact hx)
 rw [ybg x (i + q + 1), h0]
 have e : ybE .u64 ((0 : Nat) : Int) (yan .u64 64 (r : Int)) = 0 := by
  rw [yeY (by omega) (by omega)]
  show IntKind.wrap .u64 _ = _
  rw [ydu]; simp
 have hs : wd x (i + q) >>> r < 18446744073709551616 := Nat.lt_of_le_of_lt (Nat.shiftRight_le _ _) (yd3 _ _)
 rw [e, ybg, ydY _ _ hr, show (0 : Int) = ((0 : Nat) : Int) from rfl, yg3 _ _ hs (by omega), Nat.or_zero]
theorem yhR (x q r : Nat) (hx : x < Q6) (hr : r < 64) (hq : q ≤ 6) (b : Bool) (k0 : Bool → (Nat → Int) → Prop) (h : k0 b (W (x / 2 ^ (64 * q + r)))) :
  ∀ (j i : Nat), i + q + j = 6 → zeb.l5 k0 (j + 1) b q r i (W x) (W (x / 2 ^ (64 * q + r) % 2 ^ (64 * i))) := by
 intro j
 induction j with
 | zero =>
  intro i hij
  have hlt : x / 2 ^ (64 * q + r) < 2 ^ (64 * i) := by
   rw [Nat.div_lt_iff_lt_mul (Nat.two_pow_pos _), ← Nat.pow_add]
   exact Nat.lt_of_lt_of_le hx (by rw [← yfn (show 64 * i + 64 * q = 384 by omega)]; exact Nat.pow_le_pow_right (by omega) (by omega))
  unfold zeb.l5 zeb.l5.step
  rw [yap (by omega) (by omega), yat (ybj (by omega)), Nat.mod_eq_of_lt hlt]
  exact h
 | succ j ih =>
  intro i hij
  have ih := ih (i + 1) (by omega)
  have e : ((i + 1 : Nat) : Int) = (i : Int) + 1 := by omega
  rw [e, ymQ] at ih
  unfold zeb.l5 zeb.l5.step
  have e1 : yak .i64 (i : Int) (q : Int) = ((i + q : Nat) : Int) := by rw [yap (by omega) (by omega)]; omega
  rw [e1, yaC (ya9 (by omega)), yby (ybL (by omega) (by omega)), yby (yhJ (by omega)), yby (ybL (by omega) (by omega)), Int.toNat_natCast, Int.toNat_natCast]
  rw [show yak .i64 (i : Int) 1 = (i : Int) + 1 from yap (by omega) (by omega)]
  have e2 : yak .i64 ((i + q : Nat) : Int) 1 = ((i + q + 1 : Nat) : Int) := by rw [yap (by omega) (by omega)]; omega
  have hsub : yan .u64 64 (r : Int) = 64 - (r : Int) := yeY (by omega) (by omega)
  by_cases h5 : i + q < 5
  ·rw [yaC (ya9 (by omega)), yby (ybL (by omega) (by omega)), e2, yby (ybL (by omega) (by omega)), yby (yhJ (by rw [hsub]; omega)), yby (ybL (by omega) (by omega)), Int.toNat_natCast, ypB, yrs, yiY x i q r hr, ybg, ysc _ _ i (Nat.mod_lt _ (Nat.two_pow_pos _)) (yd3 _ _)]
   exact ih
  ·rw [yat (ybj (by omega)), ynA x q r i hr hx (by omega), ybg, ysc _ _ i (Nat.mod_lt _ (Nat.two_pow_pos _)) (yd3 _ _)]
   exact ih
theorem yh0 (x n : Nat) (hx : x < Q6) (hn : n ≤ 384) (K : (Nat → Int) → Bool → Prop) (h : ∀ b, K (W (x / 2 ^ n)) b) : zeb (W x) n K := by
 rw [zeb.is]; unfold zeb.d
 have key : ∀ b, ∃ m, zeb.l5 (fun y0 y1 => K y1 y0) m b (yaF IntKind.i64 (n : Int) 64) (cvI IntKind.u64 (ych IntKind.i64 (n : Int) 64)) 0 (W x) fun x => 0 := by
  intro b
  rw [yo5 n (by omega), yoF n, yaV (by omega) (by omega)]
  refine ⟨6 - n / 64 + 1, ?_⟩
  have := yhR x (n / 64) (n % 64) hx (Nat.mod_lt _ (by omega)) (by omega) b (fun y0 y1 => K y1 y0) (by rw [Nat.div_add_mod]; exact h b) (6 - n / 64) 0 (by omega)
  rw [Nat.mul_zero, Nat.pow_zero, Nat.mod_one, W_zero] at this
  exact this
 rw [ydw n hn]
 by_cases hz : (!eqN 6 (W x) fun x => 0) = true
 ·rw [yaC hz]
  exact ykw _ _ fun v => key _
 ·rw [yat (by simpa using hz)]
  exact key _
end Go.Ev.S

/- The lowest bit: of a word (the table of math/bits), of six words; a shift to the right with what fell off. -/
set_option linter.unusedVariables false
set_option linter.unusedSimpArgs false
set_option maxRecDepth 8000
namespace Go.Ev.S
open Go Go.Ev
theorem ysd (k q : Nat) (hk : k < 64) (ha : 2 ^ k * (2 * q + 1) < 18446744073709551616) : (2 ^ k * (2 * q + 1)) &&& (18446744073709551616 - 2 ^ k * (2 * q + 1)) = 2 ^ k := by
 have hp := Nat.two_pow_pos k
 have e1 : 2 ^ k * (2 * q + 1) = 2 ^ (k + 1) * q + 2 ^ k := by rw [Nat.pow_succ, Nat.mul_add, Nat.mul_one, Nat.mul_assoc]
 have e2 : 2 ^ k * (2 * q + 1) - 1 = 2 ^ (k + 1) * q + (2 ^ k - 1) := by omega
 have h1 : 2 ^ k < 2 ^ (k + 1) := Nat.pow_lt_pow_right (by omega) (by omega)
 apply Nat.eq_of_testBit_eq; intro j
 have e3 : 18446744073709551616 - 2 ^ k * (2 * q + 1) = 2 ^ 64 - ((2 ^ k * (2 * q + 1) - 1) + 1) := by
  rw [show (2 : Nat) ^ 64 = 18446744073709551616 from rfl]; omega
 rw [Nat.testBit_and, e3, Nat.testBit_two_pow_sub_succ (by rw [show (2 : Nat) ^ 64 = 18446744073709551616 from rfl]; omega), e2]
 conv => lhs; lhs; rw [e1]
 rw [Nat.testBit_two_pow_mul_add _ h1, Nat.testBit_two_pow_mul_add _ (by omega : 2 ^ k - 1 < 2 ^ (k + 1)), Nat.testBit_two_pow, Nat.testBit_two_pow_sub_one]
 by_cases hj : j < k + 1
 ·by_cases hjk : j = k
  ·subst hjk; simp [hk]
  ·have : j < k := by omega
   have h3 : ¬ k = j := by omega
   simp [hj, this, h3]
 ·have h3 : ¬ k = j := by omega
  simp only [hj, if_false, h3, decide_false]
  cases q.testBit (j - (k + 1)) <;> simp
theorem yr8 : ((List.range 64).all fun k => ysJ ((2 ^ k * 285870213051353865 % 18446744073709551616) >>> 58) == (k : Int)) = true := by decide +kernel
theorem ytQ (k q : Nat) (hk : k < 64) (ha : 2 ^ k * (2 * q + 1) < 18446744073709551616) (K : Int → Prop) (h : K k) : zab ((2 ^ k * (2 * q + 1) : Nat) : Int) K := by
 have hp := Nat.two_pow_pos k
 have hpos : 0 < 2 ^ k * (2 * q + 1) := Nat.mul_pos hp (by omega)
 have hl := ysd k q hk ha
 have hk2 : 2 ^ k < 18446744073709551616 := yj9 hk
 have ht := List.all_eq_true.1 yr8 k (List.mem_range.2 hk)
 rw [zab.is]; unfold zab.d
 generalize 2 ^ k * (2 * q + 1) = a at *
 have e1 : yru .u64 (a : Int) = ((18446744073709551616 - a : Nat) : Int) := by
  show IntKind.wrap .u64 _ = _
  rw [ydu]; omega
 have e2 : yb4 .u64 ((2 ^ k : Nat) : Int) 285870213051353865 = ((2 ^ k * 285870213051353865 % 18446744073709551616 : Nat) : Int) := by
  show IntKind.wrap .u64 _ = _
  rw [ydu]
  generalize 2 ^ k = p at *
  omega
 have h1 : (2 ^ k * 285870213051353865 % 18446744073709551616) >>> 58 < 64 := by
  rw [Nat.shiftRight_eq_div_pow]
  have := Nat.mod_lt (2 ^ k * 285870213051353865) (show 0 < 18446744073709551616 by omega)
  omega
 rw [yat (ygq (by omega)), e1, ylV _ _ (by omega) (by omega), hl, e2, show (58 : Int) = ((58 : Nat) : Int) from rfl, ydY _ 58 (by omega)]
 refine ⟨ybL (by omega) (by omega), ?_⟩
 rw [Int.toNat_natCast, yrH, eq_of_beq ht, yfm (by omega) (by omega)]
 exact h
theorem yma (k q : Nat) (hk : k < 64) (ha : 2 ^ k * (2 * q + 1) < 18446744073709551616) (K : Int → Prop) (h : K k) : zef ((2 ^ k * (2 * q + 1) : Nat) : Int) K := by
 rw [zef.is]; exact ytQ k q hk ha _ h
end Go.Ev.S

/- Lengths, sums and the like: the abacus' words and six words. -/
set_option linter.unusedVariables false
set_option linter.unusedSimpArgs false
set_option maxRecDepth 8000
namespace Go.Ev.S
open Go Go.Ev
theorem yt1 (v : Nat) (h : v < 256) : cvI .u8 (v : Int) = (v : Int) := by
 exact yt4 (by omega) (by omega)
theorem ycS (L : List UInt8) (hL : ((List.range 256).all fun v => ybk L v == (yav v : Int)) = true) (a n : Nat) (nI S : Int) (hn0 : nI = n) (hS : S = ((a / 2 ^ n : Nat) : Int)) (hlt : a / 2 ^ n < 256) (hn : n ≤ 56)
  (h0 : a / 2 ^ n ≠ 0 ∨ n = 0) (K : Int → Prop) (h : K (yav a)) : gd (leI 0 (cvI .u8 S) && ltI (cvI .u8 S) 256) (K (yak .i64 nI (cvI .i64 (ybk L (Int.toNat (cvI .u8 S)))))) := by
 subst hS hn0
 have hb : ybk L (a / 2 ^ n) = (yav (a / 2 ^ n) : Int) := eq_of_beq (List.all_eq_true.1 hL _ (List.mem_range.2 hlt))
 have hb8 : yav (a / 2 ^ n) ≤ 8 := (yaI _ _).2 hlt
 have e : yav a = n + yav (a / 2 ^ n) := by
  rcases h0 with h0 | h0
  ·exact yey h0
  ·subst h0; rw [Nat.pow_zero, Nat.div_one, Nat.zero_add]
 generalize a / 2 ^ n = v at *
 rw [yt1 _ hlt, yby (ybL (by omega) (by omega)), Int.toNat_natCast, hb, yfm (by omega) (by omega), yap (by omega) (by omega), show ((n : Nat) : Int) + (yav v : Int) = ((yav a : Nat) : Int) from by rw [e]; omega]
 exact h
theorem yeJ (a i : Nat) (hi : i < 64) : yaO .u64 (a : Int) (i : Int) = ((a / 2 ^ i : Nat) : Int) := by rw [ydY a i hi, Nat.shiftRight_eq_div_pow]
theorem yjJ (a : Nat) (ha : a < 18446744073709551616) (K : Int → Prop) (h : K (yav a)) : zaa a K := by
 have s32 : yaO .u64 (a : Int) 32 = ((a / 2 ^ 32 : Nat) : Int) := yeJ a 32 (by omega)
 have s16 : yaO .u64 (a : Int) 16 = ((a / 2 ^ 16 : Nat) : Int) := yeJ a 16 (by omega)
 have s8 : yaO .u64 (a : Int) 8 = ((a / 2 ^ 8 : Nat) : Int) := yeJ a 8 (by omega)
 have t16 : yaO .u64 ((a / 2 ^ 32 : Nat) : Int) 16 = ((a / 2 ^ 32 / 2 ^ 16 : Nat) : Int) := yeJ (a / 2 ^ 32) 16 (by omega)
 have t8 : yaO .u64 ((a / 2 ^ 32 : Nat) : Int) 8 = ((a / 2 ^ 32 / 2 ^ 8 : Nat) : Int) := yeJ (a / 2 ^ 32) 8 (by omega)
 have u8 : yaO .u64 ((a / 2 ^ 32 / 2 ^ 16 : Nat) : Int) 8 = ((a / 2 ^ 32 / 2 ^ 16 / 2 ^ 8 : Nat) : Int) := yeJ (a / 2 ^ 32 / 2 ^ 16) 8 (by omega)
 have v8 : yaO .u64 ((a / 2 ^ 16 : Nat) : Int) 8 = ((a / 2 ^ 16 / 2 ^ 8 : Nat) : Int) := yeJ (a / 2 ^ 16) 8 (by omega)
 rw [zaa.is]; unfold zaa.d
 rw [s32, s16, s8, t16, t8, u8, v8]
 have d1 : a / 2 ^ 32 / 2 ^ 16 / 2 ^ 8 = a / 2 ^ 56 := by rw [Nat.div_div_eq_div_mul, Nat.div_div_eq_div_mul]
 have d2 : a / 2 ^ 32 / 2 ^ 16 = a / 2 ^ 48 := by rw [Nat.div_div_eq_div_mul]
 have d3 : a / 2 ^ 32 / 2 ^ 8 = a / 2 ^ 40 := by rw [Nat.div_div_eq_div_mul]
 have d4 : a / 2 ^ 16 / 2 ^ 8 = a / 2 ^ 24 := by rw [Nat.div_div_eq_div_mul]
 rw [d1, d2, d3, d4]
 by_cases c1 : 4294967296 ≤ a
 ·rw [yaC (ybd (by omega))]
  by_cases c2 : 65536 ≤ a / 2 ^ 32
  ·rw [yaC (ybd (by omega))]
   by_cases c3 : 256 ≤ a / 2 ^ 48
   ·rw [yaC (ybd (by omega))]
    exact ycS _ (by decide +kernel) a 56 _ _ rfl rfl (by omega) (by omega) (by omega) K h
   ·rw [yat (yf7 (by omega))]
    exact ycS _ (by decide +kernel) a 48 _ _ rfl rfl (by omega) (by omega) (by omega) K h
  ·rw [yat (yf7 (by omega))]
   by_cases c3 : 256 ≤ a / 2 ^ 32
   ·rw [yaC (ybd (by omega))]
    exact ycS _ (by decide +kernel) a 40 _ _ rfl rfl (by omega) (by omega) (by omega) K h
   ·rw [yat (yf7 (by omega))]
    exact ycS _ (by decide +kernel) a 32 _ _ rfl rfl (by omega) (by omega) (by omega) K h
 ·rw [yat (yf7 (by omega))]
  by_cases c2 : 65536 ≤ a
  ·rw [yaC (ybd (by omega))]
   by_cases c3 : 256 ≤ a / 2 ^ 16
   ·rw [yaC (ybd (by omega))]
    exact ycS _ (by decide +kernel) a 24 _ _ rfl rfl (by omega) (by omega) (by omega) K h
   ·rw [yat (yf7 (by omega))]
    exact ycS _ (by decide +kernel) a 16 _ _ rfl rfl (by omega) (by omega) (by omega) K h
  ·rw [yat (yf7 (by omega))]
   by_cases c3 : 256 ≤ a
   ·rw [yaC (ybd (by omega))]
    exact ycS _ (by decide +kernel) a 8 _ _ rfl rfl (by omega) (by omega) (by omega) K h
   ·rw [yat (yf7 (by omega))]
    exact ycS _ (by decide +kernel) a 0 _ _ rfl (by simp) (by simp; omega) (by omega) (.inr rfl) K h
theorem ydn (a : Nat) (ha : a < 18446744073709551616) (K : Int → Prop) (h : K (yav a)) : zee a K := by
 rw [zee.is]; exact yjJ a ha _ h
theorem yfj (x : Nat) (k0 : Int → Prop) (k1 : Prop) (h : x ≠ 0 → k0 (yav x)) (n i : Nat) (hi : i < 6) (hx : x < 2 ^ (64 * (i + 1))) (hrec : x < 2 ^ (64 * i) → zdv.l2 k0 k1 n ((i : Int) - 1) (W x)) :
  zdv.l2 k0 k1 (n + 1) i (W x) := by
 have hwd : wd x i = x / 2 ^ (64 * i) := by
  unfold wd
  apply Nat.mod_eq_of_lt
  rw [Nat.div_lt_iff_lt_mul (Nat.two_pow_pos _), show (18446744073709551616 : Nat) = 2 ^ 64 from rfl, ← Nat.pow_add]
  rw [show 64 + 64 * i = 64 * (i + 1) from by omega]; exact hx
 unfold zdv.l2 zdv.l2.step
 have hi' : (leI 0 (i : Int) && ltI (i : Int) 6) = true := ybL (by omega) (by omega)
 rw [yaC (ybd (by omega)), yby hi', Int.toNat_natCast, ybg]
 by_cases hz : wd x i = 0
 ·have hx2 : x < 2 ^ (64 * i) := by
   rw [hwd] at hz
   rcases (Nat.div_eq_zero_iff).1 hz with h' | h'
   ·have := Nat.two_pow_pos (64 * i); omega
   ·exact h'
  rw [yat (by rw [hz]; rfl), yas (by omega) (by omega)]
  exact hrec hx2
 ·rw [yaC (by rw [show (0 : Int) = ((0 : Nat) : Int) from rfl, yk0]; simp [hz]), yby hi']
  refine ydn _ (yd3 _ _) _ ?_
  have hb : yav (wd x i) ≤ 64 := (yaI _ _).2 (yd3 x i)
  rw [yb1 (by omega) (by omega), yap (by omega) (by omega)]
  have hx0 : x ≠ 0 := by
   intro e; subst e; exact hz (ycM 0 i (Nat.two_pow_pos _))
  have := h hx0
  rw [hwd] at hz ⊢
  rw [yey hz] at this
  rw [show (64 * (i : Int) + (yav (x / 2 ^ (64 * i)) : Int)) = ((64 * i + yav (x / 2 ^ (64 * i)) : Nat) : Int) from by omega]
  exact this
theorem yjl (x : Nat) (k0 : Int → Prop) (k1 : Prop) (h : x ≠ 0 → k0 (yav x)) (h1 : x = 0 → k1) (i : Nat) : i < 6 → x < 2 ^ (64 * (i + 1)) → zdv.l2 k0 k1 (i + 2) i (W x) := by
 induction i with
 | zero =>
  intro hi hx
  refine yfj x k0 k1 h 1 0 hi hx fun hx2 => ?_
  have hx0 : x = 0 := by
   have : x < 1 := hx2
   omega
  unfold zdv.l2 zdv.l2.step
  rw [yat (by decide)]
  exact h1 hx0
 | succ i ih =>
  intro hi hx
  refine yfj x k0 k1 h (i + 2) (i + 1) hi hx fun hx2 => ?_
  rw [show (((i + 1 : Nat) : Int) - 1) = (i : Int) from by omega]
  exact ih (by omega) hx2
theorem yhH (x : Nat) (hx : x < Q6) (K : Int → Prop) (h : K (yav x)) : zdv (W x) K := by
 rw [zdv.is]
 obtain ⟨i, hi⟩ : ∃ i, i = 5 := ⟨_, rfl⟩
 have := yjl x K (K 0) (fun _ => h) (fun e => by subst e; exact h) i (by omega) (by rw [yfn (show 64 * (i + 1) = 384 by omega)]; exact hx)
 rw [hi] at this
 exact ⟨5 + 2, this⟩
theorem ynR (x : Nat) (h : x < 18446744073709551616) (K : (Nat → Int) → Prop) : zdy x K = K (W x) := by
 rw [zdy.is]; unfold zdy.d; rw [ytV x h]
theorem yeH (x : Nat) (h : x < 2 ^ 128) (K : Int → Int → Bool → Prop) : zec (W x) K = K (Hi x) (Lo x) true := by
 rw [zec.is]; unfold zec.d
 rw [ym9 x 2 h (by omega), ym9 x 3 h (by omega), ym9 x 4 h (by omega), ym9 x 5 h (by omega), yuq x h, yuo x]
 rfl
theorem ykE (x y : Nat) (hx : x < Q6) (hy : y < Q6) (k0 : (Nat → Int) → (Nat → Int) → Prop) (z : Nat → Int) (h : k0 (W (x ||| y)) z) :
  ∀ (j i : Nat), i + j = 6 → zea.l2 k0 (j + 1) i (mix i (x ||| y) x) (W y) z := by
 intro j
 induction j with
 | zero =>
  intro i hij
  have hx' : x < 2 ^ (64 * i) := by rw [yfn (show 64 * i = 384 by omega)]; exact hx
  have hy' : y < 2 ^ (64 * i) := by rw [yfn (show 64 * i = 384 by omega)]; exact hy
  unfold zea.l2 zea.l2.step
  rw [yat (ybj (by omega)), yo4 _ _ i (Nat.or_lt_two_pow hx' hy') hx']
  exact h
 | succ j ih =>
  intro i hij
  have ih := ih (i + 1) (by omega)
  have e : ((i + 1 : Nat) : Int) = (i : Int) + 1 := by omega
  rw [e] at ih
  unfold zea.l2 zea.l2.step
  have hi : (leI 0 (i : Int) && ltI (i : Int) 6) = true := ybL (by omega) (by omega)
  rw [yaC (ya9 (by omega)), yby hi, yby hi, yby hi, Int.toNat_natCast, yrE, ybg, ybg, yg3 _ _ (yd3 _ _) (yd3 _ _), ← yue, ← ybg, ym6, yap (by omega) (by omega)]
  exact ih
theorem ynK (x y : Nat) (hx : x < Q6) (hy : y < Q6) (K : (Nat → Int) → Prop) (h : K (W (x ||| y))) : zea (W x) (W y) K := by
 rw [zea.is]
 refine ⟨7, ?_⟩
 have := ykE x y hx hy (fun y0 y1 => K y0) (fun _ => 0) h 6 0 rfl
 rw [ym7] at this
 exact this
def part (z i : Nat) : Nat → Int := fun j => cond (Nat.ble i j) (W z j) 0
theorem yrj (z : Nat) (hz : z < Q6) : part z 6 = fun _ => 0 := by
 funext j
 unfold part
 cases h : Nat.ble 6 j with
 | false => rfl
 | true =>
  have hj : 6 ≤ j := Nat.le_of_ble_eq_true h
  show W z j = 0
  rw [ybg, ycM z j]; rfl
  obtain ⟨m, hm⟩ : ∃ m : Nat, m = 384 := ⟨_, rfl⟩
  exact Nat.lt_of_lt_of_le hz (by rw [← yfn hm]; exact Nat.pow_le_pow_right (by omega) (by omega))
theorem yks (z i : Nat) : upd (part z (i + 1)) i (W z i) = part z i := by
 funext j
 simp only [upd, part]
 by_cases h : j = i
 ·subst h
  have h1 : Nat.beq j j = true := by simp
  have h2 : Nat.ble j j = true := by simp
  rw [h1, h2]; rfl
 ·have h1 : Nat.beq j i = false := by rw [Bool.eq_false_iff]; intro hq; exact h (Nat.eq_of_beq_eq_true hq)
  have h2 : Nat.ble (i + 1) j = Nat.ble i j := by
   rw [Bool.eq_iff_iff, Nat.ble_eq, Nat.ble_eq]; omega
  rw [h1, h2]; rfl
theorem yqS (x q r : Nat) (hx : x < Q6) (hq : q ≤ 6) (hr : r < 64) : part (x * 2 ^ (64 * q + r) % Q6) q = W (x * 2 ^ (64 * q + r) % Q6) := by
 funext j
 unfold part
 cases h : Nat.ble q j with
 | true => rfl
 | false =>
  have hj : j < q := by
   apply Classical.byContradiction; intro hc
   have := Nat.ble_eq_true_of_le (show q ≤ j by omega)
   rw [this] at h; cases h
  show 0 = W _ j
  obtain ⟨m, hm⟩ : ∃ m : Nat, m = 384 := ⟨_, rfl⟩
  rw [ybg]
  have : wd (x * 2 ^ (64 * q + r) % Q6) j = 0 := by
   apply Nat.eq_of_testBit_eq; intro b
   rw [ybN, Nat.zero_testBit, ← yfn hm, Nat.testBit_mod_two_pow, ← Nat.shiftLeft_eq, Nat.testBit_shiftLeft]
   by_cases hb : b < 64
   ·have : ¬ 64 * q + r ≤ 64 * j + b := by omega
    simp [this]
   ·simp [hb]
  rw [this]; rfl
theorem ysA (a s : Nat) (ha : a < 18446744073709551616) (hs : s ≤ 64) : yaO .u64 (a : Int) (s : Int) = ((a >>> s : Nat) : Int) := by
 by_cases h : s = 64
 ·subst h
  rw [yrK a 64 ha (by omega), Nat.shiftRight_eq_div_pow, Nat.div_eq_of_lt (by exact ha)]; rfl
 ·exact ydY a s (by omega)
theorem ysF (x q r i : Nat) (hi : i < 6) (hq : q ≤ i) (hr : r < 64) :
  wd (x * 2 ^ (64 * q + r) % Q6) i = (wd x (i - q) <<< r % 18446744073709551616) ||| (if q < i then wd x (i - q - 1) >>> (64 - r) else 0) := by
 obtain ⟨m, hm⟩ : ∃ m : Nat, m = 384 := ⟨_, rfl⟩
 apply Nat.eq_of_testBit_eq; intro b
 rw [ybN, ← yfn hm, Nat.testBit_mod_two_pow, ← Nat.shiftLeft_eq, Nat.testBit_shiftLeft, Nat.testBit_or, show (18446744073709551616 : Nat) = 2 ^ 64 from rfl, Nat.testBit_mod_two_pow, Nat.testBit_shiftLeft, ybN]
 by_cases hb : b < 64
 ·have h1 : 64 * i + b < m := by omega
  by_cases hbr : r ≤ b
  ·have h2 : 64 * q + r ≤ 64 * i + b := by omega
   have h3 : b - r < 64 := by omega
   have h4 : 64 * i + b - (64 * q + r) = 64 * (i - q) + (b - r) := by omega
   split
   ·rw [Nat.testBit_shiftRight, ybN]
    have h5 : ¬ 64 - r + b < 64 := by omega
    simp [hb, h1, hbr, h2, h3, h4, h5]
   ·simp [hb, h1, hbr, h2, h3, h4]
  ·split
   ·rename_i hqi
    rw [Nat.testBit_shiftRight, ybN]
    have h2 : 64 * q + r ≤ 64 * i + b := by omega
    have h5 : 64 - r + b < 64 := by omega
    have h4 : 64 * i + b - (64 * q + r) = 64 * (i - q - 1) + (64 - r + b) := by omega
    simp [hb, h1, hbr, h2, h4, h5]
   ·have h2 : ¬ 64 * q + r ≤ 64 * i + b := by omega
    simp [hb, h1, hbr, h2]
 ·split
  ·rw [Nat.testBit_shiftRight, ybN]
   have h5 : ¬ 64 - r + b < 64 := by omega
   simp [hb, h5]
  ·simp [hb]
theorem yii (x q r : Nat) (hx : x < Q6) (hr : r < 64) (hq : q ≤ 6) (b : Bool) (k0 : Bool → (Nat → Int) → Prop) (h : k0 b (W (x * 2 ^ (64 * q + r) % Q6))) :
  ∀ (j : Nat), q + j ≤ 6 → zdu.l5 k0 (j + 1) b q r (((q + j : Nat) : Int) - 1) (W x) (part (x * 2 ^ (64 * q + r) % Q6) (q + j)) := by
 intro j
 induction j with
 | zero =>
  intro hij
  unfold zdu.l5 zdu.l5.step
  rw [yat (yf7 (by omega)), Nat.add_zero, yqS x q r hx hq hr]
  exact h
 | succ j ih =>
  intro hij
  have ih := ih (by omega)
  have e : (((q + (j + 1) : Nat) : Int) - 1) = ((q + j : Nat) : Int) := by omega
  rw [e]
  unfold zdu.l5 zdu.l5.step
  have e1 : yan .i64 ((q + j : Nat) : Int) (q : Int) = (j : Int) := by rw [yas (by omega) (by omega)]; omega
  have e2 : yan .i64 ((q + j : Nat) : Int) 1 = ((q + j : Nat) : Int) - 1 := yas (by omega) (by omega)
  have lw := ysF x q r (q + j) (by omega) (by omega) hr
  have lj : q + j - q = j := by omega
  rw [lj] at lw
  have ha : wd x j <<< r % 18446744073709551616 < 18446744073709551616 := Nat.mod_lt _ (by omega)
  rw [yaC (ybd (by omega)), e1, yby (ybL (by omega) (by omega)), yby (yhJ (by omega)), yby (ybL (by omega) (by omega)), Int.toNat_natCast, Int.toNat_natCast, ybg x j, ymg _ r hr, e2]
  by_cases hj : j = 0
  ·rw [if_neg (by omega), Nat.or_zero] at lw
   rw [yat (ybj (by omega)), ← lw, ← ybg, show q + (j + 1) = q + j + 1 from rfl, yks]
   exact ih
  ·rw [if_pos (by omega)] at lw
   have hs : wd x (j - 1) >>> (64 - r) < 18446744073709551616 := Nat.lt_of_le_of_lt (Nat.shiftRight_le _ _) (yd3 _ _)
   have e3 : yan .i64 (j : Int) 1 = ((j - 1 : Nat) : Int) := by rw [yas (by omega) (by omega)]; omega
   have e4 : yan .u64 64 (r : Int) = ((64 - r : Nat) : Int) := by rw [yeY (by omega) (by omega)]; omega
   rw [yaC (ya9 (by omega)), yby (ybL (by omega) (by omega)), e3, yby (ybL (by omega) (by omega)), e4, yby (yhJ (by omega)), yby (ybL (by omega) (by omega)), ypB, yrs, Int.toNat_natCast, ybg x (j - 1), ysA _ _ (yd3 _ _) (by omega), yg3 _ _ ha hs, ← lw, ← ybg, show q + (j + 1) = q + j + 1 from rfl, yks]
   exact ih
theorem yjA (x n : Nat) (hx : x < Q6) (hn : n ≤ 384) (K : (Nat → Int) → Bool → Prop) (h : ∀ b, K (W (x * 2 ^ n % Q6)) b) : zdu (W x) n K := by
 rw [zdu.is]; unfold zdu.d
 have key : ∀ b, ∃ m, zdu.l5 (fun y0 y1 => K y1 y0) m b (yaF IntKind.i64 (n : Int) 64) (cvI IntKind.u64 (ych IntKind.i64 (n : Int) 64)) 5 (W x) fun x => 0 := by
  intro b
  rw [yo5 n (by omega), yoF n, yaV (by omega) (by omega)]
  refine ⟨6 - n / 64 + 1, ?_⟩
  have hm : n % 64 < 64 := Nat.mod_lt _ (by omega)
  have := yii x (n / 64) (n % 64) hx hm (by omega) b (fun y0 y1 => K y1 y0) (by rw [Nat.div_add_mod]; exact h b) (6 - n / 64) (by omega)
  rw [show n / 64 + (6 - n / 64) = 6 from by omega, yrj _ (Nat.mod_lt _ ytr)] at this
  exact this
 rw [ydw n hn]
 refine yhH x hx _ ?_
 by_cases hc : ltI 384 (yak IntKind.i64 (yav x : Int) (n : Int)) = true
 ·rw [yaC hc]; exact key _
 ·rw [yat (by simpa using hc)]; exact key _
end Go.Ev.S

/- The formats: their numbers, and the encodings that have names. -/
set_option linter.unusedVariables false
set_option linter.unusedSimpArgs false
set_option maxRecDepth 8000
namespace Go.Ev.S
open Go Go.Ev
def fw : Nat → Nat | 0 => 32 | 1 => 64 | 2 => 16 | 3 => 128 | _ => 0
def fp : Nat → Nat | 0 => 24 | 1 => 53 | 2 => 11 | 3 => 113 | _ => 0
def fe : Nat → Nat | 0 => 127 | 1 => 1023 | 2 => 15 | 3 => 16383 | _ => 0
def sg (f : Nat) (neg : Bool) : Nat := cond neg (2 ^ (fw f - 1)) 0
def enc (f : Nat) (neg : Bool) (e t : Nat) : Nat := sg f neg + e * 2 ^ (fp f - 1) + t
theorem yeF {f : Nat} (h : f ≤ 3) : f = 0 ∨ f = 1 ∨ f = 2 ∨ f = 3 := by omega
theorem ya0 (f : Nat) (h : f ≤ 3) (K : Int → Prop) : zde f K = K 0 := by
 rw [zde.is]; unfold zde.d; rw [yat (ybj (by omega))]
theorem ybt (f : Nat) (h : f ≤ 3) (K : Int → Prop) : zdm f K = K (fw f) := by
 rw [zdm.is]; unfold zdm.d; rw [zdq.is]
 rcases yeF h with rfl | rfl | rfl | rfl <;> kernel_rfl
theorem yaK (f : Nat) (h : f ≤ 3) (K : Int → Prop) : zdl f K = K (fp f) := by
 rw [zdl.is]; unfold zdl.d; rw [zdq.is]
 rcases yeF h with rfl | rfl | rfl | rfl <;> kernel_rfl
theorem ybp (f : Nat) (h : f ≤ 3) (K : Int → Prop) : zdg f K = K (fe f) := by
 rw [zdg.is]; unfold zdg.d; rw [zdq.is]
 rcases yeF h with rfl | rfl | rfl | rfl <;> kernel_rfl
theorem ybq (f : Nat) (h : f ≤ 3) (K : Int → Prop) : zdh f K = K (1 - (fe f : Int)) := by
 rw [zdh.is]; unfold zdh.d; rw [ya0 f h, ybp f h]
 rcases yeF h with rfl | rfl | rfl | rfl <;> kernel_rfl
theorem yjo (f : Nat) (h : f ≤ 3) (K : Int → Int → Prop) : (zdm f fun y0 => zdo 1 (yan IntKind.i64 y0 1) K) = K (Hi (2 ^ (fw f - 1))) (Lo (2 ^ (fw f - 1))) := by
 rw [ybt f h, zdo.is]
 rcases yeF h with rfl | rfl | rfl | rfl <;> kernel_rfl
theorem yt6 (f : Nat) (h : f ≤ 3) (neg : Bool) : sg f neg < 2 ^ 128 := by
 rcases yeF h with rfl | rfl | rfl | rfl <;> cases neg <;> decide
theorem ydt (f x : Nat) (h : f ≤ 3) (hx : x < 2 ^ 128) (neg : Bool) (K : Int → Int → Prop) : zdr f (Hi x) (Lo x) neg K = K (Hi (x ||| sg f neg)) (Lo (x ||| sg f neg)) := by
 rw [zdr.is]; unfold zdr.d; rw [ya0 f h, yat (by decide)]
 cases neg with
 | false => rw [yat rfl]; simp [sg]
 | true =>
  rw [yaC rfl, yjo f h]
  obtain ⟨h1, h2⟩ := ys1 x (2 ^ (fw f - 1)) hx (yt6 f h true)
  rw [h1, h2]; rfl
theorem HiLo_zero : Hi 0 = 0 ∧ Lo 0 = 0 := ⟨rfl, rfl⟩
theorem yjI (f : Nat) (h : f ≤ 3) (neg : Bool) (K : Int → Int → Prop) : zdn f neg K = K (Hi (enc f neg 0 0)) (Lo (enc f neg 0 0)) := by
 rw [zdn.is]; unfold zdn.d
 have := ydt f 0 h (by decide) neg K
 rw [HiLo_zero.1, HiLo_zero.2, Nat.zero_or] at this
 rw [this]; simp [enc]
theorem yih (f e : Nat) (h : f ≤ 3) (he : e = 1 ∨ e = fe f ∨ e = 2 * fe f + 1) (K : Int → Int → Prop) : zdp f e K = K (Hi (e * 2 ^ (fp f - 1))) (Lo (e * 2 ^ (fp f - 1))) := by
 rw [zdp.is]; unfold zdp.d; rw [yaK f h, zdo.is]
 rcases he with rfl | rfl | rfl <;> rcases yeF h with rfl | rfl | rfl | rfl <;> kernel_rfl
theorem yq5 (f e : Nat) (h : f ≤ 3) (he : e = 1 ∨ e = fe f ∨ e = 2 * fe f + 1) (neg : Bool) : (e * 2 ^ (fp f - 1)) ||| sg f neg = enc f neg e 0 ∧ e * 2 ^ (fp f - 1) < 2 ^ 128 := by
 rcases he with rfl | rfl | rfl <;> rcases yeF h with rfl | rfl | rfl | rfl <;> cases neg <;> decide
theorem ygk (f : Nat) (h : f ≤ 3) (neg : Bool) (K : Int → Int → Prop) : zdk f neg K = K (Hi (enc f neg (2 * fe f + 1) 0)) (Lo (enc f neg (2 * fe f + 1) 0)) := by
 rw [zdk.is]; unfold zdk.d; rw [ya0 f h, yat (by decide), ybp f h]
 have e1 : yak IntKind.i64 (yb4 IntKind.i64 2 (fe f)) 1 = ((2 * fe f + 1 : Nat) : Int) := by rcases yeF h with rfl | rfl | rfl | rfl <;> decide
 obtain ⟨h1, h2⟩ := yq5 f _ h (.inr (.inr rfl)) neg
 rw [e1, yih f _ h (.inr (.inr rfl)), ydt f _ h h2 neg, h1]
theorem yfY (f : Nat) (h : f ≤ 3) (neg : Bool) (K : Int → Int → Prop) : zdj f neg K = K (Hi (enc f neg (2 * fe f) (2 ^ (fp f - 1) - 1))) (Lo (enc f neg (2 * fe f) (2 ^ (fp f - 1) - 1))) := by
 rw [zdj.is]; unfold zdj.d; rw [ygk f h]; simp only [ya0 f h, ybt f h]
 have key : ∀ x : Nat, x < 2 ^ 128 → x ||| sg f neg = enc f neg (2 * fe f) (2 ^ (fp f - 1) - 1) → zdr f (Hi x) (Lo x) neg (fun y0 y1 => K y0 y1) = K (Hi (enc f neg (2 * fe f) (2 ^ (fp f - 1) - 1))) (Lo (enc f neg (2 * fe f) (2 ^ (fp f - 1) - 1))) := by
  intro x hx hq
  rw [ydt f x h hx neg, hq]
 have k2 := key ((2 * fe f) * 2 ^ (fp f - 1) + (2 ^ (fp f - 1) - 1)) (by rcases yeF h with rfl | rfl | rfl | rfl <;> decide) (by rcases yeF h with rfl | rfl | rfl | rfl <;> cases neg <;> decide)
 rw [← k2]
 clear key k2
 generalize hq : (zdr f : Int → Int → Bool → (Int → Int → Prop) → Prop) = sw
 clear hq
 rcases yeF h with rfl | rfl | rfl | rfl <;> (refine Eq.trans ?_ rfl; kernel_rfl)
theorem ydi (f x : Nat) (h : f ≤ 3) (hx : x < 2 ^ 128) (K : Bool → Prop) : zdi f (Hi x) (Lo x) K = K (decide (x < 2 ^ fw f)) := by
 rw [zdi.is]; unfold zdi.d
 have ez : eqI (Hi x) 0 = decide (x / 18446744073709551616 = 0) := by
  unfold Hi; rw [show (0 : Int) = ((0 : Nat) : Int) from rfl, yk0]
 have es : ∀ w : Nat, w < 64 → eqI (yaO .u64 (Lo x) (w : Int)) 0 = decide (x % 18446744073709551616 < 2 ^ w) := by
  intro w hw
  unfold Lo
  rw [ydY _ w hw, Nat.shiftRight_eq_div_pow, show (0 : Int) = ((0 : Nat) : Int) from rfl, yk0, decide_eq_decide, Nat.div_eq_zero_iff]
  have := Nat.two_pow_pos w
  omega
 have hx' : x < 340282366920938463463374607431768211456 := hx
 rcases yeF h with rfl | rfl | rfl | rfl
 ·rw [yat (by decide), yat (by decide), yaC (by decide), yaC (by decide), ez, ybt 0 (by omega)]
  show br (decide (x / 18446744073709551616 = 0)) (gd (!ltI (cvI IntKind.u64 ((32 : Nat) : Int)) 0) (K (eqI (yaO .u64 (Lo x) (cvI IntKind.u64 ((32 : Nat) : Int))) 0))) (K false) = K (decide (x < 2 ^ 32))
  rw [yaV (by omega) (by omega), yby (yhJ (by omega)), es 32 (by omega), show (2 : Nat) ^ 32 = 4294967296 from rfl]
  by_cases hq : x / 18446744073709551616 = 0
  ·rw [yaC (by simp [hq])]; congr 1; rw [decide_eq_decide]; omega
  ·rw [yat (by simp [hq])]; congr 1; symm; rw [decide_eq_false_iff_not]; omega
 ·rw [yat (by decide), yaC (by decide), ez]
  show K _ = K (decide (x < 2 ^ 64))
  congr 1; rw [decide_eq_decide, show (2 : Nat) ^ 64 = 18446744073709551616 from rfl]; omega
 ·rw [yat (by decide), yat (by decide), yat (by decide), yaC (by decide), ez, ybt 2 (by omega)]
  show br (decide (x / 18446744073709551616 = 0)) (gd (!ltI (cvI IntKind.u64 ((16 : Nat) : Int)) 0) (K (eqI (yaO .u64 (Lo x) (cvI IntKind.u64 ((16 : Nat) : Int))) 0))) (K false) = K (decide (x < 2 ^ 16))
  rw [yaV (by omega) (by omega), yby (yhJ (by omega)), es 16 (by omega), show (2 : Nat) ^ 16 = 65536 from rfl]
  by_cases hq : x / 18446744073709551616 = 0
  ·rw [yaC (by simp [hq])]; congr 1; rw [decide_eq_decide]; omega
  ·rw [yat (by simp [hq])]; congr 1; symm; rw [decide_eq_false_iff_not]; omega
 ·rw [yaC (by decide)]
  congr 1; symm; rw [decide_eq_true_eq]; exact hx
theorem yjz (f : Nat) (h : 3 < f) (hi lo : Int) (K : Bool → Prop) : zdi f hi lo K = K false := by
 rw [zdi.is]; unfold zdi.d
 rw [yat (ygq (by omega)), yat (ygq (by omega)), yat (ygq (by omega)), yat (ygq (by omega))]
end Go.Ev.S

/- The document's answer on formats: an encoding of its fields, and its fields. -/
set_option linter.unusedVariables false
set_option linter.unusedSimpArgs false
set_option maxRecDepth 8000
namespace Go.Ev.S
open Go Go.Ev
theorem yui (f : Nat) (h : f ≤ 3) : 2 ^ (fw f - 1) = (2 * fe f + 2) * 2 ^ (fp f - 1) := by rcases yeF h with rfl | rfl | rfl | rfl <;> decide
theorem ycn (f : Nat) (h : f ≤ 3) : 1 ≤ fw f ∧ fw f ≤ 128 ∧ 2 ≤ fp f ∧ fp f ≤ 113 ∧ fp f < fw f ∧ 2 * fe f + 1 < 32768 := by rcases yeF h with rfl | rfl | rfl | rfl <;> decide
theorem ypS {f e t : Nat} (h : f ≤ 3) (he : e ≤ 2 * fe f + 1) (ht : t < 2 ^ (fp f - 1)) : e * 2 ^ (fp f - 1) + t < 2 ^ (fw f - 1) := by
 rw [yui f h]
 have : (e + 1) * 2 ^ (fp f - 1) ≤ (2 * fe f + 2) * 2 ^ (fp f - 1) := Nat.mul_le_mul_right _ (by omega)
 rw [Nat.add_mul, Nat.one_mul] at this
 omega
theorem ys2 {f e t : Nat} (h : f ≤ 3) (he : e ≤ 2 * fe f + 1) (ht : t < 2 ^ (fp f - 1)) (neg : Bool) : enc f neg e t < 2 ^ fw f := by
 have h1 := ypS h he ht
 have h2 := (ycn f h).1
 have h3 : 2 ^ fw f = 2 ^ (fw f - 1) + 2 ^ (fw f - 1) := by
  have : fw f = fw f - 1 + 1 := by omega
  conv => lhs; rw [this, Nat.pow_succ]
  omega
 unfold enc sg
 cases neg <;> simp <;> omega
theorem yud {a : Nat} (h : a ≤ 128) {x : Nat} (hx : x < 2 ^ a) : x < 2 ^ 128 := Nat.lt_of_lt_of_le hx (Nat.pow_le_pow_right (by omega) h)
end Go.Ev.S

/- Encodings, their fields and their signs: the abacus and the document's answer. -/
set_option linter.unusedVariables false
set_option linter.unusedSimpArgs false
set_option maxRecDepth 8000
namespace Go.Ev.S
open Go Go.Ev
def ng (f x : Nat) : Bool := x.testBit (fw f - 1)
def ex (f x : Nat) : Nat := x / 2 ^ (fp f - 1) % (2 * fe f + 2)
def fr (f x : Nat) : Nat := x % 2 ^ (fp f - 1)
theorem ysC (f x : Nat) : ex f x ≤ 2 * fe f + 1 := by unfold ex; have := Nat.mod_lt (x / 2 ^ (fp f - 1)) (show 0 < 2 * fe f + 2 by omega); omega
theorem yqY (f x : Nat) : fr f x < 2 ^ (fp f - 1) := Nat.mod_lt _ (Nat.two_pow_pos _)
theorem yph (f : Nat) (h : f ≤ 3) : 2 * fe f + 2 = 2 ^ (fw f - fp f) := by rcases yeF h with rfl | rfl | rfl | rfl <;> decide
theorem ynq (f : Nat) (h : f ≤ 3) : fw f - 1 = (fp f - 1) + (fw f - fp f) ∧ fw f = fw f - 1 + 1 := by rcases yeF h with rfl | rfl | rfl | rfl <;> decide
theorem ys8 (f x : Nat) (h : f ≤ 3) (hx : x < 2 ^ fw f) : enc f (ng f x) (ex f x) (fr f x) = x := by
 have h1 : x = x / 2 ^ (fp f - 1) * 2 ^ (fp f - 1) + fr f x := by
  unfold fr; have := Nat.div_add_mod x (2 ^ (fp f - 1)); rw [Nat.mul_comm]; omega
 have h2 : x % 2 ^ (fw f - 1) = ex f x * 2 ^ (fp f - 1) + fr f x := by
  unfold ex fr
  rw [yph f h, (ynq f h).1, Nat.pow_add, Nat.mod_mul]
  rw [Nat.mul_comm]; omega
 have h3 := yqw x (fw f - 1)
 rw [← (ynq f h).2, Nat.mod_eq_of_lt hx] at h3
 unfold enc sg
 unfold ng
 cases hb : x.testBit (fw f - 1) with
 | false => rw [hb] at h3; simp at h3; simp only [cond_false]; omega
 | true => rw [hb] at h3; simp at h3; simp only [cond_true]; omega
theorem yum {f x : Nat} (h : f ≤ 3) (hx : x < 2 ^ fw f) : x < 2 ^ 128 := yud (ycn f h).2.1 hx
theorem xQ6 {f x : Nat} (h : f ≤ 3) (hx : x < 2 ^ fw f) : x < Q6 := ysG (by have := (ycn f h).2.1; omega) hx
theorem yrO (a b : Nat) (ha : a < 9223372036854775808) (hb : b < 9223372036854775808) : yi5 .i64 a b = ((a &&& b : Nat) : Int) := by
 have h1 : (BitVec.ofInt 64 (a : Int)) = BitVec.ofNat 64 a := by simp
 have h2 : (BitVec.ofInt 64 (b : Int)) = BitVec.ofNat 64 b := by simp
 have h3 : a &&& b < 9223372036854775808 := Nat.lt_of_le_of_lt Nat.and_le_left ha
 show IntKind.wrap .i64 (((BitVec.ofInt 64 (a : Int) &&& BitVec.ofInt 64 (b : Int) : BitVec 64).toNat : Nat) : Int) = _
 rw [h1, h2]
 rw [BitVec.toNat_and, BitVec.toNat_ofNat, BitVec.toNat_ofNat, Nat.mod_eq_of_lt (by omega), Nat.mod_eq_of_lt (by omega)]
 exact yd5 (by omega) (by omega)
theorem yr0 (f : Nat) (h : f ≤ 3) : yan .i64 (fw f : Int) 1 = ((fw f - 1 : Nat) : Int) := by rcases yeF h with rfl | rfl | rfl | rfl <;> decide
theorem ypX (f : Nat) (h : f ≤ 3) : yan .i64 (fp f : Int) 1 = ((fp f - 1 : Nat) : Int) := by rcases yeF h with rfl | rfl | rfl | rfl <;> decide
theorem yt9 (f : Nat) (h : f ≤ 3) : yan .i64 (fp f : Int) 2 = ((fp f - 2 : Nat) : Int) := by rcases yeF h with rfl | rfl | rfl | rfl <;> decide
theorem ysx (x : Nat) (h : x < 18446744073709551616) : W x 0 = (x : Int) := by
 rw [ybg]; unfold wd; rw [Nat.mul_zero, Nat.pow_zero, Nat.div_one, Nat.mod_eq_of_lt h]
theorem yrJ (f x : Nat) (h : f ≤ 3) (hx : x < 2 ^ fw f) : yi5 .i64 (cvI .i64 (W (x / 2 ^ (fp f - 1)) 0)) ((2 * fe f + 1 : Nat) : Int) = (ex f x : Int) := by
 have h1 : x / 2 ^ (fp f - 1) < 131072 := by
  rw [Nat.div_lt_iff_lt_mul (Nat.two_pow_pos _)]
  have h3 : 2 ^ fw f ≤ 131072 * 2 ^ (fp f - 1) := by rcases yeF h with rfl | rfl | rfl | rfl <;> decide
  omega
 have h2 := (ycn f h).2.2.2.2.2
 unfold ex
 generalize x / 2 ^ (fp f - 1) = v at *
 rw [ysx _ (by omega), yfm (by omega) (by omega), yrO _ _ (by omega) (by omega), show 2 * fe f + 1 = 2 ^ (fw f - fp f) - 1 from by rw [← yph f h]; omega, Nat.and_two_pow_sub_one_eq_mod, ← yph f h]
theorem yeB (f x : Nat) (h : f ≤ 3) (hx : x < 2 ^ fw f) (K : Bool → Int → (Nat → Int) → Prop) (hK : K (ng f x) (ex f x) (W (fr f x))) : zav f (Hi x) (Lo x) K := by
 have hw := ycn f h
 rw [zav.is]; unfold zav.d
 rw [yh8 x (yum h hx), yaK f h, ybt f h, ypX f h, yr0 f h]
 refine yd8 _ (by omega) _ ?_
 refine yeV _ _ (xQ6 h hx) _ ?_
 refine yh0 _ _ (xQ6 h hx) (by omega) _ fun b => ?_
 rw [yeZ x _ (by omega)]
 have e1 : yan IntKind.i64 (ybE IntKind.i64 1 (cvI IntKind.u64 (yan IntKind.i64 (fw f : Int) (fp f : Int)))) 1 = ((2 * fe f + 1 : Nat) : Int) := by rcases yeF h with rfl | rfl | rfl | rfl <;> decide
 have e2 : (!ltI (cvI IntKind.u64 (yan IntKind.i64 (fw f : Int) (fp f : Int))) 0) = true := by rcases yeF h with rfl | rfl | rfl | rfl <;> decide
 rw [yby e2, e1, yrJ f x h hx, Nat.and_two_pow_sub_one_eq_mod]
 exact hK
def cls (f x : Nat) : Int :=
 if ex f x = 2 * fe f + 1 then (if fr f x ≠ 0 then cond ((fr f x).testBit (fp f - 2)) 9 8 else cond (ng f x) 0 7)
 else if ex f x ≠ 0 then cond (ng f x) 1 6 else if fr f x ≠ 0 then cond (ng f x) 2 5 else cond (ng f x) 3 4
theorem ylp (f x : Nat) : 0 ≤ cls f x ∧ cls f x ≤ 9 := by
 unfold cls
 cases ng f x <;> cases (fr f x).testBit (fp f - 2) <;> simp only [cond_true, cond_false] <;> (repeat' split) <;> omega
theorem yri (x : Nat) (hx : x < Q6) : eqN 6 (W x) (fun _ => 0) = decide (x = 0) := by
 rw [Bool.eq_iff_iff, ypU, decide_eq_true_iff]
 constructor
 ·intro h
  obtain ⟨n, hn⟩ : ∃ n : Nat, n = 6 := ⟨6, rfl⟩
  refine yqQ (n := n) (by rw [yfn (by omega)]; exact hx) (Nat.two_pow_pos _) fun i hi => ?_
  rw [hn] at hi
  have := h i hi
  rw [ybg] at this
  rw [ycM 0 i (Nat.two_pow_pos _)]; omega
 ·intro h i hi; subst h; rw [W_zero]
theorem yfN (b : Bool) (K : Int → Prop) (x y : Int) : br b (K x) (K y) = K (cond b x y) := by cases b <;> rfl
theorem ytw (f : Nat) (h : f ≤ 3) : yak .i64 (yb4 .i64 2 (fe f : Int)) 1 = ((2 * fe f + 1 : Nat) : Int) := by rcases yeF h with rfl | rfl | rfl | rfl <;> decide
theorem ytX (f x : Nat) (h : f ≤ 3) : fr f x < Q6 := ysG (by have := ycn f h; omega) (yqY f x)
theorem yj2 (f x : Nat) (h : f ≤ 3) (hx : x < 2 ^ fw f) (K : Int → Prop) (hK : K (cls f x)) : zau f (Hi x) (Lo x) K := by
 have hw := ycn f h
 rw [zau.is]; unfold zau.d
 refine yeB f x h hx _ ?_
 rw [ybp f h, ybp f h, ytw f h, yk0, yri _ (ytX f x h), show (0 : Int) = ((0 : Nat) : Int) from rfl, yk0, yaK f h, yt9 f h, yeZ _ _ (by omega)]
 unfold cls at hK
 by_cases h1 : ex f x = 2 * fe f + 1
 ·rw [if_pos h1] at hK
  rw [yaC (by simpa using h1)]
  by_cases h2 : fr f x = 0
  ·rw [if_neg (by simpa using h2)] at hK
   have h3 : ex f x ≠ 0 := by omega
   rw [yat (by simpa using h2), yaC (by simpa using h3), yaC (by simpa using h2), yaC (by simpa using h1), yfN]; exact hK
  ·rw [if_pos h2] at hK
   rw [yaC (by simpa using h2), yfN]; exact hK
 ·rw [if_neg h1] at hK
  rw [yat (by simpa using h1)]
  by_cases h3 : ex f x = 0
  ·rw [if_neg (by simpa using h3)] at hK
   rw [yat (by simpa using h3), yat (by simpa using h3)]
   by_cases h2 : fr f x = 0
   ·rw [if_neg (by simpa using h2)] at hK
    rw [yat (by simpa using h2), yfN]; exact hK
   ·rw [if_pos h2] at hK
    rw [yaC (by simpa using h2), yfN]; exact hK
  ·rw [if_pos h3] at hK
   rw [yaC (by simpa using h3)]
   by_cases h2 : fr f x = 0
   ·rw [yaC (by simpa using h2), yat (by simpa using h1), yaC (by simpa using h3), yfN]; exact hK
   ·rw [yat (by simpa using h2), yaC (by simpa using h3), yfN]; exact hK
end Go.Ev.S

/- The plain law of ShapeMakes, and that of ShapeNumbers. -/
set_option linter.unusedVariables false
set_option linter.unusedSimpArgs false
set_option maxRecDepth 8000
namespace Go.Ev.S
open Go Go.Ev
theorem yrr {a : Int} (w : (Lit.int .u8 a).wf = true) : ∃ n : Nat, a = n ∧ n < 256 := by
 obtain ⟨h1, h2⟩ := yqM w
 exact ⟨a.toNat, by omega, by omega⟩
theorem ypP {a : Int} (w : (Lit.int .u64 a).wf = true) : ∃ n : Nat, a = n ∧ n < 18446744073709551616 := by
 obtain ⟨h1, h2⟩ := yoH w
 exact ⟨a.toNat, by omega, by omega⟩
theorem yqh {a b : Int} (w : (Lit.int .u64 a).wf = true) (w2 : (Lit.int .u64 b).wf = true) : ∃ x : Nat, x < 2 ^ 128 ∧ a = Hi x ∧ b = Lo x := by
 obtain ⟨n, rfl, h1⟩ := ypP w
 obtain ⟨m, rfl, h2⟩ := ypP w2
 exact ⟨two n m, ysW h1 h2, (ytq h2).symm, (ytG h2).symm⟩
end Go.Ev.S

/- The law RoundOver. -/
set_option linter.unusedVariables false
set_option linter.unusedSimpArgs false
set_option maxRecDepth 8000
namespace Go.Ev.S
open Go Go.Ev
theorem ycy (m : Nat) (h : m ≤ 4) (K : Int → Prop) : zdf m K = K 0 := by
 rw [zdf.is]; unfold zdf.d; rw [yat (ybj (by omega))]
def gr (m : Nat) (n : Bool) : Bool := m == 1 || (m == 2 && !n) || (m == 3 && n)
def ov (f m : Nat) (n : Bool) : Nat := cond (gr m n) (enc f n (2 * fe f) (2 ^ (fp f - 1) - 1)) (enc f n (2 * fe f + 1) 0)
theorem ytA {m : Nat} (h : m ≤ 4) : m = 0 ∨ m = 1 ∨ m = 2 ∨ m = 3 ∨ m = 4 := by omega
end Go.Ev.S

/- Digits of natural numbers, as rows have them; texts of bytes as numbers. -/
set_option linter.unusedVariables false
set_option linter.unusedSimpArgs false
namespace Go.Ev.S
open Go Go.Ev
def dg (k x i : Nat) : Nat := x / 2 ^ (k * i) % 2 ^ k
def G (k x : Nat) : Nat → Int := fun i => ((dg k x i : Nat) : Int)
theorem ya8 (k x i : Nat) : G k x i = ((dg k x i : Nat) : Int) := rfl
theorem ycv (k i : Nat) : 2 ^ (k * (i + 1)) = 2 ^ (k * i) * 2 ^ k := by rw [show k * (i + 1) = k * i + k from by rw [Nat.mul_add, Nat.mul_one], Nat.pow_add]
theorem ya6 (k x i : Nat) : dg k x i < 2 ^ k := Nat.mod_lt _ (Nat.two_pow_pos k)
theorem ydp (k x i : Nat) (h : x < 2 ^ (k * i)) : dg k x i = 0 := by unfold dg; rw [Nat.div_eq_of_lt h, Nat.zero_mod]
theorem ycY {k i j : Nat} (h : i ≤ j) : 2 ^ (k * i) ≤ 2 ^ (k * j) := Nat.pow_le_pow_right (by omega) (Nat.mul_le_mul_left k h)
theorem ydT (k x n i : Nat) (h : x < 2 ^ (k * n)) (hi : n ≤ i) : dg k x i = 0 := ydp k x i (Nat.lt_of_lt_of_le h (ycY hi))
theorem ycj (k : Nat) : G k 0 = fun _ => 0 := by
 funext i
 rw [ya8, ydp k 0 i (Nat.two_pow_pos _)]; rfl
theorem ybh (k x i : Nat) : x % 2 ^ (k * (i + 1)) = x % 2 ^ (k * i) + dg k x i * 2 ^ (k * i) := by
 unfold dg
 rw [ycv, Nat.mod_mul, Nat.mul_comm (2 ^ (k * i))]
theorem ydb (k x i : Nat) : x / 2 ^ (k * i) = dg k x i + x / 2 ^ (k * (i + 1)) * 2 ^ k := by
 unfold dg
 rw [ycv, ← Nat.div_div_eq_div_mul]
 have := Nat.div_add_mod (x / 2 ^ (k * i)) (2 ^ k)
 rw [Nat.mul_comm] at this
 omega
theorem yk9 (k x i j : Nat) : dg k (x / 2 ^ (k * i)) j = dg k x (i + j) := by
 unfold dg
 rw [Nat.div_div_eq_div_mul, ← Nat.pow_add, Nat.mul_add]
theorem ymL (k x i j : Nat) (h : j < i) : dg k (x % 2 ^ (k * i)) j = dg k x j := by
 unfold dg
 have h1 : 2 ^ (k * i) = 2 ^ (k * j) * (2 ^ k * 2 ^ (k * (i - j - 1))) := by
  rw [← Nat.pow_add, ← Nat.pow_add]; congr 1
  have : i = j + (1 + (i - j - 1)) := by omega
  conv => lhs; rw [this]
  rw [Nat.mul_add, Nat.mul_add, Nat.mul_one]
 rw [h1, Nat.mod_mul_right_div_self, Nat.mod_mul_right_mod]
theorem yrZ (k x : Nat) (h : x < 2 ^ k) : dg k x 0 = x := by unfold dg; rw [Nat.mul_zero, Nat.pow_zero, Nat.div_one, Nat.mod_eq_of_lt h]
theorem ypk (k z w i j : Nat) (hz : z < 2 ^ (k * i)) (hw : w < 2 ^ k) : dg k (z + w * 2 ^ (k * i)) j = if j = i then w else dg k z j := by
 have hP := Nat.two_pow_pos (k * i)
 by_cases hj : j = i
 ·subst hj
  rw [if_pos rfl]
  unfold dg
  rw [Nat.add_mul_div_right _ _ hP, Nat.div_eq_of_lt hz, Nat.zero_add, Nat.mod_eq_of_lt hw]
 ·rw [if_neg hj]
  by_cases hlt : j < i
  ·have h1 := ymL k (z + w * 2 ^ (k * i)) i j hlt
   rw [Nat.add_mul_mod_self_right, Nat.mod_eq_of_lt hz] at h1
   exact h1.symm
  ·rw [ydT k z i j hz (by omega), ydp]
   have h1 : z + w * 2 ^ (k * i) < 2 ^ (k * (i + 1)) := by
    rw [ycv, Nat.mul_comm (2 ^ (k * i))]
    have : (w + 1) * 2 ^ (k * i) ≤ 2 ^ k * 2 ^ (k * i) := Nat.mul_le_mul_right _ hw
    rw [Nat.add_mul, Nat.one_mul] at this
    omega
   exact Nat.lt_of_lt_of_le h1 (ycY (by omega))
theorem yiu (k z w i : Nat) (hz : z < 2 ^ (k * i)) (hw : w < 2 ^ k) : z + w * 2 ^ (k * i) < 2 ^ (k * (i + 1)) := by
 rw [ycv, Nat.mul_comm (2 ^ (k * i))]
 have : (w + 1) * 2 ^ (k * i) ≤ 2 ^ k * 2 ^ (k * i) := Nat.mul_le_mul_right _ hw
 rw [Nat.add_mul, Nat.one_mul] at this
 omega
theorem yh5 (k z w i : Nat) (hz : z < 2 ^ (k * i)) (hw : w < 2 ^ k) : upd (G k z) i (w : Int) = G k (z + w * 2 ^ (k * i)) := by
 funext j
 rw [ya8, ypk k z w i j hz hw]
 by_cases hj : j = i
 ·subst hj; rw [ybZ, if_pos rfl]
 ·rw [ycI _ _ _ _ hj, if_neg hj, ya8]
theorem ygT (k x i : Nat) : x = x % 2 ^ (k * i) + dg k x i * 2 ^ (k * i) + x / 2 ^ (k * (i + 1)) * 2 ^ (k * (i + 1)) := by
 have h1 := Nat.div_add_mod x (2 ^ (k * (i + 1)))
 rw [ybh, Nat.mul_comm] at h1
 omega
theorem ysI (k x w i j : Nat) (hw : w < 2 ^ k) : dg k (x % 2 ^ (k * i) + w * 2 ^ (k * i) + x / 2 ^ (k * (i + 1)) * 2 ^ (k * (i + 1))) j = if j = i then w else dg k x j := by
 have hP := Nat.two_pow_pos (k * i)
 have hr : x % 2 ^ (k * i) < 2 ^ (k * i) := Nat.mod_lt _ hP
 have hl := yiu k _ w i hr hw
 by_cases hj : j ≤ i
 ·have h1 := ymL k (x % 2 ^ (k * i) + w * 2 ^ (k * i) + x / 2 ^ (k * (i + 1)) * 2 ^ (k * (i + 1))) (i + 1) j (by omega)
  rw [Nat.add_mul_mod_self_right, Nat.mod_eq_of_lt hl, ypk k _ w i j hr hw] at h1
  rw [← h1]
  by_cases he : j = i
  ·simp [he]
  ·rw [if_neg he, if_neg he, ymL k x i j (by omega)]
 ·rw [if_neg (by omega)]
  have h1 := yk9 k (x % 2 ^ (k * i) + w * 2 ^ (k * i) + x / 2 ^ (k * (i + 1)) * 2 ^ (k * (i + 1))) (i + 1) (j - (i + 1))
  rw [show i + 1 + (j - (i + 1)) = j from by omega, Nat.add_mul_div_right _ _ (Nat.two_pow_pos _), Nat.div_eq_of_lt hl, Nat.zero_add] at h1
  rw [← h1, yk9, show i + 1 + (j - (i + 1)) = j from by omega]
theorem yrv (k x w i : Nat) (hw : w < 2 ^ k) : upd (G k x) i (w : Int) = G k (x % 2 ^ (k * i) + w * 2 ^ (k * i) + x / 2 ^ (k * (i + 1)) * 2 ^ (k * (i + 1))) := by
 funext j
 rw [ya8, ysI k x w i j hw]
 by_cases hj : j = i
 ·subst hj; rw [ybZ, if_pos rfl]
 ·rw [ycI _ _ _ _ hj, if_neg hj, ya8]
def val (a : List UInt8) : Nat := a.foldl (fun v b => v * 256 + b.toNat) 0
theorem ylx (a : List UInt8) : ∀ (v : Nat), a.foldl (fun v b => v * 256 + b.toNat) v = v * 256 ^ a.length + val a := by
 induction a with
 | nil => intro v; simp [val]
 | cons b l ih =>
  intro v
  simp only [List.foldl_cons, List.length_cons, val]
  rw [ih, ih (0 * 256 + b.toNat), Nat.pow_succ]
  rw [Nat.add_mul, Nat.add_mul, Nat.mul_assoc, Nat.mul_comm 256]
  omega
theorem yeS : val [] = 0 := rfl
theorem ygG (b : UInt8) (l : List UInt8) : val (b :: l) = b.toNat * 256 ^ l.length + val l := by
 show (b :: l).foldl _ 0 = _
 rw [List.foldl_cons, ylx, Nat.zero_mul, Nat.zero_add]
theorem ynX (a b : List UInt8) : val (a ++ b) = val a * 256 ^ b.length + val b := by
 show (a ++ b).foldl _ 0 = _
 rw [List.foldl_append, ylx]
 rfl
theorem ym3 (a : List UInt8) (b : UInt8) : val (a ++ [b]) = val a * 256 + b.toNat := by
 rw [ynX]; simp [val]
theorem ypd (b : UInt8) : b.toNat < 256 := b.toNat_lt
theorem ygb (a : List UInt8) : val a < 256 ^ a.length := by
 induction a with
 | nil => simp [val]
 | cons b l ih =>
  rw [ygG, List.length_cons, Nat.pow_succ]
  have := ypd b
  have : (b.toNat + 1) * 256 ^ l.length ≤ 256 * 256 ^ l.length := Nat.mul_le_mul_right _ (by omega)
  rw [Nat.add_mul] at this
  omega
theorem ymU (n : Nat) : 256 ^ n = 2 ^ (8 * n) := by rw [Nat.pow_mul]
def nb (x : Nat) : List UInt8 := if h : x = 0 then [] else nb (x / 256) ++ [UInt8.ofNat (x % 256)]
decreasing_by omega
theorem yaH : nb 0 = [] := by rw [nb]; simp
theorem ydG {x : Nat} (h : x ≠ 0) : nb x = nb (x / 256) ++ [UInt8.ofNat (x % 256)] := by rw [nb]; simp [h]
theorem ymE {n : Nat} (h : n < 256) : (UInt8.ofNat n).toNat = n := by
 rw [UInt8.toNat_ofNat']
 exact Nat.mod_eq_of_lt h
theorem ya1 (x : Nat) : val (nb x) = x := by
 induction x using Nat.strongRecOn with
 | _ x ih =>
  by_cases h : x = 0
  ·subst h; rw [yaH]; rfl
  ·rw [ydG h, ym3, ih (x / 256) (by omega), ymE (Nat.mod_lt _ (by omega))]
   omega
def yiw (a : List UInt8) : Bool := match a with | [] => true | b :: _ => !(b.toNat == 0)
theorem yhz {a b : List UInt8} (h : a ≠ []) : yiw (a ++ b) = yiw a := by cases a <;> simp_all [yiw]
theorem ylI (x : Nat) : yiw (nb x) = true := by
 induction x using Nat.strongRecOn with
 | _ x ih =>
  by_cases h : x = 0
  ·subst h; rw [yaH]; rfl
  ·rw [ydG h]
   by_cases h2 : x / 256 = 0
   ·rw [h2, yaH]
    have : x % 256 ≠ 0 := by omega
    have h3 := ymE (Nat.mod_lt x (show 0 < 256 by omega))
    simp only [List.nil_append, yiw, h3]
    simpa using this
   ·have hne : nb (x / 256) ≠ [] := by rw [ydG h2]; simp
    rw [yhz hne]
    exact ih _ (by omega)
theorem yiV {a : List UInt8} (h : yiw a = true) : nb (val a) = a := by
 induction hn : a.length generalizing a with
 | zero => have := List.length_eq_zero_iff.1 hn; subst this; exact yaH
 | succ n ih =>
  have hne : a ≠ [] := by intro e; subst e; simp at hn
  have h1 := List.dropLast_concat_getLast hne
  generalize a.dropLast = c at h1
  generalize a.getLast hne = b at h1
  subst h1
  have hlen : c.length = n := by simpa using hn
  have hb := ypd b
  rw [ym3]
  by_cases hc : c = []
  ·subst hc
   have : b.toNat ≠ 0 := by simpa [yiw] using h
   rw [yeS, Nat.zero_mul, Nat.zero_add, ydG this, Nat.div_eq_of_lt hb, yaH, Nat.mod_eq_of_lt hb]
   simp
  ·rw [yhz hc] at h
   have ihc := ih h hlen
   have hv : val c ≠ 0 := by
    intro e
    rw [e, yaH] at ihc
    exact hc ihc.symm
   rw [ydG (by omega), show (val c * 256 + b.toNat) / 256 = val c from by omega, show (val c * 256 + b.toNat) % 256 = b.toNat from by omega, ihc]
   simp
theorem yts {x y : Nat} (h : nb x = nb y) : x = y := by rw [← ya1 x, h, ya1]
theorem ysD {a b : List UInt8} (ha : yiw a = true) (hb : yiw b = true) (h : val a = val b) : a = b := by rw [← yiV ha, h, yiV hb]
theorem ybc (x n : Nat) : (nb x).length ≤ n ↔ x < 256 ^ n := by
 induction n generalizing x with
 | zero =>
  constructor
  ·intro h
   have : nb x = [] := List.length_eq_zero_iff.1 (by omega)
   have h2 := ya1 x
   rw [this] at h2
   simp [val] at h2 ⊢; omega
  ·intro h
   have : x = 0 := by simp at h; omega
   subst this; rw [yaH]; simp
 | succ n ih =>
  by_cases h : x = 0
  ·subst h; rw [yaH]; simp [Nat.pow_pos]
  ·rw [ydG h, List.length_append, List.length_singleton, Nat.pow_succ]
   have := ih (x / 256)
   rw [Nat.div_lt_iff_lt_mul (by omega)] at this
   omega
theorem yoD {x : Nat} (h : x ≠ 0) : nb x ≠ [] := by rw [ydG h]; simp
theorem yiG {x : Nat} (h : x ≠ 0) : 0 < (nb x).length := by rw [ydG h]; simp
theorem ync (a : List UInt8) : ∀ (i : Nat), i < a.length → ((a[a.length - 1 - i]?).getD 0).toNat = dg 8 (val a) i := by
 induction a with
 | nil => intro i hi; simp at hi
 | cons b l ih =>
  intro i hi
  rw [List.length_cons] at hi ⊢
  have hl := ygb l
  rw [ymU] at hl
  rw [ygG, ymU, Nat.add_comm (b.toNat * _)]
  have h2 := ypk 8 (val l) b.toNat l.length i hl (by have := ypd b; simpa using this)
  rw [h2]
  by_cases he : i = l.length
  ·subst he
   rw [if_pos rfl, show l.length + 1 - 1 - l.length = 0 from by omega]
   rfl
  ·rw [if_neg he, show l.length + 1 - 1 - i = (l.length - 1 - i) + 1 from by omega, List.getElem?_cons_succ]
   exact ih i (by omega)
end Go.Ev.S

/- Rows of digits: a digit set, carried, cut; bytes the highest first. Whole numbers of the machine, plainly. -/
set_option linter.unusedVariables false
set_option linter.unusedSimpArgs false
namespace Go.Ev.S
open Go Go.Ev
theorem yaD (p : Prop) : gd true p = p := rfl
theorem ya5 (p q : Prop) : br true p q = p := rfl
theorem yeu (p q : Prop) : br false p q = q := rfl
theorem ybX {a b : Int} (h : 0 ≤ a) (h2 : a < 9223372036854775808) (hb : 0 < b) : yaF .i64 a b = a / b := by
 show IntKind.wrap .i64 (a.tdiv b) = _
 rw [Int.tdiv_eq_ediv_of_nonneg h]
 have h1 : 0 ≤ a / b := Int.ediv_nonneg h (by omega)
 have h3 : a / b ≤ a := Int.ediv_le_self _ h
 exact yd5 (by omega) (by omega)
theorem yhx {k : IntKind} {a b : Int} (h : 0 ≤ a) : ych k a b = a % b := Int.tmod_eq_emod_of_nonneg h
theorem ybw (n : Int) : cvI .u32 n = n % 4294967296 := ynd n
theorem ym4 (n : Int) : cvI .u8 n = n % 256 := ypI n
theorem yeK {k : IntKind} {a : Int} {j : Nat} (h : j ≤ k.bits) : yaO k a (j : Int) = a / 2 ^ j := by
 have h1 : min (Int.toNat (j : Int)) k.bits = j := by rw [Int.toNat_natCast]; omega
 simp only [yaO, h1]
 exact Int.fdiv_eq_ediv_of_nonneg _ (Int.le_of_lt (Int.pow_pos (by omega)))
theorem yb8 (a : Int) : yaO .u64 a 32 = a / 4294967296 := yeK (k := .u64) (j := 32) (by decide)
theorem yfU (a : Int) : yaO .i64 a 32 = a / 4294967296 := yeK (k := .i64) (j := 32) (by decide)
theorem ypg (a : Int) : yaO .i64 a 8 = a / 256 := yeK (k := .i64) (j := 8) (by decide)
theorem ylX {a b : Int} (h : 0 ≤ a * b) (h2 : a * b < 18446744073709551616) : yb4 .u64 a b = a * b := yhC h h2
theorem ygv {k N N' w j : Nat} (h : N' + dg k N j * 2 ^ (k * j) = N + w * 2 ^ (k * j)) (hw : w < 2 ^ k) : upd (G k N) j (w : Int) = G k N' := by
 rw [yrv k N w j hw]
 congr 1
 have := ygT k N j
 omega
theorem yss (g : Nat → Int) (i : Nat) (v w : Int) (h : v = w) : upd g i v = upd g i w := by rw [h]
def wl (k x : Nat) : Nat := if h : x = 0 ∨ k = 0 then 0 else wl k (x / 2 ^ k) + 1
termination_by x
decreasing_by
 have hk : 1 < 2 ^ k := Nat.one_lt_two_pow (by omega)
 exact Nat.div_lt_self (by omega) hk
theorem yc0 (k : Nat) : wl k 0 = 0 := by rw [wl]; simp
theorem yhP {k x : Nat} (hx : x ≠ 0) (hk : k ≠ 0) : wl k x = wl k (x / 2 ^ k) + 1 := by rw [wl]; simp [hx, hk]
theorem yeR (k : Nat) (hk : k ≠ 0) (x : Nat) : x < 2 ^ (k * wl k x) := by
 induction x using Nat.strongRecOn with
 | _ x ih =>
  by_cases h : x = 0
  ·subst h; exact Nat.two_pow_pos _
  ·rw [yhP h hk, ycv]
   have := ih (x / 2 ^ k) (Nat.div_lt_self (by omega) (Nat.one_lt_two_pow hk))
   exact (Nat.div_lt_iff_lt_mul (Nat.two_pow_pos k)).1 this
theorem ydI (k : Nat) (hk : k ≠ 0) (x n : Nat) : wl k x ≤ n ↔ x < 2 ^ (k * n) := by
 constructor
 ·intro h; exact Nat.lt_of_lt_of_le (yeR k hk x) (ycY h)
 ·induction n generalizing x with
  | zero =>
   intro h
   have : x = 0 := by simp at h; omega
   subst this; rw [yc0]; omega
  | succ n ih =>
   intro h
   by_cases hx : x = 0
   ·subst hx; rw [yc0]; omega
   ·rw [yhP hx hk]
    have := ih (x / 2 ^ k) (by rw [Nat.div_lt_iff_lt_mul (Nat.two_pow_pos k), ← ycv]; exact h)
    omega
theorem ymP (k : Nat) (hk : k ≠ 0) (x : Nat) (h : x ≠ 0) : dg k x (wl k x - 1) ≠ 0 := by
 intro he
 have h1 := yeR k hk x
 have hp : wl k x ≠ 0 := by rw [yhP h hk]; omega
 have h2 := ybh k x (wl k x - 1)
 rw [show wl k x - 1 + 1 = wl k x from by omega, Nat.mod_eq_of_lt h1, he, Nat.zero_mul, Nat.add_zero] at h2
 have h3 : x < 2 ^ (k * (wl k x - 1)) := by
  have := Nat.mod_lt x (Nat.two_pow_pos (k * (wl k x - 1)))
  omega
 have := (ydI k hk x _).2 h3
 omega
theorem yuh (k : Nat) (hk : k ≠ 0) (x n : Nat) (h : x < 2 ^ (k * n)) (ht : n = 0 ∨ dg k x (n - 1) ≠ 0) : wl k x = n := by
 have h1 := (ydI k hk x n).2 h
 rcases ht with rfl | ht
 ·omega
 ·apply Classical.byContradiction
  intro hne
  exact ht (ydp k x (n - 1) ((ydI k hk x (n - 1)).1 (by omega)))
theorem yt3 (x : Nat) : wl 8 x = (nb x).length := by
 have h1 := (ydI 8 (by omega) x (nb x).length).2 (by rw [← ymU]; exact (ybc x _).1 (Nat.le_refl _))
 have h2 := (ybc x (wl 8 x)).2 (by rw [ymU]; exact yeR 8 (by omega) x)
 omega
theorem ybn {k x y : Nat} (hk : k ≠ 0) (h : x ≤ y) : wl k x ≤ wl k y := (ydI k hk x _).2 (Nat.lt_of_le_of_lt h (yeR k hk y))
theorem yqC : ∀ (n x : Nat) (g : Nat → Int), (∀ j, j < n → g j = (dg 8 x (n - 1 - j) : Int)) → x < 2 ^ (8 * n) → (n = 0 ∨ dg 8 x (n - 1) ≠ 0) → ybB n g = nb x := by
 intro n
 induction n with
 | zero =>
  intro x g _ hx _
  have : x = 0 := by simp at hx; omega
  subst this; rw [yaH]; rfl
 | succ n ih =>
  intro x g hg hx ht
  have hx0 : x ≠ 0 := by
   intro e; subst e
   rcases ht with h | h
   ·omega
   ·exact h (ydp 8 0 _ (Nat.two_pow_pos _))
  have e8 : (2 : Nat) ^ 8 = 256 := rfl
  have hd : ∀ j, dg 8 (x / 256) j = dg 8 x (1 + j) := fun j => by
   have := yk9 8 x 1 j
   rwa [show 2 ^ (8 * 1) = 256 from rfl] at this
  have h1 : ybB n g = nb (x / 256) := by
   refine ih (x / 256) g (fun j hj => ?_) ?_ ?_
   ·rw [hg j (by omega), hd]; congr 2; omega
   ·rw [Nat.div_lt_iff_lt_mul (by omega)]; rw [ycv, e8] at hx; exact hx
   ·rcases Nat.eq_zero_or_pos n with h | h
    ·exact .inl h
    ·right
     rw [hd, show 1 + (n - 1) = n + 1 - 1 from by omega]
     exact ht.resolve_left (by omega)
  have h2 : ybB (n + 1) g = ybB n g ++ [UInt8.ofNat (g n).toNat] := by
   unfold ybB
   rw [List.range_succ, List.map_append]; rfl
  rw [h2, h1, ydG hx0, hg n (by omega), Int.toNat_natCast, show n + 1 - 1 - n = 0 from by omega]
  congr 2
  unfold dg
  rw [Nat.mul_zero, Nat.pow_zero, Nat.div_one]
theorem ymb (n o : Nat) (g : Nat → Int) : ybB n (shift o g) = ybB n (fun j => g (o + j)) := by
 unfold ybB
 refine List.map_congr_left fun i _ => ?_
 rw [ycb]
def BE (L i x : Nat) : Nat → Int := fun j => if L - i ≤ j ∧ j < L then (dg 8 x (L - 1 - j) : Int) else 0
theorem ypN (L x : Nat) : BE L 0 x = fun _ => 0 := by
 funext j; unfold BE; rw [if_neg (by omega)]
theorem ypv (L i x : Nat) (hi : i < L) : upd (BE L i x) (L - 1 - i) (dg 8 x i : Int) = BE L (i + 1) x := by
 funext j
 by_cases hj : j = L - 1 - i
 ·subst hj
  rw [ybZ]; unfold BE
  rw [if_pos (by omega), show L - 1 - (L - 1 - i) = i from by omega]
 ·rw [ycI _ _ _ _ hj]; unfold BE
  by_cases h : L - i ≤ j ∧ j < L
  ·rw [if_pos h, if_pos (by omega)]
  ·rw [if_neg h, if_neg (by omega)]
theorem ysX (L x j : Nat) (hj : j < L) : BE L L x j = (dg 8 x (L - 1 - j) : Int) := by unfold BE; rw [if_pos (by omega)]
theorem ymS (L o n x : Nat) (ho : o + n = L) (hx : x < 2 ^ (8 * n)) (ht : n = 0 ∨ dg 8 x (n - 1) ≠ 0) : ybB n (fun j => BE L L x (o + j)) = nb x := by
 refine yqC n x _ (fun j hj => ?_) hx ht
 rw [ysX L x _ (by omega)]; congr 2; omega
end Go.Ev.S

/- Natural numbers as rows of words: made of texts, told as texts, cut, held against each other. -/
set_option linter.unusedVariables false
set_option linter.unusedSimpArgs false
set_option maxRecDepth 8000
namespace Go.Ev.S
open Go Go.Ev
theorem ysg {k : IntKind} (hk : k.signed = false) (a b : Nat) (ha : a < 2 ^ k.bits) (hb : b < 2 ^ k.bits) : orI k a b = ((a ||| b : Nat) : Int) := by
 have h3 : a ||| b < 2 ^ k.bits := Nat.or_lt_two_pow ha hb
 show IntKind.wrap k (((BitVec.ofInt k.bits (a : Int) ||| BitVec.ofInt k.bits (b : Int) : BitVec k.bits).toNat : Nat) : Int) = _
 rw [BitVec.toNat_or, BitVec.ofInt_natCast, BitVec.ofInt_natCast, BitVec.toNat_ofNat, BitVec.toNat_ofNat, Nat.mod_eq_of_lt ha, Nat.mod_eq_of_lt hb]
 simp only [IntKind.wrap, hk]
 have : ((a ||| b : Nat) : Int) % 2 ^ k.bits = ((a ||| b : Nat) : Int) := by
  refine Int.emod_eq_of_lt (by omega) ?_
  have e : ((2 ^ k.bits : Nat) : Int) = (2 : Int) ^ k.bits := by simp
  rw [← e]; omega
 simpa using this
theorem yn8 {k : IntKind} (hk : k.signed = false) (a s : Nat) (hs : s ≤ k.bits) : ybE k a s = ((a * 2 ^ s % 2 ^ k.bits : Nat) : Int) := by
 have h1 : min (Int.toNat (s : Int)) k.bits = s := by rw [Int.toNat_natCast]; omega
 simp only [ybE, h1, IntKind.wrap, hk]
 simp
theorem yqr (d b s : Nat) (hd : d < 2 ^ s) (hs : s + 8 ≤ 32) (hb : b < 256) : orI .u32 (d : Int) (ybE .u32 (b : Int) (s : Int)) = ((d + b * 2 ^ s : Nat) : Int) := by
 have hP := Nat.two_pow_pos s
 have e32 : (2 : Nat) ^ 32 = 4294967296 := rfl
 have h1 : b * 2 ^ s + 2 ^ s ≤ 2 ^ 32 := by
  have h2 : (b + 1) * 2 ^ s ≤ 256 * 2 ^ s := Nat.mul_le_mul_right _ (by omega)
  have h3 : 256 * 2 ^ s ≤ 2 ^ 32 := by
   rw [show (256 : Nat) = 2 ^ 8 from rfl, ← Nat.pow_add]; exact Nat.pow_le_pow_right (by omega) (by omega)
  rw [Nat.add_mul] at h2; omega
 rw [yn8 (k := .u32) rfl b s (by simp [IntKind.bits]; omega)]
 have hb32 : IntKind.bits .u32 = 32 := rfl
 rw [hb32, Nat.mod_eq_of_lt (by omega), ysg (k := .u32) rfl _ _ (by rw [hb32]; omega) (by rw [hb32]; omega)]
 congr 1
 have := Nat.shiftLeft_add_eq_or_of_lt hd b
 rw [Nat.shiftLeft_eq] at this
 rw [Nat.or_comm, ← this]; omega
theorem ye5 (a : List UInt8) (i : Nat) (hi : i < a.length) : ybk a (a.length - 1 - i) = (dg 8 (val a) i : Int) := by
 unfold ybk
 rw [ync a i hi]
def May (a : List UInt8) : Prop := a.length ≤ 16384 ∧ yiw a = true
instance (a : List UInt8) : Decidable (May a) := inferInstanceAs (Decidable (_ ∧ _))
theorem ybf (a : List UInt8) : eqS a [] = decide (a = []) := by cases a <;> simp [eqS]
theorem ydm (b : UInt8) (l : List UInt8) : ybk (b :: l) 0 = (b.toNat : Int) := rfl
theorem yaU (a : List UInt8) (K : Int → Prop) : zba a K = K (if May a then 0 else 2) := by
 rw [zba.is]; unfold zba.d
 by_cases h : a.length ≤ 16384
 ·rw [yat (ybj (by omega)), ybf]
  cases a with
  | nil => rw [yat (by simp), if_pos ⟨by simp, rfl⟩]
  | cons b l =>
   have hl : (0 : Int) < ((b :: l).length : Int) := by simp only [List.length_cons]; omega
   rw [yaC (by simp), yby (ya9 hl), ydm]
   by_cases hb : b.toNat = 0
   ·rw [yaC (yj8 (by omega)), if_neg]
    intro hm; have := hm.2; simp [yiw, hb] at this
   ·rw [yat (ygq (by omega)), if_pos ⟨h, by simpa [yiw] using hb⟩]
 ·rw [yaC (ya9 (by omega)), if_neg fun hm => h hm.1]
theorem ynp (k x q s : Nat) (h : x < 2 ^ (k * q + s)) : dg k x q < 2 ^ s := by
 unfold dg
 refine Nat.lt_of_le_of_lt (Nat.mod_le _ _) ?_
 rw [Nat.div_lt_iff_lt_mul (Nat.two_pow_pos _), ← Nat.pow_add, Nat.add_comm s]
 exact h
theorem yhX (a : List UInt8) (hL : a.length ≤ 1000000) (n : Nat) (hn : n = (a.length + 3) / 4) (c m : Nat) (k0 : Nat → Nat → Nat → (Nat → Int) → Prop) (h : k0 n c m (G 32 (val a))) :
  ∀ (j i : Nat), i + j = a.length → zcb.l3 k0 (j + 1) a n c a.length i m (G 32 (val a % 2 ^ (8 * i))) := by
 intro j
 induction j with
 | zero =>
  intro i hi
  unfold zcb.l3 zcb.l3.step
  rw [yat (ybj (by omega)), Nat.mod_eq_of_lt (by have := ygb a; rw [ymU] at this; rwa [show i = a.length from by omega])]
  exact h
 | succ j ih =>
  intro i hi
  have ih := ih (i + 1) (by omega)
  have e : ((i + 1 : Nat) : Int) = (i : Int) + 1 := by omega
  rw [e] at ih
  unfold zcb.l3 zcb.l3.step
  simp (disch := omega) only [ybX, yhx, yas, yap, yb1, yaV, ya9, ybd, ybj, yaD, ya5, Bool.and_self, Bool.not_false]
  have e1 : Int.toNat ((i : Int) / 4) = i / 4 := by omega
  have e2 : Int.toNat ((a.length : Int) - 1 - i) = a.length - 1 - i := by omega
  have e3 : 8 * ((i : Int) % 4) = ((8 * (i % 4) : Nat) : Int) := by omega
  have hd := ya6 8 (val a) i
  have e8 : (2 : Nat) ^ 8 = 256 := rfl
  rw [e1, e2, e3, ye5 a i (by omega), ybw, Int.emod_eq_of_lt (by omega) (by omega), ya8,
   yqr _ _ _ (ynp 32 _ (i / 4) (8 * (i % 4)) (by rw [show 32 * (i / 4) + 8 * (i % 4) = 8 * i from by omega]; exact Nat.mod_lt _ (Nat.two_pow_pos _))) (by omega) (by omega)]
  rw [ygv (k := 32) (N' := val a % 2 ^ (8 * (i + 1)))]
  ·exact ih
  ·rw [ybh, Nat.add_mul, Nat.mul_assoc, ← Nat.pow_add, show 8 * (i % 4) + 32 * (i / 4) = 8 * i from by omega]; omega
  ·have h1 := ynp 32 (val a % 2 ^ (8 * i)) (i / 4) (8 * (i % 4)) (by rw [show 32 * (i / 4) + 8 * (i % 4) = 8 * i from by omega]; exact Nat.mod_lt _ (Nat.two_pow_pos _))
   have h2 : (dg 8 (val a) i + 1) * 2 ^ (8 * (i % 4)) ≤ 256 * 2 ^ (8 * (i % 4)) := Nat.mul_le_mul_right _ (by omega)
   have h3 : 256 * 2 ^ (8 * (i % 4)) ≤ 2 ^ 32 := by
    rw [show (256 : Nat) = 2 ^ 8 from rfl, ← Nat.pow_add]; exact Nat.pow_le_pow_right (by omega) (by omega)
   rw [Nat.add_mul] at h2
   omega
theorem ygh (a : List UInt8) (hL : a.length ≤ 1000000) (K : Nat → (Nat → Int) → Prop) (h : K ((a.length + 3) / 4) (G 32 (val a))) : zcb a K := by
 rw [zcb.is]; unfold zcb.d
 simp (disch := omega) only [ybX, yap, ybd, yaD, Bool.and_self]
 have e1 : Int.toNat (((a.length : Int) + 3) / 4) = (a.length + 3) / 4 := by omega
 rw [e1]
 refine ⟨a.length + 1, ?_⟩
 have := yhX a hL ((a.length + 3) / 4) rfl ((a.length + 3) / 4) ((a.length + 3) / 4) (fun y0 y1 y2 y3 => K y0 y3) h a.length 0 (by omega)
 rw [Nat.mul_zero, Nat.pow_zero, Nat.mod_one, ycj] at this
 exact this
theorem yjG {x n : Nat} (hn : n ≠ 0) (hx : x < 2 ^ (32 * n)) : (dg 32 x (n - 1) = 0 → x < 2 ^ (32 * (n - 1))) ∧ (dg 32 x (n - 1) ≠ 0 → wl 32 x = n) := by
 refine ⟨fun h => ?_, fun h => yuh 32 (by omega) x n hx (.inr h)⟩
 have h2 := ybh 32 x (n - 1)
 rw [show n - 1 + 1 = n from by omega, Nat.mod_eq_of_lt hx, h, Nat.zero_mul, Nat.add_zero] at h2
 have := Nat.mod_lt x (Nat.two_pow_pos (32 * (n - 1)))
 omega
theorem yh6 (k0 : Nat → (Nat → Int) → Prop) (x : Nat) (h : k0 (wl 32 x) (G 32 x)) : ∀ (n : Nat), n ≤ 1000000000 → x < 2 ^ (32 * n) → zbp.l1 k0 (n + 1) n (G 32 x) := by
 intro n
 induction n with
 | zero =>
  intro _ hx
  have hx0 : x = 0 := by simp at hx; omega
  unfold zbp.l1 zbp.l1.step
  rw [yat (ybj (by omega))]
  have e := yc0 32
  subst hx0; rwa [e] at h
 | succ n ih =>
  intro hn hx
  obtain ⟨s1, s2⟩ := yjG (show n + 1 ≠ 0 by omega) hx
  rw [show n + 1 - 1 = n from by omega] at s1 s2
  unfold zbp.l1 zbp.l1.step
  simp (disch := omega) only [yas, ya9, ybd, yaD, ya5, Bool.and_self]
  have e1 : Int.toNat (((n + 1 : Nat) : Int) - 1) = n := by omega
  rw [e1, ya8]
  by_cases hd : dg 32 x n = 0
  ·rw [yaC (yj8 (by omega))]
   exact ih (by omega) (s1 hd)
  ·rw [yat (ygq (by omega))]
   rw [s2 hd] at h; exact h
theorem yk1 (n x : Nat) (hn : n ≤ 1000000000) (hx : x < 2 ^ (32 * n)) (K : Nat → (Nat → Int) → Prop) (h : K (wl 32 x) (G 32 x)) : zbp n (G 32 x) K := by
 rw [zbp.is]; unfold zbp.d
 exact ⟨n + 1, yh6 _ x h n hn hx⟩
theorem yh7 (k0 : Nat → Nat → Nat → (Nat → Int) → Prop) (x m : Nat) (h : ∀ c, k0 (wl 32 x) c m (G 32 x)) : ∀ (n c : Nat), n ≤ 1000000000 → n ≤ c → x < 2 ^ (32 * n) → zbo.l1 k0 (n + 1) n c m (G 32 x) := by
 intro n
 induction n with
 | zero =>
  intro c _ _ hx
  have hx0 : x = 0 := by simp at hx; omega
  unfold zbo.l1 zbo.l1.step
  rw [yat (ybj (by omega))]
  have e := yc0 32
  subst hx0; rw [e] at h; exact h c
 | succ n ih =>
  intro c hn hc hx
  obtain ⟨s1, s2⟩ := yjG (show n + 1 ≠ 0 by omega) hx
  rw [show n + 1 - 1 = n from by omega] at s1 s2
  unfold zbo.l1 zbo.l1.step
  simp (disch := omega) only [yas, ya9, ybd, yaD, ya5, Bool.and_self]
  have e1 : Int.toNat (((n + 1 : Nat) : Int) - 1) = n := by omega
  rw [e1, ya8]
  by_cases hd : dg 32 x n = 0
  ·rw [yaC (yj8 (by omega))]
   exact ih (c - 0) (by omega) (by omega) (s1 hd)
  ·rw [yat (ygq (by omega))]
   rw [s2 hd] at h; exact h c
theorem ybU (n c m x : Nat) (hn : n ≤ 1000000000) (hc : n ≤ c) (hx : x < 2 ^ (32 * n)) (K : Nat → Nat → Nat → (Nat → Int) → Prop) (h : ∀ c, K (wl 32 x) c m (G 32 x)) : zbo n c m (G 32 x) K := by
 rw [zbo.is]; unfold zbo.d
 exact ⟨n + 1, yh7 _ x m h n c hn hc hx⟩
theorem yil (k0 : Nat → Nat → (Nat → Int) → Prop) (x m : Nat) (h : k0 (wl 32 x) m (G 32 x)) : ∀ (n : Nat), n ≤ 1000000000 → x < 2 ^ (32 * n) → zbn.l1 k0 (n + 1) n m (G 32 x) := by
 intro n
 induction n with
 | zero =>
  intro _ hx
  have hx0 : x = 0 := by simp at hx; omega
  unfold zbn.l1 zbn.l1.step
  rw [yat (ybj (by omega))]
  have e := yc0 32
  subst hx0; rwa [e] at h
 | succ n ih =>
  intro hn hx
  obtain ⟨s1, s2⟩ := yjG (show n + 1 ≠ 0 by omega) hx
  rw [show n + 1 - 1 = n from by omega] at s1 s2
  unfold zbn.l1 zbn.l1.step
  simp (disch := omega) only [yas, ya9, ybd, yaD, ya5, Bool.and_self]
  have e1 : Int.toNat (((n + 1 : Nat) : Int) - 1) = n := by omega
  rw [e1, ya8]
  by_cases hd : dg 32 x n = 0
  ·rw [yaC (yj8 (by omega))]
   exact ih (by omega) (s1 hd)
  ·rw [yat (ygq (by omega))]
   rw [s2 hd] at h; exact h
theorem ydQ (n m x : Nat) (hn : n ≤ 1000000000) (hx : x < 2 ^ (32 * n)) (K : Nat → Nat → (Nat → Int) → Prop) (h : K (wl 32 x) m (G 32 x)) : zbn n m (G 32 x) K := by
 rw [zbn.is]; unfold zbn.d
 exact ⟨n + 1, yil _ x m h n hn hx⟩
theorem ytp (x q s : Nat) (hs : s < 4) : dg 8 x (4 * q + s) = dg 32 x q / 2 ^ (8 * s) % 256 := by
 unfold dg
 rw [show 8 * (4 * q + s) = 32 * q + 8 * s from by omega, Nat.pow_add, ← Nat.div_div_eq_div_mul]
 generalize x / 2 ^ (32 * q) = y
 have h1 : (2 : Nat) ^ 32 = 2 ^ (8 * s) * (256 * 2 ^ (8 * (3 - s))) := by
  rw [show (256 : Nat) = 2 ^ 8 from rfl, ← Nat.pow_add, ← Nat.pow_add]; congr 1; omega
 rw [h1, Nat.mod_mul_right_div_self, Nat.mod_mul_right_mod]
theorem yrX (a s : Nat) (hs : s ≤ 32) : yaO .u32 (a : Int) (s : Int) = ((a / 2 ^ s : Nat) : Int) := by
 rw [yeK (k := .u32) hs]; simp
theorem yhy (x n : Nat) (hn : n ≤ 100000000) (L c m : Nat) (hL : L = 4 * n) (k0 : Nat → Nat → Nat → (Nat → Int) → Prop) (h : k0 L c m (BE L L x)) :
  ∀ (j i : Nat), i + j = L → zbt.l4 k0 (j + 1) n (G 32 x) L c L i m (BE L i x) := by
 intro j
 induction j with
 | zero =>
  intro i hi
  unfold zbt.l4 zbt.l4.step
  rw [yat (ybj (by omega)), show i = L from by omega]
  exact h
 | succ j ih =>
  intro i hi
  have ih := ih (i + 1) (by omega)
  have e : ((i + 1 : Nat) : Int) = (i : Int) + 1 := by omega
  rw [e] at ih
  unfold zbt.l4 zbt.l4.step
  simp (disch := omega) only [ybX, yhx, yas, yap, yb1, yaV, ya9, ybd, ybj, yaD, ya5, Bool.and_self, Bool.not_false]
  have e1 : Int.toNat ((i : Int) / 4) = i / 4 := by omega
  have e2 : Int.toNat ((L : Int) - 1 - i) = L - 1 - i := by omega
  have e3 : 8 * ((i : Int) % 4) = ((8 * (i % 4) : Nat) : Int) := by omega
  rw [e1, e2, e3, ya8, yrX _ _ (by omega), ym4, yss _ _ _ (dg 8 x i : Int), ypv L i x (by omega)]
  ·exact ih
  ·have := ytp x (i / 4) (i % 4) (by omega)
   rw [show 4 * (i / 4) + i % 4 = i from by omega] at this
   rw [this]; simp
theorem ygw (x L : Nat) (hL : L ≤ 400000000) (c m : Nat) (k0 : Nat → Nat → Nat → Nat → (Nat → Int) → Prop)
  (h : ∀ o n c, o + n = L → x < 2 ^ (8 * n) → (n = 0 ∨ dg 8 x (n - 1) ≠ 0) → k0 o n c m (BE L L x)) :
  ∀ (n o c : Nat), o + n = L → n ≤ c → x < 2 ^ (8 * n) → zbt.l8 k0 (n + 1) o n c m (BE L L x) := by
 intro n
 induction n with
 | zero =>
  intro o c ho _ hx
  unfold zbt.l8 zbt.l8.step
  rw [yat (ybj (by omega))]
  exact h o 0 c ho hx (.inl rfl)
 | succ n ih =>
  intro o c ho hc hx
  unfold zbt.l8 zbt.l8.step
  simp (disch := omega) only [ya9, ybd, yaD, ya5, Bool.and_self, yfu]
  rw [ysX L x _ (by omega), show L - 1 - (o + 0) = n from by omega]
  by_cases hd : dg 8 x n = 0
  ·rw [yaC (yj8 (by omega))]
   have e1 : Int.toNat ((n + 1 : Nat) : Int) - 1 = n := by omega
   rw [e1]
   refine ih (o + 1) (c - 1) (by omega) (by omega) ?_
   have h2 := ybh 8 x n
   rw [Nat.mod_eq_of_lt hx, hd, Nat.zero_mul, Nat.add_zero] at h2
   have := Nat.mod_lt x (Nat.two_pow_pos (8 * n))
   omega
  ·rw [yat (ygq (by omega))]
   exact h o (n + 1) c ho hx (.inr hd)
theorem ybb (n x : Nat) (hn : n ≤ 100000000) (hx : x < 2 ^ (32 * n)) (K : List UInt8 → Prop) (h : K (nb x)) : zbt n (G 32 x) K := by
 rw [zbt.is]; unfold zbt.d
 refine yk1 n x (by omega) hx _ ?_
 have hw := (ydI 32 (by omega) x n).2 hx
 have hl := yeR 32 (by omega) x
 generalize wl 32 x = w at hw hl
 simp (disch := omega) only [yb1, ybd, yaD, Bool.and_self]
 have e1 : Int.toNat (4 * (w : Int)) = 4 * w := by omega
 rw [e1]
 refine ⟨4 * w + 1, ?_⟩
 have := yhy x w (by omega) (4 * w) (4 * w) (4 * w) rfl (fun y0 y1 y2 y3 => ∃ n, zbt.l8 (fun y0 y1 y2 y3 y4 => K (ybB y1 (shift y0 y4))) n 0 y0 y1 y2 y3) ?_ (4 * w) 0 (by omega)
 ·rw [ypN] at this
  exact this
 ·refine ⟨4 * w + 1, ?_⟩
  refine ygw x (4 * w) (by omega) (4 * w) (4 * w) _ ?_ (4 * w) 0 (4 * w) (by omega) (Nat.le_refl _) (by rw [show 8 * (4 * w) = 32 * w from by omega]; exact hl)
  intro o n c ho hx' ht
  rw [ymb, ymS (4 * w) o n x ho hx' ht]
  exact h
theorem yeL (n x : Nat) (hn : n ≤ 100000000) (hx : x < 2 ^ (32 * n)) (K : List UInt8 → Int → Prop) (h : if 16384 < (nb x).length then K [] 4 else K (nb x) 0) : zby n (G 32 x) K := by
 rw [zby.is]; unfold zby.d
 refine ybb n x hn hx _ ?_
 by_cases hl : 16384 < (nb x).length
 ·rw [yaC (ya9 (by omega))]; rwa [if_pos hl] at h
 ·rw [yat (ybj (by omega))]; rwa [if_neg hl] at h
def sgn (x y : Nat) : Int := if x < y then -1 else if y < x then 1 else 0
theorem ylv (x y n m : Nat) (k0 : Int → Prop) (k1 : Prop) (hn : n ≤ 1000000000) (h : x / 2 ^ (32 * n) = y / 2 ^ (32 * n)) :
  ∀ (i : Nat), i ≤ n → i ≤ m → x / 2 ^ (32 * i) = y / 2 ^ (32 * i) → (x < y → k0 (-1)) → (y < x → k0 1) → (x = y → k1) → ∀ (j : Nat), n = n → zbm.l6 k0 k1 (i + 1) n (G 32 x) m (G 32 y) ((i : Int) - 1) := by
 intro i
 induction i with
 | zero =>
  intro _ _ he _ _ h3 _ _
  unfold zbm.l6 zbm.l6.step
  rw [yat (yf7 (by omega))]
  simp at he
  exact h3 he
 | succ i ih =>
  intro hin him he h1 h2 h3 j _
  unfold zbm.l6 zbm.l6.step
  have e0 : ((i + 1 : Nat) : Int) - 1 = (i : Int) := by omega
  rw [e0]
  simp (disch := omega) only [yas, ya9, ybd, yaD, ya5, Bool.and_self, Int.toNat_natCast]
  rw [ya8, ya8, yrq, yrq]
  have d1 := ydb 32 x i
  have d2 := ydb 32 y i
  rw [← he] at d2
  by_cases hlt : dg 32 x i < dg 32 y i
  ·rw [yaC (by simpa using hlt)]
   refine h1 (Classical.byContradiction fun hc => ?_)
   have := Nat.div_le_div_right (c := 2 ^ (32 * i)) (show y ≤ x by omega)
   omega
  ·rw [yat (by simpa using hlt)]
   by_cases hgt : dg 32 y i < dg 32 x i
   ·rw [yaC (by simpa using hgt)]
    refine h2 (Classical.byContradiction fun hc => ?_)
    have := Nat.div_le_div_right (c := 2 ^ (32 * i)) (show x ≤ y by omega)
    omega
   ·rw [yat (by simpa using hgt)]
    exact ih (by omega) (by omega) (by omega) h1 h2 h3 j rfl
theorem yfS (x y n m : Nat) (hn : n ≤ 1000000000) (hm : m ≤ 1000000000) (hxn : n = wl 32 x) (hym : m = wl 32 y) (K : Int → Prop) (h : K (sgn x y)) : zbm n (G 32 x) m (G 32 y) K := by
 rw [zbm.is]; unfold zbm.d
 have h32 : (32 : Nat) ≠ 0 := by omega
 by_cases hlt : n < m
 ·have : x < y := Classical.byContradiction fun hc => by have := ybn h32 (show y ≤ x by omega); omega
  rw [yaC (ya9 (by omega))]
  unfold sgn at h; rwa [if_pos this] at h
 ·rw [yat (ybj (by omega))]
  by_cases hgt : m < n
  ·have : y < x := Classical.byContradiction fun hc => by have := ybn h32 (show x ≤ y by omega); omega
   rw [yaC (ya9 (by omega))]
   unfold sgn at h; rwa [if_neg (by omega), if_pos this] at h
  ·rw [yat (ybj (by omega)), yas (by omega) (by omega)]
   have h1 := yeR 32 h32 x
   have h2 := yeR 32 h32 y
   have hnm : n = m := by omega
   have q : x / 2 ^ (32 * n) = y / 2 ^ (32 * n) := by
    rw [Nat.div_eq_of_lt (hxn ▸ h1), Nat.div_eq_of_lt (by rw [hnm, hym]; exact h2)]
   refine ⟨n + 1, ylv x y n m _ _ hn q n (Nat.le_refl _) (by omega) q (fun hl => ?_) (fun hl => ?_) (fun he => ?_) 0 rfl⟩
   ·unfold sgn at h; rwa [if_pos hl] at h
   ·unfold sgn at h; rwa [if_neg (by omega), if_pos hl] at h
   ·unfold sgn at h; rwa [if_neg (by omega), if_neg (by omega)] at h
end Go.Ev.S

/- Natural numbers as rows of words: sums, differences, products. -/
set_option linter.unusedVariables false
set_option linter.unusedSimpArgs false
set_option maxRecDepth 8000
namespace Go.Ev.S
open Go Go.Ev
theorem yj5 {k N j s : Nat} {P : Nat} (hP : P = 2 ^ (k * j)) : ∃ N', N' + dg k N j * P = N + s % 2 ^ k * P ∧ N' + s / 2 ^ k * 2 ^ (k * (j + 1)) + dg k N j * P = N + s * P := by
 have h := ygT k N j
 refine ⟨N % 2 ^ (k * j) + s % 2 ^ k * 2 ^ (k * j) + N / 2 ^ (k * (j + 1)) * 2 ^ (k * (j + 1)), ?_, ?_⟩
 ·rw [hP]; omega
 ·have h2 := Nat.div_add_mod s (2 ^ k)
  have h3 : s * P = s % 2 ^ k * P + s / 2 ^ k * 2 ^ (k * (j + 1)) := by
   conv => lhs; rw [← h2]
   rw [Nat.add_mul, ycv, ← hP, Nat.mul_comm (2 ^ k), Nat.mul_assoc, Nat.mul_comm (2 ^ k)]
   omega
  rw [h3, hP]; omega
theorem ytc (x n : Nat) (hx : x < 2 ^ (32 * n)) : ovl 0 (yge n (n + 1)) (G 32 x) (fun _ => 0) = G 32 x := by
 funext i
 have hm : yge n (n + 1) = n := by unfold yge; exact Nat.min_eq_left (by omega)
 rw [hm]
 unfold ovl
 by_cases hi : i < n
 ·have : (Nat.ble 0 i && Nat.blt i (0 + n)) = true := by simp [hi]
  rw [this]; rfl
 ·have : (Nat.ble 0 i && Nat.blt i (0 + n)) = false := by
   rw [Bool.eq_false_iff]; intro h; exact hi (by simpa using h)
  rw [this]
  show (0 : Int) = G 32 x i
  rw [ya8, ydT 32 x n i hx (by omega)]; rfl
theorem B32 : (2 : Nat) ^ 32 = 4294967296 := rfl
theorem ylq (x y n m : Nat) (hn : n ≤ 1000000) (hm : m ≤ n) (hx : x < 2 ^ (32 * n)) (hy : y < 2 ^ (32 * m)) (c0 m0 : Nat) (k0 : Nat → Nat → Nat → (Nat → Int) → Prop) (h : k0 (n + 1) c0 m0 (G 32 (x + y))) :
  ∀ (j i N c : Nat), i + j = n + 1 → N + c * 2 ^ (32 * i) = x + y % 2 ^ (32 * i) → c < 4294967296 → zbw.l7 k0 (j + 1) m (G 32 y) (n + 1) c0 c i m0 (G 32 N) := by
 have hxy : x + y < 2 ^ (32 * (n + 1)) := by
  have h1 : y < 2 ^ (32 * n) := Nat.lt_of_lt_of_le hy (ycY hm)
  rw [ycv, B32]; omega
 have fin : ∀ (i N : Nat), m ≤ i → N = x + y % 2 ^ (32 * i) → N = x + y := by
  intro i N hi hN
  rw [hN, Nat.mod_eq_of_lt (Nat.lt_of_lt_of_le hy (ycY hi))]
 intro j
 induction j with
 | zero =>
  intro i N c hi hN hc
  have hi : i = n + 1 := by omega
  have hc0 : c = 0 := by
   apply Classical.byContradiction
   intro hne
   have h1 : 1 * 2 ^ (32 * i) ≤ c * 2 ^ (32 * i) := Nat.mul_le_mul_right _ (by omega)
   have h2 := Nat.mod_le y (2 ^ (32 * i))
   rw [hi] at h1 hN h2
   omega
  have hN2 := fin i N (by omega) (by rw [hc0] at hN; omega)
  unfold zbw.l7 zbw.l7.step
  rw [yat (ybj (by omega)), yat (ybj (by omega)), hN2]
  exact h
 | succ j ih =>
  intro i N c hi hN hc
  have hdN := ya6 32 N i
  have hdy := ya6 32 y i
  rw [B32] at hdN hdy
  obtain ⟨N', s1, s2⟩ := yj5 (k := 32) (N := N) (j := i) (s := c + dg 32 N i + dg 32 y i) rfl
  have hy1 := ybh 32 y i
  have next := ih (i + 1) N' ((c + dg 32 N i + dg 32 y i) / 4294967296) (by omega) (by
   rw [hy1]
   rw [Nat.add_mul, Nat.add_mul] at s2
   rw [B32] at s2
   omega) (by omega)
  have e : ((i + 1 : Nat) : Int) = (i : Int) + 1 := by omega
  rw [e] at next
  have hG : upd (G 32 N) i (((c + dg 32 N i + dg 32 y i) % 4294967296 : Nat) : Int) = G 32 N' := ygv s1 (Nat.mod_lt _ (by omega))
  unfold zbw.l7 zbw.l7.step
  by_cases hlt : i < m
  ·have e1 : ((c : Int) + (dg 32 N i : Int) + (dg 32 y i : Int)) / 4294967296 = (((c + dg 32 N i + dg 32 y i) / 4294967296 : Nat) : Int) := by omega
   have e2 : ((c : Int) + (dg 32 N i : Int) + (dg 32 y i : Int)) % 4294967296 = (((c + dg 32 N i + dg 32 y i) % 4294967296 : Nat) : Int) := by omega
   simp (disch := omega) only [ya9, ybd, yaD, ya5, Bool.and_self, Int.toNat_natCast, ya8, yaV, yf1, yap, yb8, ybw, e1, e2]
   rw [hG]; exact next
  ·have hd0 : dg 32 y i = 0 := ydT 32 y m i hy (by omega)
   rw [hd0, Nat.add_zero] at next hG
   rw [yat (ybj (by omega))]
   by_cases hc0 : c = 0
   ·rw [yat (ybj (by omega)), fin i N (by omega) (by rw [hc0] at hN; omega)]
    exact h
   ·have e1 : ((c : Int) + (dg 32 N i : Int)) / 4294967296 = (((c + dg 32 N i) / 4294967296 : Nat) : Int) := by omega
    have e2 : ((c : Int) + (dg 32 N i : Int)) % 4294967296 = (((c + dg 32 N i) % 4294967296 : Nat) : Int) := by omega
    simp (disch := omega) only [ya9, ybj, ybd, yaD, ya5, yeu, Bool.and_self, Int.toNat_natCast, ya8, yaV, yf1, yap, yb8, ybw, e1, e2]
    rw [hG]; exact next
theorem yiF (x y n m : Nat) (hn : n ≤ 1000000) (hm : m ≤ 1000000) (hx : x < 2 ^ (32 * n)) (hy : y < 2 ^ (32 * m)) (K : Nat → (Nat → Int) → Prop) (h : K (wl 32 (x + y)) (G 32 (x + y))) : zbw n (G 32 x) m (G 32 y) K := by
 have main : ∀ (x y n m : Nat), n ≤ 1000000 → m ≤ n → x < 2 ^ (32 * n) → y < 2 ^ (32 * m) → K (wl 32 (x + y)) (G 32 (x + y)) →
   ∃ f, zbw.l7 (fun y0 y1 y2 y3 => zbo y0 y1 y2 y3 fun y0 y1 y2 y3 => K y0 y3) f m (G 32 y) (n + 1) (n + 1) 0 0 (n + 1) (G 32 x) := by
  intro x y n m hn hm hx hy h
  refine ⟨n + 2, ?_⟩
  have := ylq x y n m hn hm hx hy (n + 1) (n + 1) (fun y0 y1 y2 y3 => zbo y0 y1 y2 y3 fun y0 y1 y2 y3 => K y0 y3) ?_ (n + 1) 0 x 0 (by omega) (by simp [Nat.mod_one]) (by omega)
  ·exact this
  ·refine ybU (n + 1) (n + 1) (n + 1) (x + y) (by omega) (Nat.le_refl _) ?_ _ fun c => h
   have h1 : y < 2 ^ (32 * n) := Nat.lt_of_lt_of_le hy (ycY hm)
   rw [ycv, B32]; omega
 rw [zbw.is]; unfold zbw.d
 by_cases hlt : n < m
 ·have e1 : Int.toNat ((m : Int) + 1) = m + 1 := by omega
  simp (disch := omega) only [ya9, ybd, yap, yaD, ya5, Bool.and_self, e1]
  rw [ytc y m hy]
  exact main y x m n hm (by omega) hy hx (by rw [Nat.add_comm]; exact h)
 ·have e1 : Int.toNat ((n : Int) + 1) = n + 1 := by omega
  simp (disch := omega) only [ybj, ybd, yap, yaD, yeu, Bool.and_self, e1]
  rw [ytc x n hx]
  exact main x y n m hn (by omega) hx hy h
theorem yjc (x y n m : Nat) (hn : n ≤ 1000000) (hm : m ≤ 1000000) (hx : x < 2 ^ (32 * n)) (hy : y < 2 ^ (32 * m)) (hle : y ≤ x) (c0 m0 : Nat) (k0 : Nat → Nat → Nat → (Nat → Int) → Prop) (h : k0 n c0 m0 (G 32 (x - y))) :
  ∀ (j i z : Nat) (c : Int), i + j = n → z < 2 ^ (32 * i) → (z : Int) + c * (2 ^ (32 * i) : Nat) = (x % 2 ^ (32 * i) : Nat) - (y % 2 ^ (32 * i) : Nat) → -2 ≤ c → c ≤ 0 →
   zbs.l4 k0 (j + 1) n (G 32 x) m (G 32 y) n c0 c n i m0 (G 32 z) := by
 intro j
 induction j with
 | zero =>
  intro i z c hi hz hN hc hc'
  have hi : i = n := by omega
  subst hi
  unfold zbs.l4 zbs.l4.step
  rw [yat (ybj (by omega))]
  have hyi : y < 2 ^ (32 * i) := by omega
  rw [Nat.mod_eq_of_lt hx, Nat.mod_eq_of_lt hyi] at hN
  have hc0 : c = 0 := by
   rcases (show c = 0 ∨ c ≤ -1 by omega) with h0 | h0
   ·exact h0
   ·exfalso
    have : c * ((2 ^ (32 * i) : Nat) : Int) ≤ (-1) * ((2 ^ (32 * i) : Nat) : Int) := Int.mul_le_mul_of_nonneg_right h0 (by omega)
    omega
  rw [hc0] at hN
  have : z = x - y := by omega
  rw [this]; exact h
 | succ j ih =>
  intro i z c hi hz hN hc hc'
  have hdx := ya6 32 x i
  have hdy := ya6 32 y i
  rw [B32] at hdx hdy
  have hx1 := ybh 32 x i
  have hy1 := ybh 32 y i
  have step : ∀ (s : Int), s = c + dg 32 x i - dg 32 y i → zbs.l4 k0 (j + 1) n (G 32 x) m (G 32 y) n c0 (s / 4294967296) n ((i : Int) + 1) m0 (upd (G 32 z) i (s % 4294967296)) := by
   intro s hs
   have hw : s % 4294967296 = ((s % 4294967296).toNat : Int) := by omega
   have hwl : (s % 4294967296).toNat < 2 ^ 32 := by rw [B32]; omega
   have e : ((i + 1 : Nat) : Int) = (i : Int) + 1 := by omega
   rw [hw, yh5 32 z _ i hz hwl, ← e]
   refine ih (i + 1) _ _ (by omega) (yiu 32 z _ i hz hwl) ?_ (by omega) (by omega)
   rw [hx1, hy1, ycv, B32]
   generalize 2 ^ (32 * i) = P at *
   have h4 := Int.emod_add_mul_ediv s 4294967296
   have h5 : s * (P : Int) = (s % 4294967296).toNat * (P : Int) + s / 4294967296 * ((P : Int) * 4294967296) := by
    conv => lhs; rw [← h4]
    rw [← hw, Int.add_mul, Int.mul_comm (4294967296 : Int), Int.mul_assoc, Int.mul_comm (4294967296 : Int)]
   have h6 : s * (P : Int) = c * P + (dg 32 x i : Int) * P - (dg 32 y i : Int) * P := by rw [hs, Int.sub_mul, Int.add_mul]
   have c1 : ((z + (s % 4294967296).toNat * P : Nat) : Int) = (z : Int) + ((s % 4294967296).toNat : Int) * (P : Int) := by simp
   have c2 : ((x % P + dg 32 x i * P : Nat) : Int) = ((x % P : Nat) : Int) + (dg 32 x i : Int) * (P : Int) := by simp
   have c3 : ((y % P + dg 32 y i * P : Nat) : Int) = ((y % P : Nat) : Int) + (dg 32 y i : Int) * (P : Int) := by simp
   have c4 : ((P * 4294967296 : Nat) : Int) = (P : Int) * 4294967296 := by simp
   rw [c1, c2, c3, c4]
   omega
  unfold zbs.l4 zbs.l4.step
  by_cases hlt : i < m
  ·simp (disch := omega) only [ya9, ybd, yaD, ya5, Bool.and_self, Int.toNat_natCast, ya8, yfm, yap, yas, yfU, ybw]
   exact step _ rfl
  ·have hd0 : dg 32 y i = 0 := ydT 32 y m i hy (by omega)
   simp (disch := omega) only [ya9, ybj, ybd, yaD, ya5, yeu, Bool.and_self, Int.toNat_natCast, ya8, yfm, yap, yas, yfU, ybw]
   exact step _ (by rw [hd0]; omega)
theorem ymx (x y n m : Nat) (hn : n ≤ 1000000) (hm : m ≤ 1000000) (hx : x < 2 ^ (32 * n)) (hy : y < 2 ^ (32 * m)) (hle : y ≤ x) (K : Nat → (Nat → Int) → Prop) (h : K (wl 32 (x - y)) (G 32 (x - y))) : zbs n (G 32 x) m (G 32 y) K := by
 rw [zbs.is]; unfold zbs.d
 simp (disch := omega) only [ybd, yaD, Bool.and_self, Int.toNat_natCast]
 refine ⟨n + 1, ?_⟩
 have := yjc x y n m hn hm hx hy hle n n (fun y0 y1 y2 y3 => zbo y0 y1 y2 y3 fun y0 y1 y2 y3 => K y0 y3) ?_ n 0 0 0 (by omega) (Nat.two_pow_pos _) (by simp [Nat.mod_one]) (by omega) (by omega)
 ·rw [ycj] at this; exact this
 ·exact ybU n n n (x - y) (by omega) (Nat.le_refl _) (by omega) _ fun c => h
theorem yo6 (a b c d : Nat) (ha : a < 4294967296) (hb : b < 4294967296) (hc : c < 4294967296) (hd : d < 4294967296) : c + (a * b + d) < 18446744073709551616 := by
 have : a * b ≤ 4294967295 * 4294967295 := Nat.mul_le_mul (by omega) (by omega)
 omega
theorem yhq (y m : Nat) (hm : m ≤ 1000000) (hy : y < 2 ^ (32 * m)) (i a : Nat) (hi : i ≤ 1000000) (ha : a < 4294967296) (n Z c0 m0 q : Nat) (hq : q ≤ 3000000) (him : i + m < q) (f1 : Nat → Int) (x7 : Nat) (x9 : Int)
  (k0 : Nat → (Nat → Int) → Nat → Nat → Int → Int → Nat → (Nat → Int) → Int → Int → Nat → (Nat → Int) → Prop)
  (h : ∀ N c, c < 4294967296 → N + c * 2 ^ (32 * (i + m)) = Z + a * y * 2 ^ (32 * i) → dg 32 N (i + m) = dg 32 Z (i + m) → k0 m (G 32 y) q c0 i c x7 f1 x9 i m0 (G 32 N)) :
  ∀ (j k N c : Nat), k + j = m → c < 4294967296 → N + c * 2 ^ (32 * (i + k)) = Z + a * (y % 2 ^ (32 * k)) * 2 ^ (32 * i) → (∀ t, i + k ≤ t → dg 32 N t = dg 32 Z t) →
   zbx.l7 k0 (j + 1) m (G 32 y) q c0 i a c x7 f1 x9 i m (G 32 y) m k m0 (G 32 N) := by
 intro j
 induction j with
 | zero =>
  intro k N c hk hc hN ht
  have hkm : k = m := by omega
  subst hkm
  unfold zbx.l7 zbx.l7.step
  rw [yat (ybj (by omega))]
  rw [Nat.mod_eq_of_lt hy] at hN
  exact h N c hc hN (ht _ (Nat.le_refl _))
 | succ j ih =>
  intro k N c hk hc hN ht
  have hdN := ya6 32 N (i + k)
  have hdy := ya6 32 y k
  rw [B32] at hdN hdy
  have hs := yo6 a (dg 32 y k) c (dg 32 N (i + k)) ha hdy hc hdN
  have hy1 := ybh 32 y k
  obtain ⟨N', s1, s2⟩ := yj5 (k := 32) (N := N) (j := i + k) (s := c + (a * dg 32 y k + dg 32 N (i + k))) rfl
  have e : ((k + 1 : Nat) : Int) = (k : Int) + 1 := by omega
  have hw : (c + (a * dg 32 y k + dg 32 N (i + k))) % 4294967296 < 2 ^ 32 := Nat.mod_lt _ (by omega)
  have hG : upd (G 32 N) (i + k) (((c + (a * dg 32 y k + dg 32 N (i + k))) % 4294967296 : Nat) : Int) = G 32 N' := ygv s1 hw
  have next := ih (k + 1) N' ((c + (a * dg 32 y k + dg 32 N (i + k))) / 4294967296) (by omega) (by omega) (by
   rw [hy1, show i + (k + 1) = i + k + 1 from by omega, Nat.mul_add a, Nat.add_mul, Nat.mul_assoc a, Nat.mul_assoc a (dg 32 y k * _)]
   rw [Nat.add_mul, Nat.add_mul] at s2
   rw [B32] at s2
   have e3 : a * (dg 32 y k * 2 ^ (32 * k) * 2 ^ (32 * i)) = a * dg 32 y k * 2 ^ (32 * (i + k)) := by
    rw [Nat.mul_assoc (dg 32 y k), ← Nat.pow_add, show 32 * k + 32 * i = 32 * (i + k) from by omega, Nat.mul_assoc]
   rw [e3]
   rw [Nat.mul_assoc a] at hN
   omega) (fun t htt => by
    have := congrFun hG t
    rw [ycI _ _ _ _ (by omega), ya8, ya8] at this
    rw [← ht t (by omega)]; omega)
  rw [e] at next
  have e0 : Int.toNat ((i : Int) + k) = i + k := by omega
  have e4 : ((a : Int) * (dg 32 y k : Int)) = ((a * dg 32 y k : Nat) : Int) := by simp
  have e1 : ((c : Int) + (((a * dg 32 y k : Nat) : Int) + (dg 32 N (i + k) : Int))) / 4294967296 = (((c + (a * dg 32 y k + dg 32 N (i + k))) / 4294967296 : Nat) : Int) := by omega
  have e2 : ((c : Int) + (((a * dg 32 y k : Nat) : Int) + (dg 32 N (i + k) : Int))) % 4294967296 = (((c + (a * dg 32 y k + dg 32 N (i + k))) % 4294967296 : Nat) : Int) := by omega
  unfold zbx.l7 zbx.l7.step
  have e5 : yb4 .u64 (a : Int) (dg 32 y k : Int) = ((a * dg 32 y k : Nat) : Int) := by rw [ylX (by rw [e4]; omega) (by rw [e4]; omega), e4]
  simp (disch := omega) only [ya9, ybd, yaD, ya5, Bool.and_self, Int.toNat_natCast, ya8, yaV, yf1, yap, yb8, ybw, e0, e5, e1, e2]
  rw [hG]; exact next
theorem yhW (x y n m : Nat) (hn : n ≤ 1000000) (hm : m ≤ 1000000) (hx : x < 2 ^ (32 * n)) (hy : y < 2 ^ (32 * m)) (c0 m0 : Nat) (k0 : Nat → Nat → Nat → (Nat → Int) → Prop) (h : k0 (n + m) c0 m0 (G 32 (x * y))) :
  ∀ (j i : Nat), i + j = n → zbx.l3 k0 (j + 1) m (G 32 y) (n + m) c0 n (G 32 x) n i m0 (G 32 (x % 2 ^ (32 * i) * y)) := by
 intro j
 induction j with
 | zero =>
  intro i hi
  unfold zbx.l3 zbx.l3.step
  rw [yat (ybj (by omega)), show i = n from by omega, Nat.mod_eq_of_lt hx]
  exact h
 | succ j ih =>
  intro i hi
  have ih := ih (i + 1) (by omega)
  have e : ((i + 1 : Nat) : Int) = (i : Int) + 1 := by omega
  rw [e] at ih
  unfold zbx.l3 zbx.l3.step
  simp (disch := omega) only [ya9, ybd, yaD, ya5, Bool.and_self, Int.toNat_natCast, ya8]
  have hdx := ya6 32 x i
  rw [B32] at hdx
  have hZ : x % 2 ^ (32 * i) * y < 2 ^ (32 * (i + m)) := by
   rw [Nat.mul_add, Nat.pow_add]
   exact Nat.mul_lt_mul_of_lt_of_lt (Nat.mod_lt _ (Nat.two_pow_pos _)) hy
  refine ⟨m + 1, yhq y m hm hy i (dg 32 x i) (by omega) hdx n (x % 2 ^ (32 * i) * y) c0 m0 (n + m) (by omega) (by omega) (G 32 x) n n _ ?_ m 0 _ 0 (by omega) (by omega) (by simp [Nat.mod_one]) (fun t _ => rfl)⟩
  intro N c hc hN hd
  have hd0 : dg 32 N (i + m) = 0 := by rw [hd]; exact ydp 32 _ _ hZ
  simp (disch := omega) only [yap, ya9, ybd, yaD, Bool.and_self, ybw]
  have e0 : Int.toNat ((i : Int) + m) = i + m := by omega
  have e1 : (c : Int) % 4294967296 = (c : Int) := by omega
  rw [e0, e1, ygv (N' := x % 2 ^ (32 * (i + 1)) * y)]
  ·exact ih
  ·rw [hd0, Nat.zero_mul, Nat.add_zero, hN, ybh, Nat.add_mul, Nat.mul_assoc, Nat.mul_assoc, Nat.mul_comm y]
  ·exact hc
theorem ygm (x y n m : Nat) (hn : n ≤ 1000000) (hm : m ≤ 1000000) (hx : x < 2 ^ (32 * n)) (hy : y < 2 ^ (32 * m)) (K : Nat → (Nat → Int) → Prop) (h : K (wl 32 (x * y)) (G 32 (x * y))) : zbx n (G 32 x) m (G 32 y) K := by
 rw [zbx.is]; unfold zbx.d
 have e0 : Int.toNat ((n : Int) + m) = n + m := by omega
 simp (disch := omega) only [yap, ybd, yaD, Bool.and_self, e0]
 refine ⟨n + 1, ?_⟩
 have := yhW x y n m hn hm hx hy (n + m) (n + m) (fun y0 y1 y2 y3 => zbo y0 y1 y2 y3 fun y0 y1 y2 y3 => K y0 y3) ?_ n 0 (by omega)
 ·rw [Nat.mul_zero, Nat.pow_zero, Nat.mod_one, Nat.zero_mul, ycj] at this; exact this
 ·refine ybU (n + m) (n + m) (n + m) (x * y) (by omega) (Nat.le_refl _) ?_ _ fun c => h
  rw [Nat.mul_add, Nat.pow_add]
  exact Nat.mul_lt_mul_of_lt_of_lt hx hy
end Go.Ev.S

/- The functions of natural numbers: held against each other, added, subtracted, multiplied; their texts. -/
set_option linter.unusedVariables false
set_option linter.unusedSimpArgs false
set_option maxRecDepth 8000
namespace Go.Ev.S
open Go Go.Ev
theorem ycm (a b : List UInt8) (K : Bool → Prop) : zbv a b K = K (decide (May a ∧ May b)) := by
 rw [zbv.is]; unfold zbv.d
 rw [yaU, yaU]
 by_cases ha : May a
 ·rw [if_pos ha, yaC (by rfl)]
  by_cases hb : May b
  ·rw [if_pos hb]; simp [ha, hb]; rfl
  ·rw [if_neg hb]; simp [ha, hb]; rfl
 ·rw [if_neg ha, yat (by rfl)]; simp [ha]
theorem yq3 (x : Nat) : wl 32 x = (wl 8 x + 3) / 4 := by
 have e : ∀ m, wl 32 x ≤ m ↔ wl 8 x ≤ 4 * m := fun m => by
  rw [ydI 32 (by omega), ydI 8 (by omega), show 8 * (4 * m) = 32 * m from by omega]
 have h1 := (e (wl 32 x)).1 (Nat.le_refl _)
 have h2 := (e ((wl 8 x + 3) / 4)).2 (by omega)
 omega
theorem ylr {a : List UInt8} (h : yiw a = true) : wl 8 (val a) = a.length := by rw [yt3, yiV h]
theorem ynf {a : List UInt8} (h : yiw a = true) : (a.length + 3) / 4 = wl 32 (val a) := by rw [yq3, ylr h]
theorem yry {x y n : Nat} (hx : wl 32 x ≤ n) (hy : wl 32 y ≤ n) : wl 32 (x + y) ≤ n + 1 := by
 have h1 := (ydI 32 (by omega) _ _).1 hx
 have h2 := (ydI 32 (by omega) _ _).1 hy
 exact (ydI 32 (by omega) _ _).2 (by rw [ycv, B32]; omega)
theorem May.words {a : List UInt8} (h : May a) (K : Nat → (Nat → Int) → Prop) (hk : K (wl 32 (val a)) (G 32 (val a))) : zcb a K := by
 refine ygh a (by have := h.1; omega) K ?_
 rw [ynf h.2]; exact hk
theorem May.wl {a : List UInt8} (h : May a) : wl 32 (val a) ≤ 4096 := by rw [← ynf h.2]; have := h.1; omega
theorem May.lt {a : List UInt8} (h : May a) : val a < 2 ^ (32 * Ev.S.wl 32 (val a)) := yeR 32 (by omega) _
theorem May.nb {a : List UInt8} (h : May a) : nb (val a) = a := yiV h.2
theorem ybJ (x : Nat) : x < 2 ^ (32 * wl 32 x) := yeR 32 (by omega) _
def ypa (K : List UInt8 → Int → Prop) (x : Nat) : Prop := if 16384 < (nb x).length then K [] 4 else K (nb x) 0
theorem yny (a b : List UInt8) (K : Int → Int → Prop) (h1 : ¬ (May a ∧ May b) → K 0 2) (h2 : May a → May b → K (sgn (val a) (val b)) 0) : zbb a b K := by
 rw [zbb.is]; unfold zbb.d
 rw [ycm]
 by_cases h : May a ∧ May b
 ·rw [yat (by simp [h])]
  refine h.1.words _ (h.2.words _ ?_)
  have := h.1.wl; have := h.2.wl
  exact yfS _ _ _ _ (by omega) (by omega) rfl rfl _ (h2 h.1 h.2)
 ·rw [yaC (by simp [h])]; exact h1 h
theorem yom (a b : List UInt8) (K : List UInt8 → Int → Prop) (h1 : ¬ (May a ∧ May b) → K [] 2) (h2 : May a → May b → ypa K (val a + val b)) : zaz a b K := by
 rw [zaz.is]; unfold zaz.d
 rw [ycm]
 by_cases h : May a ∧ May b
 ·rw [yat (by simp [h])]
  refine h.1.words _ (h.2.words _ ?_)
  have w1 := h.1.wl; have w2 := h.2.wl
  refine yiF _ _ _ _ (by omega) (by omega) h.1.lt h.2.lt _ ?_
  refine yeL _ _ ?_ (ybJ _) _ (h2 h.1 h.2)
  have := yry w1 w2
  omega
 ·rw [yaC (by simp [h])]; exact h1 h
theorem yjQ (x y : Nat) : ltI (sgn x y) 0 = decide (x < y) := by
 unfold sgn
 by_cases h : x < y
 ·rw [if_pos h, ya9 (by omega)]; simp [h]
 ·rw [if_neg h]
  by_cases h2 : y < x
  ·rw [if_pos h2, ybj (by omega)]; simp [h]
  ·rw [if_neg h2, ybj (by omega)]; simp [h]
theorem yoj (a b : List UInt8) (K : List UInt8 → Int → Prop) (h1 : ¬ (May a ∧ May b) → K [] 2) (h3 : May a → May b → 16385 < a.length + b.length → val a ≠ 0 → val b ≠ 0 → K [] 4)
  (h2 : May a → May b → (a.length + b.length ≤ 16385 ∨ val a * val b = 0) → ypa K (val a * val b)) : zbh a b K := by
 rw [zbh.is]; unfold zbh.d
 rw [ycm]
 have t0 : ∀ {x y : List UInt8}, May a → May b → (val a * val b = 0) → K [] 0 := by
  intro x y ha hb h0
  have := h2 ha hb (.inr h0)
  rw [h0] at this
  unfold ypa at this
  rw [yaH] at this
  simpa using this
 by_cases h : May a ∧ May b
 ·rw [yat (by simp [h]), ybf, ybf]
  by_cases ha0 : a = []
  ·rw [yaC (by simp [ha0])]; exact t0 (x := a) (y := b) h.1 h.2 (by rw [ha0, yeS, Nat.zero_mul])
  ·rw [yat (by simp [ha0])]
   by_cases hb0 : b = []
   ·rw [yaC (by simp [hb0])]; exact t0 (x := a) (y := b) h.1 h.2 (by rw [hb0, yeS, Nat.mul_zero])
   ·rw [yat (by simp [hb0])]
    have l1 := h.1.1; have l2 := h.2.1
    have nz : ∀ {c : List UInt8}, May c → c ≠ [] → val c ≠ 0 := fun hc hn e => by
     have := hc.nb; rw [e, yaH] at this; exact hn this.symm
    rw [yap (by omega) (by omega)]
    by_cases hl : 16385 < a.length + b.length
    ·rw [yaC (ya9 (by omega))]; exact h3 h.1 h.2 hl (nz h.1 ha0) (nz h.2 hb0)
    ·rw [yat (ybj (by omega))]
     refine h.1.words _ (h.2.words _ ?_)
     have w1 := h.1.wl; have w2 := h.2.wl
     refine ygm _ _ _ _ (by omega) (by omega) h.1.lt h.2.lt _ ?_
     refine yeL _ _ ?_ (ybJ _) _ (h2 h.1 h.2 (.inl (by omega)))
     have e1 := Nat.mul_lt_mul_of_lt_of_lt h.1.lt h.2.lt
     rw [← Nat.pow_add, ← Nat.mul_add] at e1
     have := (ydI 32 (by omega) (val a * val b) _).2 e1
     omega
 ·rw [yaC (by simp [h])]; exact h1 h
theorem yji : ∀ (a b : List UInt8), a.length = b.length → Op.bytesLess a b = decide (val a < val b) := by
 intro a
 induction a with
 | nil => intro b h; cases b with
  | nil => rfl
  | cons _ _ => simp at h
 | cons x l ih =>
  intro b h
  cases b with
  | nil => exact absurd h (by simp)
  | cons y r =>
   have hl : l.length = r.length := by simpa using h
   have h1 := ygb l
   have h2 := ygb r
   rw [hl] at h1
   rw [ygG, ygG, hl]
   simp only [Op.bytesLess]
   rw [ih r hl]
   have hP := Nat.pow_pos (n := r.length) (show 0 < 256 by omega)
   generalize 256 ^ r.length = P at *
   by_cases hxy : x = y
   ·subst hxy; simp
   ·have hne : x.toNat ≠ y.toNat := fun e => hxy (UInt8.toNat_inj.1 e)
    have e1 : (x == y) = false := by simpa using hxy
    rw [e1, Bool.false_and, Bool.or_false]
    rw [decide_eq_decide, UInt8.lt_iff_toNat_lt]
    constructor
    ·intro hlt
     have : (x.toNat + 1) * P ≤ y.toNat * P := Nat.mul_le_mul_right _ hlt
     rw [Nat.add_mul] at this; omega
    ·intro hlt
     apply Classical.byContradiction
     intro hc
     have : (y.toNat + 1) * P ≤ x.toNat * P := Nat.mul_le_mul_right _ (by omega)
     rw [Nat.add_mul] at this; omega
theorem yrT (a b : List UInt8) (h : a.length = b.length) : ltS a b = decide (val a < val b) := yji a b h
theorem yjZ (a b : List UInt8) : eqS a b = decide (a = b) := by
 unfold eqS
 by_cases h : a = b <;> simp [h]
def yus (n : Nat) : UInt8 := UInt8.ofNat (if n < 10 then 48 + n else 87 + n)
def hx (x : Nat) : List UInt8 := if h : x = 0 then [] else hx (x / 16) ++ [yus (x % 16)]
decreasing_by omega
theorem ytR {a b : Nat} (h : a ≤ b) : leN a b = true := Nat.ble_eq_true_of_le h
end Go.Ev.S

/- Natural numbers as rows of words: moved to the left and to the right; how long they are. -/
set_option linter.unusedVariables false
set_option linter.unusedSimpArgs false
set_option maxRecDepth 8000
namespace Go.Ev.S
open Go Go.Ev
theorem yfZ {d m r : Nat} (hd : d < 2 ^ r) (hm : m % 2 ^ r = 0) : d ||| m = d + m := by
 have h5 := Nat.div_add_mod m (2 ^ r)
 rw [hm, Nat.add_zero, Nat.mul_comm] at h5
 have := Nat.shiftLeft_add_eq_or_of_lt hd (m / 2 ^ r)
 rw [Nat.shiftLeft_eq, h5] at this
 rw [Nat.or_comm, ← this, Nat.add_comm]
theorem B64 : (2 : Nat) ^ 64 = 18446744073709551616 := rfl
theorem ykY (a r : Nat) (ha : a < 4294967296) (hr : r < 32) : ybE .u64 (a : Int) (r : Int) = ((a * 2 ^ r : Nat) : Int) ∧ a * 2 ^ r < 9223372036854775808 := by
 have h1 : a * 2 ^ r < 2 ^ 63 := by
  have h2 : a * 2 ^ r < 2 ^ 32 * 2 ^ 31 := Nat.mul_lt_mul_of_lt_of_le (by rw [B32]; exact ha) (Nat.pow_le_pow_right (by omega) (by omega)) (Nat.two_pow_pos _)
  rwa [← Nat.pow_add] at h2
 have e63 : (2 : Nat) ^ 63 = 9223372036854775808 := rfl
 have hb : IntKind.bits .u64 = 64 := rfl
 refine ⟨?_, by omega⟩
 rw [yn8 (k := .u64) rfl a r (by rw [hb]; omega), hb, Nat.mod_eq_of_lt (by rw [B64]; omega)]
theorem ylH (s B P : Nat) : s % B * P + s / B * (P * B) = s * P := by
 have := Nat.div_add_mod s B
 conv => rhs; rw [← this]
 rw [Nat.add_mul, Nat.mul_comm B, Nat.mul_assoc, Nat.mul_comm B, Nat.add_comm]
theorem ysv (x i s t y N : Nat) (ht : t = i + s / 32) (hy : dg 32 x i * 2 ^ (s % 32) = y) (hNN : x % 2 ^ (32 * i) * 2 ^ s = N) :
  ∃ N1, upd (G 32 N) t (((dg 32 N t ||| y % 4294967296 : Nat)) : Int) = G 32 N1 ∧ dg 32 N1 (t + 1) = 0 ∧ upd (G 32 N1) (t + 1) ((y / 4294967296 : Nat) : Int) = G 32 (x % 2 ^ (32 * (i + 1)) * 2 ^ s) := by
 have hdx := ya6 32 x i
 rw [B32] at hdx
 have hr : s % 32 < 32 := Nat.mod_lt _ (by omega)
 have hx := Nat.mod_lt x (Nat.two_pow_pos (32 * i))
 have hp : 2 ^ (32 * i) * 2 ^ s = 2 ^ (32 * t + s % 32) := by rw [← Nat.pow_add]; congr 1; omega
 have hN : N < 2 ^ (32 * t + s % 32) := by
  rw [← hp, ← hNN]; exact Nat.mul_lt_mul_of_pos_right hx (Nat.two_pow_pos _)
 have hlow := ynp 32 N t (s % 32) hN
 have hN1 : N < 2 ^ (32 * (t + 1)) := Nat.lt_of_lt_of_le hN (Nat.pow_le_pow_right (by omega) (by omega))
 have hym : y % 4294967296 % 2 ^ (s % 32) = 0 := by
  rw [show (4294967296 : Nat) = 2 ^ 32 from rfl, Nat.mod_mod_of_dvd _ (Nat.pow_dvd_pow 2 (by omega)), ← hy]
  exact Nat.mul_mod_left _ _
 have hor : dg 32 N t ||| y % 4294967296 = dg 32 N t + y % 4294967296 := yfZ hlow hym
 have hsum : dg 32 N t + y % 4294967296 < 2 ^ 32 := by
  rw [← hor]; exact Nat.or_lt_two_pow (ya6 32 N t) (by rw [B32]; exact Nat.mod_lt _ (by omega))
 have hyl : y / 4294967296 < 2 ^ 32 := by
  rw [B32, Nat.div_lt_iff_lt_mul (by omega), ← hy]
  have : dg 32 x i * 2 ^ (s % 32) < 2 ^ 32 * 2 ^ 32 := Nat.mul_lt_mul_of_lt_of_le (by rw [B32]; exact hdx) (Nat.pow_le_pow_right (by omega) (by omega)) (Nat.two_pow_pos _)
  rw [B32] at this; exact this
 have hG1 : upd (G 32 N) t (((dg 32 N t ||| y % 4294967296 : Nat)) : Int) = G 32 (N + y % 4294967296 * 2 ^ (32 * t)) := by
  rw [hor]
  refine ygv ?_ hsum
  rw [Nat.add_mul]; omega
 have hlt : N + y % 4294967296 * 2 ^ (32 * t) < 2 ^ (32 * (t + 1)) := by
  have hNl : N = N % 2 ^ (32 * t) + dg 32 N t * 2 ^ (32 * t) := by
   have := ybh 32 N t
   rw [Nat.mod_eq_of_lt hN1] at this; exact this
  have h1 := yiu 32 (N % 2 ^ (32 * t)) (dg 32 N t + y % 4294967296) t (Nat.mod_lt _ (Nat.two_pow_pos _)) hsum
  rw [Nat.add_mul] at h1
  omega
 refine ⟨N + y % 4294967296 * 2 ^ (32 * t), hG1, ydp 32 _ _ hlt, ?_⟩
 rw [yh5 32 _ _ (t + 1) hlt hyl]
 refine congrArg (G 32) ?_
 have h2 := ylH y 4294967296 (2 ^ (32 * t))
 rw [ycv, B32]
 have h3 : y * 2 ^ (32 * t) = dg 32 x i * 2 ^ (32 * i) * 2 ^ s := by
  rw [← hy, Nat.mul_assoc, ← Nat.pow_add, Nat.mul_assoc, ← Nat.pow_add]; congr 2; omega
 rw [ybh, Nat.add_mul, hNN, ← h3]
 omega
theorem ylJ (x n s : Nat) (hn : n ≤ 1000000) (hs : s ≤ 100000000) (hx : x < 2 ^ (32 * n)) (c0 m0 : Nat) (k0 : Nat → Nat → Nat → (Nat → Int) → Prop) (h : k0 (n + s / 32 + 1) c0 m0 (G 32 (x * 2 ^ s))) :
  ∀ (j i : Nat), i + j = n → zbz.l5 k0 (j + 1) s (n + s / 32 + 1) c0 n (G 32 x) n i m0 (G 32 (x % 2 ^ (32 * i) * 2 ^ s)) := by
 intro j
 induction j with
 | zero =>
  intro i hi
  unfold zbz.l5 zbz.l5.step
  rw [yat (ybj (by omega)), show i = n from by omega, Nat.mod_eq_of_lt hx]
  exact h
 | succ j ih =>
  intro i hi
  have ih := ih (i + 1) (by omega)
  have e : ((i + 1 : Nat) : Int) = (i : Int) + 1 := by omega
  obtain ⟨N1, u1, u2, u3⟩ := ysv x i s _ _ _ rfl rfl rfl
  rw [e, ← u3] at ih
  have hd := ya6 32 x i
  rw [B32] at hd
  obtain ⟨q1, q2⟩ := ykY (dg 32 x i) (s % 32) hd (Nat.mod_lt _ (by omega))
  have e1 : Int.toNat ((i : Int) + (s : Int) / 32) = i + s / 32 := by omega
  have e2 : Int.toNat ((i : Int) + (s : Int) / 32 + 1) = i + s / 32 + 1 := by omega
  have e3 : (s : Int) % 32 = ((s % 32 : Nat) : Int) := by omega
  have e4 : ((dg 32 x i * 2 ^ (s % 32) : Nat) : Int) % 4294967296 = ((dg 32 x i * 2 ^ (s % 32) % 4294967296 : Nat) : Int) := by omega
  have e5 : ((dg 32 x i * 2 ^ (s % 32) : Nat) : Int) / 4294967296 % 4294967296 = ((dg 32 x i * 2 ^ (s % 32) / 4294967296 : Nat) : Int) := by omega
  have hb : IntKind.bits .u32 = 32 := rfl
  have o1 : orI .u32 ((dg 32 (x % 2 ^ (32 * i) * 2 ^ s) (i + s / 32) : Nat) : Int) ((dg 32 x i * 2 ^ (s % 32) % 4294967296 : Nat) : Int) = ((dg 32 (x % 2 ^ (32 * i) * 2 ^ s) (i + s / 32) ||| dg 32 x i * 2 ^ (s % 32) % 4294967296 : Nat) : Int) :=
   ysg (k := .u32) rfl _ _ (by rw [hb]; exact ya6 32 _ _) (by rw [hb, B32]; exact Nat.mod_lt _ (by omega))
  have o2 : orI .u32 ((0 : Nat) : Int) ((dg 32 x i * 2 ^ (s % 32) / 4294967296 : Nat) : Int) = ((dg 32 x i * 2 ^ (s % 32) / 4294967296 : Nat) : Int) := by
   rw [ysg (k := .u32) rfl _ _ (by rw [hb, B32]; omega) (by rw [hb, B32]; omega), Nat.zero_or]
  unfold zbz.l5 zbz.l5.step
  simp (disch := omega) only [ya9, ybj, ybd, yaD, ya5, Bool.and_self, Bool.not_false, Int.toNat_natCast, ybX, yhx, yap, yaV, ya8, e1, e2, e3, q1, ybw, yb8, e4, e5, o1, u1, u2, o2]
  exact ih
theorem yiD (x n s : Nat) (hn : n ≤ 1000000) (hs : s ≤ 100000000) (hx : x < 2 ^ (32 * n)) : x * 2 ^ s < 2 ^ (32 * (n + s / 32 + 1)) := by
 have : x * 2 ^ s < 2 ^ (32 * n) * 2 ^ s := Nat.mul_lt_mul_of_pos_right hx (Nat.two_pow_pos _)
 rw [← Nat.pow_add] at this
 exact Nat.lt_of_lt_of_le this (Nat.pow_le_pow_right (by omega) (by omega))
theorem yfk (x n s : Nat) (hn : n ≤ 1000000) (hs : s ≤ 100000000) (hx : x < 2 ^ (32 * n)) (K0 : Prop) (K1 : Nat → Nat → Nat → (Nat → Int) → Prop) (h0 : n = 0 → K0) (h1 : n ≠ 0 → ∀ c m, K1 (wl 32 (x * 2 ^ s)) c m (G 32 (x * 2 ^ s))) :
  zbz n (G 32 x) s K0 K1 := by
 rw [zbz.is]; unfold zbz.d
 by_cases hz : n = 0
 ·rw [yaC (yj8 (by omega))]; exact h0 hz
 ·rw [yat (ygq (by omega))]
  have e1 : Int.toNat ((n : Int) + (s : Int) / 32 + 1) = n + s / 32 + 1 := by omega
  simp (disch := omega) only [ybX, yap, ybd, yaD, Bool.and_self, e1]
  refine ⟨n + 1, ?_⟩
  have := ylJ x n s hn hs hx (n + s / 32 + 1) (n + s / 32 + 1) (fun y0 y1 y2 y3 => zbo y0 y1 y2 y3 fun y0 y1 y2 y3 => K1 y0 y1 y2 y3) ?_ n 0 (by omega)
  ·rw [Nat.mul_zero, Nat.pow_zero, Nat.mod_one, Nat.zero_mul, ycj] at this; exact this
  ·exact ybU _ _ _ _ (by omega) (Nat.le_refl _) (yiD x n s hn hs hx) _ fun c => h1 hz c _
theorem ysk (x s i : Nat) : (dg 32 x (i + s / 32) + dg 32 x (i + s / 32 + 1) * 4294967296) / 2 ^ (s % 32) % 4294967296 = dg 32 (x / 2 ^ s) i := by
 have hr : s % 32 < 32 := Nat.mod_lt _ (by omega)
 have h1 : dg 32 x (i + s / 32) + dg 32 x (i + s / 32 + 1) * 4294967296 = x / 2 ^ (32 * (i + s / 32)) % 2 ^ 64 := by
  have a := ydb 32 x (i + s / 32)
  have b := ydb 32 x (i + s / 32 + 1)
  rw [B32] at a b
  rw [a, b, B64]
  have c := ya6 32 x (i + s / 32)
  have d := ya6 32 x (i + s / 32 + 1)
  rw [B32] at c d
  omega
 rw [h1]
 unfold dg
 rw [Nat.div_div_eq_div_mul, ← Nat.pow_add]
 have h2 : (2 : Nat) ^ 64 = 2 ^ (s % 32) * 2 ^ (64 - s % 32) := by rw [← Nat.pow_add]; congr 1; omega
 rw [h2, Nat.mod_mul_right_div_self, Nat.div_div_eq_div_mul, ← Nat.pow_add, show (4294967296 : Nat) = 2 ^ 32 from rfl, Nat.mod_mod_of_dvd _ (Nat.pow_dvd_pow 2 (by omega))]
 congr 3; omega
theorem yjR (x n s : Nat) (hn : n ≤ 1000000) (hx : x < 2 ^ (32 * n)) (hs : s / 32 < n) (c0 m0 : Nat) (k0 : Nat → Nat → Nat → (Nat → Int) → Prop) (h : k0 (n - s / 32) c0 m0 (G 32 (x / 2 ^ s % 2 ^ (32 * (n - s / 32))))) :
  ∀ (j i : Nat), i + j = n - s / 32 → zbq.l5 k0 (j + 1) n (G 32 x) s (n - s / 32) c0 ((n - s / 32 : Nat) : Int) i m0 (G 32 (x / 2 ^ s % 2 ^ (32 * i))) := by
 intro j
 induction j with
 | zero =>
  intro i hi
  unfold zbq.l5 zbq.l5.step
  rw [yat (ybj (by omega)), show i = n - s / 32 from by omega]
  exact h
 | succ j ih =>
  intro i hi
  have ih := ih (i + 1) (by omega)
  have e : ((i + 1 : Nat) : Int) = (i : Int) + 1 := by omega
  have hr : s % 32 < 32 := Nat.mod_lt _ (by omega)
  have hw := ysk x s i
  have hdw := ya6 32 (x / 2 ^ s) i
  rw [e, ybh, ← yh5 32 _ _ i (Nat.mod_lt _ (Nat.two_pow_pos _)) hdw, ← hw] at ih
  have hd := ya6 32 x (i + s / 32)
  have hd2 := ya6 32 x (i + s / 32 + 1)
  rw [B32] at hd hd2
  have e1 : Int.toNat ((i : Int) + (s : Int) / 32) = i + s / 32 := by omega
  have e2 : Int.toNat ((i : Int) + (s : Int) / 32 + 1) = i + s / 32 + 1 := by omega
  have e3 : (s : Int) % 32 = ((s % 32 : Nat) : Int) := by omega
  have hb : IntKind.bits .u64 = 64 := rfl
  have sh : ∀ z : Nat, yaO .u64 (z : Int) ((s % 32 : Nat) : Int) = ((z / 2 ^ (s % 32) : Nat) : Int) := fun z => by
   rw [yeK (k := .u64) (by rw [hb]; omega)]; simp
  unfold zbq.l5 zbq.l5.step
  by_cases hlt : i + s / 32 + 1 < n
  ·have o1 : orI .u64 ((dg 32 x (i + s / 32) : Nat) : Int) (ybE .u64 ((dg 32 x (i + s / 32 + 1) : Nat) : Int) 32) = ((dg 32 x (i + s / 32) + dg 32 x (i + s / 32 + 1) * 4294967296 : Nat) : Int) := by
    have := yn8 (k := .u64) rfl (dg 32 x (i + s / 32 + 1)) 32 (by rw [hb]; omega)
    rw [show ((32 : Nat) : Int) = 32 from rfl] at this
    rw [this, hb, B32, Nat.mod_eq_of_lt (by rw [B64]; omega), ysg (k := .u64) rfl _ _ (by rw [hb, B64]; omega) (by rw [hb, B64]; omega)]
    congr 1
    exact yfZ (r := 32) (by rw [B32]; exact hd) (by rw [B32]; exact Nat.mul_mod_left _ _)
   have e4 : (((dg 32 x (i + s / 32) + dg 32 x (i + s / 32 + 1) * 4294967296) / 2 ^ (s % 32) : Nat) : Int) % 4294967296 = (((dg 32 x (i + s / 32) + dg 32 x (i + s / 32 + 1) * 4294967296) / 2 ^ (s % 32) % 4294967296 : Nat) : Int) := by omega
   simp (disch := omega) only [ya9, ybj, ybd, yaD, ya5, Bool.and_self, Bool.not_false, Int.toNat_natCast, ybX, yhx, yap, yaV, ya8, e1, e2, e3, o1, sh, ybw, e4]
   exact ih
  ·have hz : dg 32 x (i + s / 32 + 1) = 0 := ydT 32 x n _ hx (by omega)
   rw [hz, Nat.zero_mul, Nat.add_zero] at ih
   have e4 : ((dg 32 x (i + s / 32) / 2 ^ (s % 32) : Nat) : Int) % 4294967296 = ((dg 32 x (i + s / 32) / 2 ^ (s % 32) % 4294967296 : Nat) : Int) := by omega
   simp (disch := omega) only [ya9, ybj, ybd, yaD, ya5, yeu, Bool.and_self, Bool.not_false, Int.toNat_natCast, ybX, yhx, yap, yaV, ya8, e1, e2, e3, sh, ybw, e4]
   exact ih
theorem ye0 (x n s : Nat) (hn : n ≤ 1000000) (hs : s < 9223372036854775808) (hx : x < 2 ^ (32 * n)) (K : Nat → (Nat → Int) → Prop) (h : K (wl 32 (x / 2 ^ s)) (G 32 (x / 2 ^ s))) : zbq n (G 32 x) s K := by
 rw [zbq.is]; unfold zbq.d
 rw [ybX (by omega) (by omega) (by omega)]
 by_cases hlt : n ≤ s / 32
 ·rw [yaC (ybd (by omega))]
  have hz : x / 2 ^ s = 0 := Nat.div_eq_of_lt (Nat.lt_of_lt_of_le hx (Nat.pow_le_pow_right (by omega) (by omega)))
  rw [hz, yc0, ycj] at h
  exact h
 ·rw [yat (yf7 (by omega))]
  have e1 : Int.toNat ((n : Int) - (s : Int) / 32) = n - s / 32 := by omega
  have e2 : (n : Int) - (s : Int) / 32 = ((n - s / 32 : Nat) : Int) := by omega
  simp (disch := omega) only [yas, ybd, yaD, Bool.and_self, e1]
  have hlt2 : x / 2 ^ s < 2 ^ (32 * (n - s / 32)) := by
   rw [Nat.div_lt_iff_lt_mul (Nat.two_pow_pos _), ← Nat.pow_add]
   exact Nat.lt_of_lt_of_le hx (Nat.pow_le_pow_right (by omega) (by omega))
  refine ⟨n - s / 32 + 1, ?_⟩
  have := yjR x n s hn hx (by omega) (n - s / 32) (n - s / 32) (fun y0 y1 y2 y3 => zbo y0 y1 y2 y3 fun y0 y1 y2 y3 => K y0 y3) ?_ (n - s / 32) 0 (by omega)
  ·rw [Nat.mul_zero, Nat.pow_zero, Nat.mod_one, ycj] at this; exact this
  ·rw [Nat.mod_eq_of_lt hlt2]
   exact ybU _ _ _ _ (by omega) (Nat.le_refl _) hlt2 _ fun c => h
theorem yj3 (k x : Nat) (hk : k ≠ 0) (hx : x ≠ 0) : yav x = k * (wl k x - 1) + yav (dg k x (wl k x - 1)) := by
 have h1 := yeR k hk x
 have hp : wl k x ≠ 0 := by rw [yhP hx hk]; omega
 have h2 : x / 2 ^ (k * (wl k x - 1)) = dg k x (wl k x - 1) := by
  have := ydb k x (wl k x - 1)
  rw [show wl k x - 1 + 1 = wl k x from by omega, Nat.div_eq_of_lt h1] at this
  omega
 have h3 := ymP k hk x hx
 rw [← h2] at h3 ⊢
 exact yey h3
theorem yjO (x : Nat) (hw : wl 32 x ≤ 1000000) (K : Int → Prop) (h : K (yav x)) : zbr (wl 32 x) (G 32 x) K := by
 rw [zbr.is]; unfold zbr.d
 by_cases hx : x = 0
 ·subst hx
  rw [yc0, yaC (yj8 (by omega))]; exact h
 ·have hp : wl 32 x ≠ 0 := by rw [yhP hx (by omega)]; omega
  have hb := yj3 32 x (by omega) hx
  have hd := ya6 32 x (wl 32 x - 1)
  rw [B32] at hd
  have e1 : Int.toNat ((wl 32 x : Int) - 1) = wl 32 x - 1 := by omega
  rw [yat (ygq (by omega))]
  simp (disch := omega) only [yas, ya9, ybd, yaD, Bool.and_self, e1, ya8, yaV]
  refine ydn _ (by omega) _ ?_
  have hl : yav (dg 32 x (wl 32 x - 1)) ≤ 32 := (yaI _ _).2 (by rw [B32]; exact hd)
  simp (disch := omega) only [yb1, yap]
  rw [show 32 * ((wl 32 x : Int) - 1) + (yav (dg 32 x (wl 32 x - 1)) : Int) = ((yav x : Nat) : Int) from by rw [hb]; omega]
  exact h
theorem yoZ (b : UInt8) (l : List UInt8) : dg 8 (val (b :: l)) l.length = b.toNat := by
 have := ync (b :: l) l.length (by simp)
 rw [show (b :: l).length - 1 - l.length = 0 from by simp] at this
 exact this.symm
theorem yfI (a : List UInt8) (K : Int → Prop) (h : K (if May a then (yav (val a) : Int) else 0)) : zbf a K := by
 rw [zbf.is]; unfold zbf.d
 rw [yaU]
 by_cases hm : May a
 ·rw [if_pos hm] at h
  rw [if_pos hm, yat (by rfl), ybf]
  cases a with
  | nil => rw [yaC (by simp)]; exact h
  | cons b l =>
   have hl := hm.1
   rw [List.length_cons] at hl
   have hv : val (b :: l) ≠ 0 := fun e => by have := hm.nb; rw [e, yaH] at this; cases this
   have hb := yj3 8 _ (by omega) hv
   rw [ylr hm.2, List.length_cons, Nat.add_sub_cancel, yoZ] at hb
   have hbl := ypd b
   rw [yat (by simp), yby (ya9 (by rw [List.length_cons]; omega)), ydm, yaV (by omega) (by omega)]
   refine ydn _ (by omega) _ ?_
   have h8 : yav b.toNat ≤ 8 := (yaI _ _).2 hbl
   rw [List.length_cons]
   simp (disch := omega) only [yas, yb1, yap]
   rw [show 8 * (((l.length + 1 : Nat) : Int) - 1) + (yav b.toNat : Int) = ((yav (val (b :: l)) : Nat) : Int) from by rw [hb]; omega]
   exact h
 ·rw [if_neg hm] at h
  rw [if_neg hm, yaC (by rfl)]; exact h
def ybm (x : Nat) : Nat := if h : x % 2 = 1 ∨ x = 0 then 0 else ybm (x / 2) + 1
decreasing_by omega
theorem ydS (x : Nat) (h : x ≠ 0) : ∃ q, x = 2 ^ ybm x * (2 * q + 1) := by
 induction x using Nat.strongRecOn with
 | _ x ih =>
  by_cases h1 : x % 2 = 1
  ·have : ybm x = 0 := by rw [ybm]; simp [h1]
   exact ⟨x / 2, by rw [this, Nat.pow_zero, Nat.one_mul]; omega⟩
  ·have : ybm x = ybm (x / 2) + 1 := by rw [ybm]; rw [dif_neg (by omega)]
   obtain ⟨q, hq⟩ := ih (x / 2) (by omega) (by omega)
   refine ⟨q, ?_⟩
   rw [this, Nat.pow_succ, Nat.mul_assoc, Nat.mul_comm 2, ← Nat.mul_assoc, ← hq]; omega
theorem yl4 (k q : Nat) : ybm (2 ^ k * (2 * q + 1)) = k := by
 induction k with
 | zero => rw [ybm]; rw [dif_pos (by left; omega)]
 | succ k ih =>
  have hp := Nat.two_pow_pos k
  have hpos : 0 < 2 ^ k * (2 * q + 1) := Nat.mul_pos hp (by omega)
  have e : 2 ^ (k + 1) * (2 * q + 1) = 2 * (2 ^ k * (2 * q + 1)) := by rw [Nat.pow_succ, Nat.mul_comm (2 ^ k) 2, Nat.mul_assoc]
  rw [e, ybm, dif_neg (by omega), show 2 * (2 ^ k * (2 * q + 1)) / 2 = 2 ^ k * (2 * q + 1) from by omega, ih]
theorem ykP (x t : Nat) (h0 : x % 2 ^ (8 * t) = 0) (hd : dg 8 x t ≠ 0) : ybm x = 8 * t + ybm (dg 8 x t) := by
 obtain ⟨q, hq⟩ := ydS _ hd
 have hlt := ya6 8 x t
 have hk : ybm (dg 8 x t) < 8 := by
  apply Classical.byContradiction
  intro hc
  have h1 : 2 ^ 8 ≤ 2 ^ ybm (dg 8 x t) := Nat.pow_le_pow_right (by omega) (by omega)
  have h2 : 2 ^ ybm (dg 8 x t) * 1 ≤ 2 ^ ybm (dg 8 x t) * (2 * q + 1) := Nat.mul_le_mul_left _ (by omega)
  omega
 have hx := ygT 8 x t
 rw [h0, Nat.zero_add] at hx
 generalize hkk : ybm (dg 8 x t) = k at *
 have h8 : (2 : Nat) ^ (8 * (t + 1)) = 2 ^ (8 * t) * (2 ^ k * (2 * 2 ^ (7 - k))) := by
  rw [show (2 : Nat) * 2 ^ (7 - k) = 2 ^ (8 - k) from by rw [show 8 - k = 7 - k + 1 from by omega, Nat.pow_succ, Nat.mul_comm], ← Nat.pow_add, ← Nat.pow_add]; congr 1; omega
 have e : x = 2 ^ (8 * t + k) * (2 * (q + x / 2 ^ (8 * (t + 1)) * 2 ^ (7 - k)) + 1) := by
  conv => lhs; rw [hx, hq]
  generalize x / 2 ^ (8 * (t + 1)) = y
  rw [h8, Nat.pow_add]
  generalize 2 ^ (8 * t) = P
  generalize 2 ^ k = Q
  generalize 2 ^ (7 - k) = R
  have e1 : y * (P * (Q * (2 * R))) = P * Q * (2 * (y * R)) := by
   rw [Nat.mul_left_comm y P, Nat.mul_left_comm y Q, Nat.mul_left_comm y 2, ← Nat.mul_assoc P]
  rw [e1, Nat.mul_comm (Q * _) P, ← Nat.mul_assoc, ← Nat.mul_add]
  congr 1; omega
 have := yl4 (8 * t + k) (q + x / 2 ^ (8 * (t + 1)) * 2 ^ (7 - k))
 rw [← e] at this
 exact this
theorem yhc : ybm 0 = 0 := by rw [ybm]; simp
theorem yk2 (a : List UInt8) (hl : a.length ≤ 100000) (k0 : Int → Prop) (k1 : Prop) (h0 : val a ≠ 0 → k0 (ybm (val a))) (h1 : val a = 0 → k1) :
  ∀ (j t : Nat), t + j = a.length → val a % 2 ^ (8 * t) = 0 → zbg.l4 k0 k1 (j + 1) a ((a.length : Int) - 1 - t) := by
 intro j
 induction j with
 | zero =>
  intro t ht hm
  unfold zbg.l4 zbg.l4.step
  rw [yat (yf7 (by omega))]
  refine h1 ?_
  rw [Nat.mod_eq_of_lt (by have := ygb a; rw [ymU] at this; rwa [show t = a.length from by omega])] at hm
  exact hm
 | succ j ih =>
  intro t ht hm
  have hd := ya6 8 (val a) t
  have e8 : (2 : Nat) ^ 8 = 256 := rfl
  have e1 : Int.toNat ((a.length : Int) - 1 - t) = a.length - 1 - t := by omega
  have e2 : (a.length : Int) - 1 - ((a.length : Int) - 1 - t) = t := by omega
  have e3 : (a.length : Int) - 1 - t - 1 = (a.length : Int) - 1 - ((t + 1 : Nat) : Int) := by omega
  unfold zbg.l4 zbg.l4.step
  simp (disch := omega) only [ya9, ybd, yaD, ya5, Bool.and_self, e1]
  rw [ye5 a t (by omega)]
  by_cases hz : dg 8 (val a) t = 0
  ·rw [yj8 (by omega), yat (by rfl)]
   simp (disch := omega) only [yas, e3]
   refine ih (t + 1) (by omega) ?_
   rw [ybh, hm, hz]; omega
  ·rw [ygq (by omega), yaC (by rfl), yaV (by omega) (by omega)]
   obtain ⟨q, hq⟩ := ydS _ hz
   have hk : ybm (dg 8 (val a) t) < 64 := by
    apply Classical.byContradiction
    intro hc
    have h1 : 2 ^ 64 ≤ 2 ^ ybm (dg 8 (val a) t) := Nat.pow_le_pow_right (by omega) (by omega)
    have h2 : 2 ^ ybm (dg 8 (val a) t) * 1 ≤ 2 ^ ybm (dg 8 (val a) t) * (2 * q + 1) := Nat.mul_le_mul_left _ (by omega)
    rw [B64] at h1; omega
   have hlow := ykP (val a) t hm hz
   have := yma (ybm (dg 8 (val a) t)) q hk (by rw [← hq]; omega) (fun y0 => k0 (yak .i64 (yb4 .i64 8 (yan .i64 (yan .i64 (a.length : Int) 1) ((a.length : Int) - 1 - t))) y0)) ?_
   ·rw [← hq] at this; exact this
   ·simp (disch := omega) only [yas, yb1, yap, e2]
    rw [show 8 * (t : Int) + (ybm (dg 8 (val a) t) : Int) = ((ybm (val a) : Nat) : Int) from by rw [hlow]; omega]
    refine h0 fun e => hz ?_
    rw [e]; exact ydp 8 0 t (Nat.two_pow_pos _)
theorem yel (a : List UInt8) (K : Int → Prop) (h : K (if May a then (ybm (val a) : Int) else 0)) : zbg a K := by
 rw [zbg.is]; unfold zbg.d
 rw [yaU]
 by_cases hm : May a
 ·rw [if_pos hm] at h
  have hl := hm.1
  rw [if_pos hm, yat (by rfl), yas (by omega) (by omega)]
  refine ⟨a.length + 1, ?_⟩
  have := yk2 a (by omega) (fun y0 => K y0) (K 0) (fun _ => h) (fun e => by rw [e, yhc] at h; exact h) a.length 0 (by omega) (by simp [Nat.mod_one])
  rw [show (a.length : Int) - 1 - ((0 : Nat) : Int) = (a.length : Int) - 1 from by omega] at this
  exact this
 ·rw [if_neg hm] at h
  rw [if_neg hm, yaC (by rfl)]; exact h
end Go.Ev.S

/- Natural numbers as rows of words: divided. -/
set_option linter.unusedVariables false
set_option linter.unusedSimpArgs false
set_option maxRecDepth 8000
namespace Go.Ev.S
open Go Go.Ev
theorem yqE {B P U D v1 v2 dl x u2 ul q left : Nat} (hP : 0 < P) (hD : D = (v1 * B + v2) * P + dl) (hU : U = (x * B + u2) * P + ul) (hul : ul < P) (hx : q * v1 + left = x) (hD0 : 0 < D) (hUB : U < D * B)
  (h : B ≤ q ∨ left * B + u2 < q * v2) : U / D < q := by
 rw [Nat.div_lt_iff_lt_mul hD0]
 rcases h with h | h
 ·exact Nat.lt_of_lt_of_le hUB (by rw [Nat.mul_comm q]; exact Nat.mul_le_mul_left _ h)
 ·have h1 : (x * B + u2 + 1) * P ≤ q * ((v1 * B + v2) * P) := by
   rw [← Nat.mul_assoc]
   refine Nat.mul_le_mul_right _ ?_
   rw [← hx, Nat.mul_add, Nat.add_mul, ← Nat.mul_assoc]
   omega
  have h2 : q * ((v1 * B + v2) * P) ≤ q * D := Nat.mul_le_mul_left _ (by omega)
  rw [Nat.add_mul, Nat.one_mul] at h1
  omega
theorem yqV {B P U D v1 v2 dl x u2 ul q left : Nat} (hD : D = (v1 * B + v2) * P + dl) (hdl : dl < P) (hU : U = (x * B + u2) * P + ul) (hx : q * v1 + left = x) (hD0 : 0 < D) (hv : 0 < v1) (hqB : q < B) (h : q * v2 ≤ left * B + u2) : q ≤ U / D + 1 := by
 have key : (q - 1) * D ≤ U := by
  have h1 : (q - 1) * D ≤ (q - 1) * ((v1 * B + v2 + 1) * P) := Nat.mul_le_mul_left _ (by rw [Nat.add_mul (v1 * B + v2)]; omega)
  have h2 : (q - 1) * (v1 * B + v2 + 1) ≤ x * B + u2 := by
   rcases Nat.eq_zero_or_pos q with h0 | h0
   ·subst h0; simp
   ·have e1 : (q - 1) * (v1 * B + v2 + 1) = q * (v1 * B + v2) + (q - 1) - (v1 * B + v2) := by
     obtain ⟨t, rfl⟩ : ∃ t, q = t + 1 := ⟨q - 1, by omega⟩
     rw [Nat.add_sub_cancel, Nat.mul_add t, Nat.add_mul t 1]
     omega
    have e2 : q * (v1 * B + v2) ≤ x * B + u2 := by
     rw [← hx, Nat.mul_add, Nat.add_mul, ← Nat.mul_assoc]; omega
    have e3 : B ≤ v1 * B := Nat.le_mul_of_pos_left _ hv
    omega
  have h3 : (q - 1) * ((v1 * B + v2 + 1) * P) ≤ (x * B + u2) * P := by
   rw [← Nat.mul_assoc]; exact Nat.mul_le_mul_right _ h2
  omega
 have := (Nat.le_div_iff_mul_le hD0).2 key
 omega
theorem yg7 (a b : Nat) (ha : a < 4294967296) (hb : b < 4294967296) : orI .u64 (ybE .u64 (a : Int) 32) (b : Int) = ((a * 4294967296 + b : Nat) : Int) := by
 have hb64 : IntKind.bits .u64 = 64 := rfl
 have := yn8 (k := .u64) rfl a 32 (by rw [hb64]; omega)
 rw [show ((32 : Nat) : Int) = 32 from rfl] at this
 rw [this, hb64, B32, Nat.mod_eq_of_lt (by rw [B64]; omega), ysg (k := .u64) rfl _ _ (by rw [hb64, B64]; omega) (by rw [hb64, B64]; omega)]
 congr 1
 rw [Nat.or_comm, yfZ (r := 32) (by rw [B32]; exact hb) (by rw [B32]; exact Nat.mul_mod_left _ _), Nat.add_comm]
theorem ypj (a b : Nat) (ha : a < 18446744073709551616) : yaF .u64 (a : Int) (b : Int) = ((a / b : Nat) : Int) := by
 have h : a / b ≤ a := Nat.div_le_self a b
 show IntKind.wrap .u64 ((a : Int).tdiv b) = _
 rw [Int.tdiv_eq_ediv_of_nonneg (by omega)]
 have : (a : Int) / (b : Int) = ((a / b : Nat) : Int) := by simp
 rw [this]
 generalize a / b = q at h ⊢
 exact yhC (by omega) (by omega)
theorem yiX {again : Nat → Int → Nat → Nat → Int → Int → Int → Int → Nat → (Nat → Int) → Nat → (Nat → Int) → Nat → (Nat → Int) → Prop} {k0 : Nat → Int → Nat → Nat → Int → Int → Int → Nat → (Nat → Int) → Nat → (Nat → Int) → Nat → (Nat → Int) → Prop} (n0 : Nat) (s : Int) (L md i : Nat) (hmd : 2 ≤ md) (hmd2 : md ≤ 1000000) (c1 c2 c3 : Nat) (f1 f3 : Nat → Int) (D v1 q left : Nat) (hv1 : v1 < 4294967296) (hl : left < 4294967296) (e1 : dg 32 D (md - 1) = v1) (hq1 : q + 1 < 18446744073709551616)
  (h1 : left + v1 < 4294967296 → again n0 s md L md i q (left + v1 : Nat) c1 f1 c2 (G 32 D) c3 f3) (h2 : 4294967296 ≤ left + v1 → k0 n0 s md L md i q c1 f1 c2 (G 32 D) c3 f3) :
  gd (leI 0 (yan IntKind.i64 (md : Int) 1) && ltI (yan IntKind.i64 (md : Int) 1) (md : Int)) (br (leI 4294967296 (yak IntKind.u64 (left : Int) (cvI IntKind.u64 (G 32 D (Int.toNat (yan IntKind.i64 (md : Int) 1)))))) (k0 n0 s md L md i (yan IntKind.u64 ((q + 1 : Nat) : Int) 1) c1 f1 c2 (G 32 D) c3 f3) (again n0 s md L md i (yan IntKind.u64 ((q + 1 : Nat) : Int) 1) (yak IntKind.u64 (left : Int) (cvI IntKind.u64 (G 32 D (Int.toNat (yan IntKind.i64 (md : Int) 1))))) c1 f1 c2 (G 32 D) c3 f3)) := by
 have s1 : yan .u64 ((q + 1 : Nat) : Int) 1 = (q : Int) := by rw [yeY (by omega) (by omega)]; omega
 have a1 : yak .u64 (left : Int) ((v1 : Nat) : Int) = ((left + v1 : Nat) : Int) := by rw [yf1 (by omega) (by omega)]; omega
 have i0 : yan IntKind.i64 (md : Int) 1 = (md : Int) - 1 := by rw [yas (by omega) (by omega)]
 have i1 : Int.toNat ((md : Int) - 1) = md - 1 := by omega
 have i2 : cvI IntKind.u64 ((v1 : Nat) : Int) = v1 := by rw [yaV (by omega) (by omega)]
 rw [i0, i1, ya8, e1, i2, a1, s1, yby (by rw [ybd (by omega), ya9 (by omega)]; rfl)]
 by_cases hl2 : left + v1 < 4294967296
 ·rw [yat (yf7 (by omega))]; exact h1 hl2
 ·rw [yaC (ybd (by omega))]; exact h2 (by omega)
theorem yob (left u2 q v2 : Nat) (hl : left < 4294967296) (hu : u2 < 4294967296) (hq : q < 4294967296) (hv : v2 < 4294967296) : ltI (orI IntKind.u64 (ybE IntKind.u64 (left : Int) 32) (cvI IntKind.u64 (u2 : Int))) (yb4 IntKind.u64 (q : Int) (cvI IntKind.u64 (v2 : Int))) = decide (left * 4294967296 + u2 < q * v2) := by
 have h1 : q * v2 ≤ 4294967295 * 4294967295 := Nat.mul_le_mul (by omega) (by omega)
 have e4 : ((q : Int) * ((v2 : Nat) : Int)) = ((q * v2 : Nat) : Int) := by simp
 rw [yaV (by omega) (by omega), yaV (by omega) (by omega), yg7 left u2 hl hu, ylX (by rw [e4]; omega) (by rw [e4]; omega), e4]
 generalize q * v2 = t
 by_cases h : left * 4294967296 + u2 < t
 ·rw [ya9 (by omega)]; exact (decide_eq_true h).symm
 ·rw [ybj (by omega)]; exact (decide_eq_false h).symm
theorem yiS {again : Nat → Int → Nat → Nat → Int → Int → Int → Int → Nat → (Nat → Int) → Nat → (Nat → Int) → Nat → (Nat → Int) → Prop} {k0 : Nat → Int → Nat → Nat → Int → Int → Int → Nat → (Nat → Int) → Nat → (Nat → Int) → Nat → (Nat → Int) → Prop} (n0 : Nat) (s : Int) (L md i : Nat) (hi : i ≤ 1000000) (hmd : 2 ≤ md) (hmd2 : md ≤ 1000000) (hL : i + md < L) (c1 c2 c3 : Nat) (f1 : Nat → Int) (D N v1 v2 u2 q left : Nat) (hv1 : v1 < 4294967296) (hv2 : v2 < 4294967296) (hu2 : u2 < 4294967296) (hl : left < 4294967296)
  (e1 : dg 32 D (md - 1) = v1) (e2 : dg 32 D (md - 2) = v2) (e3 : dg 32 N (i + md - 2) = u2) (hq1 : q < 18446744073709551616)
  (hd : 4294967296 ≤ q ∨ left * 4294967296 + u2 < q * v2 → ∃ p, q = p + 1 ∧ (left + v1 < 4294967296 → again n0 s md L md i p (left + v1 : Nat) c1 f1 c2 (G 32 D) c3 (G 32 N)) ∧ (4294967296 ≤ left + v1 → k0 n0 s md L md i p c1 f1 c2 (G 32 D) c3 (G 32 N)))
  (hk : q < 4294967296 → q * v2 ≤ left * 4294967296 + u2 → k0 n0 s md L md i q c1 f1 c2 (G 32 D) c3 (G 32 N)) :
  zbu.l24.step again k0 n0 s md L md i q left c1 f1 c2 (G 32 D) c3 (G 32 N) := by
 unfold zbu.l24.step
 by_cases hbig : 4294967296 ≤ q
 ·rw [yaC (ybd (by omega))]
  obtain ⟨p, rfl, h1, h2⟩ := hd (.inl hbig)
  exact yiX n0 s L md i hmd hmd2 c1 c2 c3 f1 _ D v1 p left hv1 hl e1 (by omega) h1 h2
 ·rw [yat (yf7 (by omega))]
  have i0 : yan IntKind.i64 (md : Int) 2 = (md : Int) - 2 := by rw [yas (by omega) (by omega)]
  have i1 : yak IntKind.i64 (i : Int) (md : Int) = (i : Int) + md := by rw [yap (by omega) (by omega)]
  have i2 : yan IntKind.i64 ((i : Int) + md) 2 = (i : Int) + md - 2 := by rw [yas (by omega) (by omega)]
  have i3 : Int.toNat ((md : Int) - 2) = md - 2 := by omega
  have i4 : Int.toNat ((i : Int) + md - 2) = i + md - 2 := by omega
  rw [i0, i1, i2, i3, i4, yby (by rw [ybd (by omega), ya9 (by omega)]; rfl), yby (by rw [ybd (by omega), ya9 (by omega)]; rfl), ya8, ya8, e2, e3, yob left u2 q v2 hl hu2 (by omega) hv2]
  by_cases ht : left * 4294967296 + u2 < q * v2
  ·rw [yaC (decide_eq_true ht)]
   obtain ⟨p, rfl, h1, h2⟩ := hd (.inr ht)
   exact yiX n0 s L md i hmd hmd2 c1 c2 c3 f1 _ D v1 p left hv1 hl e1 (by omega) h1 h2
  ·rw [yat (decide_eq_false ht)]
   exact hk (by omega) (by omega)
theorem yoi {B v1 x q left : Nat} (hxv : x / B ≤ v1) (hB : 0 < B) (hx : q * v1 + left = x) (hq : B ≤ q) : left < B := by
 have h1 : B * v1 ≤ q * v1 := Nat.mul_le_mul_right _ hq
 have h2 := Nat.div_add_mod x B
 have h3 := Nat.mod_lt x hB
 have h4 : B * (x / B) ≤ B * v1 := Nat.mul_le_mul_left _ hxv
 omega
theorem ynD {B q v2 left u2 : Nat} (hq : q < B) (hv : v2 < B) (hl : B ≤ left) : q * v2 ≤ left * B + u2 := by
 have h1 : q * v2 ≤ B * B := Nat.mul_le_mul (by omega) (by omega)
 have h2 : B * B ≤ left * B := Nat.mul_le_mul_right _ hl
 omega
theorem yhu (n s : Int) (L md i : Nat) (hi : i ≤ 1000000) (hmd : 2 ≤ md) (hmd2 : md ≤ 1000000) (hL : i + md < L) (n0 : Nat) (D N : Nat) (c1 c2 c3 : Nat) (f1 : Nat → Int)
  (U v1 v2 dl x u2 ul P : Nat) (hP : 0 < P) (hD : D = (v1 * 4294967296 + v2) * P + dl) (hdl : dl < P) (hU : U = (x * 4294967296 + u2) * P + ul) (hul : ul < P) (hD0 : 0 < D) (hUB : U < D * 4294967296) (hv : 0 < v1)
  (hxv : x / 4294967296 ≤ v1) (hx2 : x < 18446744073709551616)
  (e1 : dg 32 D (md - 1) = v1) (e2 : dg 32 D (md - 2) = v2) (e3 : dg 32 N (i + md - 2) = u2)
  (k0 : Nat → Int → Nat → Nat → Int → Int → Int → Nat → (Nat → Int) → Nat → (Nat → Int) → Nat → (Nat → Int) → Prop)
  (h : ∀ q : Nat, U / D ≤ q → q ≤ U / D + 1 → q < 4294967296 → k0 n0 s md L md i q c1 f1 c2 (G 32 D) c3 (G 32 N)) :
  ∀ (q left : Nat), q * v1 + left = x → left < 4294967296 → U / D ≤ q → zbu.l24 k0 (q + 1) n0 s md L md i q left c1 f1 c2 (G 32 D) c3 (G 32 N) := by
 have hv1 := ya6 32 D (md - 1)
 have hv2 := ya6 32 D (md - 2)
 have hu2 := ya6 32 N (i + md - 2)
 rw [B32, e1] at hv1
 rw [B32, e2] at hv2
 rw [B32, e3] at hu2
 have done : ∀ q left : Nat, q * v1 + left = x → U / D ≤ q → q < 4294967296 → q * v2 ≤ left * 4294967296 + u2 → k0 n0 s md L md i q c1 f1 c2 (G 32 D) c3 (G 32 N) :=
  fun q left hx hge hlt ht => h q hge (yqV hD hdl hU hx hD0 hv hlt ht) hlt
 have qx : ∀ q left : Nat, q * v1 + left = x → q < 18446744073709551616 := fun q left hx => by
  have : q * 1 ≤ q * v1 := Nat.mul_le_mul_left _ hv
  omega
 intro q
 induction q with
 | zero =>
  intro left hx hl hge
  unfold zbu.l24
  refine yiS n0 s L md i hi hmd hmd2 hL c1 c2 c3 f1 D N v1 v2 u2 0 left hv1 hv2 hu2 hl e1 e2 e3 (by omega) (fun hc => ?_) (fun a b => done 0 left hx hge a b)
  rw [Nat.zero_mul] at hc
  omega
 | succ q ih =>
  intro left hx hl hge
  have hqx := qx (q + 1) left hx
  have hx' : q * v1 + (left + v1) = x := by rw [Nat.add_mul] at hx; omega
  have hover : 4294967296 ≤ left + v1 → q < 4294967296 := fun hl2 => by
   apply Classical.byContradiction
   intro hc
   have := yoi hxv (by omega) hx' (by omega)
   omega
  unfold zbu.l24
  refine yiS n0 s L md i hi hmd hmd2 hL c1 c2 c3 f1 D N v1 v2 u2 (q + 1) left hv1 hv2 hu2 hl e1 e2 e3 hqx (fun hc => ?_) (fun a b => done (q + 1) left hx hge a b)
  have hlt := yqE hP hD hU hul hx hD0 hUB hc
  have hge' : U / D ≤ q := Nat.le_of_lt_succ hlt
  exact ⟨q, rfl, fun hl2 => ih (left + v1) hx' hl2 hge', fun hl2 => done q (left + v1) hx' hge' (hover hl2) (ynD (hover hl2) hv2 hl2)⟩
theorem yqB (k n x : Nat) (hk : k ≠ 0) (h : ∀ i, n ≤ i → dg k x i = 0) : x < 2 ^ (k * n) := by
 rw [← ydI k hk]
 apply Classical.byContradiction
 intro hc
 have hx : x ≠ 0 := by intro e; subst e; rw [yc0] at hc; omega
 exact ymP k hk x hx (h _ (by omega))
theorem ylC {k N N' w j n : Nat} (hk : k ≠ 0) (hN : N < 2 ^ (k * n)) (hj : j < n) (hw : w < 2 ^ k) (h : N' + dg k N j * 2 ^ (k * j) = N + w * 2 ^ (k * j)) : N' < 2 ^ (k * n) := by
 refine yqB k n N' hk fun i hi => ?_
 have h1 := congrFun (ygv h hw) i
 rw [ycI _ _ _ _ (by omega), ya8, ya8, ydT k N n i hN hi] at h1
 omega
theorem yig (n0 : Nat) (s : Int) (L md i q : Nat) (hi : i ≤ 1000000) (hmd2 : md ≤ 1000000) (hL : i + md < L) (hq : q < 4294967296) (c1 c2 c3 : Nat) (f1 : Nat → Int) (D N0 : Nat) (hD : D < 2 ^ (32 * md)) (hN0 : N0 < 2 ^ (32 * (i + md + 1)))
  (k0 : Nat → Int → Nat → Nat → Int → Int → Int → Int → Int → Nat → (Nat → Int) → Nat → (Nat → Int) → Nat → (Nat → Int) → Prop)
  (h : ∀ (N c : Nat) (b : Int), N < 2 ^ (32 * (i + md + 1)) → c < 4294967296 → -1 ≤ b → b ≤ 0 → (N : Int) + (b - c) * ((2 ^ (32 * (i + md)) : Nat) : Int) = N0 - ((q * D * 2 ^ (32 * i) : Nat) : Int) → k0 n0 s md L md i q c b c1 f1 c2 (G 32 D) c3 (G 32 N)) :
  ∀ (j k N c : Nat) (b : Int), k + j = md → N < 2 ^ (32 * (i + md + 1)) → c < 4294967296 → -1 ≤ b → b ≤ 0 → (N : Int) + (b - c) * ((2 ^ (32 * (i + k)) : Nat) : Int) = N0 - ((q * (D % 2 ^ (32 * k)) * 2 ^ (32 * i) : Nat) : Int) →
   zbu.l31 k0 (j + 1) n0 s md L md i q c b md k c1 f1 c2 (G 32 D) c3 (G 32 N) := by
 intro j
 induction j with
 | zero =>
  intro k N c b hk hN hc hb1 hb2 hE
  have hk : k = md := by omega
  subst hk
  unfold zbu.l31 zbu.l31.step
  rw [yat (ybj (by omega))]
  rw [Nat.mod_eq_of_lt hD] at hE
  exact h N c b hN hc hb1 hb2 hE
 | succ j ih =>
  intro k N c b hk hN hc hb1 hb2 hE
  have hdN := ya6 32 N (i + k)
  have hdD := ya6 32 D k
  rw [B32] at hdN hdD
  have hm : q * dg 32 D k ≤ 4294967295 * 4294967295 := Nat.mul_le_mul (by omega) (by omega)
  have hD1 := ybh 32 D k
  -- the product's low word, and what is carried
  have hs : ∀ (t : Nat) (z : Int), t = c + q * dg 32 D k → z = b + ((dg 32 N (i + k) : Int) - ((t % 4294967296 : Nat) : Int)) →
    zbu.l31 k0 (j + 1) n0 s md L md i q ((t / 4294967296 : Nat) : Int) (z / 4294967296) md ((k : Int) + 1) c1 f1 c2 (G 32 D) c3 (upd (G 32 N) (i + k) (z % 4294967296)) := by
   intro t z ht hz
   have hw : z % 4294967296 = ((z % 4294967296).toNat : Int) := by omega
   have hwl : (z % 4294967296).toNat < 2 ^ 32 := by rw [B32]; omega
   have e : ((k + 1 : Nat) : Int) = (k : Int) + 1 := by omega
   have hsp := ygT 32 N (i + k)
   obtain ⟨N', hN'⟩ : ∃ N', N' + dg 32 N (i + k) * 2 ^ (32 * (i + k)) = N + (z % 4294967296).toNat * 2 ^ (32 * (i + k)) :=
    ⟨N % 2 ^ (32 * (i + k)) + (z % 4294967296).toNat * 2 ^ (32 * (i + k)) + N / 2 ^ (32 * (i + k + 1)) * 2 ^ (32 * (i + k + 1)), by omega⟩
   rw [hw, ygv hN' hwl, ← e]
   refine ih (k + 1) N' _ _ (by omega) (ylC (by omega) hN (by omega) hwl hN') (by omega) (by omega) (by omega) ?_
   rw [hD1, show i + (k + 1) = i + k + 1 from by omega, ycv, B32]
   have hp : 2 ^ (32 * (i + k)) = 2 ^ (32 * k) * 2 ^ (32 * i) := by rw [← Nat.pow_add, show 32 * k + 32 * i = 32 * (i + k) from by omega]
   have h1 : ((q * (D % 2 ^ (32 * k) + dg 32 D k * 2 ^ (32 * k)) * 2 ^ (32 * i) : Nat) : Int) = ((q * (D % 2 ^ (32 * k)) * 2 ^ (32 * i) : Nat) : Int) + ((q * dg 32 D k : Nat) : Int) * ((2 ^ (32 * (i + k)) : Nat) : Int) := by
    rw [hp, Nat.mul_add, Nat.add_mul, ← Nat.mul_assoc q (dg 32 D k), Nat.mul_assoc (q * dg 32 D k)]
    simp
   rw [h1]
   generalize 2 ^ (32 * (i + k)) = P at *
   have h4 := Int.emod_add_mul_ediv z 4294967296
   have h5 : z * (P : Int) = (z % 4294967296).toNat * (P : Int) + z / 4294967296 * ((P : Int) * 4294967296) := by
    conv => lhs; rw [← h4]
    rw [← hw, Int.add_mul, Int.mul_comm (4294967296 : Int), Int.mul_assoc, Int.mul_comm (4294967296 : Int)]
   have h6 : z * (P : Int) = b * P + (dg 32 N (i + k) : Int) * P - ((t % 4294967296 : Nat) : Int) * P := by rw [hz, Int.add_mul, Int.sub_mul]; omega
   have h7 : ((t : Nat) : Int) * (P : Int) = ((t % 4294967296 : Nat) : Int) * P + ((t / 4294967296 : Nat) : Int) * ((P : Int) * 4294967296) := by
    have := ylH t 4294967296 P
    have h8 : ((t % 4294967296 * P + t / 4294967296 * (P * 4294967296) : Nat) : Int) = ((t * P : Nat) : Int) := by rw [this]
    simpa using h8.symm
   have h9 : ((t : Nat) : Int) * (P : Int) = (c : Int) * P + ((q * dg 32 D k : Nat) : Int) * P := by rw [ht]; rw [show ((c + q * dg 32 D k : Nat) : Int) = (c : Int) + ((q * dg 32 D k : Nat) : Int) from by omega, Int.add_mul]
   have h10 : (N' : Int) + (dg 32 N (i + k) : Int) * P = N + ((z % 4294967296).toNat : Int) * P := by
    have : ((N' + dg 32 N (i + k) * P : Nat) : Int) = ((N + (z % 4294967296).toNat * P : Nat) : Int) := by rw [hN']
    simpa using this
   have c4 : ((P * 4294967296 : Nat) : Int) = (P : Int) * 4294967296 := by simp
   rw [c4, Int.sub_mul]
   rw [Int.sub_mul] at hE
   omega
  have e0 : Int.toNat ((i : Int) + k) = i + k := by omega
  have e5 : yb4 .u64 (q : Int) (dg 32 D k : Int) = ((q * dg 32 D k : Nat) : Int) := by
   have e4 : ((q : Int) * (dg 32 D k : Int)) = ((q * dg 32 D k : Nat) : Int) := by simp
   rw [ylX (by rw [e4]; omega) (by rw [e4]; omega), e4]
  have e6 : (c : Int) + ((q * dg 32 D k : Nat) : Int) = ((c + q * dg 32 D k : Nat) : Int) := by omega
  have e7 : ((c + q * dg 32 D k : Nat) : Int) / 4294967296 = (((c + q * dg 32 D k) / 4294967296 : Nat) : Int) := by omega
  have e8 : ((c + q * dg 32 D k : Nat) : Int) % 4294967296 = (((c + q * dg 32 D k) % 4294967296 : Nat) : Int) := by omega
  unfold zbu.l31 zbu.l31.step
  simp (disch := omega) only [ya9, ybd, yaD, ya5, Bool.and_self, Int.toNat_natCast, yap, yas, yaV, yf1, ya8, e0, e5, e6, yb8, yfU, ybw, e7, e8, yfm]
  exact hs _ _ rfl rfl
theorem yia (n0 : Nat) (s : Int) (L md i : Nat) (q : Int) (hi : i ≤ 1000000) (hmd2 : md ≤ 1000000) (hL : i + md < L) (c1 c2 c3 : Nat) (f1 : Nat → Int) (D N0 : Nat) (hD : D < 2 ^ (32 * md))
  (k0 : Nat → Int → Nat → Nat → Int → Int → Int → Int → Nat → (Nat → Int) → Nat → (Nat → Int) → Nat → (Nat → Int) → Prop)
  (h : ∀ (N c : Nat), N < 2 ^ (32 * (i + md + 1)) → c < 4294967296 → N + c * 2 ^ (32 * (i + md)) = N0 + D * 2 ^ (32 * i) → k0 n0 s md L md i q c c1 f1 c2 (G 32 D) c3 (G 32 N)) :
  ∀ (j k N c : Nat), k + j = md → N < 2 ^ (32 * (i + md + 1)) → c < 2 → N + c * 2 ^ (32 * (i + k)) = N0 + D % 2 ^ (32 * k) * 2 ^ (32 * i) → zbu.l45 k0 (j + 1) n0 s md L md i q c md k c1 f1 c2 (G 32 D) c3 (G 32 N) := by
 intro j
 induction j with
 | zero =>
  intro k N c hk hN hc hE
  have hk : k = md := by omega
  subst hk
  unfold zbu.l45 zbu.l45.step
  rw [yat (ybj (by omega))]
  rw [Nat.mod_eq_of_lt hD] at hE
  exact h N c hN (by omega) hE
 | succ j ih =>
  intro k N c hk hN hc hE
  have hdN := ya6 32 N (i + k)
  have hdD := ya6 32 D k
  rw [B32] at hdN hdD
  have hD1 := ybh 32 D k
  obtain ⟨N', s1, s2⟩ := yj5 (k := 32) (N := N) (j := i + k) (s := c + (dg 32 N (i + k) + dg 32 D k)) rfl
  have hw : (c + (dg 32 N (i + k) + dg 32 D k)) % 4294967296 < 2 ^ 32 := Nat.mod_lt _ (by omega)
  have e : ((k + 1 : Nat) : Int) = (k : Int) + 1 := by omega
  have next := ih (k + 1) N' ((c + (dg 32 N (i + k) + dg 32 D k)) / 4294967296) (by omega) (ylC (by omega) hN (by omega) hw s1) (by omega) (by
   rw [hD1, show i + (k + 1) = i + k + 1 from by omega]
   rw [B32, Nat.add_mul, Nat.add_mul] at s2
   have hp : dg 32 D k * 2 ^ (32 * k) * 2 ^ (32 * i) = dg 32 D k * 2 ^ (32 * (i + k)) := by rw [Nat.mul_assoc, ← Nat.pow_add, show 32 * k + 32 * i = 32 * (i + k) from by omega]
   rw [Nat.add_mul, hp]
   omega)
  rw [e] at next
  have hG : upd (G 32 N) (i + k) (((c + (dg 32 N (i + k) + dg 32 D k)) % 4294967296 : Nat) : Int) = G 32 N' := ygv s1 hw
  have e0 : Int.toNat ((i : Int) + k) = i + k := by omega
  have e1 : ((c : Int) + ((dg 32 N (i + k) : Int) + (dg 32 D k : Int))) / 4294967296 = (((c + (dg 32 N (i + k) + dg 32 D k)) / 4294967296 : Nat) : Int) := by omega
  have e2 : ((c : Int) + ((dg 32 N (i + k) : Int) + (dg 32 D k : Int))) % 4294967296 = (((c + (dg 32 N (i + k) + dg 32 D k)) % 4294967296 : Nat) : Int) := by omega
  unfold zbu.l45 zbu.l45.step
  simp (disch := omega) only [ya9, ybd, yaD, ya5, Bool.and_self, Int.toNat_natCast, yap, yaV, yf1, ya8, e0, yb8, ybw, e1, e2]
  rw [hG]; exact next
end Go.Ev.S

/- Natural numbers as rows of words: the loop of the long division. -/
set_option linter.unusedVariables false
set_option linter.unusedSimpArgs false
set_option maxRecDepth 8000
namespace Go.Ev.S
open Go Go.Ev
theorem yqa {PT E R T q qs Nl : Nat} {z : Int} (hE : E < PT) (hNl : Nl < PT) (h1 : qs * E ≤ R) (h2 : R < qs * E + E) (hT : T = q * E) (h : (Nl : Int) + z * (PT : Int) = R - (T : Int)) (hq1 : qs ≤ q) (hq2 : q ≤ qs + 1) :
  (q = qs ∧ z = 0 ∧ Nl = R - qs * E) ∨ (q = qs + 1 ∧ z = -1 ∧ Nl + E = PT + (R - qs * E)) := by
 have zp : z ≥ 1 → (PT : Int) ≤ z * PT := fun hz => by
  have := Int.mul_le_mul_of_nonneg_right hz (show (0 : Int) ≤ PT by omega)
  omega
 have zn : z ≤ -1 → z * PT ≤ -(PT : Int) := fun hz => by
  have := Int.mul_le_mul_of_nonneg_right hz (show (0 : Int) ≤ PT by omega)
  omega
 have zn2 : z ≤ -2 → z * PT ≤ -(PT : Int) - PT := fun hz => by
  have := Int.mul_le_mul_of_nonneg_right hz (show (0 : Int) ≤ PT by omega)
  omega
 rcases (by omega : q = qs ∨ q = qs + 1) with e | e
 ·left
  rw [e] at hT
  have hz : z = 0 := by
   rcases (by omega : z ≥ 1 ∨ z ≤ -1 ∨ z = 0) with hz | hz | hz
   ·have := zp hz; omega
   ·have := zn hz; omega
   ·exact hz
  subst hz
  refine ⟨e, rfl, ?_⟩
  rw [Int.zero_mul] at h
  omega
 ·right
  rw [e, Nat.add_mul, Nat.one_mul] at hT
  have hz : z = -1 := by
   rcases (by omega : z ≥ 1 ∨ z ≤ -2 ∨ z = 0 ∨ z = -1) with hz | hz | hz | hz
   ·have := zp hz; omega
   ·have := zn2 hz; omega
   ·subst hz; rw [Int.zero_mul] at h; omega
   ·exact hz
  subst hz
  refine ⟨e, rfl, ?_⟩
  omega
theorem ylR (D R md i : Nat) (hmd : 2 ≤ md) (hD : D < 2 ^ (32 * md)) (hv : dg 32 D (md - 1) ≠ 0) (hR : R < D * 2 ^ (32 * (i + 1))) :
  ∃ dl ul P, 0 < P ∧ dl < P ∧ ul < P ∧ D = (dg 32 D (md - 1) * 4294967296 + dg 32 D (md - 2)) * P + dl ∧
   R / 2 ^ (32 * i) = ((dg 32 R (i + md) * 4294967296 + dg 32 R (i + md - 1)) * 4294967296 + dg 32 R (i + md - 2)) * P + ul ∧
   R / 2 ^ (32 * i) < D * 4294967296 ∧ dg 32 R (i + md) ≤ dg 32 D (md - 1) ∧ R / 2 ^ (32 * i) / D ≤ (dg 32 R (i + md) * 4294967296 + dg 32 R (i + md - 1)) / dg 32 D (md - 1) := by
 obtain ⟨m, rfl⟩ : ∃ m, md = m + 2 := ⟨md - 2, by omega⟩
 have hU : R / 2 ^ (32 * i) < D * 4294967296 := by
  rw [Nat.div_lt_iff_lt_mul (Nat.two_pow_pos _), Nat.mul_assoc, Nat.mul_comm 4294967296, ← B32, ← ycv]
  exact hR
 have hd := fun j => yk9 32 R i j
 generalize R / 2 ^ (32 * i) = U at *
 have hUB : U < 2 ^ (32 * (m + 3)) := by
  rw [ycv, B32]
  exact Nat.lt_trans hU (Nat.mul_lt_mul_of_pos_right hD (by omega))
 have a1 := ydb 32 D m
 have a2 := ydb 32 D (m + 1)
 have b1 := ydb 32 U m
 have b2 := ydb 32 U (m + 1)
 have b3 := ydb 32 U (m + 2)
 rw [Nat.div_eq_of_lt hD] at a2
 rw [Nat.div_eq_of_lt hUB] at b3
 rw [B32] at a1 a2 b1 b2 b3
 rw [hd] at b1 b2 b3
 rw [show m + 1 + 1 = m + 2 from rfl] at b2
 have hP := Nat.two_pow_pos (32 * m)
 have c1 := Nat.div_add_mod D (2 ^ (32 * m))
 have c2 := Nat.div_add_mod U (2 ^ (32 * m))
 have c3 := Nat.mod_lt D hP
 have c4 := Nat.mod_lt U hP
 have c5 := Nat.mod_lt D (Nat.two_pow_pos (32 * (m + 1)))
 have c6 := Nat.div_add_mod D (2 ^ (32 * (m + 1)))
 have d1 : D / 2 ^ (32 * m) = dg 32 D (m + 1) * 4294967296 + dg 32 D m := by omega
 have d2 : U / 2 ^ (32 * m) = (dg 32 R (i + (m + 2)) * 4294967296 + dg 32 R (i + (m + 1))) * 4294967296 + dg 32 R (i + m) := by omega
 have d3 : D / 2 ^ (32 * (m + 1)) = dg 32 D (m + 1) := by omega
 have d4 : U / 2 ^ (32 * (m + 1)) = dg 32 R (i + (m + 2)) * 4294967296 + dg 32 R (i + (m + 1)) := by omega
 have d5 : U / 2 ^ (32 * (m + 2)) = dg 32 R (i + (m + 2)) := by omega
 simp only [show m + 2 - 1 = m + 1 from rfl, show m + 2 - 2 = m from rfl, show i + (m + 2) - 1 = i + (m + 1) from rfl, show i + (m + 2) - 2 = i + m from rfl] at hv ⊢
 refine ⟨D % 2 ^ (32 * m), U % 2 ^ (32 * m), 2 ^ (32 * m), hP, c3, c4, ?_, ?_, hU, ?_, ?_⟩
 ·rw [← d1, Nat.mul_comm]; exact c1.symm
 ·rw [← d2, Nat.mul_comm]; exact c2.symm
 ·rw [← d5]
  have : U < (dg 32 D (m + 1) + 1) * 2 ^ (32 * (m + 2)) := by
   rw [show m + 2 = m + 1 + 1 from rfl, ycv 32 (m + 1), B32, ← Nat.mul_assoc]
   refine Nat.lt_of_lt_of_le hU (Nat.mul_le_mul_right _ ?_)
   rw [Nat.add_mul, ← d3, Nat.mul_comm (D / _)]
   omega
  have := (Nat.div_lt_iff_lt_mul (Nat.two_pow_pos (32 * (m + 2)))).2 this
  omega
 ·rw [← d4, Nat.div_div_eq_div_mul]
  refine Nat.div_le_div_left ?_ (Nat.mul_pos (Nat.two_pow_pos _) (by omega))
  rw [← d3]; exact Nat.mul_div_le D _
theorem yj0 {N t w z : Nat} (hN : N < 2 ^ (32 * (t + 1))) (hw : w < 2 ^ 32) : upd (G 32 N) t (w : Int) = G 32 (N % 2 ^ (32 * t) + w * 2 ^ (32 * t)) := by
 rw [yrv 32 N w t hw, Nat.div_eq_of_lt hN, Nat.zero_mul, Nat.add_zero]
theorem yhg (n0 : Nat) (s : Int) (L md i : Nat) (hmd : 2 ≤ md) (hmd2 : md ≤ 1000000) (hi : i ≤ 1000000) (hL : i + md < L) (hL2 : L ≤ 2000000) (hin : i < n0) (hn : n0 ≤ 1000000) (c1 c2 c3 : Nat) (D Q R : Nat)
  (hD : D < 2 ^ (32 * md)) (hv : dg 32 D (md - 1) ≠ 0) (hR : R < D * 2 ^ (32 * (i + 1))) (hQ : Q % 2 ^ (32 * (i + 1)) = 0)
  (again : Nat → Int → Nat → Nat → Int → Int → Nat → (Nat → Int) → Nat → (Nat → Int) → Nat → (Nat → Int) → Prop) (k0 : Nat → Int → Nat → Nat → (Nat → Int) → Nat → (Nat → Int) → Prop)
  (h : ∀ q R', q < 4294967296 → R' + q * (D * 2 ^ (32 * i)) = R → R' < D * 2 ^ (32 * i) → again n0 s md L md ((i : Int) - 1) c1 (G 32 (Q + q * 2 ^ (32 * i))) c2 (G 32 D) c3 (G 32 R')) :
  zbu.l20.step again k0 n0 s md L md i c1 (G 32 Q) c2 (G 32 D) c3 (G 32 R) := by
 obtain ⟨dl, ul, P, hP, hdl, hul, hDe, hUe, hUB, hu1, hq0⟩ := ylR D R md i hmd hD hv hR
 have hv1 := ya6 32 D (md - 1)
 have hv2 := ya6 32 D (md - 2)
 have hr0 := ya6 32 R (i + md)
 have hr1 := ya6 32 R (i + md - 1)
 rw [B32] at hv1 hv2 hr0 hr1
 have hD0 : 0 < D := by
  rcases Nat.eq_zero_or_pos D with e | e
  ·rw [e] at hR; omega
  ·exact e
 have hx2 : dg 32 R (i + md) * 4294967296 + dg 32 R (i + md - 1) < 18446744073709551616 := by omega
 have hqs : R / 2 ^ (32 * i) / D < 4294967296 := (Nat.div_lt_iff_lt_mul hD0).2 (by rw [Nat.mul_comm 4294967296]; exact hUB)
 have hPi := Nat.two_pow_pos (32 * i)
 have hE : D * 2 ^ (32 * i) < 2 ^ (32 * (i + md)) := by
  rw [show 32 * (i + md) = 32 * md + 32 * i from by omega, Nat.pow_add]
  exact Nat.mul_lt_mul_of_pos_right hD hPi
 have hRlt : R < 2 ^ (32 * (i + md + 1)) := by
  refine Nat.lt_trans hR ?_
  rw [show 32 * (i + md + 1) = 32 * md + 32 * (i + 1) from by omega, Nat.pow_add]
  exact Nat.mul_lt_mul_of_pos_right hD (Nat.two_pow_pos _)
 have hq1 : R / 2 ^ (32 * i) / D * (D * 2 ^ (32 * i)) ≤ R := by
  rw [Nat.div_div_eq_div_mul, Nat.mul_comm (2 ^ (32 * i)) D]; exact Nat.div_mul_le_self _ _
 have hq2 : R < R / 2 ^ (32 * i) / D * (D * 2 ^ (32 * i)) + D * 2 ^ (32 * i) := by
  rw [Nat.div_div_eq_div_mul, Nat.mul_comm (2 ^ (32 * i)) D]
  have a := Nat.div_add_mod R (D * 2 ^ (32 * i))
  have b := Nat.mod_lt R (Nat.mul_pos hD0 hPi)
  rw [Nat.mul_comm] at a
  omega
 generalize R / 2 ^ (32 * i) = U at *
 have fin := h (U / D) (R - U / D * (D * 2 ^ (32 * i))) hqs (by omega) (by omega)
 generalize hqse : U / D = qs at *
 have i0 : yan IntKind.i64 (md : Int) 1 = (md : Int) - 1 := by rw [yas (by omega) (by omega)]
 have i1 : yak IntKind.i64 (i : Int) (md : Int) = (i : Int) + md := by rw [yap (by omega) (by omega)]
 have i2 : yan IntKind.i64 ((i : Int) + md) 1 = (i : Int) + md - 1 := by rw [yas (by omega) (by omega)]
 have i3 : Int.toNat ((md : Int) - 1) = md - 1 := by omega
 have i4 : Int.toNat ((i : Int) + md - 1) = i + md - 1 := by omega
 have i5 : Int.toNat ((i : Int) + md) = i + md := by omega
 have i6 : yan IntKind.i64 (i : Int) 1 = (i : Int) - 1 := by rw [yas (by omega) (by omega)]
 have w0 : (leI 0 ((i : Int) + md) && ltI ((i : Int) + md) (L : Int)) = true := by rw [ybd (by omega), ya9 (by omega)]; rfl
 have w1 : (leI 0 ((i : Int) + md - 1) && ltI ((i : Int) + md - 1) (L : Int)) = true := by rw [ybd (by omega), ya9 (by omega)]; rfl
 have w2 : (leI 0 ((md : Int) - 1) && ltI ((md : Int) - 1) (md : Int)) = true := by rw [ybd (by omega), ya9 (by omega)]; rfl
 have w3 : (leI 0 (i : Int) && ltI (i : Int) (n0 : Int)) = true := by rw [ybd (by omega), ya9 (by omega)]; rfl
 have w4 : (!eqI ((dg 32 D (md - 1) : Nat) : Int) 0) = true := by rw [ygq (by omega)]; rfl
 have c0 : ∀ j, cvI IntKind.u64 ((dg 32 D j : Nat) : Int) = (dg 32 D j : Nat) := fun j => by
  have := ya6 32 D j; rw [B32] at this; rw [yaV (by omega) (by omega)]
 have c4 : ∀ j, cvI IntKind.u64 ((dg 32 R j : Nat) : Int) = (dg 32 R j : Nat) := fun j => by
  have := ya6 32 R j; rw [B32] at this; rw [yaV (by omega) (by omega)]
 -- the quotient's word
 have setQ : ∀ q : Nat, q = qs → upd (G 32 Q) i (cvI IntKind.u32 (q : Int)) = G 32 (Q + qs * 2 ^ (32 * i)) := by
  intro q e
  have hz : dg 32 Q i = 0 := by
   have := ybh 32 Q i
   rw [hQ] at this
   have h0 : dg 32 Q i * 2 ^ (32 * i) = 0 := by omega
   rcases Nat.mul_eq_zero.1 h0 with h0 | h0
   ·exact h0
   ·omega
  rw [e, ybw, show ((qs : Nat) : Int) % 4294967296 = ((qs : Nat) : Int) from by omega]
  exact ygv (by rw [hz]; omega) (by rw [B32]; exact hqs)
 unfold zbu.l20.step
 rw [yaC (ybd (by omega)), i1, i2, i0, i3, i4, i5, yby w0, yby w1, yby w2]
 simp only [ya8]
 rw [c0, c4, c4, yby w4, yby w2, yby w4, yg7 _ _ hr0 hr1, ypj _ _ hx2, yhx (by omega), ← Int.natCast_emod]
 refine ⟨_, yhu 0 s L md i hi hmd hmd2 hL n0 D R c1 c2 c3 (G 32 Q) U (dg 32 D (md - 1)) (dg 32 D (md - 2)) dl _ (dg 32 R (i + md - 2)) ul P hP hDe hdl hUe hul hD0 hUB (by omega) ?_ hx2 rfl rfl rfl _ ?_ _ _ ?_ ?_ ?_⟩
 ·omega
 ·-- behind the guess
  intro q hge hle hqB
  rw [hqse] at hge hle
  refine ⟨md + 1, ?_⟩
  refine yig n0 s L md i q hi hmd2 hL hqB c1 c2 c3 (G 32 Q) D R hD hRlt _ ?_ md 0 R 0 0 (by omega) hRlt (by omega) (by omega) (by omega) (by simp [Nat.mod_one])
  intro N c b hN hc hb1 hb2 hE2
  have hdN := ya6 32 N (i + md)
  rw [B32] at hdN
  have hNs := ybh 32 N (i + md)
  rw [Nat.mod_eq_of_lt hN] at hNs
  have hNl := Nat.mod_lt N (Nat.two_pow_pos (32 * (i + md)))
  have e1 : ((dg 32 N (i + md) : Nat) : Int) - (c : Int) = (dg 32 N (i + md) : Int) - c := rfl
  have cz : yak IntKind.i64 b (yan IntKind.i64 (cvI IntKind.i64 ((dg 32 N (i + md) : Nat) : Int)) (cvI IntKind.i64 (c : Int))) = b + ((dg 32 N (i + md) : Int) - c) := by
   rw [yfm (by omega) (by omega), yfm (by omega) (by omega), yas (by omega) (by omega), yap (by omega) (by omega)]
  have hf := yqa (z := b + ((dg 32 N (i + md) : Int) - c)) (T := q * D * 2 ^ (32 * i)) (q := q) hE hNl hq1 hq2 (by rw [Nat.mul_assoc]) (by
   rw [← hE2]
   have e2 : (N : Int) = ((N % 2 ^ (32 * (i + md)) : Nat) : Int) + (dg 32 N (i + md) : Int) * ((2 ^ (32 * (i + md)) : Nat) : Int) := by
    have : ((N : Nat) : Int) = ((N % 2 ^ (32 * (i + md)) + dg 32 N (i + md) * 2 ^ (32 * (i + md)) : Nat) : Int) := by rw [← hNs]
    rw [this]; simp
   rw [e2]
   generalize ((2 ^ (32 * (i + md)) : Nat) : Int) = PT
   rw [show b + ((dg 32 N (i + md) : Int) - c) = dg 32 N (i + md) + (b - c) from by omega, Int.add_mul]
   omega) hge hle
  show gd _ _
  rw [i1, i5, yby w0, yby w0]
  simp only [ya8]
  rw [cz]
  rcases hf with ⟨hq, hz, hNe⟩ | ⟨hq, hz, hNe⟩
  ·rw [hz, yat (by rfl), yby w3, i6, Int.toNat_natCast, setQ q hq]
   have : upd (G 32 N) (i + md) (cvI IntKind.u32 0) = G 32 (R - qs * (D * 2 ^ (32 * i))) := by
    have := yj0 (w := 0) (z := 0) hN (by omega)
    rw [Nat.zero_mul, Nat.add_zero, hNe] at this
    exact this
   rw [this]; exact fin
  ·rw [hz, yaC (by rfl)]
   have hup : upd (G 32 N) (i + md) (cvI IntKind.u32 (-1)) = G 32 (N % 2 ^ (32 * (i + md)) + 4294967295 * 2 ^ (32 * (i + md))) :=
    yj0 (w := 4294967295) (z := 0) hN (by omega)
   have hNlt := yiu 32 (N % 2 ^ (32 * (i + md))) 4294967295 (i + md) hNl (by omega)
   have hs1 : yan IntKind.u64 (q : Int) 1 = ((qs : Nat) : Int) := by rw [yeY (by omega) (by omega)]; omega
   rw [hup, hs1]
   refine ⟨md + 1, ?_⟩
   refine yia n0 s L md i (qs : Int) hi hmd2 hL c1 c2 c3 (G 32 Q) D (N % 2 ^ (32 * (i + md)) + 4294967295 * 2 ^ (32 * (i + md))) hD _ ?_ md 0 _ 0 (by omega) hNlt (by omega) (by simp [Nat.mod_one])
   intro N2 c5 hN2 hc5 hE3
   have hd2 := ya6 32 N2 (i + md)
   rw [B32] at hd2
   have hNs2 := ybh 32 N2 (i + md)
   rw [Nat.mod_eq_of_lt hN2] at hNs2
   have hNl2 := Nat.mod_lt N2 (Nat.two_pow_pos (32 * (i + md)))
   have cc : cvI IntKind.u32 (c5 : Int) = c5 := by rw [ybw]; omega
   -- the sum of the two highest words is the base
   have hsum : dg 32 N2 (i + md) + c5 = 4294967296 ∧ N2 % 2 ^ (32 * (i + md)) = R - qs * (D * 2 ^ (32 * i)) := by
    have hl : N2 % 2 ^ (32 * (i + md)) + (dg 32 N2 (i + md) + c5) * 2 ^ (32 * (i + md)) = (R - qs * (D * 2 ^ (32 * i))) + 4294967296 * 2 ^ (32 * (i + md)) := by
     rw [Nat.add_mul]; omega
    have hlt : R - qs * (D * 2 ^ (32 * i)) < 2 ^ (32 * (i + md)) := by omega
    generalize 2 ^ (32 * (i + md)) = PT at *
    generalize dg 32 N2 (i + md) + c5 = t at *
    generalize R - qs * (D * 2 ^ (32 * i)) = v at *
    generalize N2 % PT = u at *
    have hPT : 0 < PT := by omega
    have a1 : (u + t * PT) / PT = t := by rw [Nat.add_mul_div_right _ _ hPT, Nat.div_eq_of_lt hNl2, Nat.zero_add]
    have a2 : (v + 4294967296 * PT) / PT = 4294967296 := by rw [Nat.add_mul_div_right _ _ hPT, Nat.div_eq_of_lt hlt, Nat.zero_add]
    rw [hl, a2] at a1
    subst a1
    exact ⟨rfl, by omega⟩
   show gd _ _
   rw [i1, i5, yby w0, yby w0, yby w3, i6, Int.toNat_natCast, setQ qs rfl]
   simp only [ya8]
   have ha : yak IntKind.u32 ((dg 32 N2 (i + md) : Nat) : Int) (cvI IntKind.u32 (c5 : Int)) = ((0 : Nat) : Int) := by
    rw [cc, show yak IntKind.u32 ((dg 32 N2 (i + md) : Nat) : Int) (c5 : Int) = IntKind.wrap .u32 (((dg 32 N2 (i + md) : Nat) : Int) + c5) from rfl, ynd]
    omega
   rw [ha, yj0 (w := 0) (z := 0) hN2 (by omega), Nat.zero_mul, Nat.add_zero, hsum.2]
   exact fin
 ·rw [Nat.mul_comm]; exact Nat.div_add_mod _ _
 ·exact Nat.lt_trans (Nat.mod_lt _ (by omega)) hv1
 ·rw [hqse]; exact hq0
theorem yqn {Q n m : Nat} (h : Q % 2 ^ m = 0) (hn : n ≤ m) : Q % 2 ^ n = 0 := by
 have : 2 ^ n ∣ 2 ^ m := Nat.pow_dvd_pow 2 hn
 exact Nat.mod_eq_zero_of_dvd (Nat.dvd_trans this (Nat.dvd_of_mod_eq_zero h))
theorem yik (n0 : Nat) (s : Int) (L md : Nat) (hmd : 2 ≤ md) (hmd2 : md ≤ 1000000) (hL2 : L ≤ 2000000) (hn : n0 ≤ 1000000) (c1 c2 c3 : Nat) (D N0 : Nat)
  (hD : D < 2 ^ (32 * md)) (hv : dg 32 D (md - 1) ≠ 0)
  (k0 : Nat → Int → Nat → Nat → (Nat → Int) → Nat → (Nat → Int) → Prop)
  (h : ∀ Q R, Q * D + R = N0 → R < D → Q < 2 ^ (32 * n0) → k0 n0 s L c1 (G 32 Q) c3 (G 32 R)) :
  ∀ (t Q R : Nat), t + md ≤ L → t ≤ n0 → R < D * 2 ^ (32 * t) → Q % 2 ^ (32 * t) = 0 → Q < 2 ^ (32 * n0) → Q * D + R = N0 → zbu.l20 k0 (t + 1) n0 s md L md ((t : Int) - 1) c1 (G 32 Q) c2 (G 32 D) c3 (G 32 R) := by
 intro t
 induction t with
 | zero =>
  intro Q R hL ht hR hQ hQ2 hN
  unfold zbu.l20 zbu.l20.step
  rw [yat (yf7 (by omega))]
  refine h Q R hN ?_ hQ2
  rw [Nat.mul_zero, Nat.pow_zero, Nat.mul_one] at hR; exact hR
 | succ t ih =>
  intro Q R hL ht hR hQ hQ2 hN
  unfold zbu.l20
  rw [show ((t + 1 : Nat) : Int) - 1 = (t : Int) from by omega]
  refine yhg n0 s L md t hmd hmd2 (by omega) (by omega) hL2 (by omega) hn c1 c2 c3 D Q R hD hv hR hQ _ _ fun q R' hq he hR' => ?_
  have hz : dg 32 Q t = 0 := by
   have h1 := ybh 32 Q t
   rw [hQ] at h1
   have h0 : dg 32 Q t * 2 ^ (32 * t) = 0 := by omega
   have hp := Nat.two_pow_pos (32 * t)
   rcases Nat.mul_eq_zero.1 h0 with h0 | h0
   ·exact h0
   ·omega
  refine ih _ R' (by omega) (by omega) hR' ?_ (ylC (w := q) (j := t) (by omega) hQ2 (by omega) (by rw [B32]; exact hq) (by rw [hz]; omega)) ?_
  ·rw [Nat.add_mul_mod_self_right]; exact yqn hQ (by omega)
  ·rw [Nat.add_mul, Nat.mul_assoc, Nat.mul_comm (2 ^ (32 * t)) D]; omega
theorem yjM (x y n : Nat) (hn : n ≤ 1000000) (hy : y ≠ 0) (hyB : y < 4294967296) (k0 : Nat → Int → Nat → (Nat → Int) → Prop) (c : Nat) (h : k0 n ((x % y : Nat) : Int) c (G 32 (x / y))) :
  ∀ t, t ≤ n → zbu.l7 k0 (t + 1) n (G 32 x) 1 (G 32 y) n ((x / 2 ^ (32 * t) % y : Nat) : Int) ((t : Int) - 1) c (G 32 (x / 2 ^ (32 * t) / y * 2 ^ (32 * t))) := by
 intro t
 induction t with
 | zero =>
  intro ht
  unfold zbu.l7 zbu.l7.step
  rw [yat (yf7 (by omega)), Nat.mul_zero, Nat.pow_zero, Nat.div_one, Nat.mul_one]
  exact h
 | succ t ih =>
  intro ht
  have ih := ih (by omega)
  have hX := ydb 32 x t
  rw [B32] at hX
  have hd := ya6 32 x t
  rw [B32] at hd
  have hp := Nat.two_pow_pos (32 * t)
  generalize hX1 : x / 2 ^ (32 * (t + 1)) = X1 at *
  rw [hX] at ih
  have hr := Nat.mod_lt X1 (show 0 < y by omega)
  have hdm := Nat.div_add_mod X1 y
  generalize hre : X1 % y = r at *
  generalize hqe : X1 / y = Q1 at *
  have hsum : dg 32 x t + X1 * 4294967296 = r * 4294967296 + dg 32 x t + y * (Q1 * 4294967296) := by
   rw [← hdm, Nat.add_mul, Nat.mul_assoc]; omega
  have hmod : (dg 32 x t + X1 * 4294967296) % y = (r * 4294967296 + dg 32 x t) % y := by rw [hsum, Nat.add_mul_mod_self_left]
  have hdiv : (dg 32 x t + X1 * 4294967296) / y = (r * 4294967296 + dg 32 x t) / y + Q1 * 4294967296 := by rw [hsum, Nat.add_mul_div_left _ _ (by omega)]
  rw [hmod, hdiv] at ih
  have hq : (r * 4294967296 + dg 32 x t) / y < 4294967296 := by
   rw [Nat.div_lt_iff_lt_mul (by omega)]
   have : (r + 1) * 4294967296 ≤ y * 4294967296 := Nat.mul_le_mul_right _ hr
   omega
  have hw : r * 4294967296 + dg 32 x t < 18446744073709551616 := by omega
  have hG : upd (G 32 (Q1 * 2 ^ (32 * (t + 1)))) t (((r * 4294967296 + dg 32 x t) / y : Nat) : Int) = G 32 (((r * 4294967296 + dg 32 x t) / y + Q1 * 4294967296) * 2 ^ (32 * t)) := by
   have hz : dg 32 (Q1 * 2 ^ (32 * (t + 1))) t = 0 := by
    unfold dg
    rw [ycv, B32, Nat.mul_comm (2 ^ _), ← Nat.mul_assoc, Nat.mul_div_cancel _ hp]
    exact Nat.mul_mod_left _ _
   refine ygv ?_ (by rw [B32]; exact hq)
   rw [hz, ycv, B32, Nat.add_mul, Nat.mul_comm (2 ^ (32 * t)) 4294967296, ← Nat.mul_assoc]
   omega
  rw [← hG] at ih
  have o := yg7 r (dg 32 x t) (by omega) hd
  have y0 : G 32 y 0 = (y : Int) := by rw [ya8, yrZ 32 y (by rw [B32]; exact hyB)]
  have e1 : ((t + 1 : Nat) : Int) - 1 = (t : Int) := by omega
  have w0 : (leI 0 (t : Int) && ltI (t : Int) (n : Int)) = true := by rw [ybd (by omega), ya9 (by omega)]; rfl
  have w1 : (!eqI (y : Int) 0) = true := by rw [ygq (by omega)]; rfl
  have cy : cvI IntKind.u64 (y : Int) = y := by rw [yaV (by omega) (by omega)]
  have cx : cvI IntKind.u64 ((dg 32 x t : Nat) : Int) = (dg 32 x t : Nat) := by rw [yaV (by omega) (by omega)]
  have r0 : ∀ a : Nat, ych IntKind.u64 ((a : Nat) : Int) ((y : Nat) : Int) = ((a % y : Nat) : Int) := fun a => by rw [yhx (by omega), ← Int.natCast_emod]
  unfold zbu.l7 zbu.l7.step
  rw [e1, yaC (ybd (by omega)), yby w0, yby (ya9 (by omega)), y0, cy, yby w1, yby w0, yby (ya9 (by omega)), yby w1, Int.toNat_natCast, ya8, cx, o, ypj _ _ hw, r0, ybw, yas (by omega) (by omega)]
  have e2 : ∀ q : Nat, q < 4294967296 → ((q : Nat) : Int) % 4294967296 = q := fun q h => by omega
  rw [e2 _ hq]
  exact ih
theorem ytW (n x : Nat) (hx : x < 2 ^ (32 * n)) : app n (G 32 x) (upd (fun _ => 0) 0 0) = G 32 x := by
 funext i
 unfold app
 by_cases h : i < n
 ·have : Nat.blt i n = true := by simpa using h
  rw [this]; rfl
 ·have : Nat.blt i n = false := by
   apply Bool.eq_false_iff.2; intro hc; simp at hc; omega
  rw [this, ya8, ydT 32 x n i hx (by omega)]
  show upd (fun _ => 0) 0 0 (i - n) = _
  by_cases h0 : i - n = 0
  ·rw [h0, ybZ]; rfl
  ·rw [ycI _ _ _ _ h0]; rfl
theorem ymr (x y s : Nat) : x * 2 ^ s / (y * 2 ^ s) = x / y := Nat.mul_div_mul_right _ _ (Nat.two_pow_pos s)
theorem ymz (x y s : Nat) : x * 2 ^ s % (y * 2 ^ s) = x % y * 2 ^ s := Nat.mul_mod_mul_right _ _ _
theorem ytU (k : Nat) (hk : k ≠ 0) (x n : Nat) : n < wl k x ↔ 2 ^ (k * n) ≤ x := by
 have := ydI k hk x n
 omega
theorem yd0 (x y : Nat) (hx : wl 32 x ≤ 100000) (hy0 : y ≠ 0) (hy : wl 32 y ≤ 100000) (K : Nat → (Nat → Int) → Nat → (Nat → Int) → Prop) (h : K (wl 32 (x / y)) (G 32 (x / y)) (wl 32 (x % y)) (G 32 (x % y))) :
  zbu (wl 32 x) (G 32 x) (wl 32 y) (G 32 y) K := by
 have h32 : (32 : Nat) ≠ 0 := by omega
 rw [zbu.is]; unfold zbu.d
 refine yfS x y _ _ (by omega) (by omega) rfl rfl _ ?_
 rw [yjQ]
 by_cases hlt : x < y
 ·rw [yaC (by simpa using hlt)]
  rw [Nat.div_eq_of_lt hlt, Nat.mod_eq_of_lt hlt, yc0, ycj] at h
  exact h
 ·rw [yat (by simpa using hlt)]
  have hxl := yeR 32 h32 x
  have hyl := yeR 32 h32 y
  have hyt := ymP 32 h32 y hy0
  have hxy := ybn (k := 32) h32 (show y ≤ x by omega)
  have hyp : wl 32 y ≠ 0 := by rw [yhP hy0 h32]; omega
  have hdx : x / y < 2 ^ (32 * wl 32 x) := Nat.lt_of_le_of_lt (Nat.div_le_self x y) hxl
  generalize hne : wl 32 x = n at *
  rw [yby (by rw [ybd (by omega), ybd (by omega), ybd (by omega)]; rfl)]
  by_cases h1 : wl 32 y = 1
  ·have hyB : y < 4294967296 := by rw [h1] at hyl; exact hyl
   rw [h1, yaC (yj8 (by omega)), Int.toNat_natCast, yas (by omega) (by omega)]
   refine ⟨n + 1, ?_⟩
   have := yjM x y n (by omega) hy0 hyB (fun y0 y1 y2 y3 => zbn y0 y2 y3 fun y0 y1_1 y2 => zbo 1 1 1 (upd (fun x => 0) 0 (cvI IntKind.u32 y1)) fun y0_1 y1 y2_1 y3 => K y0 y2 y0_1 y3) n ?_ n (Nat.le_refl _)
   ·rw [Nat.div_eq_of_lt hxl, Nat.zero_mod, Nat.zero_div, Nat.zero_mul, ycj] at this
    exact this
   ·refine ydQ n n _ (by omega) hdx _ ?_
    have hm := Nat.mod_lt x (show 0 < y by omega)
    have := yh5 32 0 (x % y) 0 (by simp) (by rw [B32]; omega)
    rw [Nat.mul_zero, Nat.pow_zero, Nat.mul_one, Nat.zero_add, ycj] at this
    rw [ybw, show ((x % y : Nat) : Int) % 4294967296 = ((x % y : Nat) : Int) from by generalize x % y = r at *; omega, this]
    exact ybU 1 1 1 _ (by omega) (by omega) (by rw [show 32 * 1 = 32 from rfl, B32]; omega) _ fun c => h
  ·rw [yat (ygq (by omega))]
   have hdt := ya6 32 y (wl 32 y - 1)
   rw [B32] at hdt
   have e1 : Int.toNat ((wl 32 y : Int) - 1) = wl 32 y - 1 := by omega
   rw [yas (by omega) (by omega), e1, yby (by rw [ybd (by omega), ya9 (by omega)]; rfl), ya8, yaV (by omega) (by omega)]
   refine ydn _ (by omega) _ ?_
   have hb : yav (dg 32 y (wl 32 y - 1)) ≤ 32 := (yaI _ _).2 (by rw [B32]; exact hdt)
   have es : yan IntKind.i64 32 ((yav (dg 32 y (wl 32 y - 1)) : Nat) : Int) = ((32 - yav (dg 32 y (wl 32 y - 1)) : Nat) : Int) := by
    rw [yas (by omega) (by omega)]; omega
   rw [es]
   generalize hse : 32 - yav (dg 32 y (wl 32 y - 1)) = s
   have hs : s ≤ 32 := by omega
   -- the divisor moved
   have hps := Nat.two_pow_pos s
   have hD0 : y * 2 ^ s ≠ 0 := by
    intro e; rcases Nat.mul_eq_zero.1 e with e | e
    ·exact hy0 e
    ·omega
   have hX0 : x * 2 ^ s ≠ 0 := by
    intro e; rcases Nat.mul_eq_zero.1 e with e | e
    ·omega
    ·omega
   have hle : ∀ z : Nat, z ≤ z * 2 ^ s := fun z => Nat.le_mul_of_pos_right z hps
   have wD1 := ybn (k := 32) h32 (hle y)
   have wX1 := ybn (k := 32) h32 (hle x)
   have wup : ∀ z m : Nat, z < 2 ^ (32 * m) → wl 32 (z * 2 ^ s) ≤ m + 1 := fun z m hz => by
    rw [ydI 32 h32, ycv]
    exact Nat.mul_lt_mul_of_lt_of_le hz (Nat.pow_le_pow_right (by omega) hs) (Nat.two_pow_pos _)
   have wD2 := wup y _ hyl
   have wX2 := wup x _ hxl
   have wDX : wl 32 (y * 2 ^ s) ≤ wl 32 (x * 2 ^ s) := ybn (k := 32) h32 (Nat.mul_le_mul_right _ (by omega))
   rw [hne] at wX1
   refine yfk y _ s (by omega) (by omega) hyl _ _ (fun e => absurd e hyp) fun _ c2 m2 => ?_
   refine yfk x _ s (by omega) (by omega) hxl _ _ (fun e => absurd e (by omega)) fun _ c3 m3 => ?_
   have hDl := yeR 32 h32 (y * 2 ^ s)
   have hDt := ymP 32 h32 _ hD0
   have hXl := yeR 32 h32 (x * 2 ^ s)
   rw [ytW _ _ hXl]
   generalize hmd : wl 32 (y * 2 ^ s) = md at *
   generalize hL : wl 32 (x * 2 ^ s) = L at *
   rw [yby (ytR (by omega))]
   refine ⟨1, ?_⟩
   unfold zbu.l16 zbu.l16.step
   rw [yap (by omega) (by omega), yat (ybj (by omega)), Int.toNat_natCast]
   dsimp only
   have ei : yan IntKind.i64 (yan IntKind.i64 ((L + 1 : Nat) : Int) (md : Int)) 1 = ((L + 1 - md : Nat) : Int) - 1 := by
    simp (disch := omega) only [yas]
    omega
   rw [ei]
   refine ⟨L + 1 - md + 1, ?_⟩
   rw [← ycj 32]
   refine yik n s (L + 1) md (by omega) (by omega) (by omega) (by omega) n m2 (L + 1) (y * 2 ^ s) (x * 2 ^ s) hDl hDt _ (fun Q R he hR hQ => ?_) (L + 1 - md) 0 (x * 2 ^ s) (by omega) (by omega) ?_ (by simp) (Nat.two_pow_pos _) (by omega)
   ·have hq : Q = x / y := by
     rw [← ymr x y s, ← he, Nat.mul_comm Q, Nat.mul_add_div (by omega), Nat.div_eq_of_lt hR, Nat.add_zero]
    have hr : R = x % y * 2 ^ s := by
     rw [← ymz x y s, ← he, Nat.mul_comm Q, Nat.mul_add_mod, Nat.mod_eq_of_lt hR]
    refine ydQ n n Q (by omega) hQ _ ?_
    have hRX : R < 2 ^ (32 * (L + 1)) := by
     have h1 : R ≤ x * 2 ^ s := by rw [← he]; omega
     have h2 : (2 : Nat) ^ (32 * L) ≤ 2 ^ (32 * (L + 1)) := Nat.pow_le_pow_right (by omega) (by omega)
     omega
    refine ydQ (L + 1) (L + 1) R (by omega) hRX _ ?_
    refine ye0 R _ s ?_ (by omega) (yeR 32 h32 R) _ ?_
    ·have := (ydI 32 h32 R (L + 1)).2 hRX
     omega
    ·have : R / 2 ^ s = x % y := by rw [hr, Nat.mul_div_cancel _ hps]
     rw [this, hq]; exact h
   ·have h1 : 2 ^ (32 * (md - 1)) ≤ y * 2 ^ s := (ytU 32 h32 _ _).1 (by omega)
    have h2 : 2 ^ (32 * (md - 1)) * 2 ^ (32 * (L + 1 - md)) ≤ y * 2 ^ s * 2 ^ (32 * (L + 1 - md)) := Nat.mul_le_mul_right _ h1
    rw [← Nat.pow_add, show 32 * (md - 1) + 32 * (L + 1 - md) = 32 * L from by omega] at h2
    omega
end Go.Ev.S

/- Natural numbers: quotients, greatest common divisors, roots. -/
set_option linter.unusedVariables false
set_option linter.unusedSimpArgs false
set_option maxRecDepth 8000
namespace Go.Ev.S
open Go Go.Ev
theorem ygM {a : List UInt8} (h : yiw a = true) : val a = 0 ↔ a = [] := by
 constructor
 ·intro e; rw [← yiV h, e, yaH]
 ·intro e; subst e; rfl
theorem yfH (a b : List UInt8) (K : List UInt8 → List UInt8 → Int → Prop) (h1 : ¬ (May a ∧ May b) → K [] [] 2) (h0 : b = [] → K [] [] 2) (h2 : May a → May b → val b ≠ 0 → K (nb (val a / val b)) (nb (val a % val b)) 0) : zbc a b K := by
 rw [zbc.is]; unfold zbc.d
 rw [ycm]
 by_cases h : May a ∧ May b
 ·rw [yat (by simp [h]), ybf]
  by_cases hb : b = []
  ·rw [yaC (by simpa using hb)]; exact h0 hb
  ·rw [yat (by simpa using hb)]
   have hv : val b ≠ 0 := fun e => hb ((ygM h.2.2).1 e)
   refine h.1.words _ (h.2.words _ ?_)
   have w1 := h.1.wl; have w2 := h.2.wl
   have w3 := ybn (k := 32) (by omega) (Nat.div_le_self (val a) (val b))
   have w4 := ybn (k := 32) (by omega) (Nat.mod_le (val a) (val b))
   refine yd0 _ _ (by omega) hv (by omega) _ ?_
   refine ybb _ _ (by omega) (ybJ _) _ ?_
   exact ybb _ _ (by omega) (ybJ _) _ (h2 h.1 h.2 hv)
 ·rw [yaC (by simp [h])]; exact h1 h
theorem ykb (k0 : Nat → (Nat → Int) → Prop) : ∀ (y x : Nat), wl 32 x ≤ 100000 → wl 32 y ≤ 100000 → k0 (wl 32 (Nat.gcd x y)) (G 32 (Nat.gcd x y)) → ∃ f, zbd.l4 k0 f (wl 32 x) (G 32 x) (wl 32 y) (G 32 y) := by
 intro y
 induction y using Nat.strongRecOn with
 | _ y ih =>
  intro x hx hy hk
  by_cases h0 : y = 0
  ·subst h0
   refine ⟨1, ?_⟩
   unfold zbd.l4 zbd.l4.step
   rw [yc0, yat (ybj (by omega))]
   rw [Nat.gcd_zero_right] at hk; exact hk
  ·have hm := Nat.mod_lt x (show 0 < y by omega)
   have w := ybn (k := 32) (by omega) (Nat.le_of_lt hm)
   have hg : Nat.gcd y (x % y) = Nat.gcd x y := by rw [Nat.gcd_comm x y, Nat.gcd_rec y x, Nat.gcd_comm]
   obtain ⟨f, hf⟩ := ih (x % y) hm y hy (by omega) (by rw [hg]; exact hk)
   refine ⟨f + 1, ?_⟩
   unfold zbd.l4 zbd.l4.step
   have hp : wl 32 y ≠ 0 := by rw [yhP h0 (by omega)]; omega
   rw [yaC (ya9 (by omega))]
   exact yd0 x y hx h0 hy _ hf
theorem ynN (x y : Nat) : Nat.gcd x y ≤ x ∨ Nat.gcd x y ≤ y := by
 rcases Nat.eq_zero_or_pos x with e | e
 ·right; subst e; rw [Nat.gcd_zero_left]; omega
 ·left; exact Nat.gcd_le_left y e
theorem yiZ (a b : List UInt8) (K : List UInt8 → Int → Prop) (h1 : ¬ (May a ∧ May b) → K [] 2) (h2 : May a → May b → K (nb (Nat.gcd (val a) (val b))) 0) : zbd a b K := by
 rw [zbd.is]; unfold zbd.d
 rw [ycm]
 by_cases h : May a ∧ May b
 ·rw [yat (by simp [h])]
  refine h.1.words _ (h.2.words _ ?_)
  have w1 := h.1.wl; have w2 := h.2.wl
  refine ykb _ _ _ (by omega) (by omega) ?_
  have w3 : wl 32 (Nat.gcd (val a) (val b)) ≤ 4096 := by
   rcases ynN (val a) (val b) with e | e
   ·have := ybn (k := 32) (by omega) e; omega
   ·have := ybn (k := 32) (by omega) e; omega
  exact ybb _ _ (by omega) (ybJ _) _ (h2 h.1 h.2)
 ·rw [yaC (by simp [h])]; exact h1 h
theorem ytu (k0 : Nat → Nat → Nat → (Nat → Int) → Prop) : ∀ n, zca.l5 k0 n = zbz.l5 k0 n := by
 intro n
 induction n with
 | zero => rfl
 | succ n ih =>
  unfold zca.l5 zbz.l5
  rw [ih]; rfl
theorem ytg (n : Nat) (f : Nat → Int) (s : Int) (K : Nat → (Nat → Int) → Prop) : zca n f s K = zbz n f s (K 0 fun _ => 0) (fun y0 _ _ y3 => K y0 y3) := by
 rw [zca.is, zbz.is]; unfold zca.d zbz.d
 simp only [ytu]
def yea (x r : Nat) : Prop := r * r ≤ x ∧ x < (r + 1) * (r + 1)
theorem ypc {x r s : Nat} (h : yea x r) (g : yea x s) : r = s := by
 have key : ∀ {r s : Nat}, yea x r → yea x s → r ≤ s := by
  intro r s h g
  apply Classical.byContradiction
  intro hc
  have : (s + 1) * (s + 1) ≤ r * r := Nat.mul_le_mul (by omega) (by omega)
  have h1 := h.1; have h2 := g.2
  omega
 have h1 := key h g; have h2 := key g h
 omega
theorem ytt {x r : Nat} (hr : 0 < r) : x < ((r + x / r) / 2 + 1) * ((r + x / r) / 2 + 1) := by
 have h1 : x < r * (x / r + 1) := by
  have := Nat.div_add_mod x r
  have := Nat.mod_lt x hr
  rw [Nat.mul_add]; omega
 generalize x / r = q at *
 have h2 : r + (q + 1) ≤ 2 * ((r + q) / 2 + 1) := by omega
 have h3 : (r + (q + 1)) * (r + (q + 1)) ≤ 2 * ((r + q) / 2 + 1) * (2 * ((r + q) / 2 + 1)) := Nat.mul_le_mul h2 h2
 generalize (r + q) / 2 + 1 = m at *
 generalize q + 1 = p at *
 have h4 : 4 * (r * p) ≤ (r + p) * (r + p) := by
  rcases Nat.le_total r p with e | e
  ·obtain ⟨d, rfl⟩ := Nat.exists_eq_add_of_le e
   have : (r + (r + d)) * (r + (r + d)) = 4 * (r * (r + d)) + d * d := by
    simp only [Nat.add_mul, Nat.mul_add]
    have := Nat.mul_comm d r
    omega
   omega
  ·obtain ⟨d, rfl⟩ := Nat.exists_eq_add_of_le e
   have : (p + d + p) * (p + d + p) = 4 * ((p + d) * p) + d * d := by
    simp only [Nat.add_mul, Nat.mul_add]
    have := Nat.mul_comm d p
    omega
   omega
 have h5 : 2 * m * (2 * m) = 4 * (m * m) := by
  rw [Nat.mul_assoc, Nat.mul_left_comm m 2 m, ← Nat.mul_assoc]
 omega
theorem ymp {x r : Nat} (hr : 0 < r) (h : r ≤ (r + x / r) / 2) : r * r ≤ x := by
 have h1 : r ≤ x / r := by omega
 exact (Nat.le_div_iff_mul_le hr).1 h1
theorem yjW (x : Nat) (hx0 : x ≠ 0) (hx : wl 32 x ≤ 100000) (k0 : Nat → (Nat → Int) → Nat → (Nat → Int) → Prop) (hk : ∀ r, yea x r → k0 (wl 32 x) (G 32 x) (wl 32 r) (G 32 r)) :
  ∀ r, wl 32 r ≤ 100000 → 0 < r → x < (r + 1) * (r + 1) → ∃ f, zbk.l7 k0 f (wl 32 x) (G 32 x) (wl 32 r) (G 32 r) := by
 intro r
 induction r using Nat.strongRecOn with
 | _ r ih =>
  intro hw hr hlt
  have w1 := ybn (k := 32) (by omega) (Nat.div_le_self x r)
  have w2 : wl 32 (r + x / r) ≤ 100000 + 1 := yry hw (by omega)
  have hn := ytt (x := x) hr
  have base : ∀ again : Nat → (Nat → Int) → Nat → (Nat → Int) → Prop, (ltI (sgn ((r + x / r) / 2) r) 0 = false → k0 (wl 32 x) (G 32 x) (wl 32 r) (G 32 r)) → ((r + x / r) / 2 < r → again (wl 32 x) (G 32 x) (wl 32 ((r + x / r) / 2)) (G 32 ((r + x / r) / 2))) →
    zbk.l7.step again k0 (wl 32 x) (G 32 x) (wl 32 r) (G 32 r) := by
   intro again g1 g2
   unfold zbk.l7.step
   refine yd0 x r hx (by omega) hw _ ?_
   refine yiF r (x / r) _ _ (by omega) (by omega) (ybJ _) (ybJ _) _ ?_
   refine ye0 (r + x / r) _ 1 (by omega) (by omega) (ybJ _) _ ?_
   rw [Nat.pow_one]
   have w3 := ybn (k := 32) (by omega) (Nat.div_le_self (r + x / r) 2)
   refine yfS _ _ _ _ (by omega) (by omega) rfl rfl _ ?_
   by_cases hc : (r + x / r) / 2 < r
   ·rw [yat (yf7 (by unfold sgn; rw [if_pos hc]; omega))]
    exact g2 hc
   ·rw [yaC (ybd (by unfold sgn; rw [if_neg hc]; split <;> omega))]
    refine g1 ?_
    rw [yjQ]; simpa using hc
  by_cases hc : (r + x / r) / 2 < r
  ·have hpos : 0 < (r + x / r) / 2 := by
    apply Classical.byContradiction
    intro h0
    have h1 : (r + x / r) / 2 = 0 := Nat.le_zero.1 (Nat.not_lt.1 h0)
    rw [h1] at hn
    omega
   have w3 := ybn (k := 32) (by omega) (Nat.le_of_lt hc)
   obtain ⟨f, hf⟩ := ih _ hc (by omega) hpos hn
   refine ⟨f + 1, ?_⟩
   unfold zbk.l7
   refine base _ (fun e => ?_) fun _ => hf
   rw [yjQ] at e
   exact absurd hc (by simpa using e)
  ·refine ⟨1, ?_⟩
   unfold zbk.l7
   exact base _ (fun _ => hk r ⟨ymp hr (by omega), hlt⟩) fun e => absurd e hc
theorem ylB (a : List UInt8) (K : List UInt8 → List UInt8 → Int → Prop) (h1 : ¬ May a → K [] [] 2) (h2 : May a → ∀ r, yea (val a) r → K (nb r) (nb (val a - r * r)) 0) : zbk a K := by
 rw [zbk.is]; unfold zbk.d
 rw [yaU]
 by_cases hm : May a
 ·rw [if_pos hm, yat (by rfl), ybf]
  by_cases hz : a = []
  ·rw [yaC (by simpa using hz)]
   have := h2 hm 0 (by subst hz; exact ⟨by decide, by decide⟩)
   subst hz
   rw [yeS, Nat.zero_mul, Nat.sub_zero, yaH] at this
   exact this
  ·rw [yat (by simpa using hz)]
   have hx0 : val a ≠ 0 := fun e => hz ((ygM hm.2).1 e)
   have w1 := hm.wl
   refine hm.words _ (yjO _ (by omega) _ ?_)
   have gen : ∀ m, m = 16384 → yav (val a) ≤ 8 * m := fun m hm2 => (yaI _ _).2 (Nat.lt_of_lt_of_le (ygb a) (by rw [ymU]; exact ycY (by have := hm.1; omega)))
   have hb := gen 16384 rfl
   have hbl := (yaI (val a) _).1 (Nat.le_refl _)
   have e1 : yaF IntKind.i64 (yak IntKind.i64 ((yav (val a) : Nat) : Int) 1) 2 = (((yav (val a) + 1) / 2 : Nat) : Int) := by
    simp (disch := omega) only [yap, ybX]
    omega
   have e2 : upd (fun _ => (0 : Int)) 0 1 = G 32 1 := by
    have := yh5 32 0 1 0 (by simp) (by omega)
    rw [Nat.mul_zero, Nat.pow_zero, Nat.mul_one, Nat.zero_add, ycj] at this
    exact this
   rw [e1, ytg, e2]
   have hs1 : (yav (val a) + 1) / 2 ≤ 65537 := by omega
   have hs2 : yav (val a) ≤ (yav (val a) + 1) / 2 + (yav (val a) + 1) / 2 := by omega
   generalize (yav (val a) + 1) / 2 = s at *
   refine yfk 1 1 s (by omega) (by omega) (by omega) _ _ (fun e => by omega) fun _ _ _ => ?_
   rw [Nat.one_mul]
   have hps := Nat.two_pow_pos s
   have hw : wl 32 (2 ^ s) ≤ s + 1 := (ydI 32 (by omega) _ _).2 (Nat.pow_lt_pow_right (by omega) (by omega))
   have hlt : val a < (2 ^ s + 1) * (2 ^ s + 1) := by
    have h1 : 2 ^ yav (val a) ≤ 2 ^ (s + s) := Nat.pow_le_pow_right (by omega) hs2
    rw [Nat.pow_add] at h1
    have h3 : 2 ^ s * 2 ^ s ≤ (2 ^ s + 1) * (2 ^ s + 1) := Nat.mul_le_mul (by omega) (by omega)
    omega
   refine yjW (val a) hx0 (by omega) _ (fun r hr => ?_) _ (by omega) hps hlt
   have hrx : r ≤ val a := by
    have h1 := hr.1
    rcases Nat.eq_zero_or_pos r with e | e
    ·omega
    ·have := Nat.mul_le_mul_left r e
     omega
   have w2 := ybn (k := 32) (by omega) hrx
   have w3 := ybn (k := 32) (by omega) hr.1
   have w4 := ybn (k := 32) (by omega) (Nat.sub_le (val a) (r * r))
   refine ybb _ _ (by omega) (ybJ _) _ ?_
   refine ygm r r _ _ (by omega) (by omega) (ybJ _) (ybJ _) _ ?_
   refine ymx _ _ _ _ (by omega) (by omega) (ybJ _) (ybJ _) hr.1 _ ?_
   exact ybb _ _ (by omega) (ybJ _) _ (h2 hm r hr)
 ·rw [if_neg hm, yaC (by rfl)]; exact h1 hm
end Go.Ev.S

/- What the document's answer reckons with natural numbers, byte by byte. -/
set_option linter.unusedVariables false
set_option linter.unusedSimpArgs false
set_option maxRecDepth 8000
namespace Go.Ev.S
open Go Go.Ev
theorem B8 : (2 : Nat) ^ 8 = 256 := rfl
theorem ylU (n0 x : Nat) (hn0 : n0 ≤ 1000000000) (k0 : Nat → (Nat → Int) → Int → Prop) (h : ∀ n : Nat, n ≤ n0 → x < 2 ^ (8 * n) → (n = 0 ∨ dg 8 x (n - 1) ≠ 0) → k0 n0 (G 8 x) n) :
  ∀ (n : Nat), n ≤ n0 → x < 2 ^ (8 * n) → zcp.l2 k0 (n + 1) n0 (G 8 x) n := by
 intro n
 induction n with
 | zero =>
  intro hn hx
  unfold zcp.l2 zcp.l2.step
  rw [yat (ybj (by omega))]
  exact h 0 hn hx (.inl rfl)
 | succ n ih =>
  intro hn hx
  unfold zcp.l2 zcp.l2.step
  have e1 : ((n + 1 : Nat) : Int) - 1 = (n : Int) := by omega
  simp (disch := omega) only [yas, ya9, ybd, yaD, ya5, Bool.and_self, e1, Int.toNat_natCast, ya8]
  by_cases hd : dg 8 x n = 0
  ·rw [yaC (yj8 (by omega))]
   refine ih (by omega) ?_
   have h2 := ybh 8 x n
   rw [Nat.mod_eq_of_lt hx, hd, Nat.zero_mul, Nat.add_zero] at h2
   have := Nat.mod_lt x (Nat.two_pow_pos (8 * n))
   omega
  ·rw [yat (ygq (by omega))]
   exact h (n + 1) hn hx (.inr hd)
theorem yla (n0 x L c m : Nat) (hL : L ≤ n0) (hn0 : n0 ≤ 1000000000) (k0 : Nat → Nat → Nat → (Nat → Int) → Prop) (h : k0 L c m (BE L L x)) :
  ∀ (j i : Nat), i + j = L → zcp.l6 k0 (j + 1) n0 (G 8 x) L L c i m (BE L i x) := by
 intro j
 induction j with
 | zero =>
  intro i hi
  unfold zcp.l6 zcp.l6.step
  rw [yat (ybj (by omega)), show i = L from by omega]
  exact h
 | succ j ih =>
  intro i hi
  have ih := ih (i + 1) (by omega)
  have e : ((i + 1 : Nat) : Int) = (i : Int) + 1 := by omega
  rw [e] at ih
  have e2 : Int.toNat ((L : Int) - 1 - i) = L - 1 - i := by omega
  unfold zcp.l6 zcp.l6.step
  simp (disch := omega) only [yas, yap, ya9, ybd, yaD, ya5, Bool.and_self, Int.toNat_natCast, e2, ya8]
  rw [ypv L i x (by omega)]
  exact ih
theorem yee (n x : Nat) (hn : n ≤ 1000000000) (hx : x < 2 ^ (8 * n)) (K : List UInt8 → Prop) (h : K (nb x)) : zcp n (G 8 x) K := by
 rw [zcp.is]; unfold zcp.d
 refine ⟨n + 1, ylU n x hn _ (fun L hL hx' ht => ?_) n (Nat.le_refl _) hx⟩
 simp (disch := omega) only [ybd, yaD, Bool.and_self, Int.toNat_natCast]
 refine ⟨L + 1, ?_⟩
 have := yla n x L L L hL hn (fun y0 y1 y2 y3 => K (ybB y0 y3)) ?_ L 0 (by omega)
 ·rw [ypN] at this; exact this
 ·have h2 := ymS L 0 L x (by omega) hx' ht
  have e : (fun j => BE L L x (0 + j)) = BE L L x := by funext j; rw [Nat.zero_add]
  rw [e] at h2
  show K (ybB L (BE L L x))
  rw [h2]; exact h
theorem ycp (a : List UInt8) (i : Nat) (hi : i ≤ 1000000000) (hl : a.length ≤ 1000000000) (K : Int → Prop) : zcm a i K = K (dg 8 (val a) i : Int) := by
 rw [zcm.is]; unfold zcm.d
 by_cases h : a.length ≤ i
 ·rw [yaC (ybd (by omega)), ydT 8 (val a) a.length i (by rw [← ymU]; exact ygb a) h]; rfl
 ·have e2 : Int.toNat ((a.length : Int) - 1 - i) = a.length - 1 - i := by omega
  have hd := ya6 8 (val a) i
  rw [B8] at hd
  simp (disch := omega) only [yas, ya9, yf7, ybd, yaD, yeu, Bool.and_self, e2]
  rw [ye5 a i (by omega), yfm (by omega) (by omega)]
theorem yex (a : List UInt8) (K : Bool → Prop) : zck a K = K (decide (May a)) := by
 rw [zck.is]; unfold zck.d
 by_cases h : a.length ≤ 16384
 ·rw [yaC (ybd (by omega)), ybf]
  cases a with
  | nil => rw [yaC (by simp)]; congr 1
  | cons b l =>
   have hl : (0 : Int) < ((b :: l).length : Int) := by simp only [List.length_cons]; omega
   rw [yat (by simp), yby (ya9 hl), ydm]
   by_cases hb : b.toNat = 0
   ·rw [yj8 (by omega)]
    congr 1
    have : ¬ May (b :: l) := fun hm => by have := hm.2; simp [yiw, hb] at this
    simp [this]
   ·rw [ygq (by omega)]
    congr 1
    have : May (b :: l) := ⟨h, by simpa [yiw] using hb⟩
    simp [this]
 ·rw [yat (yf7 (by omega))]
  congr 1
  have : ¬ May a := fun hm => h hm.1
  simp [this]
theorem yb2 (a : List UInt8) : val a < 2 ^ (8 * a.length) := by rw [← ymU]; exact ygb a
theorem yky (a b : List UInt8) (ha : a.length ≤ 1000000) (hb : b.length ≤ 1000000) (hle : val b ≤ val a) (c0 m0 : Nat) (k0 : Nat → Nat → Nat → (Nat → Int) → Prop) (h : k0 a.length c0 m0 (G 8 (val a - val b))) :
  ∀ (j i z : Nat) (c : Int), i + j = a.length → z < 2 ^ (8 * i) → (z : Int) - c * (2 ^ (8 * i) : Nat) = (val a % 2 ^ (8 * i) : Nat) - (val b % 2 ^ (8 * i) : Nat) → (c = 0 ∨ c = 1) →
   zcq.l4 k0 (j + 1) a b a.length c0 c i m0 (G 8 z) := by
 intro j
 induction j with
 | zero =>
  intro i z c hi hz hN hc
  have hi : i = a.length := by omega
  subst hi
  unfold zcq.l4 zcq.l4.step
  rw [yat (ybj (by omega))]
  have hx := yb2 a
  rw [Nat.mod_eq_of_lt hx, Nat.mod_eq_of_lt (by omega)] at hN
  have hc0 : c = 0 := by
   rcases hc with h0 | h0
   ·exact h0
   ·exfalso; subst h0; omega
  subst hc0
  rw [show val a - val b = z from by omega] at h
  exact h
 | succ j ih =>
  intro i z c hi hz hN hc
  have hdx := ya6 8 (val a) i
  have hdy := ya6 8 (val b) i
  rw [B8] at hdx hdy
  have step : ∀ (s c' : Int), s = (dg 8 (val a) i : Int) - (dg 8 (val b) i : Int) - c → (c' = if s < 0 then 1 else 0) → zcq.l4 k0 (j + 1) a b a.length c0 c' ((i : Int) + 1) m0 (upd (G 8 z) i (s % 256)) := by
   intro s c' hs hc'
   have hw : s % 256 = ((s % 256).toNat : Int) := by omega
   have hwl : (s % 256).toNat < 2 ^ 8 := by rw [B8]; omega
   have e : ((i + 1 : Nat) : Int) = (i : Int) + 1 := by omega
   rw [hw, yh5 8 z _ i hz hwl, ← e]
   refine ih (i + 1) _ _ (by omega) (yiu 8 z _ i hz hwl) ?_ (by rw [hc']; split <;> simp)
   rw [ybh, ybh, ycv, B8]
   generalize 2 ^ (8 * i) = P at *
   have h4 : s = (s % 256).toNat - 256 * c' := by rw [hc']; split <;> omega
   have h5 : s * (P : Int) = (s % 256).toNat * (P : Int) - c' * ((P : Int) * 256) := by
    conv => lhs; rw [h4]
    rw [Int.sub_mul, Int.mul_comm (256 : Int), Int.mul_assoc, Int.mul_comm (256 : Int)]
   have h6 : s * (P : Int) = (dg 8 (val a) i : Int) * P - (dg 8 (val b) i : Int) * P - c * P := by rw [hs, Int.sub_mul, Int.sub_mul]
   have c1 : ((z + (s % 256).toNat * P : Nat) : Int) = (z : Int) + ((s % 256).toNat : Int) * (P : Int) := by simp
   have c2 : ((val a % P + dg 8 (val a) i * P : Nat) : Int) = ((val a % P : Nat) : Int) + (dg 8 (val a) i : Int) * (P : Int) := by simp
   have c3 : ((val b % P + dg 8 (val b) i * P : Nat) : Int) = ((val b % P : Nat) : Int) + (dg 8 (val b) i : Int) * (P : Int) := by simp
   have c4 : ((P * 256 : Nat) : Int) = (P : Int) * 256 := by simp
   rw [c1, c2, c3, c4]
   omega
  unfold zcq.l4 zcq.l4.step
  rw [yaC (ya9 (by omega)), ycp a i (by omega) (by omega), ycp b i (by omega) (by omega)]
  simp (disch := omega) only [ya9, ybd, yaD, Bool.and_self, Int.toNat_natCast, yap, yas, ym4]
  by_cases hs : (dg 8 (val a) i : Int) - (dg 8 (val b) i : Int) - c < 0
  ·rw [yaC (ya9 hs)]; exact step _ 1 rfl (by rw [if_pos hs])
  ·rw [yat (ybj (by omega))]; exact step _ 0 rfl (by rw [if_neg hs])
theorem yod (a b : List UInt8) (ha : a.length ≤ 1000000) (hb : b.length ≤ 1000000) (hle : val b ≤ val a) (K : List UInt8 → Prop) (h : K (nb (val a - val b))) : zcq a b K := by
 rw [zcq.is]; unfold zcq.d
 simp (disch := omega) only [ybd, yaD, Bool.and_self, Int.toNat_natCast]
 refine ⟨a.length + 1, ?_⟩
 have := yky a b ha hb hle a.length a.length (fun y0 y1 y2 y3 => zcp y0 y3 fun y0 => K y0) ?_ a.length 0 0 0 (by omega) (Nat.two_pow_pos _) (by simp [Nat.mod_one]) (.inl rfl)
 ·rw [ycj] at this; exact this
 ·refine yee _ _ (by omega) ?_ _ h
  have := yb2 a
  omega
theorem yio (a b : List UInt8) (ha : yiw a = true) (hb : yiw b = true) (K : Int → Prop) : zcf a b K = K (sgn (val a) (val b)) := by
 rw [zcf.is]; unfold zcf.d
 have la := ylr ha; have lb := ylr hb
 by_cases hl : a.length = b.length
 ·rw [hl, yj8 rfl, yat (by rfl), yrT a b hl, yjZ]
  unfold sgn
  by_cases h : val a < val b
  ·rw [yaC (by simpa using h), if_pos h]
  ·rw [yat (by simpa using h), if_neg h]
   by_cases he : a = b
   ·rw [yat (by simp [he]), he, if_neg (by omega)]
   ·have : val a ≠ val b := fun e => he (ysD ha hb e)
    rw [yaC (by simp [h, he]), if_pos (by omega)]
 ·rw [ygq (by omega), yaC (by rfl)]
  unfold sgn
  by_cases h : a.length < b.length
  ·have : val a < val b := Classical.byContradiction fun hc => by have := ybn (k := 8) (by omega) (show val b ≤ val a by omega); omega
   rw [yaC (ya9 (by omega)), if_pos this]
  ·have : val b < val a := Classical.byContradiction fun hc => by have := ybn (k := 8) (by omega) (show val a ≤ val b by omega); omega
   rw [yat (ybj (by omega)), if_neg (by omega), if_pos this]
end Go.Ev.S

/- What the document's answer reckons with natural numbers: products. -/
set_option linter.unusedVariables false
set_option linter.unusedSimpArgs false
set_option maxRecDepth 8000
namespace Go.Ev.S
open Go Go.Ev
end Go.Ev.S

/- What the document's answer reckons with natural numbers: made, measured, moved. -/
set_option linter.unusedVariables false
set_option linter.unusedSimpArgs false
set_option maxRecDepth 8000
namespace Go.Ev.S
open Go Go.Ev
theorem yr1 (a s : Nat) (hs : s ≤ 63) (h : a * 2 ^ s < 9223372036854775808) : ybE .i64 (a : Int) (s : Int) = ((a * 2 ^ s : Nat) : Int) := by
 have hb : IntKind.bits .i64 = 64 := rfl
 have h1 : min (Int.toNat (s : Int)) (IntKind.bits .i64) = s := by rw [Int.toNat_natCast, hb]; omega
 simp only [ybE, h1]
 have e : (a : Int) * 2 ^ s = ((a * 2 ^ s : Nat) : Int) := by simp
 rw [e]
 exact yd5 (by omega) (by omega)
theorem ytj (a b : Nat) (ha : a < 2 ^ 62) (hb : b < 2 ^ 62) : orI .i64 (a : Int) (b : Int) = ((a ||| b : Nat) : Int) := by
 have h3 : a ||| b < 2 ^ 62 := Nat.or_lt_two_pow ha hb
 have e62 : (2 : Nat) ^ 62 = 4611686018427387904 := rfl
 show IntKind.wrap .i64 (((BitVec.ofInt 64 (a : Int) ||| BitVec.ofInt 64 (b : Int) : BitVec 64).toNat : Nat) : Int) = _
 rw [BitVec.toNat_or, BitVec.ofInt_natCast, BitVec.ofInt_natCast, BitVec.toNat_ofNat, BitVec.toNat_ofNat, Nat.mod_eq_of_lt (by rw [B64]; omega), Nat.mod_eq_of_lt (by rw [B64]; omega)]
 exact yd5 (by omega) (by omega)
theorem ypK (a : Nat) (ha : a < 2 ^ 62) : yi5 .i64 (a : Int) 1 = ((a % 2 : Nat) : Int) := by
 have e62 : (2 : Nat) ^ 62 = 4611686018427387904 := rfl
 show IntKind.wrap .i64 (((BitVec.ofInt 64 (a : Int) &&& BitVec.ofInt 64 ((1 : Nat) : Int) : BitVec 64).toNat : Nat) : Int) = _
 rw [BitVec.toNat_and, BitVec.ofInt_natCast, BitVec.ofInt_natCast, BitVec.toNat_ofNat, BitVec.toNat_ofNat, Nat.mod_eq_of_lt (by rw [B64]; omega), Nat.mod_eq_of_lt (by rw [B64]; omega)]
 have : a &&& 1 = a % 2 := Nat.and_one_is_mod a
 rw [this]
 exact yd5 (by omega) (by omega)
theorem yo9 (a s : Nat) (hs : s ≤ 64) : yaO .i64 (a : Int) (s : Int) = ((a / 2 ^ s : Nat) : Int) := by
 rw [yeK (k := .i64) hs]; simp
theorem W_G (x : Nat) : W x = G 64 x := rfl
theorem ytJ {i : Nat} (h : i = 48) : 2 ^ (8 * i) = Q6 := yfn (by omega)
theorem yqL (d b s w : Nat) (hd : d < 2 ^ s) (hs : s + w ≤ 64) (hb : b < 2 ^ w) : orI .u64 (d : Int) (ybE .u64 (b : Int) (s : Int)) = ((d + b * 2 ^ s : Nat) : Int) := by
 have hb64 : IntKind.bits .u64 = 64 := rfl
 have h1 : b * 2 ^ s + 2 ^ s ≤ 2 ^ 64 := by
  have h2 : (b + 1) * 2 ^ s ≤ 2 ^ w * 2 ^ s := Nat.mul_le_mul_right _ hb
  have h3 : 2 ^ w * 2 ^ s ≤ 2 ^ 64 := by rw [← Nat.pow_add]; exact Nat.pow_le_pow_right (by omega) (by omega)
  rw [Nat.add_mul] at h2; omega
 have hP := Nat.two_pow_pos s
 rw [yn8 (k := .u64) rfl b s (by rw [hb64]; omega), hb64, Nat.mod_eq_of_lt (by omega), ysg (k := .u64) rfl _ _ (by rw [hb64]; omega) (by rw [hb64]; omega)]
 congr 1
 exact yfZ hd (Nat.mul_mod_left _ _)
theorem yqI {d b s w : Nat} (hd : d < 2 ^ s) (hs : s + w ≤ 64) (hb : b < 2 ^ w) : d + b * 2 ^ s < 2 ^ 64 := by
 have h2 : (b + 1) * 2 ^ s ≤ 2 ^ w * 2 ^ s := Nat.mul_le_mul_right _ hb
 have h3 : 2 ^ w * 2 ^ s ≤ 2 ^ 64 := by rw [← Nat.pow_add]; exact Nat.pow_le_pow_right (by omega) (by omega)
 rw [Nat.add_mul] at h2; omega
theorem yiM (a : List UInt8) (K : Int → Prop) (h : K (if May a then (yav (val a) : Int) else 0)) : zci a K := by
 rw [zci.is]; unfold zci.d
 rw [yex]
 by_cases hm : May a
 ·rw [if_pos hm] at h
  rw [yat (by simp [hm]), ybf]
  cases a with
  | nil => rw [yaC (by simp)]; exact h
  | cons b l =>
   have hl := hm.1
   rw [List.length_cons] at hl
   have hv : val (b :: l) ≠ 0 := fun e => by have := hm.nb; rw [e, yaH] at this; cases this
   have hb := yj3 8 _ (by omega) hv
   rw [ylr hm.2, List.length_cons, Nat.add_sub_cancel, yoZ] at hb
   have hbl := ypd b
   rw [yat (by simp), yby (ya9 (by rw [List.length_cons]; omega)), ydm, yaV (by omega) (by omega)]
   refine yn9 _ (by omega) _ ?_
   have h8 : yav b.toNat ≤ 8 := (yaI _ _).2 hbl
   rw [List.length_cons]
   simp (disch := omega) only [yas, yb1, yap]
   rw [show 8 * (((l.length + 1 : Nat) : Int) - 1) + (yav b.toNat : Int) = ((yav (val (b :: l)) : Nat) : Int) from by rw [hb]; omega]
   exact h
 ·rw [if_neg hm] at h
  rw [yaC (by simp [hm])]; exact h
theorem ykj (x : Nat) (h : x ≠ 0) : x.testBit (ybm x) = true ∧ ∀ i, i < ybm x → x.testBit i = false := by
 obtain ⟨q, hq⟩ := ydS x h
 generalize ybm x = k at *
 subst hq
 constructor
 ·rw [Nat.testBit_two_pow_mul]; simp [Nat.testBit_zero]
 ·intro i hi
  rw [Nat.testBit_two_pow_mul]; simp; omega
theorem ykZ (x : Nat) (h0 : x ≠ 0) (hx : x < 18446744073709551616) (hk : ybm x < 64) (k0 : Int → Prop) (k1 : Prop) (h : k0 (ybm x)) : ∀ (j i : Nat), i + j = ybm x → zce.l2 k0 k1 (j + 1) x i := by
 obtain ⟨b1, b2⟩ := ykj x h0
 intro j
 induction j with
 | zero =>
  intro i hi
  unfold zce.l2 zce.l2.step
  rw [yaC (ya9 (by omega)), yfQ x i hx (by omega), show i = ybm x from by omega, b1, ya5]
  exact h
 | succ j ih =>
  intro i hi
  have ih := ih (i + 1) (by omega)
  have e : ((i + 1 : Nat) : Int) = (i : Int) + 1 := by omega
  rw [e] at ih
  unfold zce.l2 zce.l2.step
  rw [yaC (ya9 (by omega)), yfQ x i hx (by omega), b2 i (by omega), yeu, yap (by omega) (by omega)]
  exact ih
theorem yf6 (x n : Nat) (h0 : x ≠ 0) (hx : x < 2 ^ n) : ybm x < n := by
 obtain ⟨b1, _⟩ := ykj x h0
 apply Classical.byContradiction
 intro hc
 rw [Nat.testBit_lt_two_pow (Nat.lt_of_lt_of_le hx (Nat.pow_le_pow_right (by omega) (by omega)))] at b1
 cases b1
theorem yn4 (x : Nat) (h0 : x ≠ 0) (hx : x < 18446744073709551616) (K : Int → Prop) (h : K (ybm x)) : zce x K := by
 rw [zce.is]; unfold zce.d
 exact ⟨ybm x + 1, ykZ x h0 hx (yf6 x 64 h0 hx) _ _ h (ybm x) 0 (by omega)⟩
theorem ykH (a : List UInt8) (hl : a.length ≤ 100000) (k0 : Int → Prop) (k1 : Prop) (h0 : val a ≠ 0 → k0 (ybm (val a))) (h1 : val a = 0 → k1) :
  ∀ (j t : Nat), t + j = a.length → val a % 2 ^ (8 * t) = 0 → zcj.l4 k0 k1 (j + 1) a t := by
 intro j
 induction j with
 | zero =>
  intro t ht hm
  unfold zcj.l4 zcj.l4.step
  rw [yat (ybj (by omega))]
  refine h1 ?_
  rw [Nat.mod_eq_of_lt (by have := yb2 a; rwa [show t = a.length from by omega])] at hm
  exact hm
 | succ j ih =>
  intro t ht hm
  have hd := ya6 8 (val a) t
  rw [B8] at hd
  unfold zcj.l4 zcj.l4.step
  rw [yaC (ya9 (by omega)), ycp a t (by omega) (by omega)]
  by_cases hz : dg 8 (val a) t = 0
  ·rw [yj8 (by omega), yat (by rfl), yap (by omega) (by omega)]
   have := ih (t + 1) (by omega) (by rw [ybh, hm, hz]; omega)
   rw [show ((t + 1 : Nat) : Int) = (t : Int) + 1 from by omega] at this
   exact this
  ·rw [ygq (by omega), yaC (by rfl), ycp a t (by omega) (by omega), yaV (by omega) (by omega)]
   refine yn4 _ hz (by omega) _ ?_
   have hlow := ykP (val a) t hm hz
   have hk := yf6 _ 8 hz (by rw [B8]; exact hd)
   simp (disch := omega) only [yb1, yap]
   rw [show 8 * (t : Int) + (ybm (dg 8 (val a) t) : Int) = ((ybm (val a) : Nat) : Int) from by rw [hlow]; omega]
   refine h0 fun e => hz ?_
   rw [e]; exact ydp 8 0 t (Nat.two_pow_pos _)
theorem yop (a : List UInt8) (K : Int → Prop) (h : K (if May a then (ybm (val a) : Int) else 0)) : zcj a K := by
 rw [zcj.is]; unfold zcj.d
 rw [yex]
 by_cases hm : May a
 ·rw [if_pos hm] at h
  have hl := hm.1
  rw [yat (by simp [hm])]
  exact ⟨a.length + 1, ykH a (by omega) (fun y0 => K y0) (K 0) (fun _ => h) (fun e => by rw [e, yhc] at h; exact h) a.length 0 (by omega) (by simp [Nat.mod_one])⟩
 ·rw [if_neg hm] at h
  rw [yaC (by simp [hm])]; exact h
theorem ygV (x s : Nat) (h : x ≠ 0) : yav (x * 2 ^ s) = yav x + s := by
 have h1 : x * 2 ^ s / 2 ^ s = x := Nat.mul_div_cancel _ (Nat.two_pow_pos s)
 have := yey (x := x * 2 ^ s) (i := s) (by rw [h1]; exact h)
 rw [this, h1, Nat.add_comm]
theorem yfG (x n : Nat) : (nb x).length ≤ n ↔ yav x ≤ 8 * n := by
 rw [ybc, yaI, ymU]
theorem yj1 (x : Nat) : (nb x).length ≤ 16384 ↔ yav x ≤ 131072 := by
 have := yfG x 16384
 omega
theorem yqT (x s i : Nat) : (dg 8 x (i + s / 8) + dg 8 x (i + s / 8 + 1) * 256) / 2 ^ (s % 8) % 256 = dg 8 (x / 2 ^ s) i := by
 have hr : s % 8 < 8 := Nat.mod_lt _ (by omega)
 have h1 : dg 8 x (i + s / 8) + dg 8 x (i + s / 8 + 1) * 256 = x / 2 ^ (8 * (i + s / 8)) % 2 ^ 16 := by
  have a := ydb 8 x (i + s / 8)
  have b := ydb 8 x (i + s / 8 + 1)
  rw [B8] at a b
  rw [a, b, show (2 : Nat) ^ 16 = 65536 from rfl]
  have c := ya6 8 x (i + s / 8)
  have d := ya6 8 x (i + s / 8 + 1)
  rw [B8] at c d
  omega
 rw [h1]
 unfold dg
 rw [Nat.div_div_eq_div_mul, ← Nat.pow_add]
 have h2 : (2 : Nat) ^ 16 = 2 ^ (s % 8) * 2 ^ (16 - s % 8) := by rw [← Nat.pow_add]; congr 1; omega
 rw [h2, Nat.mod_mul_right_div_self, Nat.div_div_eq_div_mul, ← Nat.pow_add, show (256 : Nat) = 2 ^ 8 from rfl, Nat.mod_mod_of_dvd _ (Nat.pow_dvd_pow 2 (by omega))]
 congr 3; omega
theorem yh1 (a : List UInt8) (s : Nat) (hl : a.length ≤ 100000) (hs : s / 8 ≤ a.length) (lost : Bool) (c0 m0 : Nat) (k0 : Bool → Nat → Nat → Nat → (Nat → Int) → Prop) (h : k0 lost (a.length - s / 8) c0 m0 (G 8 (val a / 2 ^ s % 2 ^ (8 * (a.length - s / 8))))) :
  ∀ (j i : Nat), i + j = a.length - s / 8 → zcl.l11 k0 (j + 1) a s lost ((a.length - s / 8 : Nat) : Int) (a.length - s / 8) c0 i m0 (G 8 (val a / 2 ^ s % 2 ^ (8 * i))) := by
 intro j
 induction j with
 | zero =>
  intro i hi
  unfold zcl.l11 zcl.l11.step
  rw [yat (ybj (by omega)), show i = a.length - s / 8 from by omega]
  exact h
 | succ j ih =>
  intro i hi
  have ih := ih (i + 1) (by omega)
  have e : ((i + 1 : Nat) : Int) = (i : Int) + 1 := by omega
  have hw := yqT (val a) s i
  have hdw := ya6 8 (val a / 2 ^ s) i
  rw [e, ybh, ← yh5 8 _ _ i (Nat.mod_lt _ (Nat.two_pow_pos _)) hdw, ← hw] at ih
  have hd := ya6 8 (val a) (i + s / 8)
  have hd2 := ya6 8 (val a) (i + s / 8 + 1)
  rw [B8] at hd hd2
  have e1 : (i : Int) + (s : Int) / 8 = ((i + s / 8 : Nat) : Int) := by omega
  have e2 : ((i + s / 8 : Nat) : Int) + 1 = ((i + s / 8 + 1 : Nat) : Int) := by omega
  have e3 : (s : Int) % 8 = ((s % 8 : Nat) : Int) := by omega
  have q1 := yr1 (dg 8 (val a) (i + s / 8 + 1)) 8 (by omega) (by rw [B8]; omega)
  rw [B8, show ((8 : Nat) : Int) = 8 from rfl] at q1
  have e62 : (2 : Nat) ^ 62 = 4611686018427387904 := rfl
  have o1 : orI .i64 ((dg 8 (val a) (i + s / 8) : Nat) : Int) ((dg 8 (val a) (i + s / 8 + 1) * 256 : Nat) : Int) = ((dg 8 (val a) (i + s / 8) + dg 8 (val a) (i + s / 8 + 1) * 256 : Nat) : Int) := by
   rw [ytj _ _ (by omega) (by omega)]
   congr 1
   exact yfZ (r := 8) (by rw [B8]; exact hd) (by rw [B8]; exact Nat.mul_mod_left _ _)
  have sh := yo9 (dg 8 (val a) (i + s / 8) + dg 8 (val a) (i + s / 8 + 1) * 256) (s % 8) (by omega)
  have e4 : (((dg 8 (val a) (i + s / 8) + dg 8 (val a) (i + s / 8 + 1) * 256) / 2 ^ (s % 8) : Nat) : Int) % 256 = (((dg 8 (val a) (i + s / 8) + dg 8 (val a) (i + s / 8 + 1) * 256) / 2 ^ (s % 8) % 256 : Nat) : Int) := by omega
  unfold zcl.l11 zcl.l11.step
  simp (disch := omega) only [ya9, ya5, ybX, yap, e1, e2]
  rw [ycp a _ (by omega) (by omega), ycp a _ (by omega) (by omega)]
  simp (disch := omega) only [ya9, ybj, ybd, yaD, Bool.and_self, Bool.not_false, Int.toNat_natCast, yhx, yaV, e3, q1, o1, sh, ym4, e4]
  exact ih
theorem yrA (x n : Int) : ltI x n = decide (x < n) := by simp [ltI]
theorem yle (a : List UInt8) (n : Int) (hn : n < 9223372036854775808) (hm : May a) (K : List UInt8 → Bool → Int → Prop) (h1 : n < 0 → K [] false 2) (h2 : 0 ≤ n → a = [] → K [] false 0)
  (h3 : 0 ≤ n → a ≠ [] → K (nb (val a / 2 ^ n.toNat)) (decide ((ybm (val a) : Int) < n)) 0) : zcl a n K := by
 rw [zcl.is]; unfold zcl.d
 by_cases hneg : n < 0
 ·rw [yaC (ya9 hneg)]; exact h1 hneg
 rw [yat (ybj (by omega)), ybf]
 by_cases h0 : a = []
 ·rw [yaC (by simp [h0])]; exact h2 (by omega) h0
 rw [yat (by simp [h0])]
 have hl := hm.1
 obtain ⟨s, rfl⟩ : ∃ s : Nat, n = s := ⟨n.toNat, by omega⟩
 have h3 := h3 (by omega) h0
 rw [Int.toNat_natCast] at h3
 refine yop a _ ?_
 rw [if_pos hm, yrA, yb1 (by omega) (by omega)]
 by_cases hbig : 8 * a.length ≤ s
 ·rw [yaC (ybd (by omega))]
  have : val a / 2 ^ s = 0 := Nat.div_eq_of_lt (Nat.lt_of_lt_of_le (yb2 a) (Nat.pow_le_pow_right (by omega) hbig))
  rw [this, yaH] at h3
  exact h3
 ·rw [yat (yf7 (by omega))]
  have e1 : Int.toNat ((a.length : Int) - (s : Int) / 8) = a.length - s / 8 := by omega
  have e2 : (a.length : Int) - (s : Int) / 8 = ((a.length - s / 8 : Nat) : Int) := by omega
  simp (disch := omega) only [ybX, yas, ybd, yaD, Bool.and_self, e1]
  rw [e2]
  have hlt2 : val a / 2 ^ s < 2 ^ (8 * (a.length - s / 8)) := by
   rw [Nat.div_lt_iff_lt_mul (Nat.two_pow_pos _), ← Nat.pow_add]
   exact Nat.lt_of_lt_of_le (yb2 a) (Nat.pow_le_pow_right (by omega) (by omega))
  refine ⟨a.length - s / 8 + 1, ?_⟩
  have := yh1 a s (by omega) (by omega) (decide ((ybm (val a) : Int) < s)) (a.length - s / 8) (a.length - s / 8) (fun y0 y1 y2 y3 y4 => zcp y1 y4 fun y0_1 => K y0_1 y0 0) ?_ (a.length - s / 8) 0 (by omega)
  ·rw [Nat.mul_zero, Nat.pow_zero, Nat.mod_one, ycj] at this; exact this
  ·rw [Nat.mod_eq_of_lt hlt2]
   exact yee _ _ (by omega) hlt2 _ h3
end Go.Ev.S

/- What the document's answer reckons with natural numbers: quotients, greatest common divisors, roots. -/
set_option linter.unusedVariables false
set_option linter.unusedSimpArgs false
set_option maxRecDepth 8000
namespace Go.Ev.S
open Go Go.Ev
theorem ytK {x y : Nat} (h : y ≤ x) : leI 0 (sgn x y) = true := by
 unfold sgn
 rw [if_neg (by omega)]
 split
 ·exact ybd (by omega)
 ·exact ybd (by omega)
theorem ytD {x y : Nat} (h : x < y) : leI 0 (sgn x y) = false := by
 unfold sgn
 rw [if_pos h]
 exact yf7 (by omega)
theorem yte (x i : Nat) : dg 8 x (i / 8) / 2 ^ (i % 8) % 2 = x / 2 ^ i % 2 := by
 unfold dg
 have h2 : (2 : Nat) ^ 8 = 2 ^ (i % 8) * 2 ^ (8 - i % 8) := by rw [← Nat.pow_add]; congr 1; omega
 have h3 : (2 : Nat) ∣ 2 ^ (8 - i % 8) := Nat.dvd_trans (by rw [Nat.pow_one]; exact Nat.dvd_refl _ : (2 : Nat) ∣ 2 ^ 1) (Nat.pow_dvd_pow 2 (by omega))
 rw [h2, Nat.mod_mul_right_div_self, Nat.mod_mod_of_dvd _ h3, Nat.div_div_eq_div_mul, ← Nat.pow_add, show 8 * (i / 8) + i % 8 = i from by omega]
theorem yn1 (a : List UInt8) (i : Nat) (hi : i ≤ 1000000000) (hl : a.length ≤ 1000000000) (K : Int → Prop) : zcn a i K = K ((val a / 2 ^ i % 2 : Nat) : Int) := by
 rw [zcn.is]; unfold zcn.d
 have hd := ya6 8 (val a) (i / 8)
 rw [B8] at hd
 have e62 : (2 : Nat) ^ 62 = 4611686018427387904 := rfl
 have e0 : yaF IntKind.i64 (i : Int) 8 = ((i / 8 : Nat) : Int) := by rw [ybX (by omega) (by omega) (by omega)]; omega
 have e1 : cvI IntKind.u64 (ych IntKind.i64 (i : Int) 8) = ((i % 8 : Nat) : Int) := by rw [yhx (by omega), yaV (by omega) (by omega)]; omega
 have hle := Nat.div_le_self (dg 8 (val a) (i / 8)) (2 ^ (i % 8))
 rw [e0, e1, ycp a _ (by omega) hl, ybj (by omega), yo9 _ _ (by omega), ypK _ (by omega), yte]
 rfl
theorem yhk (a : List UInt8) (one : Nat) (h1 : one < 2) (hl : a.length ≤ 1000000) (c0 m0 : Nat) (k0 : Nat → Nat → Nat → (Nat → Int) → Prop) (h : k0 (a.length + 1) c0 m0 (G 8 (2 * val a + one))) :
  ∀ (j i Z c : Nat), i + j = a.length + 1 → Z < 2 ^ (8 * i) → c < 2 → Z + c * 2 ^ (8 * i) = 2 * (val a % 2 ^ (8 * i)) + one → zco.l4 k0 (j + 1) a (a.length + 1) c0 c i m0 (G 8 Z) := by
 intro j
 induction j with
 | zero =>
  intro i Z c hi hZ hc hE
  have hi : i = a.length + 1 := by omega
  subst hi
  have hx := yb2 a
  have hp : 2 ^ (8 * (a.length + 1)) = 2 ^ (8 * a.length) * 256 := by rw [ycv, B8]
  have hpp := Nat.two_pow_pos (8 * a.length)
  rw [Nat.mod_eq_of_lt (by omega)] at hE
  have hc0 : c = 0 := by
   rcases (by omega : c = 0 ∨ c = 1) with e | e
   ·exact e
   ·subst e; omega
  subst hc0
  unfold zco.l4 zco.l4.step
  rw [yat (yf7 (by omega))]
  rw [← hE, Nat.zero_mul, Nat.add_zero] at h
  exact h
 | succ j ih =>
  intro i Z c hi hZ hc hE
  have hd := ya6 8 (val a) i
  rw [B8] at hd
  have e1 : yb4 IntKind.i64 2 ((dg 8 (val a) i : Nat) : Int) = ((2 * dg 8 (val a) i : Nat) : Int) := by rw [yb1 (by omega) (by omega)]; omega
  have e2 : yak IntKind.i64 (c : Int) ((2 * dg 8 (val a) i : Nat) : Int) = ((c + 2 * dg 8 (val a) i : Nat) : Int) := by rw [yap (by omega) (by omega)]; omega
  have e3 : yaO IntKind.i64 ((c + 2 * dg 8 (val a) i : Nat) : Int) 8 = (((c + 2 * dg 8 (val a) i) / 256 : Nat) : Int) := by rw [ypg]; omega
  have e4 : cvI IntKind.u8 ((c + 2 * dg 8 (val a) i : Nat) : Int) = (((c + 2 * dg 8 (val a) i) % 256 : Nat) : Int) := by rw [ym4]; omega
  have e5 : yak IntKind.i64 (i : Int) 1 = ((i + 1 : Nat) : Int) := by rw [yap (by omega) (by omega)]; omega
  have hw : (c + 2 * dg 8 (val a) i) % 256 < 2 ^ 8 := Nat.mod_lt _ (by omega)
  unfold zco.l4 zco.l4.step
  rw [yaC (ybd (by omega)), ycp a i (by omega) (by omega), yby (by rw [ybd (by omega), ya9 (by omega)]; rfl), e1, e2, e3, e4, e5, Int.toNat_natCast, yh5 8 Z _ i hZ hw]
  refine ih (i + 1) _ _ (by omega) (yiu 8 Z _ i hZ hw) (by omega) ?_
  rw [ybh, ycv, B8]
  have := ylH (c + 2 * dg 8 (val a) i) 256 (2 ^ (8 * i))
  rw [Nat.add_mul c, Nat.mul_assoc] at this
  rw [Nat.mul_add]
  omega
theorem yi9 (a : List UInt8) (one : Nat) (h1 : one < 2) (hl : a.length ≤ 1000000) (K : List UInt8 → Prop) (h : K (nb (2 * val a + one))) : zco a one K := by
 rw [zco.is]; unfold zco.d
 have e1 : Int.toNat ((a.length : Int) + 1) = a.length + 1 := by omega
 simp (disch := omega) only [ybd, yaD, Bool.and_self, yap, e1]
 refine ⟨a.length + 2, ?_⟩
 have hx := yb2 a
 have := yhk a one h1 hl (a.length + 1) (a.length + 1) (fun y0 y1 y2 y3 => zcp y0 y3 fun y0 => K y0) ?_ (a.length + 1) 0 0 one (by omega) (by simp) h1 (by simp [Nat.mod_one])
 ·rw [ycj] at this; exact this
 ·refine yee _ _ (by omega) ?_ _ h
  rw [ycv, B8]; omega
theorem yq0 (x t : Nat) : x / 2 ^ t = 2 * (x / 2 ^ (t + 1)) + x / 2 ^ t % 2 := by
 rw [Nat.pow_succ, ← Nat.div_div_eq_div_mul]
 omega
theorem yq7 (X y q r b : Nat) (hy : 0 < y) (hq : X / y = q) (hr : X % y = r) (hb : b < 2) :
  (y ≤ 2 * r + b → (2 * X + b) / y = 2 * q + 1 ∧ (2 * X + b) % y = 2 * r + b - y) ∧ (2 * r + b < y → (2 * X + b) / y = 2 * q ∧ (2 * X + b) % y = 2 * r + b) := by
 have h1 := Nat.div_add_mod X y
 have h2 := Nat.mod_lt X hy
 rw [hq, hr] at h1
 rw [hr] at h2
 have h3 : 2 * X + b = 2 * r + b + y * (2 * q) := by rw [← h1, Nat.mul_left_comm y 2 q]; omega
 constructor
 ·intro h
  have h4 : 2 * X + b = (2 * r + b - y) + y * (2 * q + 1) := by rw [h3, Nat.mul_add]; omega
  rw [h4, Nat.add_mul_div_left _ _ hy, Nat.add_mul_mod_self_left, Nat.div_eq_of_lt (by omega), Nat.mod_eq_of_lt (by omega)]
  omega
 ·intro h
  rw [h3, Nat.add_mul_div_left _ _ hy, Nat.add_mul_mod_self_left, Nat.div_eq_of_lt h, Nat.mod_eq_of_lt h]
  omega
theorem ysb (q t : Nat) : upd (G 8 (q * 2 ^ (t + 1))) (t / 8) (orI IntKind.u8 ((dg 8 (q * 2 ^ (t + 1)) (t / 8) : Nat) : Int) (ybE IntKind.u8 1 ((t % 8 : Nat) : Int))) = G 8 ((2 * q + 1) * 2 ^ t) := by
 have hb : IntKind.bits .u8 = 8 := rfl
 have hd := ya6 8 (q * 2 ^ (t + 1)) (t / 8)
 have h8 : (2 : Nat) ^ 8 = 2 ^ (t % 8 + 1) * 2 ^ (8 - (t % 8 + 1)) := by rw [← Nat.pow_add]; congr 1; omega
 have hmod : dg 8 (q * 2 ^ (t + 1)) (t / 8) % 2 ^ (t % 8 + 1) = 0 := by
  unfold dg
  rw [Nat.mod_mod_of_dvd _ ⟨_, h8⟩, show t + 1 = t % 8 + 1 + 8 * (t / 8) from by omega, Nat.pow_add, ← Nat.mul_assoc, Nat.mul_div_cancel _ (Nat.two_pow_pos _)]
  exact Nat.mul_mod_left _ _
 have hlt : 2 ^ (t % 8) < 2 ^ (t % 8 + 1) := Nat.pow_lt_pow_right (by omega) (by omega)
 have h1 : ybE IntKind.u8 1 ((t % 8 : Nat) : Int) = ((2 ^ (t % 8) : Nat) : Int) := by
  have := yn8 (k := .u8) rfl 1 (t % 8) (by rw [hb]; omega)
  rw [Nat.one_mul, hb, Nat.mod_eq_of_lt (Nat.pow_lt_pow_right (by omega) (by omega))] at this
  exact this
 have hs : dg 8 (q * 2 ^ (t + 1)) (t / 8) ||| 2 ^ (t % 8) = 2 ^ (t % 8) + dg 8 (q * 2 ^ (t + 1)) (t / 8) := by
  rw [Nat.or_comm]; exact yfZ hlt hmod
 have hs2 : dg 8 (q * 2 ^ (t + 1)) (t / 8) ||| 2 ^ (t % 8) < 2 ^ 8 := Nat.or_lt_two_pow hd (Nat.pow_lt_pow_right (by omega) (by omega))
 rw [h1, ysg (k := .u8) rfl _ _ (by rw [hb]; exact hd) (by rw [hb]; exact Nat.pow_lt_pow_right (by omega) (by omega))]
 refine ygv ?_ hs2
 rw [hs, Nat.add_mul (2 ^ (t % 8)), ← Nat.pow_add, show t % 8 + 8 * (t / 8) = t from by omega, Nat.add_mul (2 * q) 1, Nat.one_mul, Nat.pow_succ, Nat.mul_comm (2 ^ t) 2, ← Nat.mul_assoc, Nat.mul_comm q 2]
 omega
theorem ynv {x n : Nat} (h : x < 2 ^ (8 * n)) : (nb x).length ≤ n := (ybc x n).2 (by rw [ymU]; exact h)
theorem ykk (a b : List UInt8) (hl : a.length ≤ 100000) (hlb : b.length ≤ 100000) (hb : yiw b = true) (hy : 0 < val b) (c0 m0 : Nat) (k0 : List UInt8 → Nat → Nat → Nat → (Nat → Int) → Prop)
  (h : k0 (nb (val a % val b)) (a.length + 1) c0 m0 (G 8 (val a / val b))) :
  ∀ t, t ≤ 8 * a.length → zcg.l10 k0 (t + 1) a b (nb (val a / 2 ^ t % val b)) (a.length + 1) c0 ((t : Int) - 1) m0 (G 8 (val a / 2 ^ t / val b * 2 ^ t)) := by
 intro t
 induction t with
 | zero =>
  intro ht
  unfold zcg.l10 zcg.l10.step
  rw [yat (yf7 (by omega)), Nat.pow_zero, Nat.div_one, Nat.mul_one]
  exact h
 | succ t ih =>
  intro ht
  have ih := ih (by omega)
  have hx := yq0 (val a) t
  have hb2 : val a / 2 ^ t % 2 < 2 := Nat.mod_lt _ (by omega)
  generalize hbit : val a / 2 ^ t % 2 = bit at *
  rw [hx] at ih
  generalize val a / 2 ^ (t + 1) = X at *
  obtain ⟨s1, s2⟩ := yq7 X (val b) _ _ bit hy rfl rfl hb2
  have hr := Nat.mod_lt X hy
  have hyl := yb2 b
  generalize hre : X % val b = r at *
  generalize hqe : X / val b = q at *
  have lr : (nb r).length ≤ b.length := ynv (by omega)
  have e1 : ((t + 1 : Nat) : Int) - 1 = (t : Int) := by omega
  have e2 : yaF IntKind.i64 (t : Int) 8 = ((t / 8 : Nat) : Int) := by rw [ybX (by omega) (by omega) (by omega)]; omega
  have e3 : cvI IntKind.u64 (ych IntKind.i64 (t : Int) 8) = ((t % 8 : Nat) : Int) := by rw [yhx (by omega), yaV (by omega) (by omega)]; omega
  have e4 : yan IntKind.i64 (t : Int) 1 = (t : Int) - 1 := by rw [yas (by omega) (by omega)]
  have w0 : (leI 0 ((t / 8 : Nat) : Int) && ltI ((t / 8 : Nat) : Int) ((a.length + 1 : Nat) : Int)) = true := by rw [ybd (by omega), ya9 (by omega)]; rfl
  unfold zcg.l10 zcg.l10.step
  rw [e1, yaC (ybd (by omega)), yn1 a t (by omega) (by omega), hbit]
  refine yi9 (nb r) bit hb2 (by omega) _ ?_
  rw [ya1, yio _ b (ylI _) hb, ya1]
  have l2 : (nb (2 * r + bit)).length ≤ b.length + 1 := ynv (by rw [ycv, B8]; omega)
  by_cases hc : val b ≤ 2 * r + bit
  ·obtain ⟨g1, g2⟩ := s1 hc
   rw [g1, g2] at ih
   rw [yaC (ytK hc)]
   refine yod _ b (by omega) (by omega) (by rw [ya1]; exact hc) _ ?_
   rw [ya1, e2, e3, yby w0, yby (by rw [ybj (by omega)]; rfl), yby w0, Int.toNat_natCast, ya8, ysb, e4]
   exact ih
  ·obtain ⟨g1, g2⟩ := s2 (by omega)
   rw [g1, g2, show 2 * q * 2 ^ t = q * 2 ^ (t + 1) from by rw [Nat.pow_succ, Nat.mul_comm 2 q, Nat.mul_assoc, Nat.mul_comm 2]] at ih
   rw [yat (ytD (by omega)), e4]
   exact ih
theorem yoo (a b : List UInt8) (ha : May a) (hb : May b) (K : List UInt8 → List UInt8 → Int → Prop) (h0 : b = [] → K [] [] 2) (h2 : val b ≠ 0 → K (nb (val a / val b)) (nb (val a % val b)) 0) : zcg a b K := by
 rw [zcg.is]; unfold zcg.d
 rw [ybf]
 by_cases hz : b = []
 ·rw [yaC (by simpa using hz)]; exact h0 hz
 ·rw [yat (by simpa using hz), yio a b ha.2 hb.2, yjQ]
  have hv : val b ≠ 0 := fun e => hz ((ygM hb.2).1 e)
  have h2 := h2 hv
  have l1 := ha.1; have l2 := hb.1
  by_cases hlt : val a < val b
  ·rw [yaC (by simpa using hlt)]
   rw [Nat.div_eq_of_lt hlt, Nat.mod_eq_of_lt hlt, yaH, ha.nb] at h2
   exact h2
  ·rw [yat (by simpa using hlt)]
   have va : val a ≠ 0 := by omega
   refine yiM a _ (yiM b _ ?_)
   rw [if_pos ha, if_pos hb]
   have ba : yav (val a) ≤ 8 * a.length := (yaI _ _).2 (yb2 a)
   have bb : yav (val b) ≤ 8 * b.length := (yaI _ _).2 (yb2 b)
   have bp := ymG hv
   have bm : yav (val b) ≤ yav (val a) := (yaI _ _).2 (by have := yjS (val a); omega)
   have e1 : yan IntKind.i64 ((yav (val a) : Nat) : Int) (yan IntKind.i64 ((yav (val b) : Nat) : Int) 1) = ((yav (val a) - (yav (val b) - 1) : Nat) : Int) := by
    simp (disch := omega) only [yas]; omega
   rw [e1]
   have hT : val a / 2 ^ (yav (val a) - (yav (val b) - 1)) < val b := by
    rw [Nat.div_lt_iff_lt_mul (Nat.two_pow_pos _)]
    have g1 := ypt hv
    have g2 := yjS (val a)
    have g3 := Nat.mul_le_mul_right (2 ^ (yav (val a) - (yav (val b) - 1))) g1
    rw [← Nat.pow_add, show yav (val b) - 1 + (yav (val a) - (yav (val b) - 1)) = yav (val a) from by omega] at g3
    omega
   generalize hTe : yav (val a) - (yav (val b) - 1) = T at *
   refine yle a _ (by omega) ha _ (fun e => by omega) (fun _ e => absurd ((ygM ha.2).2 e) va) fun _ _ => ?_
   rw [Int.toNat_natCast]
   have e2 : yak IntKind.i64 ((a.length : Nat) : Int) 1 = (a.length : Int) + 1 := by rw [yap (by omega) (by omega)]
   have e3 : Int.toNat ((a.length : Int) + 1) = a.length + 1 := by omega
   rw [e2, yby (by rw [ybd (by omega), ybd (by omega), ybd (by omega)]; rfl), e3, yas (by omega) (by omega)]
   refine ⟨T + 1, ?_⟩
   have := ykk a b (by omega) (by omega) hb.2 (by omega) (a.length + 1) (a.length + 1) (fun y0 y1 y2 y3 y4 => zcp y1 y4 fun y0_3 => K y0_3 y0 0) ?_ T (by omega)
   ·rw [Nat.mod_eq_of_lt hT, Nat.div_eq_of_lt hT, Nat.zero_mul, ycj] at this
    exact this
   ·refine yee _ _ (by omega) ?_ _ h2
    have g1 := Nat.div_le_self (val a) (val b)
    have g2 := yb2 a
    have g3 : 2 ^ (8 * a.length) ≤ 2 ^ (8 * (a.length + 1)) := ycY (by omega)
    omega
theorem yqj {x y : Nat} (h : x ≤ y) (hm : May (nb y)) : May (nb x) := by
 refine ⟨?_, ylI x⟩
 have := (ybc y _).1 hm.1
 exact (ybc x _).2 (by omega)
theorem yko (k0 : List UInt8 → Prop) : ∀ (y x : Nat), May (nb x) → May (nb y) → k0 (nb (Nat.gcd x y)) → ∃ f, zch.l1 k0 f (nb x) (nb y) := by
 intro y
 induction y using Nat.strongRecOn with
 | _ y ih =>
  intro x hx hy hk
  by_cases h0 : y = 0
  ·subst h0
   refine ⟨1, ?_⟩
   unfold zch.l1 zch.l1.step
   rw [yaH, ybf, yat (by rfl)]
   rw [Nat.gcd_zero_right] at hk; exact hk
  ·have hm := Nat.mod_lt x (show 0 < y by omega)
   have hg : Nat.gcd y (x % y) = Nat.gcd x y := by rw [Nat.gcd_comm x y, Nat.gcd_rec y x, Nat.gcd_comm]
   obtain ⟨f, hf⟩ := ih (x % y) hm y hy (yqj (Nat.le_of_lt hm) hy) (by rw [hg]; exact hk)
   refine ⟨f + 1, ?_⟩
   unfold zch.l1 zch.l1.step
   rw [ybf, yaC (by simp [yoD h0])]
   refine yoo _ _ hx hy _ (fun e => absurd e (yoD h0)) fun _ => ?_
   rw [ya1, ya1]; exact hf
theorem ynJ (a b : List UInt8) (ha : May a) (hb : May b) (K : List UInt8 → Prop) (h : K (nb (Nat.gcd (val a) (val b)))) : zch a b K := by
 rw [zch.is]; unfold zch.d
 have := yko (fun y0 => K y0) (val b) (val a) (by rw [ha.nb]; exact ha) (by rw [hb.nb]; exact hb) h
 rw [ha.nb, hb.nb] at this
 exact this
end Go.Ev.S

/- The laws of natural numbers that need no quotient: sums, products, a ring. -/
set_option linter.unusedVariables false
set_option linter.unusedSimpArgs false
set_option maxRecDepth 8000
namespace Go.Ev.S
open Go Go.Ev
theorem yem (a : Int) : eqI a a = true := by simp [eqI]
end Go.Ev.S

/- The law of shifts. -/
set_option linter.unusedVariables false
set_option linter.unusedSimpArgs false
set_option maxRecDepth 8000
namespace Go.Ev.S
open Go Go.Ev
theorem yrt {a : List UInt8} (hm : May a) (h : a ≠ []) : val a ≠ 0 := fun e => by have := hm.nb; rw [e, yaH] at this; exact h this.symm
theorem yqZ {a : List UInt8} (hm : May a) : yav (val a) ≤ 131072 := by rw [← yj1, hm.nb]; exact hm.1
theorem yms (a : List UInt8) (n : Int) (hn : n < 9223372036854775808) (K : List UInt8 → Int → Prop) (h0 : ¬ May a → K [] 2) (h1 : May a → n < 0 → K [] 2) (h2 : May a → 0 ≤ n → a = [] → K [] 0)
  (h3 : May a → 0 ≤ n → a ≠ [] → 131072 < (yav (val a) : Int) + n → K [] 4) (h4 : May a → 0 ≤ n → a ≠ [] → (yav (val a) : Int) + n ≤ 131072 → K (nb (val a * 2 ^ n.toNat)) 0) : zbe a n K := by
 rw [zbe.is]; unfold zbe.d
 rw [yaU]
 by_cases hm : May a
 ·rw [if_pos hm, yat (by rfl)]
  by_cases hneg : n < 0
  ·rw [yaC (ya9 hneg)]; exact h1 hm hneg
  rw [yat (ybj (by omega)), ybf]
  by_cases hz : a = []
  ·rw [yaC (by simp [hz])]; exact h2 hm (by omega) hz
  rw [yat (by simp [hz])]
  refine yfI a _ ?_
  have hb := yqZ hm
  rw [if_pos hm, yas (by omega) (by omega)]
  by_cases hlong : 131072 < (yav (val a) : Int) + n
  ·rw [yaC (ya9 (by omega))]; exact h3 hm (by omega) hz hlong
  rw [yat (ybj (by omega))]
  obtain ⟨s, rfl⟩ : ∃ s : Nat, n = s := ⟨n.toNat, by omega⟩
  have h4 := h4 hm (by omega) hz (by omega)
  rw [Int.toNat_natCast] at h4
  refine hm.words _ ?_
  have hw := hm.wl
  refine yfk _ _ s (by omega) (by omega) hm.lt _ _ (fun hc => ?_) fun _ c m => ?_
  ·exfalso
   have := hm.lt
   rw [hc] at this
   have h0 := yrt hm hz
   simp at this; omega
  ·refine yeL _ _ ?_ (ybJ _) _ ?_
   ·have hl := yiD (val a) _ s (by omega) (by omega) hm.lt
    have := (ydI 32 (by omega) _ _).2 hl
    omega
   ·have : (nb (val a * 2 ^ s)).length ≤ 16384 := by
     rw [yj1, ygV _ _ (yrt hm hz)]; omega
    rw [if_neg (by omega)]; exact h4
 ·rw [if_neg hm, yaC (by rfl)]; exact h0 hm
theorem yli (a : List UInt8) (n : Int) (hn : n < 9223372036854775808) (K : List UInt8 → Bool → Int → Prop) (h0 : ¬ May a → K [] false 2) (h1 : May a → n < 0 → K [] false 2) (h2 : May a → 0 ≤ n → a = [] → K [] false 0)
  (h3 : May a → 0 ≤ n → a ≠ [] → K (nb (val a / 2 ^ n.toNat)) (decide ((ybm (val a) : Int) < n)) 0) : zbj a n K := by
 rw [zbj.is]; unfold zbj.d
 rw [yaU]
 by_cases hm : May a
 ·rw [if_pos hm, yat (by rfl)]
  by_cases hneg : n < 0
  ·rw [yaC (ya9 hneg)]; exact h1 hm hneg
  rw [yat (ybj (by omega)), ybf]
  by_cases hz : a = []
  ·rw [yaC (by simp [hz])]; exact h2 hm (by omega) hz
  rw [yat (by simp [hz])]
  obtain ⟨s, rfl⟩ : ∃ s : Nat, n = s := ⟨n.toNat, by omega⟩
  have h3 := h3 hm (by omega) hz
  rw [Int.toNat_natCast] at h3
  refine hm.words _ ?_
  have hw := hm.wl
  refine ye0 _ _ s (by omega) (by omega) hm.lt _ ?_
  have hle : wl 32 (val a / 2 ^ s) ≤ wl 32 (val a) := ybn (by omega) (Nat.div_le_self _ _)
  refine ybb _ _ (by omega) (ybJ _) _ ?_
  refine yel a _ ?_
  rw [if_pos hm, yrA]; exact h3
 ·rw [if_neg hm, yaC (by rfl)]; exact h0 hm
end Go.Ev.S
