/- Numbers of several words as natural ones; bits set one by one. -/
import Derived.Test.YtnomdgcpklbcfaaGreatDoorEvC
import Derived.Test.YtnomdgcpklbcfaaGreatDoorDA
import Derived.KernelRfl
set_option linter.unusedVariables false
set_option linter.unusedSimpArgs false
namespace Go.Ev.S
open Go Go.Ev
theorem yul {c : Bool} {p : Prop} (h : c = true) (hp : p) : gd c p := by rw [ybv h]; exact hp
theorem ybN {i n : Int} (h : 0 ≤ i) (h2 : i < n) : (leI 0 i && ltI i n) = true := by rw [ya4 h, yaS h2]; rfl
theorem ykh {i : Int} (h : 0 ≤ i) : (!ltI i 0) = true := by rw [ya1 h]; rfl
theorem ysL (a b : Nat) (ha : a < 9223372036854775808) (hb : 0 < b) : yaE .i64 (a : Int) (b : Int) = ((a / b : Nat) : Int) := by
 have h : a / b ≤ a := Nat.div_le_self a b
 show IntKind.wrap .i64 ((a : Int).tdiv b) = _
 rw [Int.tdiv_eq_ediv_of_nonneg (by omega)]
 have : (a : Int) / (b : Int) = ((a / b : Nat) : Int) := by simp
 rw [this]
 generalize a / b = q at h ⊢
 exact yde (by omega) (by omega)
theorem ysD (k : IntKind) (a b : Nat) : yca k (a : Int) (b : Int) = ((a % b : Nat) : Int) := by
 show (a : Int).tmod b = _
 rw [Int.tmod_eq_emod_of_nonneg (by omega)]
 simp
theorem yod (a : Nat) (ha : a < 9223372036854775808) : yaE .i64 (a : Int) 64 = ((a / 64 : Nat) : Int) := ysL a 64 ha (by omega)
theorem yor (a : Nat) : yca .i64 (a : Int) 64 = ((a % 64 : Nat) : Int) := ysD .i64 a 64
theorem ymo (i : Nat) (hi : i < 64) : yb0 .u64 1 (i : Int) = ((2 ^ i : Nat) : Int) := by
 have := yqw 1 i hi
 rw [show (1 : Int) = ((1 : Nat) : Int) from rfl, this, Nat.shiftLeft_eq, Nat.one_mul]
 have h : 2 ^ i < 2 ^ 64 := Nat.pow_lt_pow_right (by omega) hi
 rw [Nat.mod_eq_of_lt h]
theorem yhc {i : Nat} (h : i < 64) : 2 ^ i < 18446744073709551616 := Nat.pow_lt_pow_right (a := 2) (m := i) (n := 64) (by omega) h
theorem yse (a b : Nat) : eqI (a : Int) (b : Int) = decide (a = b) := by
 by_cases h : a = b
 ·subst h; simp [eqI]
 ·rw [yjr (by omega)]; simp [h]
theorem ysf (a b : Nat) : ltI (a : Int) (b : Int) = decide (a < b) := by simp [ltI]
theorem yj3 {a b : Int} (h : 0 ≤ a - b) (h2 : a - b < 18446744073709551616) : yaq .u64 a b = a - b := yhS h h2
theorem yfR {a b : Int} (h : 0 ≤ a + b) (h2 : a + b < 18446744073709551616) : yaj .u64 a b = a + b := yhS h h2
def Q6 : Nat := 2 ^ 192 * 2 ^ 192
theorem yeA {n : Nat} (h : n = 384) : 2 ^ n = Q6 := by
 obtain ⟨a, ha⟩ : ∃ a, a = 192 := ⟨_, rfl⟩
 have : n = a + a := by omega
 rw [this, Nat.pow_add, ha]; exact rfl
theorem ysb : 0 < Q6 := Nat.mul_pos (Nat.two_pow_pos _) (Nat.two_pow_pos _)
theorem ys9 {a : Nat} (h : a ≤ 384) : 2 ^ a ≤ Q6 := by
 obtain ⟨n, hn⟩ : ∃ n, n = 384 := ⟨_, rfl⟩
 rw [← yeA hn]; exact Nat.pow_le_pow_right (by omega) (by omega)
theorem ytz {a : Nat} (h : a < 384) : 2 ^ a < Q6 := by
 obtain ⟨n, hn⟩ : ∃ n, n = 384 := ⟨_, rfl⟩
 rw [← yeA hn]; exact Nat.pow_lt_pow_right (by omega) (by omega)
theorem yqT {a : Nat} (h : a ≤ 384) {x : Nat} (hx : x < 2 ^ a) : x < Q6 := Nat.lt_of_lt_of_le hx (ys9 h)
def wd (x i : Nat) : Nat := x / 2 ^ (64 * i) % 18446744073709551616
theorem ydR (x i : Nat) : wd x i < 18446744073709551616 := Nat.mod_lt _ (by omega)
theorem ycd (x i j : Nat) : (wd x i).testBit j = (decide (j < 64) && x.testBit (64 * i + j)) := by
 unfold wd
 rw [show (18446744073709551616 : Nat) = 2 ^ 64 from rfl, Nat.testBit_mod_two_pow, Nat.testBit_div_two_pow, Nat.add_comm]
theorem yc7 (x i : Nat) (h : x < 2 ^ (64 * i)) : wd x i = 0 := by
 unfold wd; rw [Nat.div_eq_of_lt h]
def W (x : Nat) : Nat → Int := fun i => ((wd x i : Nat) : Int)
theorem ybq (x i : Nat) : W x i = ((wd x i : Nat) : Int) := rfl
theorem W_zero : W 0 = fun _ => 0 := by
 funext i
 have : wd 0 i = 0 := yc7 0 i (Nat.two_pow_pos _)
 simp [ybq, this]
theorem ytY (hi lo : Nat) (hh : hi < 18446744073709551616) (hl : lo < 18446744073709551616) : upd (upd (fun _ => 0) 0 (lo : Int)) 1 (hi : Int) = W (hi * 18446744073709551616 + lo) := by
 funext i
 by_cases h1 : i = 1
 ·subst h1
  rw [yb7, ybq]
  congr 1
  unfold wd
  rw [show 2 ^ (64 * 1) = 18446744073709551616 from rfl]; omega
 ·rw [ycP _ _ _ _ h1]
  by_cases h0 : i = 0
  ·subst h0
   rw [yb7, ybq]
   congr 1
   unfold wd
   rw [show 2 ^ (64 * 0) = 1 from rfl]; omega
  ·rw [ycP _ _ _ _ h0, ybq, yc7]
   ·rfl
   ·refine Nat.lt_of_lt_of_le (show _ < 2 ^ 128 from ?_) (Nat.pow_le_pow_right (by omega) (by omega))
    rw [show (2 : Nat) ^ 128 = 340282366920938463463374607431768211456 from rfl]; omega
theorem yte (lo : Nat) (hl : lo < 18446744073709551616) : upd (fun _ => 0) 0 (lo : Int) = W lo := by
 have h := ytY 0 lo (by omega) hl
 have h2 : upd (upd (fun _ => (0 : Int)) 0 (lo : Int)) 1 ((0 : Nat) : Int) = upd (fun _ => 0) 0 (lo : Int) := by
  funext i
  by_cases h1 : i = 1
  ·subst h1; rw [yb7, ycP _ _ _ _ (by omega)]; rfl
  ·rw [ycP _ _ _ _ h1]
 rw [h2] at h
 rw [h]; congr 1; omega
theorem ylo (x n i : Nat) : wd (x ||| 2 ^ n) i = if i = n / 64 then wd x i ||| 2 ^ (n % 64) else wd x i := by
 apply Nat.eq_of_testBit_eq
 intro j
 have hm : n % 64 < 64 := Nat.mod_lt _ (by omega)
 rw [ycd, Nat.testBit_or, Nat.testBit_two_pow]
 by_cases hi : i = n / 64
 ·rw [if_pos hi, Nat.testBit_or, ycd, Nat.testBit_two_pow]
  by_cases hj : j < 64
  ·have : decide (n = 64 * i + j) = decide (n % 64 = j) := by rw [decide_eq_decide]; omega
   simp [hj, this]
  ·have : ¬ (n % 64 = j) := by omega
   simp [hj, this]
 ·rw [if_neg hi, ycd]
  by_cases hj : j < 64
  ·have : ¬ (n = 64 * i + j) := by omega
   simp [this]
  ·simp [hj]
theorem yjX (x n : Nat) : upd (W x) (n / 64) (orI .u64 (W x (n / 64)) (yb0 .u64 1 ((n % 64 : Nat) : Int))) = W (x ||| 2 ^ n) := by
 have hm : n % 64 < 64 := Nat.mod_lt _ (by omega)
 rw [ymo _ hm, ybq, yjj _ _ (ydR _ _) (Nat.pow_lt_pow_right (by omega) hm)]
 funext i
 by_cases hi : i = n / 64
 ·subst hi
  rw [yb7, ybq, ylo, if_pos rfl]
 ·rw [ycP _ _ _ _ hi, ybq, ybq, ylo, if_neg hi]
def Hi (x : Nat) : Int := ((x / 18446744073709551616 : Nat) : Int)
def Lo (x : Nat) : Int := ((x % 18446744073709551616 : Nat) : Int)
def two (hi lo : Nat) : Nat := hi * 18446744073709551616 + lo
theorem ysS {x : Nat} (h : x < 2 ^ 128) : x / 18446744073709551616 < 18446744073709551616 := by
 rw [show (2 : Nat) ^ 128 = 340282366920938463463374607431768211456 from rfl] at h; omega
theorem ytf (x : Nat) : x % 18446744073709551616 < 18446744073709551616 := Nat.mod_lt _ (by omega)
theorem yqi (x j : Nat) : (x / 18446744073709551616).testBit j = x.testBit (64 + j) := by
 rw [show (18446744073709551616 : Nat) = 2 ^ 64 from rfl, Nat.testBit_div_two_pow, Nat.add_comm]
theorem ypX (x j : Nat) : (x % 18446744073709551616).testBit j = (decide (j < 64) && x.testBit j) := by
 rw [show (18446744073709551616 : Nat) = 2 ^ 64 from rfl, Nat.testBit_mod_two_pow]
theorem yuc (x : Nat) (h : x < 2 ^ 128) : W x 1 = Hi x := by
 rw [ybq]; unfold Hi wd
 congr 1
 rw [show 2 ^ (64 * 1) = 18446744073709551616 from rfl]
 exact Nat.mod_eq_of_lt (ysS h)
theorem yud (x : Nat) : W x 0 = Lo x := by
 rw [ybq]; unfold Lo wd
 rw [show 2 ^ (64 * 0) = 1 from rfl, Nat.div_one]
theorem ygA (x i : Nat) (h : x < 2 ^ 128) (hi : 2 ≤ i) : W x i = 0 := by
 rw [ybq, yc7 x i (Nat.lt_of_lt_of_le h (Nat.pow_le_pow_right (by omega) (by omega)))]; rfl
theorem ytC (f : Bool → Bool → Bool) (op : Nat → Nat → Nat) (hop : ∀ a b j, (op a b).testBit j = f (a.testBit j) (b.testBit j)) (hf : f false false = false) (x y : Nat) :
  op x y / 18446744073709551616 = op (x / 18446744073709551616) (y / 18446744073709551616) ∧ op x y % 18446744073709551616 = op (x % 18446744073709551616) (y % 18446744073709551616) := by
 constructor
 ·apply Nat.eq_of_testBit_eq; intro j; rw [yqi, hop, hop, yqi, yqi]
 ·apply Nat.eq_of_testBit_eq; intro j; rw [ypX, hop, hop, ypX, ypX]
  by_cases hj : j < 64
  ·simp [hj]
  ·simp [hj, hf]
theorem ytd (x y : Nat) (hx : x < 2 ^ 128) (hy : y < 2 ^ 128) : orI .u64 (Hi x) (Hi y) = Hi (x ||| y) ∧ orI .u64 (Lo x) (Lo y) = Lo (x ||| y) := by
 obtain ⟨h1, h2⟩ := ytC (· || ·) (· ||| ·) (fun a b j => Nat.testBit_or a b j) rfl x y
 unfold Hi Lo
 exact ⟨by rw [yjj _ _ (ysS hx) (ysS hy)]; exact congrArg _ h1.symm, by rw [yjj _ _ (ytf x) (ytf y)]; exact congrArg _ h2.symm⟩
end Go.Ev.S

/- What the document's answer reckons with words, bit by bit. -/
set_option linter.unusedVariables false
set_option linter.unusedSimpArgs false
namespace Go.Ev.S
open Go Go.Ev
theorem ycJ (a i : Nat) (ha : a < 18446744073709551616) (hi : i < 64) (K : Bool → Prop) : zbs a i K = K (a.testBit i) := by
 rw [zbs.is]; unfold zbs.d
 rw [yaB (ya4 (by omega)), yaB (yaS (by omega)), yaO (by omega) (by omega), ybv (ykh (by omega)), yn1 a i ha hi]
theorem yfH (a i : Nat) : a % 2 ^ (i + 1) = a % 2 ^ i + (a.testBit i).toNat * 2 ^ i := by
 have h : (a.testBit i).toNat = a / 2 ^ i % 2 := by
  rw [Nat.testBit_eq_decide_div_mod_eq]
  rcases Nat.mod_two_eq_zero_or_one (a / 2 ^ i) with h | h <;> rw [h] <;> rfl
 rw [h, Nat.mod_pow_succ, Nat.mul_comm]
theorem ynC (s i : Nat) (h : s < 2 ^ i) : s ||| 2 ^ i = s + 2 ^ i := by
 have := Nat.two_pow_add_eq_or_of_lt h 1
 rw [Nat.mul_one] at this
 rw [Nat.or_comm, ← this, Nat.add_comm]
def yiJ (a b c i : Nat) : Nat := a % 2 ^ i + b % 2 ^ i + c
theorem ysJ (a b c i : Nat) (hc : c ≤ 1) : yiJ a b c i < 2 * 2 ^ i := by
 have h1 := Nat.mod_lt a (Nat.two_pow_pos i)
 have h2 := Nat.mod_lt b (Nat.two_pow_pos i)
 unfold yiJ; omega
theorem ygv (a b c : Nat) (ha : a < 18446744073709551616) (hb : b < 18446744073709551616) (hc : c ≤ 1) (k0 : Bool → Int → Prop) (h : k0 (decide (18446744073709551616 ≤ a + b + c)) (((a + b + c) % 18446744073709551616 : Nat))) :
  ∀ (j i : Nat), i + j = 64 → zbr.l3 k0 (j + 1) a b (decide (2 ^ i ≤ yiJ a b c i)) ((yiJ a b c i % 2 ^ i : Nat)) i
 | 0, i, hij => by
  have : i = 64 := by omega
  subst this
  unfold zbr.l3 zbr.l3.step
  rw [yau (by decide)]
  have e : yiJ a b c 64 = a + b + c := by
   unfold yiJ
   rw [show (2 : Nat) ^ 64 = 18446744073709551616 from rfl]; omega
  rw [e]
  exact h
 | j + 1, i, hij => by
  have ih := ygv a b c ha hb hc k0 h j (i + 1) (by omega)
  have e : ((i + 1 : Nat) : Int) = (i : Int) + 1 := by omega
  rw [e] at ih
  have hT : yiJ a b c (i + 1) = yiJ a b c i + (a.testBit i).toNat * 2 ^ i + (b.testBit i).toNat * 2 ^ i := by
   unfold yiJ; rw [yfH, yfH]; omega
  have hlt := ysJ a b c i hc
  have hp := Nat.two_pow_pos i
  have h2 : 2 ^ (i + 1) = 2 * 2 ^ i := by rw [Nat.pow_succ]; omega
  rw [hT, h2] at ih
  have hs : yiJ a b c i % 2 ^ i < 2 ^ i := Nat.mod_lt _ hp
  have hsum : yiJ a b c i % 2 ^ i = yiJ a b c i - (if 2 ^ i ≤ yiJ a b c i then 2 ^ i else 0) := by
   split
   ·rw [Nat.mod_eq_sub_mod (by omega), Nat.mod_eq_of_lt (by omega)]
   ·rw [Nat.mod_eq_of_lt (by omega)]; omega
  have hi64 : 2 ^ i < 18446744073709551616 := yhc (by omega)
  have hor : orI .u64 ((yiJ a b c i % 2 ^ i : Nat) : Int) (yb0 .u64 1 (cvI .u64 (i : Int))) = ((yiJ a b c i % 2 ^ i + 2 ^ i : Nat) : Int) := by
   rw [yaO (by omega) (by omega), ymo i (by omega), yjj _ _ (Nat.lt_trans hs hi64) hi64, ynC _ _ hs]
  show zbr.l3.step (zbr.l3 k0 (j + 1)) k0 _ _ _ _ _
  unfold zbr.l3.step
  rw [yaB (yaS (by omega)), ycJ a i ha (by omega), ycJ b i hb (by omega), hor, yan (by omega) (by omega), yaO (by omega) (by omega)]
  have fin : ∀ (cy : Bool) (s : Nat), (∀ S, S = yiJ a b c i + (a.testBit i).toNat * 2 ^ i + (b.testBit i).toNat * 2 ^ i → decide (2 * 2 ^ i ≤ S) = cy ∧ S % (2 * 2 ^ i) = s) → zbr.l3 k0 (j + 1) a b cy (s : Int) ((i : Int) + 1) := by
   intro cy s hh
   obtain ⟨g1, g2⟩ := hh _ rfl
   rw [g1, g2] at ih
   exact ih
  have md : ∀ S s : Nat, S = s ∨ S = s + 2 * 2 ^ i → s < 2 * 2 ^ i → S % (2 * 2 ^ i) = s := by
   intro S s hh hs
   rcases hh with rfl | rfl
   ·exact Nat.mod_eq_of_lt hs
   ·rw [Nat.add_mod_right]; exact Nat.mod_eq_of_lt hs
  generalize yiJ a b c i % 2 ^ i = s0 at *
  generalize yiJ a b c i = T at *
  generalize 2 ^ i = p at *
  clear hT hor ih
  have hg : ∀ q : Prop, q → gd (!ltI (i : Int) 0) q := fun q hq => yul (ykh (by omega)) hq
  by_cases hcy : p ≤ T
  ·rw [if_pos hcy] at hsum
   simp only [hcy, decide_true] 
   cases hx : a.testBit i <;> cases hy : b.testBit i <;> simp only [ydd, br, cond_true, cond_false, Bool.not_true, Bool.not_false] <;> (try refine hg _ ?_) <;> (try simp only [ydd, br, cond_true, cond_false, Bool.not_true, Bool.not_false])
   all_goals
    refine fin _ _ fun S hS => ?_
    simp only [hx, hy, Bool.toNat_true, Bool.toNat_false] at hS
    refine ⟨?_, md _ _ (by omega) (by omega)⟩
    simp only [decide_eq_true_eq, decide_eq_false_iff_not]
    omega
  ·rw [if_neg hcy] at hsum
   simp only [hcy, decide_false]
   cases hx : a.testBit i <;> cases hy : b.testBit i <;> simp only [ydd, br, cond_true, cond_false, Bool.not_true, Bool.not_false] <;> (try refine hg _ ?_) <;> (try simp only [ydd, br, cond_true, cond_false, Bool.not_true, Bool.not_false])
   all_goals
    refine fin _ _ fun S hS => ?_
    simp only [hx, hy, Bool.toNat_true, Bool.toNat_false] at hS
    refine ⟨?_, md _ _ (by omega) (by omega)⟩
    simp only [decide_eq_true_eq, decide_eq_false_iff_not]
    omega
theorem yo4 (a b : Nat) (c : Bool) (ha : a < 18446744073709551616) (hb : b < 18446744073709551616) (K : Int → Bool → Prop)
  (h : K (((a + b + c.toNat) % 18446744073709551616 : Nat)) (decide (18446744073709551616 ≤ a + b + c.toNat))) : zbr a b c K := by
 rw [zbr.is]
 refine ⟨65, ?_⟩
 have := ygv a b c.toNat ha hb (by cases c <;> simp) (fun y0 y1 => K y1 y0) h 64 0 rfl
 have e1 : decide (2 ^ 0 ≤ yiJ a b c.toNat 0) = c := by
  unfold yiJ
  cases c <;> simp [Nat.mod_one]
 have e2 : yiJ a b c.toNat 0 % 2 ^ 0 = 0 := by simp [Nat.mod_one]
 rw [e1, e2] at this
 exact this
def ygJ (a : Nat) : Nat → Nat
 | 0 => 0
 | i + 1 => cond (a.testBit i) (i + 1) (ygJ a i)
theorem yjC (a w : Nat) : ∀ n, ygJ a n ≤ w ↔ ∀ i, i < n → w ≤ i → a.testBit i = false
 | 0 => by simp [ygJ]
 | n + 1 => by
  have ih := yjC a w n
  cases hb : a.testBit n with
  | true =>
   simp only [ygJ, hb, cond_true]
   constructor
   ·intro h i hi hw; omega
   ·intro h
    apply Classical.byContradiction
    intro hc
    have := h n (by omega) (by omega)
    rw [hb] at this; cases this
  | false =>
   simp only [ygJ, hb, cond_false]
   rw [ih]
   constructor
   ·intro h i hi hw
    by_cases hin : i = n
    ·subst hin; exact hb
    ·exact h i (by omega) hw
   ·intro h i hi hw; exact h i (by omega) hw
def yav (a : Nat) : Nat := if a = 0 then 0 else a.log2 + 1
theorem yaP (a w : Nat) : yav a ≤ w ↔ a < 2 ^ w := by
 unfold yav
 by_cases h : a = 0
 ·subst h; simp [Nat.two_pow_pos]
 ·rw [if_neg h]
  rw [← Nat.log2_lt h]; omega
theorem yhD (a : Nat) : a < 2 ^ yav a := (yaP a _).1 (Nat.le_refl _)
theorem ynL {a : Nat} (h : a ≠ 0) : 0 < yav a := by unfold yav; rw [if_neg h]; omega
theorem yqF {a : Nat} (h : a ≠ 0) : 2 ^ (yav a - 1) ≤ a := by
 unfold yav; rw [if_neg h]
 exact Nat.log2_self_le h
theorem yoY (a n : Nat) (ha : a < 2 ^ n) : ygJ a n = yav a := by
 apply Nat.le_antisymm
 ·rw [yjC]
  intro i _ hw
  exact Nat.testBit_lt_two_pow (Nat.lt_of_lt_of_le (yhD a) (Nat.pow_le_pow_right (by omega) hw))
 ·rw [yaP]
  apply Nat.lt_pow_two_of_testBit
  intro i hi
  by_cases hin : i < n
  ·exact (yjC a _ n).1 (Nat.le_refl _) i hin hi
  ·exact Nat.testBit_lt_two_pow (Nat.lt_of_lt_of_le ha (Nat.pow_le_pow_right (by omega) (by omega)))
theorem ygu (a : Nat) (ha : a < 18446744073709551616) (k0 : Int → Prop) (h : k0 (ygJ a 64)) : ∀ (j i : Nat), i + j = 64 → zbt.l3 k0 (j + 1) a (ygJ a i) i
 | 0, i, hij => by
  have : i = 64 := by omega
  subst this
  unfold zbt.l3 zbt.l3.step
  rw [yau (by decide)]
  exact h
 | j + 1, i, hij => by
  show br (ltI i 64) (zbs a i fun r0 => br r0 (zbt.l3 k0 (j + 1) a (yaj .i64 i 1) (yaj .i64 i 1)) (zbt.l3 k0 (j + 1) a (ygJ a i) (yaj .i64 i 1))) (k0 (ygJ a i))
  rw [yaB (yaS (by omega)), ycJ a i ha (by omega), yan (by omega) (by omega)]
  have ih := ygu a ha k0 h j (i + 1) (by omega)
  have e : ((i + 1 : Nat) : Int) = (i : Int) + 1 := by omega
  rw [e] at ih
  cases hb : a.testBit i with
  | true =>
   rw [yaB rfl]
   simp only [ygJ, hb, cond_true] at ih
   rw [e] at ih
   exact ih
  | false =>
   rw [yau rfl]
   simp only [ygJ, hb, cond_false] at ih
   exact ih
theorem yjv (a : Nat) (ha : a < 18446744073709551616) (K : Int → Prop) (h : K (yav a)) : zbt a K := by
 rw [zbt.is]
 refine ⟨65, ygu a ha K ?_ 64 0 rfl⟩
 rw [yoY a 64 ha]; exact h
end Go.Ev.S

/- What the document's answer reckons with numbers of six words. -/
set_option linter.unusedVariables false
set_option linter.unusedSimpArgs false
set_option maxRecDepth 8000
namespace Go.Ev.S
open Go Go.Ev
theorem yge (n : Nat) (h : n ≤ 384) (K : Int → Prop) : zby n K = K n := by
 rw [zby.is]; unfold zby.d
 rw [yau (ya1 (by omega)), yau (ya1 (by omega))]
theorem yo9 (x i : Nat) (hi : i < 384) (K : Bool → Prop) : zbx (W x) i K = K (x.testBit i) := by
 rw [zbx.is]; unfold zbx.d
 rw [yaB (ya4 (by omega)), yaB (yaS (by omega)), yod i (by omega), yor i, ybv (ybN (by omega) (by omega)), Int.toNat_natCast, ybq, ycJ _ _ (ydR _ _) (Nat.mod_lt _ (by omega)), ycd]
 have h1 : i % 64 < 64 := Nat.mod_lt _ (by omega)
 rw [show 64 * (i / 64) + i % 64 = i from by omega]
 simp [h1]
theorem ylh (x : Nat) (h : x < 18446744073709551616) (K : (Nat → Int) → Prop) : zcc x K = K (W x) := by
 rw [zcc.is]; unfold zcc.d; rw [yte x h]
theorem yfF (x : Nat) (h : x < 2 ^ 128) (K : Int → Int → Bool → Prop) : zcd (W x) K = K (Hi x) (Lo x) true := by
 rw [zcd.is]; unfold zcd.d
 rw [ygA x 2 h (by omega), ygA x 3 h (by omega), ygA x 4 h (by omega), ygA x 5 h (by omega), yuc x h, yud x]
 rfl
theorem ytu (z w i : Nat) (hz : z < 2 ^ (64 * i)) (hw : w < 18446744073709551616) : upd (W z) i (w : Int) = W (z + w * 2 ^ (64 * i)) := by
 funext j
 have hP := Nat.two_pow_pos (64 * i)
 by_cases hj : j = i
 ·subst hj
  rw [yb7, ybq]
  congr 1
  unfold wd
  rw [Nat.add_mul_div_right _ _ hP, Nat.div_eq_of_lt hz, Nat.zero_add, Nat.mod_eq_of_lt hw]
 ·rw [ycP _ _ _ _ hj, ybq, ybq]
  congr 1
  by_cases hlt : j < i
  ·unfold wd
   have e : 2 ^ (64 * i) = 2 ^ (64 * j) * (18446744073709551616 * 2 ^ (64 * (i - j - 1))) := by
    rw [show (18446744073709551616 : Nat) = 2 ^ 64 from rfl, ← Nat.pow_add, ← Nat.pow_add]; congr 1; omega
   rw [e, Nat.mul_comm w, Nat.mul_assoc, Nat.add_mul_div_left _ _ (Nat.two_pow_pos _), Nat.mul_assoc, Nat.add_mul_mod_self_left]
  ·rw [yc7 z j (Nat.lt_of_lt_of_le hz (Nat.pow_le_pow_right (by omega) (by omega))), yc7]
   have h1 : z + w * 2 ^ (64 * i) < 2 ^ (64 * (i + 1)) := by
    rw [show 64 * (i + 1) = 64 * i + 64 from by omega, Nat.pow_add, show (2 : Nat) ^ 64 = 18446744073709551616 from rfl]
    have : (w + 1) * 2 ^ (64 * i) ≤ 18446744073709551616 * 2 ^ (64 * i) := Nat.mul_le_mul_right _ (by omega)
    rw [Nat.add_mul, Nat.one_mul] at this
    rw [Nat.mul_comm (2 ^ (64 * i))]
    omega
   exact Nat.lt_of_lt_of_le h1 (Nat.pow_le_pow_right (by omega) (by omega))
theorem ykI (x i : Nat) : x % 2 ^ (64 * (i + 1)) = x % 2 ^ (64 * i) + wd x i * 2 ^ (64 * i) := by
 unfold wd
 rw [show 64 * (i + 1) = 64 * i + 64 from by omega, Nat.pow_add, show (2 : Nat) ^ 64 = 18446744073709551616 from rfl, Nat.mod_mul, Nat.mul_comm (2 ^ (64 * i))]
def yja (x y i : Nat) : Nat := x % 2 ^ (64 * i) + y % 2 ^ (64 * i)
theorem yqx (x y i q : Nat) (hqd : q = (decide (2 ^ (64 * i) ≤ yja x y i)).toNat) :
  (yja x y (i + 1) % 2 ^ (64 * (i + 1)) = yja x y i % 2 ^ (64 * i) + ((wd x i + wd y i + q) % 18446744073709551616) * 2 ^ (64 * i)) ∧
  (decide (2 ^ (64 * (i + 1)) ≤ yja x y (i + 1)) = decide (18446744073709551616 ≤ wd x i + wd y i + q)) := by
 have hP : 0 < 2 ^ (64 * i) := Nat.two_pow_pos _
 have h1 : x % 2 ^ (64 * i) < 2 ^ (64 * i) := Nat.mod_lt _ hP
 have h2 : y % 2 ^ (64 * i) < 2 ^ (64 * i) := Nat.mod_lt _ hP
 have hT : yja x y (i + 1) = yja x y i + (wd x i + wd y i) * 2 ^ (64 * i) := by
  unfold yja; rw [ykI, ykI, Nat.add_mul]; omega
 have hlt : yja x y i < 2 * 2 ^ (64 * i) := by unfold yja; omega
 have h64 : 2 ^ (64 * (i + 1)) = 2 ^ (64 * i) * 18446744073709551616 := by
  rw [show 64 * (i + 1) = 64 * i + 64 from by omega, Nat.pow_add]
 rw [hT, h64]
 clear hT h64 h1 h2
 generalize 2 ^ (64 * i) = P at *
 generalize yja x y i = T at *
 have hq : T = T % P + q * P := by
  by_cases hc : P ≤ T
  ·have : q = 1 := by rw [hqd]; simp only [hc, decide_true, Bool.toNat_true]
   rw [this, Nat.mod_eq_sub_mod hc, Nat.mod_eq_of_lt (by omega)]; omega
  ·have : q = 0 := by rw [hqd]; simp only [hc, decide_false, Bool.toNat_false]
   rw [this, Nat.mod_eq_of_lt (by omega)]; omega
 have hr : T % P < P := Nat.mod_lt _ hP
 clear hqd
 generalize T % P = r at *
 subst hq
 rw [show r + q * P + (wd x i + wd y i) * P = r + (wd x i + wd y i + q) * P from by rw [Nat.add_mul (wd x i + wd y i)]; omega]
 generalize wd x i + wd y i + q = v
 constructor
 ·rw [Nat.mod_mul, Nat.add_mul_mod_self_right, Nat.mod_eq_of_lt hr, Nat.add_mul_div_right _ _ hP, Nat.div_eq_of_lt hr, Nat.zero_add, Nat.mul_comm P]
 ·rw [decide_eq_decide]
  constructor
  ·intro h
   apply Classical.byContradiction
   intro hc
   have : (v + 1) * P ≤ 18446744073709551616 * P := Nat.mul_le_mul_right _ (by omega)
   rw [Nat.add_mul, Nat.mul_comm 18446744073709551616] at this
   omega
  ·intro h
   have : 18446744073709551616 * P ≤ v * P := Nat.mul_le_mul_right _ h
   rw [Nat.mul_comm 18446744073709551616] at this
   omega
theorem ymd (x y : Nat) (k0 : Bool → (Nat → Int) → (Nat → Int) → Prop) (z : Nat → Int) (h : k0 (decide (Q6 ≤ yja x y 6)) z (W (yja x y 6 % Q6))) :
  ∀ (j i : Nat), i + j = 6 → zbv.l4 k0 (j + 1) (decide (2 ^ (64 * i) ≤ yja x y i)) i (W x) (W y) z (W (yja x y i % 2 ^ (64 * i))) := by
 intro j
 induction j with
 | zero =>
  intro i hij
  have h6 : i = 6 := by omega
  unfold zbv.l4 zbv.l4.step
  rw [yau (ya1 (by omega)), yeA (show 64 * i = 384 by omega), h6]
  exact h
 | succ j ih =>
  intro i hij
  have ih := ih (i + 1) (by omega)
  have e : ((i + 1 : Nat) : Int) = (i : Int) + 1 := by omega
  rw [e] at ih
  obtain ⟨s1, s2⟩ := yqx x y i _ rfl
  rw [s1, s2] at ih
  unfold zbv.l4 zbv.l4.step
  have hi : (leI 0 (i : Int) && ltI (i : Int) 6) = true := ybN (by omega) (by omega)
  rw [yaB (yaS (by omega)), ybv hi, ybv hi, Int.toNat_natCast, ybq, ybq]
  refine yo4 _ _ _ (ydR _ _) (ydR _ _) _ ?_
  rw [ybv hi, yan (by omega) (by omega), ytu _ _ _ (Nat.mod_lt _ (Nat.two_pow_pos _)) (Nat.mod_lt _ (by omega))]
  exact ih
theorem yje (x y : Nat) (hx : x < Q6) (hy : y < Q6) (K : (Nat → Int) → Bool → Prop) (h : K (W ((x + y) % Q6)) (decide (Q6 ≤ x + y))) : zbv (W x) (W y) K := by
 rw [zbv.is]
 refine ⟨7, ?_⟩
 have h6 : yja x y 6 = x + y := by
  obtain ⟨i, hi⟩ : ∃ i, i = 6 := ⟨_, rfl⟩
  rw [← hi]
  unfold yja; rw [yeA (show 64 * i = 384 by omega), Nat.mod_eq_of_lt hx, Nat.mod_eq_of_lt hy]
 have := ymd x y (fun y0 y1 y2 => K y2 y0) (fun _ => 0) (by rw [h6]; exact h) 6 0 rfl
 have e1 : decide (2 ^ (64 * 0) ≤ yja x y 0) = false := by simp [yja, Nat.mod_one]
 have e2 : W (yja x y 0 % 2 ^ (64 * 0)) = fun _ => 0 := by
  rw [show yja x y 0 % 2 ^ (64 * 0) = 0 from by simp [Nat.mod_one]]; exact W_zero
 rw [e1, e2] at this
 exact this
theorem yru {x n i m : Nat} (hb : x.testBit i = true) (h : i + n < m) :
  (x % 2 ^ (i + 1)) * 2 ^ n % 2 ^ m = ((x % 2 ^ i) * 2 ^ n % 2 ^ m) ||| 2 ^ (i + n) ∧ ¬ 2 ^ m ≤ (x % 2 ^ i) * 2 ^ n ∧ ¬ 2 ^ m ≤ (x % 2 ^ (i + 1)) * 2 ^ n := by
 have h1 : (x % 2 ^ i) * 2 ^ n < 2 ^ (i + n) := by
  rw [Nat.pow_add]; exact Nat.mul_lt_mul_of_pos_right (Nat.mod_lt _ (Nat.two_pow_pos _)) (Nat.two_pow_pos _)
 have h2 : (x % 2 ^ (i + 1)) * 2 ^ n = (x % 2 ^ i) * 2 ^ n + 2 ^ (i + n) := by
  rw [yfH, hb, Nat.add_mul, Nat.pow_add]; simp
 have h3 : 2 ^ (i + n) + 2 ^ (i + n) ≤ 2 ^ m := by
  have : 2 ^ (i + n + 1) ≤ 2 ^ m := Nat.pow_le_pow_right (by omega) (by omega)
  rw [Nat.pow_succ] at this; omega
 rw [h2]
 generalize x % 2 ^ i * 2 ^ n = A at *
 rw [Nat.mod_eq_of_lt (show A + 2 ^ (i + n) < 2 ^ m by omega), Nat.mod_eq_of_lt (show A < 2 ^ m by omega), ynC _ _ h1]
 exact ⟨rfl, by omega, by omega⟩
theorem ypF {x n i m : Nat} (hb : x.testBit i = true) (h : m ≤ i + n) :
  (x % 2 ^ (i + 1)) * 2 ^ n % 2 ^ m = (x % 2 ^ i) * 2 ^ n % 2 ^ m ∧ 2 ^ m ≤ (x % 2 ^ (i + 1)) * 2 ^ n := by
 have h2 : (x % 2 ^ (i + 1)) * 2 ^ n = (x % 2 ^ i) * 2 ^ n + 2 ^ (i + n) := by
  rw [yfH, hb, Nat.add_mul, Nat.pow_add]; simp
 have h3 : 2 ^ (i + n) = 2 ^ m * 2 ^ (i + n - m) := by rw [← Nat.pow_add]; congr 1; omega
 have h4 : 2 ^ m ≤ 2 ^ (i + n) := Nat.pow_le_pow_right (by omega) h
 rw [h2]
 exact ⟨by rw [h3, Nat.add_mul_mod_self_left], by omega⟩
theorem ypl {x i : Nat} (hb : x.testBit i = false) : x % 2 ^ (i + 1) = x % 2 ^ i := by rw [yfH, hb]; simp
theorem ykD (x n m : Nat) (hm : m = 384) (hn : n ≤ 384) (k0 : Bool → (Nat → Int) → (Nat → Int) → Prop) (z : Nat → Int) (h : k0 (decide (2 ^ m ≤ (x % 2 ^ m) * 2 ^ n)) z (W ((x % 2 ^ m) * 2 ^ n % 2 ^ m))) :
  ∀ (j i : Nat), i + j = 384 → zbz.l5 k0 (j + 1) n (decide (2 ^ m ≤ (x % 2 ^ i) * 2 ^ n)) i (W x) z (W ((x % 2 ^ i) * 2 ^ n % 2 ^ m)) := by
 intro j
 induction j with
 | zero =>
  intro i hij
  have h6 : i = m := by omega
  subst h6
  unfold zbz.l5 zbz.l5.step
  rw [yau (ya1 (by omega))]
  exact h
 | succ j ih =>
  intro i hij
  have ih := ih (i + 1) (by omega)
  have e : ((i + 1 : Nat) : Int) = (i : Int) + 1 := by omega
  rw [e] at ih
  unfold zbz.l5 zbz.l5.step
  rw [yaB (yaS (by omega)), yo9 x i (by omega)]
  have e1 : yaj .i64 (i : Int) (n : Int) = ((i + n : Nat) : Int) := by rw [yan (by omega) (by omega)]; omega
  rw [e1, yan (a := (i : Int)) (b := 1) (by omega) (by omega)]
  cases hb : x.testBit i with
  | false =>
   rw [yau rfl]
   rw [ypl hb] at ih
   exact ih
  | true =>
   rw [yaB rfl]
   by_cases hin : i + n < 384
   ·obtain ⟨s1, s2, s3⟩ := yru (m := m) hb (show i + n < m by omega)
    rw [s1] at ih
    rw [yaB (yaS (by omega)), yod (i + n) (by omega), yor, ybv (ybN (by omega) (by omega)), yaO (by omega) (by omega), ybv (ykh (by omega)), ybv (ybN (by omega) (by omega)), Int.toNat_natCast, yjX]
    simp only [s2, s3, decide_false] at ih ⊢
    exact ih
   ·obtain ⟨s1, s2⟩ := ypF (m := m) (n := n) hb (by omega)
    rw [yau (ya1 (by omega))]
    rw [s1] at ih
    simp only [s2, decide_true] at ih
    exact ih
theorem yhV (x n : Nat) (hx : x < Q6) (hn : n ≤ 384) (K : (Nat → Int) → Bool → Prop) (h : K (W (x * 2 ^ n % Q6)) (decide (Q6 ≤ x * 2 ^ n))) : zbz (W x) n K := by
 rw [zbz.is]; unfold zbz.d
 rw [yge n hn]
 refine ⟨384 + 1, ?_⟩
 obtain ⟨m, hm⟩ : ∃ m, m = 384 := ⟨_, rfl⟩
 have := ykD x n m hm hn (fun y0 y1 y2 => K y2 y0) (fun _ => 0) (by rw [yeA hm, Nat.mod_eq_of_lt hx]; exact h) 384 0 rfl
 rw [yeA hm] at this
 have e1 : decide (Q6 ≤ (x % 2 ^ 0) * 2 ^ n) = false := by
  simp only [Nat.pow_zero, Nat.mod_one, Nat.zero_mul, decide_eq_false_iff_not, Nat.not_le]; exact ysb
 have e2 : W ((x % 2 ^ 0) * 2 ^ n % Q6) = fun _ => 0 := by
  rw [show (x % 2 ^ 0) * 2 ^ n % Q6 = 0 from by simp [Nat.mod_one]]; exact W_zero
 rw [e1, e2] at this
 exact this
theorem yjO (n : Nat) (hn : n ≤ 384) (k0 : (Nat → Int) → (Nat → Int) → Prop) (z : Nat → Int) (h : k0 z (W (2 ^ n - 1))) :
  ∀ (j i : Nat), i + j = n → zcb.l4 k0 (j + 1) n i z (W (2 ^ i - 1)) := by
 intro j
 induction j with
 | zero =>
  intro i hij
  have : i = n := by omega
  subst this
  unfold zcb.l4 zcb.l4.step
  rw [yau (ya1 (by omega))]
  exact h
 | succ j ih =>
  intro i hij
  have ih := ih (i + 1) (by omega)
  have e : ((i + 1 : Nat) : Int) = (i : Int) + 1 := by omega
  rw [e] at ih
  unfold zcb.l4 zcb.l4.step
  have hp := Nat.two_pow_pos i
  have s1 : 2 ^ (i + 1) - 1 = (2 ^ i - 1) ||| 2 ^ i := by rw [ynC _ _ (by omega), Nat.pow_succ]; omega
  rw [yaB (yaS (by omega)), yod i (by omega), yor, ybv (ybN (by omega) (by omega)), yaO (by omega) (by omega), ybv (ykh (by omega)), ybv (ybN (by omega) (by omega)), Int.toNat_natCast, yjX, yan (by omega) (by omega), ← s1]
  exact ih
theorem yhI (n : Nat) (hn : n ≤ 384) (K : (Nat → Int) → Prop) (h : K (W (2 ^ n - 1))) : zcb n K := by
 rw [zcb.is]; unfold zcb.d
 rw [yge n hn]
 refine ⟨n + 1, ?_⟩
 have := yjO n hn (fun y0 y1 => K y1) (fun _ => 0) h n 0 (by omega)
 rw [show 2 ^ 0 - 1 = 0 from rfl, W_zero] at this
 exact this
def mix (i : Nat) (x y : Nat) : Nat → Int := fun j => cond (Nat.blt j i) (W x j) (W y j)
theorem ykp (x y : Nat) : mix 0 x y = W y := by
 funext j
 have h1 : Nat.blt j 0 = false := by
  cases hb : Nat.blt j 0 with
  | false => rfl
  | true => have := bltI.1 hb; omega
 simp [mix, h1]
theorem ymO (x y n : Nat) (hx : x < 2 ^ (64 * n)) (hy : y < 2 ^ (64 * n)) : mix n x y = W x := by
 funext j
 unfold mix
 cases hb : Nat.blt j n with
 | true => rfl
 | false =>
  have hj : n ≤ j := by
   rcases Nat.lt_or_ge j n with h | h
   ·rw [bltI.2 h] at hb; cases hb
   ·exact h
  simp only [cond_false]
  rw [ybq, ybq, yc7 x j (Nat.lt_of_lt_of_le hx (Nat.pow_le_pow_right (by omega) (by omega))), yc7 y j (Nat.lt_of_lt_of_le hy (Nat.pow_le_pow_right (by omega) (by omega)))]
theorem ykt (x y i : Nat) : upd (mix i x y) i (W x i) = mix (i + 1) x y := by
 funext j
 by_cases hj : j = i
 ·subst hj; rw [yb7]; simp [mix, bltI.2 (show j < j + 1 by omega)]
 ·rw [ycP _ _ _ _ hj]
  unfold mix
  by_cases h : j < i
  ·rw [bltI.2 h, bltI.2 (show j < i + 1 by omega)]
  ·have h1 : Nat.blt j i = false := by
    cases hb : Nat.blt j i with
    | false => rfl
    | true => exact absurd (bltI.1 hb) h
   have h2 : Nat.blt j (i + 1) = false := by
    cases hb : Nat.blt j (i + 1) with
    | false => rfl
    | true => have := bltI.1 hb; omega
   rw [h1, h2]
theorem ypI (x y i : Nat) : mix i x y i = W y i := by
 have h1 : Nat.blt i i = false := by
  cases hb : Nat.blt i i with
  | false => rfl
  | true => have := bltI.1 hb; omega
 simp [mix, h1]
theorem yr8 (x y i : Nat) : wd (x &&& y) i = wd x i &&& wd y i := by
 apply Nat.eq_of_testBit_eq; intro j
 rw [Nat.testBit_and, ycd, ycd, ycd, Nat.testBit_and]
 by_cases hj : j < 64 <;> simp [hj]
theorem ytP (x y i : Nat) : wd (x ||| y) i = wd x i ||| wd y i := by
 apply Nat.eq_of_testBit_eq; intro j
 rw [Nat.testBit_or, ycd, ycd, ycd, Nat.testBit_or]
 by_cases hj : j < 64 <;> simp [hj]
theorem ysj {x y m : Nat} (h : x < 2 ^ m) : x &&& y < 2 ^ m := Nat.lt_of_le_of_lt Nat.and_le_left h
theorem ykT (x y : Nat) (hx : x < Q6) (k0 : (Nat → Int) → (Nat → Int) → Prop) (z : Nat → Int) (h : k0 (W (x &&& y)) z) :
  ∀ (j i : Nat), i + j = 6 → zbw.l2 k0 (j + 1) i (mix i (x &&& y) x) (W y) z := by
 intro j
 induction j with
 | zero =>
  intro i hij
  have h6 : i = 6 := by omega
  have hx' : x < 2 ^ (64 * i) := by rw [yeA (show 64 * i = 384 by omega)]; exact hx
  unfold zbw.l2 zbw.l2.step
  rw [yau (ya1 (by omega)), ymO _ _ i (ysj hx') hx']
  exact h
 | succ j ih =>
  intro i hij
  have ih := ih (i + 1) (by omega)
  have e : ((i + 1 : Nat) : Int) = (i : Int) + 1 := by omega
  rw [e] at ih
  unfold zbw.l2 zbw.l2.step
  have hi : (leI 0 (i : Int) && ltI (i : Int) 6) = true := ybN (by omega) (by omega)
  rw [yaB (yaS (by omega)), ybv hi, ybv hi, ybv hi, Int.toNat_natCast, ypI, ybq, ybq, yjN _ _ (ydR _ _) (ydR _ _), ← yr8, ← ybq, ykt, yan (by omega) (by omega)]
  exact ih
theorem yoL (x y : Nat) (hx : x < Q6) (K : (Nat → Int) → Prop) (h : K (W (x &&& y))) : zbw (W x) (W y) K := by
 rw [zbw.is]
 refine ⟨7, ?_⟩
 have := ykT x y hx (fun y0 y1 => K y0) (fun _ => 0) h 6 0 rfl
 rw [ykp] at this
 exact this
theorem ydt {x i : Nat} (h : x / 2 ^ i ≠ 0) : yav x = i + yav (x / 2 ^ i) := by
 apply Nat.le_antisymm
 ·rw [yaP, Nat.pow_add, Nat.mul_comm, ← Nat.div_lt_iff_lt_mul (Nat.two_pow_pos i)]
  exact yhD _
 ·have h1 := yqF h
  have h2 : 2 ^ (i + (yav (x / 2 ^ i) - 1)) ≤ x := by
   rw [Nat.pow_add, Nat.mul_comm]
   exact (Nat.le_div_iff_mul_le (Nat.two_pow_pos i)).1 h1
  have hp := ynL h
  apply Classical.byContradiction
  intro hc
  have h3 : yav x ≤ i + (yav (x / 2 ^ i) - 1) := by omega
  have := (yaP x _).1 h3
  omega
theorem ygw (x : Nat) (k0 : Int → Prop) (k1 : Prop) (h : x ≠ 0 → k0 (yav x)) (n i : Nat) (hi : i < 6) (hx : x < 2 ^ (64 * (i + 1))) (hrec : x < 2 ^ (64 * i) → zca.l2 k0 k1 n ((i : Int) - 1) (W x)) :
  zca.l2 k0 k1 (n + 1) i (W x) := by
 have hwd : wd x i = x / 2 ^ (64 * i) := by
  unfold wd
  apply Nat.mod_eq_of_lt
  rw [Nat.div_lt_iff_lt_mul (Nat.two_pow_pos _), show (18446744073709551616 : Nat) = 2 ^ 64 from rfl, ← Nat.pow_add]
  rw [show 64 + 64 * i = 64 * (i + 1) from by omega]; exact hx
 unfold zca.l2 zca.l2.step
 have hi' : (leI 0 (i : Int) && ltI (i : Int) 6) = true := ybN (by omega) (by omega)
 rw [yaB (ya4 (by omega)), ybv hi', Int.toNat_natCast, ybq]
 by_cases hz : wd x i = 0
 ·have hx2 : x < 2 ^ (64 * i) := by
   rw [hwd] at hz
   rcases (Nat.div_eq_zero_iff).1 hz with h' | h'
   ·have := Nat.two_pow_pos (64 * i); omega
   ·exact h'
  rw [yau (by rw [hz]; rfl), yap (by omega) (by omega)]
  exact hrec hx2
 ·rw [yaB (by rw [show (0 : Int) = ((0 : Nat) : Int) from rfl, yse]; simp [hz]), ybv hi']
  refine yjv _ (ydR _ _) _ ?_
  have hb : yav (wd x i) ≤ 64 := (yaP _ _).2 (ydR x i)
  rw [ybm (by omega) (by omega), yan (by omega) (by omega)]
  have hx0 : x ≠ 0 := by
   intro e; subst e; exact hz (yc7 0 i (Nat.two_pow_pos _))
  have := h hx0
  rw [hwd] at hz ⊢
  rw [ydt hz] at this
  rw [show (64 * (i : Int) + (yav (x / 2 ^ (64 * i)) : Int)) = ((64 * i + yav (x / 2 ^ (64 * i)) : Nat) : Int) from by omega]
  exact this
theorem ykR (x : Nat) (k0 : Int → Prop) (k1 : Prop) (h : x ≠ 0 → k0 (yav x)) (h1 : x = 0 → k1) (i : Nat) : i < 6 → x < 2 ^ (64 * (i + 1)) → zca.l2 k0 k1 (i + 2) i (W x) := by
 induction i with
 | zero =>
  intro hi hx
  refine ygw x k0 k1 h 1 0 hi hx fun hx2 => ?_
  have hx0 : x = 0 := by
   have : x < 1 := hx2
   omega
  unfold zca.l2 zca.l2.step
  rw [yau (by decide)]
  exact h1 hx0
 | succ i ih =>
  intro hi hx
  refine ygw x k0 k1 h (i + 2) (i + 1) hi hx fun hx2 => ?_
  rw [show (((i + 1 : Nat) : Int) - 1) = (i : Int) from by omega]
  exact ih (by omega) hx2
theorem yoZ (x : Nat) (hx : x < Q6) (K : Int → Prop) (h : K (yav x)) : zca (W x) K := by
 rw [zca.is]
 obtain ⟨i, hi⟩ : ∃ i, i = 5 := ⟨_, rfl⟩
 have := ykR x K (K 0) (fun _ => h) (fun e => by subst e; exact h) i (by omega) (by rw [yeA (show 64 * (i + 1) = 384 by omega)]; exact hx)
 rw [hi] at this
 exact ⟨5 + 2, this⟩
end Go.Ev.S

/- What the abacus reckons with words and with numbers of six words. -/
set_option linter.unusedVariables false
set_option linter.unusedSimpArgs false
set_option maxRecDepth 8000
namespace Go.Ev.S
open Go Go.Ev
theorem ysv (g : Nat → Int) (i : Nat) (a b : Int) : upd (upd g i a) i b = upd g i b := by
 funext j
 simp only [upd]
 cases Nat.beq j i <;> rfl
theorem yth (g : Nat → Int) (i : Nat) (a : Int) : upd g i a i = a := by
 simp only [upd]
 have : Nat.beq i i = true := by simp
 rw [this]; rfl
theorem yfW (n m : Int) : yin n m = if n < m then m else n := by
 unfold yin ltI; by_cases h : n < m <;> simp [h]
theorem yjz (n m : Int) : ype n m = if m < n then m else n := by
 unfold ype ltI; by_cases h : m < n <;> simp [h]
theorem ylZ (n : Nat) (h : n ≤ 64) (K : Int → Prop) : zfh n K = K ((2 ^ n - 1 : Nat)) := by
 rw [zfh.is]; unfold zfh.d; rw [zfi.is]; unfold zfi.d
 have e : ype (yin (n : Int) 0) 64 = (n : Int) := by
  rw [yfW, yjz]; split <;> split <;> omega
 rw [e, yaO (by omega) (by omega)]
 show gd (!ltI (n : Int) 0) (K (yaq IntKind.u64 (yb0 IntKind.u64 1 (n : Int)) 1)) = _
 rw [ybv (ykh (by omega))]
 by_cases hn : n = 64
 ·subst hn; rfl
 ·have hlt : 2 ^ n < 18446744073709551616 := yhc (by omega)
  have hp := Nat.two_pow_pos n
  rw [ymo n (by omega)]
  generalize 2 ^ n = p at *
  rw [yj3 (by omega) (by omega), show ((p : Int) - 1) = ((p - 1 : Nat) : Int) from by omega]
theorem yjY (n : Int) (h : n ≤ 0) (h2 : -9223372036854775808 ≤ n) (K : Int → Prop) : zfh n K = K 0 := by
 rw [zfh.is]; unfold zfh.d; rw [zfi.is]; unfold zfi.d
 have e : ype (yin n 0) 64 = 0 := by
  rw [yfW, yjz]; split <;> split <;> omega
 rw [e]; rfl
theorem yjJ (n : Int) (h : 64 ≤ n) (K : Int → Prop) : zfh n K = K ((2 ^ 64 - 1 : Nat)) := by
 rw [zfh.is]; unfold zfh.d; rw [zfi.is]; unfold zfi.d
 have e : ype (yin n 0) 64 = 64 := by
  rw [yfW, yjz]; split <;> split <;> omega
 rw [e]; rfl
theorem yfa (n : Nat) (h : n ≤ 384) (K : Int → Prop) : zfe n K = K n := by
 rw [zfe.is]; unfold zfe.d
 have e : ype (yin (n : Int) 0) 384 = (n : Int) := by
  rw [yfW, yjz]; split <;> split <;> omega
 rw [e]
theorem ymr (x i : Nat) (hi : i < 384) (K : Bool → Prop) : zex (W x) i K = K (x.testBit i) := by
 rw [zex.is]; unfold zex.d
 have h1 : i % 64 < 64 := Nat.mod_lt _ (by omega)
 rw [yaB (ya4 (by omega)), yaB (yaS (by omega)), yod i (by omega), yor i, ybv (ybN (by omega) (by omega)), yaO (by omega) (by omega), ybv (ykh (by omega)), Int.toNat_natCast, ybq, yn1 _ _ (ydR _ _) h1, ycd]
 rw [show 64 * (i / 64) + i % 64 = i from by omega]
 simp [h1]
theorem yj7 (x y : Nat) (hx : x < Q6) (k0 : (Nat → Int) → (Nat → Int) → Prop) (z : Nat → Int) (h : k0 (W (x &&& y)) z) :
  ∀ (j i : Nat), i + j = 6 → zew.l2 k0 (j + 1) i (mix i (x &&& y) x) (W y) z := by
 intro j
 induction j with
 | zero =>
  intro i hij
  have h6 : i = 6 := by omega
  have hx' : x < 2 ^ (64 * i) := by rw [yeA (show 64 * i = 384 by omega)]; exact hx
  unfold zew.l2 zew.l2.step
  rw [yau (ya1 (by omega)), ymO _ _ i (ysj hx') hx']
  exact h
 | succ j ih =>
  intro i hij
  have ih := ih (i + 1) (by omega)
  have e : ((i + 1 : Nat) : Int) = (i : Int) + 1 := by omega
  rw [e] at ih
  unfold zew.l2 zew.l2.step
  have hi : (leI 0 (i : Int) && ltI (i : Int) 6) = true := ybN (by omega) (by omega)
  rw [yaB (yaS (by omega)), ybv hi, ybv hi, ybv hi, Int.toNat_natCast, ypI, ybq, ybq, yjN _ _ (ydR _ _) (ydR _ _), ← yr8, ← ybq, ykt, yan (by omega) (by omega)]
  exact ih
theorem yhm (x y : Nat) (hx : x < Q6) (K : (Nat → Int) → Prop) (h : K (W (x &&& y))) : zew (W x) (W y) K := by
 rw [zew.is]
 refine ⟨7, ?_⟩
 have := yj7 x y hx (fun y0 y1 => K y0) (fun _ => 0) h 6 0 rfl
 rw [ykp] at this
 exact this
theorem ysA (n i : Nat) : ((wd (2 ^ n - 1) i : Nat) : Int) = if 64 * i + 64 ≤ n then ((2 ^ 64 - 1 : Nat) : Int) else if n ≤ 64 * i then 0 else ((2 ^ (n - 64 * i) - 1 : Nat) : Int) := by
 have key : ∀ m, m ≤ 64 → (∀ j, j < 64 → (decide (64 * i + j < n) = decide (j < m))) → wd (2 ^ n - 1) i = 2 ^ m - 1 := by
  intro m hm hj
  apply Nat.eq_of_testBit_eq; intro j
  rw [ycd, Nat.testBit_two_pow_sub_one, Nat.testBit_two_pow_sub_one]
  by_cases h : j < 64
  ·rw [hj j h]; simp [h]
  ·have : ¬ j < m := by omega
   simp [h, this]
 split
 ·rw [key 64 (Nat.le_refl _) (by intro j hj; apply decide_eq_decide.2; omega)]
 ·split
  ·rw [key 0 (by omega) (by intro j hj; apply decide_eq_decide.2; omega)]; rfl
  ·rw [key (n - 64 * i) (by omega) (by intro j hj; apply decide_eq_decide.2; omega)]
theorem yqE (n i : Nat) (hn : n ≤ 384) (hi : i < 6) (K : Int → Prop) : zfh (yaq .i64 n (ybS .i64 64 i)) K = K (W (2 ^ n - 1) i) := by
 have e : yaq .i64 (n : Int) (ybS .i64 64 (i : Int)) = (n : Int) - 64 * i := by
  rw [ybm (by omega) (by omega), yap (by omega) (by omega)]
 rw [e, ybq, ysA]
 split
 ·rw [yjJ _ (by omega)]
 ·split
  ·rw [yjY _ (by omega) (by omega)]
  ·rw [show (n : Int) - 64 * i = ((n - 64 * i : Nat) : Int) from by omega, ylZ _ (by omega)]
theorem yiO (n : Nat) (hn : n ≤ 384) (k0 : (Nat → Int) → (Nat → Int) → Prop) (z : Nat → Int) (h : k0 z (W (2 ^ n - 1))) :
  ∀ (j i : Nat), i + j = 6 → zfa.l4 k0 (j + 1) n i z (W ((2 ^ n - 1) % 2 ^ (64 * i))) := by
 intro j
 induction j with
 | zero =>
  intro i hij
  have : i = 6 := by omega
  have hp := Nat.two_pow_pos n
  have hlt : 2 ^ n - 1 < 2 ^ (64 * i) := by
   have := Nat.pow_le_pow_right (n := 2) (by omega) (show n ≤ 64 * i by omega)
   omega
  unfold zfa.l4 zfa.l4.step
  rw [yau (ya1 (by omega)), Nat.mod_eq_of_lt hlt]
  exact h
 | succ j ih =>
  intro i hij
  have ih := ih (i + 1) (by omega)
  have e : ((i + 1 : Nat) : Int) = (i : Int) + 1 := by omega
  rw [e, ykI] at ih
  unfold zfa.l4 zfa.l4.step
  rw [yaB (yaS (by omega)), yqE n i hn (by omega), ybv (ybN (by omega) (by omega)), Int.toNat_natCast, ybq, ytu _ _ i (Nat.mod_lt _ (Nat.two_pow_pos _)) (ydR _ _), yan (by omega) (by omega)]
  exact ih
theorem ygz (n : Nat) (hn : n ≤ 384) (K : (Nat → Int) → Prop) (h : K (W (2 ^ n - 1))) : zfa n K := by
 rw [zfa.is]; unfold zfa.d
 rw [yfa n hn]
 refine ⟨7, ?_⟩
 have := yiO n hn (fun y0 y1 => K y1) (fun _ => 0) h 6 0 rfl
 rw [Nat.mul_zero, Nat.pow_zero, Nat.mod_one, W_zero] at this
 exact this
end Go.Ev.S

/- The lowest bit: of a word (the table of math/bits), of six words; a shift to the right with what fell off. -/
set_option linter.unusedVariables false
set_option linter.unusedSimpArgs false
set_option maxRecDepth 8000
namespace Go.Ev.S
open Go Go.Ev
theorem ys1 (k q : Nat) (hk : k < 64) (ha : 2 ^ k * (2 * q + 1) < 18446744073709551616) : (2 ^ k * (2 * q + 1)) &&& (18446744073709551616 - 2 ^ k * (2 * q + 1)) = 2 ^ k := by
 have hp := Nat.two_pow_pos k
 have e1 : 2 ^ k * (2 * q + 1) = 2 ^ (k + 1) * q + 2 ^ k := by rw [Nat.pow_succ, Nat.mul_add, Nat.mul_one, Nat.mul_assoc]
 have e2 : 2 ^ k * (2 * q + 1) - 1 = 2 ^ (k + 1) * q + (2 ^ k - 1) := by omega
 have h1 : 2 ^ k < 2 ^ (k + 1) := Nat.pow_lt_pow_right (by omega) (by omega)
 apply Nat.eq_of_testBit_eq; intro j
 have e3 : 18446744073709551616 - 2 ^ k * (2 * q + 1) = 2 ^ 64 - ((2 ^ k * (2 * q + 1) - 1) + 1) := by
  rw [show (2 : Nat) ^ 64 = 18446744073709551616 from rfl]; omega
 rw [Nat.testBit_and, e3, Nat.testBit_two_pow_sub_succ (by rw [show (2 : Nat) ^ 64 = 18446744073709551616 from rfl]; omega), e2]
 conv => lhs; lhs; rw [e1]
 rw [Nat.testBit_two_pow_mul_add _ h1, Nat.testBit_two_pow_mul_add _ (by omega : 2 ^ k - 1 < 2 ^ (k + 1)), Nat.testBit_two_pow, Nat.testBit_two_pow_sub_one]
 by_cases hj : j < k + 1
 ·by_cases hjk : j = k
  ·subst hjk; simp [hk]
  ·have : j < k := by omega
   have h3 : ¬ k = j := by omega
   simp [hj, this, h3]
 ·have h3 : ¬ k = j := by omega
  simp only [hj, if_false, h3, decide_false]
  cases q.testBit (j - (k + 1)) <;> simp
theorem ysC : ((List.range 64).all fun k => ys6 ((2 ^ k * 285870213051353865 % 18446744073709551616) >>> 58) == (k : Int)) = true := by decide +kernel
theorem ytT (k q : Nat) (hk : k < 64) (ha : 2 ^ k * (2 * q + 1) < 18446744073709551616) (K : Int → Prop) (h : K k) : zab ((2 ^ k * (2 * q + 1) : Nat) : Int) K := by
 have hp := Nat.two_pow_pos k
 have hpos : 0 < 2 ^ k * (2 * q + 1) := Nat.mul_pos hp (by omega)
 have hl := ys1 k q hk ha
 have hk2 : 2 ^ k < 18446744073709551616 := yhc hk
 have ht := List.all_eq_true.1 ysC k (List.mem_range.2 hk)
 rw [zab.is]; unfold zab.d
 generalize 2 ^ k * (2 * q + 1) = a at *
 have e1 : yrx .u64 (a : Int) = ((18446744073709551616 - a : Nat) : Int) := by
  show IntKind.wrap .u64 _ = _
  rw [ygW]; omega
 have e2 : ybS .u64 ((2 ^ k : Nat) : Int) 285870213051353865 = ((2 ^ k * 285870213051353865 % 18446744073709551616 : Nat) : Int) := by
  show IntKind.wrap .u64 _ = _
  rw [ygW]
  generalize 2 ^ k = p at *
  omega
 have h1 : (2 ^ k * 285870213051353865 % 18446744073709551616) >>> 58 < 64 := by
  rw [Nat.shiftRight_eq_div_pow]
  have := Nat.mod_lt (2 ^ k * 285870213051353865) (show 0 < 18446744073709551616 by omega)
  omega
 rw [yau (yjr (by omega)), e1, yjN _ _ (by omega) (by omega), hl, e2, show (58 : Int) = ((58 : Nat) : Int) from rfl, ykl _ 58 (by omega)]
 refine ⟨ybN (by omega) (by omega), ?_⟩
 rw [Int.toNat_natCast, yr9, eq_of_beq ht, ygo (by omega) (by omega)]
 exact h
theorem ymM (k q : Nat) (hk : k < 64) (ha : 2 ^ k * (2 * q + 1) < 18446744073709551616) (K : Int → Prop) (h : K k) : zfg ((2 ^ k * (2 * q + 1) : Nat) : Int) K := by
 rw [zfg.is]; exact ytT k q hk ha _ h
end Go.Ev.S

/- Lengths, sums and the like: the abacus' words and six words. -/
set_option linter.unusedVariables false
set_option linter.unusedSimpArgs false
set_option maxRecDepth 8000
namespace Go.Ev.S
open Go Go.Ev
theorem ytV (v : Nat) (h : v < 256) : cvI .u8 (v : Int) = (v : Int) := by
 exact ytX (by omega) (by omega)
theorem yc0 (L : List UInt8) (hL : ((List.range 256).all fun v => ybj L v == (yav v : Int)) = true) (a n : Nat) (nI S : Int) (hn0 : nI = n) (hS : S = ((a / 2 ^ n : Nat) : Int)) (hlt : a / 2 ^ n < 256) (hn : n ≤ 56)
  (h0 : a / 2 ^ n ≠ 0 ∨ n = 0) (K : Int → Prop) (h : K (yav a)) : gd (leI 0 (cvI .u8 S) && ltI (cvI .u8 S) 256) (K (yaj .i64 nI (cvI .i64 (ybj L (Int.toNat (cvI .u8 S)))))) := by
 subst hS hn0
 have hb : ybj L (a / 2 ^ n) = (yav (a / 2 ^ n) : Int) := eq_of_beq (List.all_eq_true.1 hL _ (List.mem_range.2 hlt))
 have hb8 : yav (a / 2 ^ n) ≤ 8 := (yaP _ _).2 hlt
 have e : yav a = n + yav (a / 2 ^ n) := by
  rcases h0 with h0 | h0
  ·exact ydt h0
  ·subst h0; rw [Nat.pow_zero, Nat.div_one, Nat.zero_add]
 generalize a / 2 ^ n = v at *
 rw [ytV _ hlt, ybv (ybN (by omega) (by omega)), Int.toNat_natCast, hb, ygo (by omega) (by omega), yan (by omega) (by omega), show ((n : Nat) : Int) + (yav v : Int) = ((yav a : Nat) : Int) from by rw [e]; omega]
 exact h
theorem yeR (a i : Nat) (hi : i < 64) : ya8 .u64 (a : Int) (i : Int) = ((a / 2 ^ i : Nat) : Int) := by rw [ykl a i hi, Nat.shiftRight_eq_div_pow]
theorem yjV (a : Nat) (ha : a < 18446744073709551616) (K : Int → Prop) (h : K (yav a)) : zaa a K := by
 have s32 : ya8 .u64 (a : Int) 32 = ((a / 2 ^ 32 : Nat) : Int) := yeR a 32 (by omega)
 have s16 : ya8 .u64 (a : Int) 16 = ((a / 2 ^ 16 : Nat) : Int) := yeR a 16 (by omega)
 have s8 : ya8 .u64 (a : Int) 8 = ((a / 2 ^ 8 : Nat) : Int) := yeR a 8 (by omega)
 have t16 : ya8 .u64 ((a / 2 ^ 32 : Nat) : Int) 16 = ((a / 2 ^ 32 / 2 ^ 16 : Nat) : Int) := yeR (a / 2 ^ 32) 16 (by omega)
 have t8 : ya8 .u64 ((a / 2 ^ 32 : Nat) : Int) 8 = ((a / 2 ^ 32 / 2 ^ 8 : Nat) : Int) := yeR (a / 2 ^ 32) 8 (by omega)
 have u8 : ya8 .u64 ((a / 2 ^ 32 / 2 ^ 16 : Nat) : Int) 8 = ((a / 2 ^ 32 / 2 ^ 16 / 2 ^ 8 : Nat) : Int) := yeR (a / 2 ^ 32 / 2 ^ 16) 8 (by omega)
 have v8 : ya8 .u64 ((a / 2 ^ 16 : Nat) : Int) 8 = ((a / 2 ^ 16 / 2 ^ 8 : Nat) : Int) := yeR (a / 2 ^ 16) 8 (by omega)
 rw [zaa.is]; unfold zaa.d
 rw [s32, s16, s8, t16, t8, u8, v8]
 have d1 : a / 2 ^ 32 / 2 ^ 16 / 2 ^ 8 = a / 2 ^ 56 := by rw [Nat.div_div_eq_div_mul, Nat.div_div_eq_div_mul]
 have d2 : a / 2 ^ 32 / 2 ^ 16 = a / 2 ^ 48 := by rw [Nat.div_div_eq_div_mul]
 have d3 : a / 2 ^ 32 / 2 ^ 8 = a / 2 ^ 40 := by rw [Nat.div_div_eq_div_mul]
 have d4 : a / 2 ^ 16 / 2 ^ 8 = a / 2 ^ 24 := by rw [Nat.div_div_eq_div_mul]
 rw [d1, d2, d3, d4]
 by_cases c1 : 4294967296 ≤ a
 ·rw [yaB (ya4 (by omega))]
  by_cases c2 : 65536 ≤ a / 2 ^ 32
  ·rw [yaB (ya4 (by omega))]
   by_cases c3 : 256 ≤ a / 2 ^ 48
   ·rw [yaB (ya4 (by omega))]
    exact yc0 _ (by decide +kernel) a 56 _ _ rfl rfl (by omega) (by omega) (by omega) K h
   ·rw [yau (yes (by omega))]
    exact yc0 _ (by decide +kernel) a 48 _ _ rfl rfl (by omega) (by omega) (by omega) K h
  ·rw [yau (yes (by omega))]
   by_cases c3 : 256 ≤ a / 2 ^ 32
   ·rw [yaB (ya4 (by omega))]
    exact yc0 _ (by decide +kernel) a 40 _ _ rfl rfl (by omega) (by omega) (by omega) K h
   ·rw [yau (yes (by omega))]
    exact yc0 _ (by decide +kernel) a 32 _ _ rfl rfl (by omega) (by omega) (by omega) K h
 ·rw [yau (yes (by omega))]
  by_cases c2 : 65536 ≤ a
  ·rw [yaB (ya4 (by omega))]
   by_cases c3 : 256 ≤ a / 2 ^ 16
   ·rw [yaB (ya4 (by omega))]
    exact yc0 _ (by decide +kernel) a 24 _ _ rfl rfl (by omega) (by omega) (by omega) K h
   ·rw [yau (yes (by omega))]
    exact yc0 _ (by decide +kernel) a 16 _ _ rfl rfl (by omega) (by omega) (by omega) K h
  ·rw [yau (yes (by omega))]
   by_cases c3 : 256 ≤ a
   ·rw [yaB (ya4 (by omega))]
    exact yc0 _ (by decide +kernel) a 8 _ _ rfl rfl (by omega) (by omega) (by omega) K h
   ·rw [yau (yes (by omega))]
    exact yc0 _ (by decide +kernel) a 0 _ _ rfl (by simp) (by simp; omega) (by omega) (.inr rfl) K h
theorem ydy (a : Nat) (ha : a < 18446744073709551616) (K : Int → Prop) (h : K (yav a)) : zff a K := by
 rw [zff.is]; exact yjV a ha _ h
theorem yfs (x : Nat) (k0 : Int → Prop) (k1 : Prop) (h : x ≠ 0 → k0 (yav x)) (n i : Nat) (hi : i < 6) (hx : x < 2 ^ (64 * (i + 1))) (hrec : x < 2 ^ (64 * i) → zez.l2 k0 k1 n ((i : Int) - 1) (W x)) :
  zez.l2 k0 k1 (n + 1) i (W x) := by
 have hwd : wd x i = x / 2 ^ (64 * i) := by
  unfold wd
  apply Nat.mod_eq_of_lt
  rw [Nat.div_lt_iff_lt_mul (Nat.two_pow_pos _), show (18446744073709551616 : Nat) = 2 ^ 64 from rfl, ← Nat.pow_add]
  rw [show 64 + 64 * i = 64 * (i + 1) from by omega]; exact hx
 unfold zez.l2 zez.l2.step
 have hi' : (leI 0 (i : Int) && ltI (i : Int) 6) = true := ybN (by omega) (by omega)
 rw [yaB (ya4 (by omega)), ybv hi', Int.toNat_natCast, ybq]
 by_cases hz : wd x i = 0
 ·have hx2 : x < 2 ^ (64 * i) := by
   rw [hwd] at hz
   rcases (Nat.div_eq_zero_iff).1 hz with h' | h'
   ·have := Nat.two_pow_pos (64 * i); omega
   ·exact h'
  rw [yau (by rw [hz]; rfl), yap (by omega) (by omega)]
  exact hrec hx2
 ·rw [yaB (by rw [show (0 : Int) = ((0 : Nat) : Int) from rfl, yse]; simp [hz]), ybv hi']
  refine ydy _ (ydR _ _) _ ?_
  have hb : yav (wd x i) ≤ 64 := (yaP _ _).2 (ydR x i)
  rw [ybm (by omega) (by omega), yan (by omega) (by omega)]
  have hx0 : x ≠ 0 := by
   intro e; subst e; exact hz (yc7 0 i (Nat.two_pow_pos _))
  have := h hx0
  rw [hwd] at hz ⊢
  rw [ydt hz] at this
  rw [show (64 * (i : Int) + (yav (x / 2 ^ (64 * i)) : Int)) = ((64 * i + yav (x / 2 ^ (64 * i)) : Nat) : Int) from by omega]
  exact this
theorem ykd (x : Nat) (k0 : Int → Prop) (k1 : Prop) (h : x ≠ 0 → k0 (yav x)) (h1 : x = 0 → k1) (i : Nat) : i < 6 → x < 2 ^ (64 * (i + 1)) → zez.l2 k0 k1 (i + 2) i (W x) := by
 induction i with
 | zero =>
  intro hi hx
  refine yfs x k0 k1 h 1 0 hi hx fun hx2 => ?_
  have hx0 : x = 0 := by
   have : x < 1 := hx2
   omega
  unfold zez.l2 zez.l2.step
  rw [yau (by decide)]
  exact h1 hx0
 | succ i ih =>
  intro hi hx
  refine yfs x k0 k1 h (i + 2) (i + 1) hi hx fun hx2 => ?_
  rw [show (((i + 1 : Nat) : Int) - 1) = (i : Int) from by omega]
  exact ih (by omega) hx2
theorem yhA (x : Nat) (hx : x < Q6) (K : Int → Prop) (h : K (yav x)) : zez (W x) K := by
 rw [zez.is]
 obtain ⟨i, hi⟩ : ∃ i, i = 5 := ⟨_, rfl⟩
 have := ykd x K (K 0) (fun _ => h) (fun e => by subst e; exact h) i (by omega) (by rw [yeA (show 64 * (i + 1) = 384 by omega)]; exact hx)
 rw [hi] at this
 exact ⟨5 + 2, this⟩
theorem yoh (x : Nat) (h : x < 18446744073709551616) (K : (Nat → Int) → Prop) : zfb x K = K (W x) := by
 rw [zfb.is]; unfold zfb.d; rw [yte x h]
theorem yeF (x : Nat) (h : x < 2 ^ 128) (K : Int → Int → Bool → Prop) : zfd (W x) K = K (Hi x) (Lo x) true := by
 rw [zfd.is]; unfold zfd.d
 rw [ygA x 2 h (by omega), ygA x 3 h (by omega), ygA x 4 h (by omega), ygA x 5 h (by omega), yuc x h, yud x]
 rfl
theorem yk0 (x y : Nat) (hx : x < Q6) (hy : y < Q6) (k0 : (Nat → Int) → (Nat → Int) → Prop) (z : Nat → Int) (h : k0 (W (x ||| y)) z) :
  ∀ (j i : Nat), i + j = 6 → zfc.l2 k0 (j + 1) i (mix i (x ||| y) x) (W y) z := by
 intro j
 induction j with
 | zero =>
  intro i hij
  have hx' : x < 2 ^ (64 * i) := by rw [yeA (show 64 * i = 384 by omega)]; exact hx
  have hy' : y < 2 ^ (64 * i) := by rw [yeA (show 64 * i = 384 by omega)]; exact hy
  unfold zfc.l2 zfc.l2.step
  rw [yau (ya1 (by omega)), ymO _ _ i (Nat.or_lt_two_pow hx' hy') hx']
  exact h
 | succ j ih =>
  intro i hij
  have ih := ih (i + 1) (by omega)
  have e : ((i + 1 : Nat) : Int) = (i : Int) + 1 := by omega
  rw [e] at ih
  unfold zfc.l2 zfc.l2.step
  have hi : (leI 0 (i : Int) && ltI (i : Int) 6) = true := ybN (by omega) (by omega)
  rw [yaB (yaS (by omega)), ybv hi, ybv hi, ybv hi, Int.toNat_natCast, ypI, ybq, ybq, yjj _ _ (ydR _ _) (ydR _ _), ← ytP, ← ybq, ykt, yan (by omega) (by omega)]
  exact ih
theorem yoT (x y : Nat) (hx : x < Q6) (hy : y < Q6) (K : (Nat → Int) → Prop) (h : K (W (x ||| y))) : zfc (W x) (W y) K := by
 rw [zfc.is]
 refine ⟨7, ?_⟩
 have := yk0 x y hx hy (fun y0 y1 => K y0) (fun _ => 0) h 6 0 rfl
 rw [ykp] at this
 exact this
def part (z i : Nat) : Nat → Int := fun j => cond (Nat.ble i j) (W z j) 0
theorem yro (z : Nat) (hz : z < Q6) : part z 6 = fun _ => 0 := by
 funext j
 unfold part
 cases h : Nat.ble 6 j with
 | false => rfl
 | true =>
  have hj : 6 ≤ j := Nat.le_of_ble_eq_true h
  show W z j = 0
  rw [ybq, yc7 z j]; rfl
  obtain ⟨m, hm⟩ : ∃ m : Nat, m = 384 := ⟨_, rfl⟩
  exact Nat.lt_of_lt_of_le hz (by rw [← yeA hm]; exact Nat.pow_le_pow_right (by omega) (by omega))
theorem yk4 (z i : Nat) : upd (part z (i + 1)) i (W z i) = part z i := by
 funext j
 simp only [upd, part]
 by_cases h : j = i
 ·subst h
  have h1 : Nat.beq j j = true := by simp
  have h2 : Nat.ble j j = true := by simp
  rw [h1, h2]; rfl
 ·have h1 : Nat.beq j i = false := by rw [Bool.eq_false_iff]; intro hq; exact h (Nat.eq_of_beq_eq_true hq)
  have h2 : Nat.ble (i + 1) j = Nat.ble i j := by
   rw [Bool.eq_iff_iff, Nat.ble_eq, Nat.ble_eq]; omega
  rw [h1, h2]; rfl
theorem yrb (x q r : Nat) (hx : x < Q6) (hq : q ≤ 6) (hr : r < 64) : part (x * 2 ^ (64 * q + r) % Q6) q = W (x * 2 ^ (64 * q + r) % Q6) := by
 funext j
 unfold part
 cases h : Nat.ble q j with
 | true => rfl
 | false =>
  have hj : j < q := by
   apply Classical.byContradiction; intro hc
   have := Nat.ble_eq_true_of_le (show q ≤ j by omega)
   rw [this] at h; cases h
  show 0 = W _ j
  obtain ⟨m, hm⟩ : ∃ m : Nat, m = 384 := ⟨_, rfl⟩
  rw [ybq]
  have : wd (x * 2 ^ (64 * q + r) % Q6) j = 0 := by
   apply Nat.eq_of_testBit_eq; intro b
   rw [ycd, Nat.zero_testBit, ← yeA hm, Nat.testBit_mod_two_pow, ← Nat.shiftLeft_eq, Nat.testBit_shiftLeft]
   by_cases hb : b < 64
   ·have : ¬ 64 * q + r ≤ 64 * j + b := by omega
    simp [this]
   ·simp [hb]
  rw [this]; rfl
theorem ysW (a s : Nat) (ha : a < 18446744073709551616) (hs : s ≤ 64) : ya8 .u64 (a : Int) (s : Int) = ((a >>> s : Nat) : Int) := by
 by_cases h : s = 64
 ·subst h
  rw [ysz a 64 ha (by omega), Nat.shiftRight_eq_div_pow, Nat.div_eq_of_lt (by exact ha)]; rfl
 ·exact ykl a s (by omega)
theorem ysZ (x q r i : Nat) (hi : i < 6) (hq : q ≤ i) (hr : r < 64) :
  wd (x * 2 ^ (64 * q + r) % Q6) i = (wd x (i - q) <<< r % 18446744073709551616) ||| (if q < i then wd x (i - q - 1) >>> (64 - r) else 0) := by
 obtain ⟨m, hm⟩ : ∃ m : Nat, m = 384 := ⟨_, rfl⟩
 apply Nat.eq_of_testBit_eq; intro b
 rw [ycd, ← yeA hm, Nat.testBit_mod_two_pow, ← Nat.shiftLeft_eq, Nat.testBit_shiftLeft, Nat.testBit_or, show (18446744073709551616 : Nat) = 2 ^ 64 from rfl, Nat.testBit_mod_two_pow, Nat.testBit_shiftLeft, ycd]
 by_cases hb : b < 64
 ·have h1 : 64 * i + b < m := by omega
  by_cases hbr : r ≤ b
  ·have h2 : 64 * q + r ≤ 64 * i + b := by omega
   have h3 : b - r < 64 := by omega
   have h4 : 64 * i + b - (64 * q + r) = 64 * (i - q) + (b - r) := by omega
   split
   ·rw [Nat.testBit_shiftRight, ycd]
    have h5 : ¬ 64 - r + b < 64 := by omega
    simp [hb, h1, hbr, h2, h3, h4, h5]
   ·simp [hb, h1, hbr, h2, h3, h4]
  ·split
   ·rename_i hqi
    rw [Nat.testBit_shiftRight, ycd]
    have h2 : 64 * q + r ≤ 64 * i + b := by omega
    have h5 : 64 - r + b < 64 := by omega
    have h4 : 64 * i + b - (64 * q + r) = 64 * (i - q - 1) + (64 - r + b) := by omega
    simp [hb, h1, hbr, h2, h4, h5]
   ·have h2 : ¬ 64 * q + r ≤ 64 * i + b := by omega
    simp [hb, h1, hbr, h2]
 ·split
  ·rw [Nat.testBit_shiftRight, ycd]
   have h5 : ¬ 64 - r + b < 64 := by omega
   simp [hb, h5]
  ·simp [hb]
theorem yiu (x q r : Nat) (hx : x < Q6) (hr : r < 64) (hq : q ≤ 6) (b : Bool) (k0 : Bool → (Nat → Int) → Prop) (h : k0 b (W (x * 2 ^ (64 * q + r) % Q6))) :
  ∀ (j : Nat), q + j ≤ 6 → zey.l5 k0 (j + 1) b q r (((q + j : Nat) : Int) - 1) (W x) (part (x * 2 ^ (64 * q + r) % Q6) (q + j)) := by
 intro j
 induction j with
 | zero =>
  intro hij
  unfold zey.l5 zey.l5.step
  rw [yau (yes (by omega)), Nat.add_zero, yrb x q r hx hq hr]
  exact h
 | succ j ih =>
  intro hij
  have ih := ih (by omega)
  have e : (((q + (j + 1) : Nat) : Int) - 1) = ((q + j : Nat) : Int) := by omega
  rw [e]
  unfold zey.l5 zey.l5.step
  have e1 : yaq .i64 ((q + j : Nat) : Int) (q : Int) = (j : Int) := by rw [yap (by omega) (by omega)]; omega
  have e2 : yaq .i64 ((q + j : Nat) : Int) 1 = ((q + j : Nat) : Int) - 1 := yap (by omega) (by omega)
  have lw := ysZ x q r (q + j) (by omega) (by omega) hr
  have lj : q + j - q = j := by omega
  rw [lj] at lw
  have ha : wd x j <<< r % 18446744073709551616 < 18446744073709551616 := Nat.mod_lt _ (by omega)
  rw [yaB (ya4 (by omega)), e1, ybv (ybN (by omega) (by omega)), ybv (ykh (by omega)), ybv (ybN (by omega) (by omega)), Int.toNat_natCast, Int.toNat_natCast, ybq x j, yqw _ r hr, e2]
  by_cases hj : j = 0
  ·rw [if_neg (by omega), Nat.or_zero] at lw
   rw [yau (ya1 (by omega)), ← lw, ← ybq, show q + (j + 1) = q + j + 1 from rfl, yk4]
   exact ih
  ·rw [if_pos (by omega)] at lw
   have hs : wd x (j - 1) >>> (64 - r) < 18446744073709551616 := Nat.lt_of_le_of_lt (Nat.shiftRight_le _ _) (ydR _ _)
   have e3 : yaq .i64 (j : Int) 1 = ((j - 1 : Nat) : Int) := by rw [yap (by omega) (by omega)]; omega
   have e4 : yaq .u64 64 (r : Int) = ((64 - r : Nat) : Int) := by rw [yj3 (by omega) (by omega)]; omega
   rw [yaB (yaS (by omega)), ybv (ybN (by omega) (by omega)), e3, ybv (ybN (by omega) (by omega)), e4, ybv (ykh (by omega)), ybv (ybN (by omega) (by omega)), ysv, yth, Int.toNat_natCast, ybq x (j - 1), ysW _ _ (ydR _ _) (by omega), yjj _ _ ha hs, ← lw, ← ybq, show q + (j + 1) = q + j + 1 from rfl, yk4]
   exact ih
theorem ykF (x n : Nat) (hx : x < Q6) (hn : n ≤ 384) (K : (Nat → Int) → Bool → Prop) (h : ∀ b, K (W (x * 2 ^ n % Q6)) b) : zey (W x) n K := by
 rw [zey.is]; unfold zey.d
 have key : ∀ b, ∃ m, zey.l5 (fun y0 y1 => K y1 y0) m b (yaE IntKind.i64 (n : Int) 64) (cvI IntKind.u64 (yca IntKind.i64 (n : Int) 64)) 5 (W x) fun x => 0 := by
  intro b
  rw [yod n (by omega), yor n, yaO (by omega) (by omega)]
  refine ⟨6 - n / 64 + 1, ?_⟩
  have hm : n % 64 < 64 := Nat.mod_lt _ (by omega)
  have := yiu x (n / 64) (n % 64) hx hm (by omega) b (fun y0 y1 => K y1 y0) (by rw [Nat.div_add_mod]; exact h b) (6 - n / 64) (by omega)
  rw [show n / 64 + (6 - n / 64) = 6 from by omega, yro _ (Nat.mod_lt _ ysb)] at this
  exact this
 rw [yfa n hn]
 refine yhA x hx _ ?_
 by_cases hc : ltI 384 (yaj IntKind.i64 (yav x : Int) (n : Int)) = true
 ·rw [yaB hc]; exact key _
 ·rw [yau (by simpa using hc)]; exact key _
end Go.Ev.S

/- The formats: their numbers, and the encodings that have names. -/
set_option linter.unusedVariables false
set_option linter.unusedSimpArgs false
set_option maxRecDepth 8000
namespace Go.Ev.S
open Go Go.Ev
def fw : Nat → Nat | 0 => 32 | 1 => 64 | 2 => 16 | 3 => 128 | _ => 0
def fp : Nat → Nat | 0 => 24 | 1 => 53 | 2 => 11 | 3 => 113 | _ => 0
def fe : Nat → Nat | 0 => 127 | 1 => 1023 | 2 => 15 | 3 => 16383 | _ => 0
def sg (f : Nat) (neg : Bool) : Nat := cond neg (2 ^ (fw f - 1)) 0
def enc (f : Nat) (neg : Bool) (e t : Nat) : Nat := sg f neg + e * 2 ^ (fp f - 1) + t
theorem ygV {f : Nat} (h : f ≤ 3) : f = 0 ∨ f = 1 ∨ f = 2 ∨ f = 3 := by omega
theorem ya2 (f : Nat) (h : f ≤ 3) (K : Int → Prop) : zej f K = K 0 := by
 rw [zej.is]; unfold zej.d; rw [yau (ya1 (by omega))]
theorem yiL (f : Nat) (h : 3 < f) (K : Int → Prop) : zej f K = K 2 := by
 rw [zej.is]; unfold zej.d; rw [yaB (yaS (by omega))]
theorem yc9 (f : Nat) (h : f ≤ 3) (K : Int → Prop) : zeq f K = K (fw f) := by
 rw [zeq.is]; unfold zeq.d; rw [zeu.is]
 rcases ygV h with rfl | rfl | rfl | rfl <;> kernel_rfl
theorem ybh (f : Nat) (h : f ≤ 3) (K : Int → Prop) : zep f K = K (fp f) := by
 rw [zep.is]; unfold zep.d; rw [zeu.is]
 rcases ygV h with rfl | rfl | rfl | rfl <;> kernel_rfl
theorem yb5 (f : Nat) (h : f ≤ 3) (K : Int → Prop) : zel f K = K (fe f) := by
 rw [zel.is]; unfold zel.d; rw [zeu.is]
 rcases ygV h with rfl | rfl | rfl | rfl <;> kernel_rfl
theorem yb9 (f : Nat) (h : f ≤ 3) (K : Int → Prop) : zem f K = K (1 - (fe f : Int)) := by
 rw [zem.is]; unfold zem.d; rw [ya2 f h, yb5 f h]
 rcases ygV h with rfl | rfl | rfl | rfl <;> kernel_rfl
theorem yjW (f : Nat) (h : f ≤ 3) (K : Int → Int → Prop) : (zeq f fun y0 => zes 1 (yaq IntKind.i64 y0 1) K) = K (Hi (2 ^ (fw f - 1))) (Lo (2 ^ (fw f - 1))) := by
 rw [yc9 f h, zes.is]
 rcases ygV h with rfl | rfl | rfl | rfl <;> kernel_rfl
theorem ytS (f : Nat) (h : f ≤ 3) (neg : Bool) : sg f neg < 2 ^ 128 := by
 rcases ygV h with rfl | rfl | rfl | rfl <;> cases neg <;> decide
theorem ydC (f x : Nat) (h : f ≤ 3) (hx : x < 2 ^ 128) (neg : Bool) (K : Int → Int → Prop) : zev f (Hi x) (Lo x) neg K = K (Hi (x ||| sg f neg)) (Lo (x ||| sg f neg)) := by
 rw [zev.is]; unfold zev.d; rw [ya2 f h, yau (by decide)]
 cases neg with
 | false => rw [yau rfl]; simp [sg]
 | true =>
  rw [yaB rfl, yjW f h]
  obtain ⟨h1, h2⟩ := ytd x (2 ^ (fw f - 1)) hx (ytS f h true)
  rw [h1, h2]; rfl
theorem HiLo_zero : Hi 0 = 0 ∧ Lo 0 = 0 := ⟨rfl, rfl⟩
theorem ykH (f : Nat) (h : f ≤ 3) (neg : Bool) (K : Int → Int → Prop) : zer f neg K = K (Hi (enc f neg 0 0)) (Lo (enc f neg 0 0)) := by
 rw [zer.is]; unfold zer.d
 have := ydC f 0 h (by decide) neg K
 rw [HiLo_zero.1, HiLo_zero.2, Nat.zero_or] at this
 rw [this]; simp [enc]
theorem yiE (f e : Nat) (h : f ≤ 3) (he : e = 1 ∨ e = fe f ∨ e = 2 * fe f + 1) (K : Int → Int → Prop) : zet f e K = K (Hi (e * 2 ^ (fp f - 1))) (Lo (e * 2 ^ (fp f - 1))) := by
 rw [zet.is]; unfold zet.d; rw [ybh f h, zes.is]
 rcases he with rfl | rfl | rfl <;> rcases ygV h with rfl | rfl | rfl | rfl <;> kernel_rfl
theorem yrF (f e : Nat) (h : f ≤ 3) (he : e = 1 ∨ e = fe f ∨ e = 2 * fe f + 1) (neg : Bool) : (e * 2 ^ (fp f - 1)) ||| sg f neg = enc f neg e 0 ∧ e * 2 ^ (fp f - 1) < 2 ^ 128 := by
 rcases he with rfl | rfl | rfl <;> rcases ygV h with rfl | rfl | rfl | rfl <;> cases neg <;> decide
theorem ygi (f : Nat) (h : f ≤ 3) (neg : Bool) (K : Int → Int → Prop) : zeo f neg K = K (Hi (enc f neg (2 * fe f + 1) 0)) (Lo (enc f neg (2 * fe f + 1) 0)) := by
 rw [zeo.is]; unfold zeo.d; rw [ya2 f h, yau (by decide), yb5 f h]
 have e1 : yaj IntKind.i64 (ybS IntKind.i64 2 (fe f)) 1 = ((2 * fe f + 1 : Nat) : Int) := by rcases ygV h with rfl | rfl | rfl | rfl <;> decide
 obtain ⟨h1, h2⟩ := yrF f _ h (.inr (.inr rfl)) neg
 rw [e1, yiE f _ h (.inr (.inr rfl)), ydC f _ h h2 neg, h1]
theorem yfU (f : Nat) (h : f ≤ 3) (neg : Bool) (K : Int → Int → Prop) : zen f neg K = K (Hi (enc f neg (2 * fe f) (2 ^ (fp f - 1) - 1))) (Lo (enc f neg (2 * fe f) (2 ^ (fp f - 1) - 1))) := by
 rw [zen.is]; unfold zen.d; rw [ygi f h]; simp only [ya2 f h, yc9 f h]
 have key : ∀ x : Nat, x < 2 ^ 128 → x ||| sg f neg = enc f neg (2 * fe f) (2 ^ (fp f - 1) - 1) → zev f (Hi x) (Lo x) neg (fun y0 y1 => K y0 y1) = K (Hi (enc f neg (2 * fe f) (2 ^ (fp f - 1) - 1))) (Lo (enc f neg (2 * fe f) (2 ^ (fp f - 1) - 1))) := by
  intro x hx hq
  rw [ydC f x h hx neg, hq]
 have k2 := key ((2 * fe f) * 2 ^ (fp f - 1) + (2 ^ (fp f - 1) - 1)) (by rcases ygV h with rfl | rfl | rfl | rfl <;> decide) (by rcases ygV h with rfl | rfl | rfl | rfl <;> cases neg <;> decide)
 rw [← k2]
 clear key k2
 generalize hq : (zev f : Int → Int → Bool → (Int → Int → Prop) → Prop) = sw
 clear hq
 rcases ygV h with rfl | rfl | rfl | rfl <;> (refine Eq.trans ?_ rfl; kernel_rfl)
end Go.Ev.S

/- The document's answer on formats: an encoding of its fields, and its fields. -/
set_option linter.unusedVariables false
set_option linter.unusedSimpArgs false
set_option maxRecDepth 8000
namespace Go.Ev.S
open Go Go.Ev
theorem ycs (f : Nat) (h : f ≤ 3) (K : Bool → Prop) : zdl f K = K true := by
 rw [zdl.is]; unfold zdl.d; rw [ya4 (by omega)]
theorem yln (f : Nat) (h : 3 < f) (K : Bool → Prop) : zdl f K = K false := by
 rw [zdl.is]; unfold zdl.d; rw [yes (by omega)]
theorem yla (f : Nat) (h : f ≤ 3) (K : Int → Prop) : zdn f K = K (fw f) := by
 rw [zdn.is]
 rcases ygV h with rfl | rfl | rfl | rfl <;> kernel_rfl
theorem ybg (f : Nat) (h : f ≤ 3) (K : Int → Prop) : zdk f K = K (fp f) := by
 rw [zdk.is]
 rcases ygV h with rfl | rfl | rfl | rfl <;> kernel_rfl
theorem ydI (f : Nat) (h : f ≤ 3) (K : Int → Prop) : zdf f K = K (fe f) := by
 rw [zdf.is]
 rcases ygV h with rfl | rfl | rfl | rfl <;> kernel_rfl
theorem ycf (f : Nat) (h : f ≤ 3) (K : Int → Prop) : zdg f K = K (1 - (fe f : Int)) := by
 rw [zdg.is]; unfold zdg.d; rw [ycs f h, ydI f h]
 rcases ygV h with rfl | rfl | rfl | rfl <;> kernel_rfl
theorem yim (f : Nat) (h : f ≤ 3) (K : Int → Prop) : zdj f K = K ((2 * fe f + 1 : Nat)) := by
 rw [zdj.is]; unfold zdj.d; rw [ydI f h]
 rcases ygV h with rfl | rfl | rfl | rfl <;> kernel_rfl
theorem ytR (f : Nat) (h : f ≤ 3) : 2 ^ (fw f - 1) = (2 * fe f + 2) * 2 ^ (fp f - 1) := by rcases ygV h with rfl | rfl | rfl | rfl <;> decide
theorem ycU (f : Nat) (h : f ≤ 3) : 1 ≤ fw f ∧ fw f ≤ 128 ∧ 2 ≤ fp f ∧ fp f ≤ 113 ∧ fp f < fw f ∧ 2 * fe f + 1 < 32768 := by rcases ygV h with rfl | rfl | rfl | rfl <;> decide
theorem ymm {f e t : Nat} (h : f ≤ 3) (he : e ≤ 2 * fe f + 1) (ht : t < 2 ^ (fp f - 1)) : e * 2 ^ (fp f - 1) + t < 2 ^ (fw f - 1) := by
 rw [ytR f h]
 have : (e + 1) * 2 ^ (fp f - 1) ≤ (2 * fe f + 2) * 2 ^ (fp f - 1) := Nat.mul_le_mul_right _ (by omega)
 rw [Nat.add_mul, Nat.one_mul] at this
 omega
theorem ysg {f e t : Nat} (h : f ≤ 3) (he : e ≤ 2 * fe f + 1) (ht : t < 2 ^ (fp f - 1)) (neg : Bool) : enc f neg e t < 2 ^ fw f := by
 have h1 := ymm h he ht
 have h2 := (ycU f h).1
 have h3 : 2 ^ fw f = 2 ^ (fw f - 1) + 2 ^ (fw f - 1) := by
  have : fw f = fw f - 1 + 1 := by omega
  conv => lhs; rw [this, Nat.pow_succ]
  omega
 unfold enc sg
 cases neg <;> simp <;> omega
theorem ytK {a : Nat} (h : a ≤ 128) {x : Nat} (hx : x < 2 ^ a) : x < 2 ^ 128 := Nat.lt_of_lt_of_le hx (Nat.pow_le_pow_right (by omega) h)
theorem yct (f e t : Nat) (h : f ≤ 3) (he : e ≤ 2 * fe f + 1) (ht : t < 2 ^ (fp f - 1)) (neg : Bool) (K : Int → Int → Prop) (hK : K (Hi (enc f neg e t)) (Lo (enc f neg e t))) : zde f neg e (W t) K := by
 obtain ⟨w1, w2, w3, w4, w5, w6⟩ := ycU f h
 have hb := ymm h he ht
 have hen := ysg h he ht neg
 have hb' : e * 2 ^ (fp f - 1) + t < Q6 := yqT (by omega) hb
 have he1 : e * 2 ^ (fp f - 1) < Q6 := by omega
 have ht1 : t < Q6 := yqT (by omega) ht
 rw [zde.is]; unfold zde.d
 rw [ycs f h, yau (by decide), yaO (by omega) (by omega), ylh e (by omega), ybg f h, show yaq IntKind.i64 (fp f : Int) 1 = ((fp f - 1 : Nat) : Int) from by rw [yap (by omega) (by omega)]; omega]
 refine yhV e (fp f - 1) (yqT (a := 64) (by omega) (by omega)) (by omega) _ ?_
 rw [Nat.mod_eq_of_lt he1]
 refine yje _ _ he1 ht1 _ ?_
 rw [Nat.mod_eq_of_lt hb']
 cases neg with
 | false =>
  rw [yau rfl]
  rw [yfF _ (ytK (by omega) hb)]
  have : enc f false e t = e * 2 ^ (fp f - 1) + t := by simp [enc, sg]
  rw [this] at hK; exact hK
 | true =>
  have e1 : enc f true e t = e * 2 ^ (fp f - 1) + t + 2 ^ (fw f - 1) := by simp [enc, sg]; omega
  rw [e1] at hK hen
  have hen' : e * 2 ^ (fp f - 1) + t + 2 ^ (fw f - 1) < Q6 := yqT (by omega) hen
  rw [yaB rfl, show (1 : Int) = ((1 : Nat) : Int) from rfl, ylh 1 (by omega), yla f h, show yaq IntKind.i64 (fw f : Int) ((1 : Nat) : Int) = ((fw f - 1 : Nat) : Int) from by rw [yap (by omega) (by omega)]; omega]
  refine yhV 1 (fw f - 1) (yqT (a := 64) (by omega) (by omega)) (by omega) _ ?_
  have h1 : 2 ^ (fw f - 1) < Q6 := ytz (by omega)
  rw [Nat.one_mul, Nat.mod_eq_of_lt h1]
  refine yje _ _ hb' h1 _ ?_
  rw [Nat.mod_eq_of_lt hen', yfF _ (ytK (by omega) hen)]
  exact hK
theorem W0 : (fun _ => (0 : Int)) = W 0 := W_zero.symm
theorem yow (f : Nat) (h : f ≤ 3) (neg : Bool) (K : Int → Int → Prop) (hK : K (Hi (enc f neg (2 * fe f + 1) 0)) (Lo (enc f neg (2 * fe f + 1) 0))) : zdi f neg K := by
 rw [zdi.is]; unfold zdi.d; rw [yim f h, W0]
 exact yct f _ _ h (Nat.le_refl _) (Nat.two_pow_pos _) neg _ hK
theorem ymN (f : Nat) (h : f ≤ 3) (neg : Bool) (K : Int → Int → Prop) (hK : K (Hi (enc f neg 0 0)) (Lo (enc f neg 0 0))) : zdo f neg K := by
 rw [zdo.is]; unfold zdo.d; rw [W0, show (0 : Int) = ((0 : Nat) : Int) from rfl]
 exact yct f _ _ h (by omega) (Nat.two_pow_pos _) neg _ hK
theorem yhQ (f : Nat) (h : f ≤ 3) (neg : Bool) (K : Int → Int → Prop) (hK : K (Hi (enc f neg (2 * fe f) (2 ^ (fp f - 1) - 1))) (Lo (enc f neg (2 * fe f) (2 ^ (fp f - 1) - 1)))) : zdh f neg K := by
 obtain ⟨w1, w2, w3, w4, w5, w6⟩ := ycU f h
 rw [zdh.is]; unfold zdh.d
 rw [yim f h, ybg f h, show yaq IntKind.i64 (fp f : Int) 1 = ((fp f - 1 : Nat) : Int) from by rw [yap (by omega) (by omega)]; omega,
  show yaq IntKind.i64 ((2 * fe f + 1 : Nat) : Int) 1 = ((2 * fe f : Nat) : Int) from by rw [yap (by omega) (by omega)]; omega]
 refine yhI _ (by omega) _ ?_
 have := Nat.two_pow_pos (fp f - 1)
 exact yct f _ _ h (by omega) (by omega) neg _ hK
end Go.Ev.S

/- Encodings, their fields and their signs: the abacus and the document's answer. -/
set_option linter.unusedVariables false
set_option linter.unusedSimpArgs false
set_option maxRecDepth 8000
namespace Go.Ev.S
open Go Go.Ev
def ng (f x : Nat) : Bool := x.testBit (fw f - 1)
def ex (f x : Nat) : Nat := x / 2 ^ (fp f - 1) % (2 * fe f + 2)
def fr (f x : Nat) : Nat := x % 2 ^ (fp f - 1)
theorem ytg (f : Nat) (h : f ≤ 3) : yaq .i64 (fw f : Int) 1 = ((fw f - 1 : Nat) : Int) := by rcases ygV h with rfl | rfl | rfl | rfl <;> decide
theorem ysq (f : Nat) (h : f ≤ 3) : yaq .i64 (fp f : Int) 1 = ((fp f - 1 : Nat) : Int) := by rcases ygV h with rfl | rfl | rfl | rfl <;> decide
def cls (f x : Nat) : Int :=
 if ex f x = 2 * fe f + 1 then (if fr f x ≠ 0 then cond ((fr f x).testBit (fp f - 2)) 9 8 else cond (ng f x) 0 7)
 else if ex f x ≠ 0 then cond (ng f x) 1 6 else if fr f x ≠ 0 then cond (ng f x) 2 5 else cond (ng f x) 3 4
end Go.Ev.S

/- The plain law of ShapeMakes, and that of ShapeNumbers. -/
set_option linter.unusedVariables false
set_option linter.unusedSimpArgs false
set_option maxRecDepth 8000
namespace Go.Ev.S
open Go Go.Ev
theorem yso {a : Int} (w : (Lit.int .u8 a).wf = true) : ∃ n : Nat, a = n ∧ n < 256 := by
 obtain ⟨h1, h2⟩ := yrn w
 exact ⟨a.toNat, by omega, by omega⟩
end Go.Ev.S

/- The law RoundOver. -/
set_option linter.unusedVariables false
set_option linter.unusedSimpArgs false
set_option maxRecDepth 8000
namespace Go.Ev.S
open Go Go.Ev
theorem ycC (m : Nat) (h : m ≤ 4) (K : Int → Prop) : zek m K = K 0 := by
 rw [zek.is]; unfold zek.d; rw [yau (ya1 (by omega))]
theorem ykw (m : Nat) (h : 4 < m) (K : Int → Prop) : zek m K = K 2 := by
 rw [zek.is]; unfold zek.d; rw [yaB (yaS (by omega))]
def gr (m : Nat) (n : Bool) : Bool := m == 1 || (m == 2 && !n) || (m == 3 && n)
def ov (f m : Nat) (n : Bool) : Nat := cond (gr m n) (enc f n (2 * fe f) (2 ^ (fp f - 1) - 1)) (enc f n (2 * fe f + 1) 0)
theorem ysp {m : Nat} (h : m ≤ 4) : m = 0 ∨ m = 1 ∨ m = 2 ∨ m = 3 ∨ m = 4 := by omega
theorem yhZ (f m : Nat) (n : Bool) (h : f ≤ 3) (hm : m ≤ 4) (K : Int → Int → Prop) (hK : K (Hi (ov f m n)) (Lo (ov f m n))) : zdr f m n K := by
 have g : gr m n = true → zdh f n K := fun hg => by
  unfold ov at hK; rw [hg] at hK; exact yhQ f h n _ hK
 have i : gr m n = false → zdi f n K := fun hg => by
  unfold ov at hK; rw [hg] at hK; exact yow f h n _ hK
 rw [zdr.is]; unfold zdr.d
 rcases ysp hm with rfl | rfl | rfl | rfl | rfl <;> cases n <;> first | exact g rfl | exact i rfl
end Go.Ev.S

/- Digits of natural numbers, as rows have them; texts of bytes as numbers. -/
set_option linter.unusedVariables false
set_option linter.unusedSimpArgs false
namespace Go.Ev.S
open Go Go.Ev
def dg (k x i : Nat) : Nat := x / 2 ^ (k * i) % 2 ^ k
def G (k x : Nat) : Nat → Int := fun i => ((dg k x i : Nat) : Int)
theorem ybe (k x i : Nat) : G k x i = ((dg k x i : Nat) : Int) := rfl
theorem yb1 (k i : Nat) : 2 ^ (k * (i + 1)) = 2 ^ (k * i) * 2 ^ k := by rw [show k * (i + 1) = k * i + k from by rw [Nat.mul_add, Nat.mul_one], Nat.pow_add]
theorem yaV (k x i : Nat) : dg k x i < 2 ^ k := Nat.mod_lt _ (Nat.two_pow_pos k)
theorem ydD (k x i : Nat) (h : x < 2 ^ (k * i)) : dg k x i = 0 := by unfold dg; rw [Nat.div_eq_of_lt h, Nat.zero_mod]
theorem ybQ {k i j : Nat} (h : i ≤ j) : 2 ^ (k * i) ≤ 2 ^ (k * j) := Nat.pow_le_pow_right (by omega) (Nat.mul_le_mul_left k h)
theorem ydZ (k x n i : Nat) (h : x < 2 ^ (k * n)) (hi : n ≤ i) : dg k x i = 0 := ydD k x i (Nat.lt_of_lt_of_le h (ybQ hi))
theorem ybY (k : Nat) : G k 0 = fun _ => 0 := by
 funext i
 rw [ybe, ydD k 0 i (Nat.two_pow_pos _)]; rfl
theorem ya7 (k x i : Nat) : x % 2 ^ (k * (i + 1)) = x % 2 ^ (k * i) + dg k x i * 2 ^ (k * i) := by
 unfold dg
 rw [yb1, Nat.mod_mul, Nat.mul_comm (2 ^ (k * i))]
theorem ydk (k x i : Nat) : x / 2 ^ (k * i) = dg k x i + x / 2 ^ (k * (i + 1)) * 2 ^ k := by
 unfold dg
 rw [yb1, ← Nat.div_div_eq_div_mul]
 have := Nat.div_add_mod (x / 2 ^ (k * i)) (2 ^ k)
 rw [Nat.mul_comm] at this
 omega
theorem ynZ (k x i j : Nat) : dg k (x / 2 ^ (k * i)) j = dg k x (i + j) := by
 unfold dg
 rw [Nat.div_div_eq_div_mul, ← Nat.pow_add, Nat.mul_add]
theorem yqk (k x i j : Nat) (h : j < i) : dg k (x % 2 ^ (k * i)) j = dg k x j := by
 unfold dg
 have h1 : 2 ^ (k * i) = 2 ^ (k * j) * (2 ^ k * 2 ^ (k * (i - j - 1))) := by
  rw [← Nat.pow_add, ← Nat.pow_add]; congr 1
  have : i = j + (1 + (i - j - 1)) := by omega
  conv => lhs; rw [this]
  rw [Nat.mul_add, Nat.mul_add, Nat.mul_one]
 rw [h1, Nat.mod_mul_right_div_self, Nat.mod_mul_right_mod]
theorem ysY (k x : Nat) (h : x < 2 ^ k) : dg k x 0 = x := by unfold dg; rw [Nat.mul_zero, Nat.pow_zero, Nat.div_one, Nat.mod_eq_of_lt h]
theorem yp3 (k z w i j : Nat) (hz : z < 2 ^ (k * i)) (hw : w < 2 ^ k) : dg k (z + w * 2 ^ (k * i)) j = if j = i then w else dg k z j := by
 have hP := Nat.two_pow_pos (k * i)
 by_cases hj : j = i
 ·subst hj
  rw [if_pos rfl]
  unfold dg
  rw [Nat.add_mul_div_right _ _ hP, Nat.div_eq_of_lt hz, Nat.zero_add, Nat.mod_eq_of_lt hw]
 ·rw [if_neg hj]
  by_cases hlt : j < i
  ·have h1 := yqk k (z + w * 2 ^ (k * i)) i j hlt
   rw [Nat.add_mul_mod_self_right, Nat.mod_eq_of_lt hz] at h1
   exact h1.symm
  ·rw [ydZ k z i j hz (by omega), ydD]
   have h1 : z + w * 2 ^ (k * i) < 2 ^ (k * (i + 1)) := by
    rw [yb1, Nat.mul_comm (2 ^ (k * i))]
    have : (w + 1) * 2 ^ (k * i) ≤ 2 ^ k * 2 ^ (k * i) := Nat.mul_le_mul_right _ hw
    rw [Nat.add_mul, Nat.one_mul] at this
    omega
   exact Nat.lt_of_lt_of_le h1 (ybQ (by omega))
theorem ygm (k z w i : Nat) (hz : z < 2 ^ (k * i)) (hw : w < 2 ^ k) : z + w * 2 ^ (k * i) < 2 ^ (k * (i + 1)) := by
 rw [yb1, Nat.mul_comm (2 ^ (k * i))]
 have : (w + 1) * 2 ^ (k * i) ≤ 2 ^ k * 2 ^ (k * i) := Nat.mul_le_mul_right _ hw
 rw [Nat.add_mul, Nat.one_mul] at this
 omega
theorem yhp (k z w i : Nat) (hz : z < 2 ^ (k * i)) (hw : w < 2 ^ k) : upd (G k z) i (w : Int) = G k (z + w * 2 ^ (k * i)) := by
 funext j
 rw [ybe, yp3 k z w i j hz hw]
 by_cases hj : j = i
 ·subst hj; rw [yb7, if_pos rfl]
 ·rw [ycP _ _ _ _ hj, if_neg hj, ybe]
theorem ygU (k x i : Nat) : x = x % 2 ^ (k * i) + dg k x i * 2 ^ (k * i) + x / 2 ^ (k * (i + 1)) * 2 ^ (k * (i + 1)) := by
 have h1 := Nat.div_add_mod x (2 ^ (k * (i + 1)))
 rw [ya7, Nat.mul_comm] at h1
 omega
theorem yst (k x w i j : Nat) (hw : w < 2 ^ k) : dg k (x % 2 ^ (k * i) + w * 2 ^ (k * i) + x / 2 ^ (k * (i + 1)) * 2 ^ (k * (i + 1))) j = if j = i then w else dg k x j := by
 have hP := Nat.two_pow_pos (k * i)
 have hr : x % 2 ^ (k * i) < 2 ^ (k * i) := Nat.mod_lt _ hP
 have hl := ygm k _ w i hr hw
 by_cases hj : j ≤ i
 ·have h1 := yqk k (x % 2 ^ (k * i) + w * 2 ^ (k * i) + x / 2 ^ (k * (i + 1)) * 2 ^ (k * (i + 1))) (i + 1) j (by omega)
  rw [Nat.add_mul_mod_self_right, Nat.mod_eq_of_lt hl, yp3 k _ w i j hr hw] at h1
  rw [← h1]
  by_cases he : j = i
  ·simp [he]
  ·rw [if_neg he, if_neg he, yqk k x i j (by omega)]
 ·rw [if_neg (by omega)]
  have h1 := ynZ k (x % 2 ^ (k * i) + w * 2 ^ (k * i) + x / 2 ^ (k * (i + 1)) * 2 ^ (k * (i + 1))) (i + 1) (j - (i + 1))
  rw [show i + 1 + (j - (i + 1)) = j from by omega, Nat.add_mul_div_right _ _ (Nat.two_pow_pos _), Nat.div_eq_of_lt hl, Nat.zero_add] at h1
  rw [← h1, ynZ, show i + 1 + (j - (i + 1)) = j from by omega]
theorem yr5 (k x w i : Nat) (hw : w < 2 ^ k) : upd (G k x) i (w : Int) = G k (x % 2 ^ (k * i) + w * 2 ^ (k * i) + x / 2 ^ (k * (i + 1)) * 2 ^ (k * (i + 1))) := by
 funext j
 rw [ybe, yst k x w i j hw]
 by_cases hj : j = i
 ·subst hj; rw [yb7, if_pos rfl]
 ·rw [ycP _ _ _ _ hj, if_neg hj, ybe]
def val (a : List UInt8) : Nat := a.foldl (fun v b => v * 256 + b.toNat) 0
theorem ylN (a : List UInt8) : ∀ (v : Nat), a.foldl (fun v b => v * 256 + b.toNat) v = v * 256 ^ a.length + val a := by
 induction a with
 | nil => intro v; simp [val]
 | cons b l ih =>
  intro v
  simp only [List.foldl_cons, List.length_cons, val]
  rw [ih, ih (0 * 256 + b.toNat), Nat.pow_succ]
  rw [Nat.add_mul, Nat.add_mul, Nat.mul_assoc, Nat.mul_comm 256]
  omega
theorem yfK : val [] = 0 := rfl
theorem yg6 (b : UInt8) (l : List UInt8) : val (b :: l) = b.toNat * 256 ^ l.length + val l := by
 show (b :: l).foldl _ 0 = _
 rw [List.foldl_cons, ylN, Nat.zero_mul, Nat.zero_add]
theorem yoj (a b : List UInt8) : val (a ++ b) = val a * 256 ^ b.length + val b := by
 show (a ++ b).foldl _ 0 = _
 rw [List.foldl_append, ylN]
 rfl
theorem ynX (a : List UInt8) (b : UInt8) : val (a ++ [b]) = val a * 256 + b.toNat := by
 rw [yoj]; simp [val]
theorem yqJ (b : UInt8) : b.toNat < 256 := b.toNat_lt
theorem ygg (a : List UInt8) : val a < 256 ^ a.length := by
 induction a with
 | nil => simp [val]
 | cons b l ih =>
  rw [yg6, List.length_cons, Nat.pow_succ]
  have := yqJ b
  have : (b.toNat + 1) * 256 ^ l.length ≤ 256 * 256 ^ l.length := Nat.mul_le_mul_right _ (by omega)
  rw [Nat.add_mul] at this
  omega
theorem ynJ (n : Nat) : 256 ^ n = 2 ^ (8 * n) := by rw [Nat.pow_mul]
def nb (x : Nat) : List UInt8 := if h : x = 0 then [] else nb (x / 256) ++ [UInt8.ofNat (x % 256)]
decreasing_by omega
theorem yaN : nb 0 = [] := by rw [nb]; simp
theorem yed {x : Nat} (h : x ≠ 0) : nb x = nb (x / 256) ++ [UInt8.ofNat (x % 256)] := by rw [nb]; simp [h]
theorem yn7 {n : Nat} (h : n < 256) : (UInt8.ofNat n).toNat = n := by
 rw [UInt8.toNat_ofNat']
 exact Nat.mod_eq_of_lt h
theorem yax (x : Nat) : val (nb x) = x := by
 induction x using Nat.strongRecOn with
 | _ x ih =>
  by_cases h : x = 0
  ·subst h; rw [yaN]; rfl
  ·rw [yed h, ynX, ih (x / 256) (by omega), yn7 (Nat.mod_lt _ (by omega))]
   omega
def yjc (a : List UInt8) : Bool := match a with | [] => true | b :: _ => !(b.toNat == 0)
theorem yh4 {a b : List UInt8} (h : a ≠ []) : yjc (a ++ b) = yjc a := by cases a <;> simp_all [yjc]
theorem yeQ (x : Nat) : yjc (nb x) = true := by
 induction x using Nat.strongRecOn with
 | _ x ih =>
  by_cases h : x = 0
  ·subst h; rw [yaN]; rfl
  ·rw [yed h]
   by_cases h2 : x / 256 = 0
   ·rw [h2, yaN]
    have : x % 256 ≠ 0 := by omega
    have h3 := yn7 (Nat.mod_lt x (show 0 < 256 by omega))
    simp only [List.nil_append, yjc, h3]
    simpa using this
   ·have hne : nb (x / 256) ≠ [] := by rw [yed h2]; simp
    rw [yh4 hne]
    exact ih _ (by omega)
theorem yju {a : List UInt8} (h : yjc a = true) : nb (val a) = a := by
 induction hn : a.length generalizing a with
 | zero => have := List.length_eq_zero_iff.1 hn; subst this; exact yaN
 | succ n ih =>
  have hne : a ≠ [] := by intro e; subst e; simp at hn
  have h1 := List.dropLast_concat_getLast hne
  generalize a.dropLast = c at h1
  generalize a.getLast hne = b at h1
  subst h1
  have hlen : c.length = n := by simpa using hn
  have hb := yqJ b
  rw [ynX]
  by_cases hc : c = []
  ·subst hc
   have : b.toNat ≠ 0 := by simpa [yjc] using h
   rw [yfK, Nat.zero_mul, Nat.zero_add, yed this, Nat.div_eq_of_lt hb, yaN, Nat.mod_eq_of_lt hb]
   simp
  ·rw [yh4 hc] at h
   have ihc := ih h hlen
   have hv : val c ≠ 0 := by
    intro e
    rw [e, yaN] at ihc
    exact hc ihc.symm
   rw [yed (by omega), show (val c * 256 + b.toNat) / 256 = val c from by omega, show (val c * 256 + b.toNat) % 256 = b.toNat from by omega, ihc]
   simp
theorem ytl {x y : Nat} (h : nb x = nb y) : x = y := by rw [← yax x, h, yax]
theorem ysr {a b : List UInt8} (ha : yjc a = true) (hb : yjc b = true) (h : val a = val b) : a = b := by rw [← yju ha, h, yju hb]
theorem ybC (x n : Nat) : (nb x).length ≤ n ↔ x < 256 ^ n := by
 induction n generalizing x with
 | zero =>
  constructor
  ·intro h
   have : nb x = [] := List.length_eq_zero_iff.1 (by omega)
   have h2 := yax x
   rw [this] at h2
   simp [val] at h2 ⊢; omega
  ·intro h
   have : x = 0 := by simp at h; omega
   subst this; rw [yaN]; simp
 | succ n ih =>
  by_cases h : x = 0
  ·subst h; rw [yaN]; simp [Nat.pow_pos]
  ·rw [yed h, List.length_append, List.length_singleton, Nat.pow_succ]
   have := ih (x / 256)
   rw [Nat.div_lt_iff_lt_mul (by omega)] at this
   omega
theorem ylp {x : Nat} (h : x ≠ 0) : nb x ≠ [] := by rw [yed h]; simp
theorem ynI (a : List UInt8) : ∀ (i : Nat), i < a.length → ((a[a.length - 1 - i]?).getD 0).toNat = dg 8 (val a) i := by
 induction a with
 | nil => intro i hi; simp at hi
 | cons b l ih =>
  intro i hi
  rw [List.length_cons] at hi ⊢
  have hl := ygg l
  rw [ynJ] at hl
  rw [yg6, ynJ, Nat.add_comm (b.toNat * _)]
  have h2 := yp3 8 (val l) b.toNat l.length i hl (by have := yqJ b; simpa using this)
  rw [h2]
  by_cases he : i = l.length
  ·subst he
   rw [if_pos rfl, show l.length + 1 - 1 - l.length = 0 from by omega]
   rfl
  ·rw [if_neg he, show l.length + 1 - 1 - i = (l.length - 1 - i) + 1 from by omega, List.getElem?_cons_succ]
   exact ih i (by omega)
end Go.Ev.S

/- Rows of digits: a digit set, carried, cut; bytes the highest first. Whole numbers of the machine, plainly. -/
set_option linter.unusedVariables false
set_option linter.unusedSimpArgs false
namespace Go.Ev.S
open Go Go.Ev
theorem yay (p : Prop) : gd true p = p := rfl
theorem yaX (p q : Prop) : br true p q = p := rfl
theorem ydB (p q : Prop) : br false p q = q := rfl
theorem ybw {a b : Int} (h : 0 ≤ a) (h2 : a < 9223372036854775808) (hb : 0 < b) : yaE .i64 a b = a / b := by
 show IntKind.wrap .i64 (a.tdiv b) = _
 rw [Int.tdiv_eq_ediv_of_nonneg h]
 have h1 : 0 ≤ a / b := Int.ediv_nonneg h (by omega)
 have h3 : a / b ≤ a := Int.ediv_le_self _ h
 exact yde (by omega) (by omega)
theorem yf9 {k : IntKind} {a b : Int} (h : 0 ≤ a) : yca k a b = a % b := Int.tmod_eq_emod_of_nonneg h
theorem ybL (n : Int) : cvI .u32 n = n % 4294967296 := ynB n
theorem yhF (n : Int) : cvI .u8 n = n % 256 := ypC n
theorem yd2 {k : IntKind} {a : Int} {j : Nat} (h : j ≤ k.bits) : ya8 k a (j : Int) = a / 2 ^ j := by
 have h1 : min (Int.toNat (j : Int)) k.bits = j := by rw [Int.toNat_natCast]; omega
 simp only [ya8, h1]
 exact Int.fdiv_eq_ediv_of_nonneg _ (Int.le_of_lt (Int.pow_pos (by omega)))
theorem ycM (a : Int) : ya8 .u64 a 32 = a / 4294967296 := yd2 (k := .u64) (j := 32) (by decide)
theorem yfV (a : Int) : ya8 .i64 a 32 = a / 4294967296 := yd2 (k := .i64) (j := 32) (by decide)
theorem yhe (a : Int) : ya8 .i64 a 8 = a / 256 := yd2 (k := .i64) (j := 8) (by decide)
theorem ym2 {a b : Int} (h : 0 ≤ a * b) (h2 : a * b < 18446744073709551616) : ybS .u64 a b = a * b := yhS h h2
theorem yfw {k N N' w j : Nat} (h : N' + dg k N j * 2 ^ (k * j) = N + w * 2 ^ (k * j)) (hw : w < 2 ^ k) : upd (G k N) j (w : Int) = G k N' := by
 rw [yr5 k N w j hw]
 congr 1
 have := ygU k N j
 omega
theorem ysI (g : Nat → Int) (i : Nat) (v w : Int) (h : v = w) : upd g i v = upd g i w := by rw [h]
def wl (k x : Nat) : Nat := if h : x = 0 ∨ k = 0 then 0 else wl k (x / 2 ^ k) + 1
termination_by x
decreasing_by
 have hk : 1 < 2 ^ k := Nat.one_lt_two_pow (by omega)
 exact Nat.div_lt_self (by omega) hk
theorem yc5 (k : Nat) : wl k 0 = 0 := by rw [wl]; simp
theorem yii {k x : Nat} (hx : x ≠ 0) (hk : k ≠ 0) : wl k x = wl k (x / 2 ^ k) + 1 := by rw [wl]; simp [hx, hk]
theorem yeP (k : Nat) (hk : k ≠ 0) (x : Nat) : x < 2 ^ (k * wl k x) := by
 induction x using Nat.strongRecOn with
 | _ x ih =>
  by_cases h : x = 0
  ·subst h; exact Nat.two_pow_pos _
  ·rw [yii h hk, yb1]
   have := ih (x / 2 ^ k) (Nat.div_lt_self (by omega) (Nat.one_lt_two_pow hk))
   exact (Nat.div_lt_iff_lt_mul (Nat.two_pow_pos k)).1 this
theorem ydW (k : Nat) (hk : k ≠ 0) (x n : Nat) : wl k x ≤ n ↔ x < 2 ^ (k * n) := by
 constructor
 ·intro h; exact Nat.lt_of_lt_of_le (yeP k hk x) (ybQ h)
 ·induction n generalizing x with
  | zero =>
   intro h
   have : x = 0 := by simp at h; omega
   subst this; rw [yc5]; omega
  | succ n ih =>
   intro h
   by_cases hx : x = 0
   ·subst hx; rw [yc5]; omega
   ·rw [yii hx hk]
    have := ih (x / 2 ^ k) (by rw [Nat.div_lt_iff_lt_mul (Nat.two_pow_pos k), ← yb1]; exact h)
    omega
theorem ynz (k : Nat) (hk : k ≠ 0) (x : Nat) (h : x ≠ 0) : dg k x (wl k x - 1) ≠ 0 := by
 intro he
 have h1 := yeP k hk x
 have hp : wl k x ≠ 0 := by rw [yii h hk]; omega
 have h2 := ya7 k x (wl k x - 1)
 rw [show wl k x - 1 + 1 = wl k x from by omega, Nat.mod_eq_of_lt h1, he, Nat.zero_mul, Nat.add_zero] at h2
 have h3 : x < 2 ^ (k * (wl k x - 1)) := by
  have := Nat.mod_lt x (Nat.two_pow_pos (k * (wl k x - 1)))
  omega
 have := (ydW k hk x _).2 h3
 omega
theorem ytU (k : Nat) (hk : k ≠ 0) (x n : Nat) (h : x < 2 ^ (k * n)) (ht : n = 0 ∨ dg k x (n - 1) ≠ 0) : wl k x = n := by
 have h1 := (ydW k hk x n).2 h
 rcases ht with rfl | ht
 ·omega
 ·apply Classical.byContradiction
  intro hne
  exact ht (ydD k x (n - 1) ((ydW k hk x (n - 1)).1 (by omega)))
theorem ytZ (x : Nat) : wl 8 x = (nb x).length := by
 have h1 := (ydW 8 (by omega) x (nb x).length).2 (by rw [← ynJ]; exact (ybC x _).1 (Nat.le_refl _))
 have h2 := (ybC x (wl 8 x)).2 (by rw [ynJ]; exact yeP 8 (by omega) x)
 omega
theorem ybn {k x y : Nat} (hk : k ≠ 0) (h : x ≤ y) : wl k x ≤ wl k y := (ydW k hk x _).2 (Nat.lt_of_le_of_lt h (yeP k hk y))
theorem yq2 : ∀ (n x : Nat) (g : Nat → Int), (∀ j, j < n → g j = (dg 8 x (n - 1 - j) : Int)) → x < 2 ^ (8 * n) → (n = 0 ∨ dg 8 x (n - 1) ≠ 0) → ybB n g = nb x := by
 intro n
 induction n with
 | zero =>
  intro x g _ hx _
  have : x = 0 := by simp at hx; omega
  subst this; rw [yaN]; rfl
 | succ n ih =>
  intro x g hg hx ht
  have hx0 : x ≠ 0 := by
   intro e; subst e
   rcases ht with h | h
   ·omega
   ·exact h (ydD 8 0 _ (Nat.two_pow_pos _))
  have e8 : (2 : Nat) ^ 8 = 256 := rfl
  have hd : ∀ j, dg 8 (x / 256) j = dg 8 x (1 + j) := fun j => by
   have := ynZ 8 x 1 j
   rwa [show 2 ^ (8 * 1) = 256 from rfl] at this
  have h1 : ybB n g = nb (x / 256) := by
   refine ih (x / 256) g (fun j hj => ?_) ?_ ?_
   ·rw [hg j (by omega), hd]; congr 2; omega
   ·rw [Nat.div_lt_iff_lt_mul (by omega)]; rw [yb1, e8] at hx; exact hx
   ·rcases Nat.eq_zero_or_pos n with h | h
    ·exact .inl h
    ·right
     rw [hd, show 1 + (n - 1) = n + 1 - 1 from by omega]
     exact ht.resolve_left (by omega)
  have h2 : ybB (n + 1) g = ybB n g ++ [UInt8.ofNat (g n).toNat] := by
   unfold ybB
   rw [List.range_succ, List.map_append]; rfl
  rw [h2, h1, yed hx0, hg n (by omega), Int.toNat_natCast, show n + 1 - 1 - n = 0 from by omega]
  congr 2
  unfold dg
  rw [Nat.mul_zero, Nat.pow_zero, Nat.div_one]
theorem ymv (n o : Nat) (g : Nat → Int) : ybB n (shift o g) = ybB n (fun j => g (o + j)) := by
 unfold ybB
 refine List.map_congr_left fun i _ => ?_
 rw [ycl]
def BE (L i x : Nat) : Nat → Int := fun j => if L - i ≤ j ∧ j < L then (dg 8 x (L - 1 - j) : Int) else 0
theorem yqm (L x : Nat) : BE L 0 x = fun _ => 0 := by
 funext j; unfold BE; rw [if_neg (by omega)]
theorem ypz (L i x : Nat) (hi : i < L) : upd (BE L i x) (L - 1 - i) (dg 8 x i : Int) = BE L (i + 1) x := by
 funext j
 by_cases hj : j = L - 1 - i
 ·subst hj
  rw [yb7]; unfold BE
  rw [if_pos (by omega), show L - 1 - (L - 1 - i) = i from by omega]
 ·rw [ycP _ _ _ _ hj]; unfold BE
  by_cases h : L - i ≤ j ∧ j < L
  ·rw [if_pos h, if_pos (by omega)]
  ·rw [if_neg h, if_neg (by omega)]
theorem yty (L x j : Nat) (hj : j < L) : BE L L x j = (dg 8 x (L - 1 - j) : Int) := by unfold BE; rw [if_pos (by omega)]
theorem yno (L o n x : Nat) (ho : o + n = L) (hx : x < 2 ^ (8 * n)) (ht : n = 0 ∨ dg 8 x (n - 1) ≠ 0) : ybB n (fun j => BE L L x (o + j)) = nb x := by
 refine yq2 n x _ (fun j hj => ?_) hx ht
 rw [yty L x _ (by omega)]; congr 2; omega
end Go.Ev.S

/- Natural numbers as rows of words: made of texts, told as texts, cut, held against each other. -/
set_option linter.unusedVariables false
set_option linter.unusedSimpArgs false
set_option maxRecDepth 8000
namespace Go.Ev.S
open Go Go.Ev
theorem yr7 {k : IntKind} (hk : k.signed = false) (a b : Nat) (ha : a < 2 ^ k.bits) (hb : b < 2 ^ k.bits) : orI k a b = ((a ||| b : Nat) : Int) := by
 have h3 : a ||| b < 2 ^ k.bits := Nat.or_lt_two_pow ha hb
 show IntKind.wrap k (((BitVec.ofInt k.bits (a : Int) ||| BitVec.ofInt k.bits (b : Int) : BitVec k.bits).toNat : Nat) : Int) = _
 rw [BitVec.toNat_or, BitVec.ofInt_natCast, BitVec.ofInt_natCast, BitVec.toNat_ofNat, BitVec.toNat_ofNat, Nat.mod_eq_of_lt ha, Nat.mod_eq_of_lt hb]
 simp only [IntKind.wrap, hk]
 have : ((a ||| b : Nat) : Int) % 2 ^ k.bits = ((a ||| b : Nat) : Int) := by
  refine Int.emod_eq_of_lt (by omega) ?_
  have e : ((2 ^ k.bits : Nat) : Int) = (2 : Int) ^ k.bits := by simp
  rw [← e]; omega
 simpa using this
theorem yn9 {k : IntKind} (hk : k.signed = false) (a s : Nat) (hs : s ≤ k.bits) : yb0 k a s = ((a * 2 ^ s % 2 ^ k.bits : Nat) : Int) := by
 have h1 : min (Int.toNat (s : Int)) k.bits = s := by rw [Int.toNat_natCast]; omega
 simp only [yb0, h1, IntKind.wrap, hk]
 simp
theorem yrX (d b s : Nat) (hd : d < 2 ^ s) (hs : s + 8 ≤ 32) (hb : b < 256) : orI .u32 (d : Int) (yb0 .u32 (b : Int) (s : Int)) = ((d + b * 2 ^ s : Nat) : Int) := by
 have hP := Nat.two_pow_pos s
 have e32 : (2 : Nat) ^ 32 = 4294967296 := rfl
 have h1 : b * 2 ^ s + 2 ^ s ≤ 2 ^ 32 := by
  have h2 : (b + 1) * 2 ^ s ≤ 256 * 2 ^ s := Nat.mul_le_mul_right _ (by omega)
  have h3 : 256 * 2 ^ s ≤ 2 ^ 32 := by
   rw [show (256 : Nat) = 2 ^ 8 from rfl, ← Nat.pow_add]; exact Nat.pow_le_pow_right (by omega) (by omega)
  rw [Nat.add_mul] at h2; omega
 rw [yn9 (k := .u32) rfl b s (by simp [IntKind.bits]; omega)]
 have hb32 : IntKind.bits .u32 = 32 := rfl
 rw [hb32, Nat.mod_eq_of_lt (by omega), yr7 (k := .u32) rfl _ _ (by rw [hb32]; omega) (by rw [hb32]; omega)]
 congr 1
 have := Nat.shiftLeft_add_eq_or_of_lt hd b
 rw [Nat.shiftLeft_eq] at this
 rw [Nat.or_comm, ← this]; omega
theorem yfq (a : List UInt8) (i : Nat) (hi : i < a.length) : ybj a (a.length - 1 - i) = (dg 8 (val a) i : Int) := by
 unfold ybj
 rw [ynI a i hi]
def May (a : List UInt8) : Prop := a.length ≤ 16384 ∧ yjc a = true
instance (a : List UInt8) : Decidable (May a) := inferInstanceAs (Decidable (_ ∧ _))
theorem ya9 (a : List UInt8) : eqS a [] = decide (a = []) := by cases a <;> simp [eqS]
theorem ydF (b : UInt8) (l : List UInt8) : ybj (b :: l) 0 = (b.toNat : Int) := rfl
theorem yaW (a : List UInt8) (K : Int → Prop) : zar a K = K (if May a then 0 else 2) := by
 rw [zar.is]; unfold zar.d
 by_cases h : a.length ≤ 16384
 ·rw [yau (ya1 (by omega)), ya9]
  cases a with
  | nil => rw [yau (by simp), if_pos ⟨by simp, rfl⟩]
  | cons b l =>
   have hl : (0 : Int) < ((b :: l).length : Int) := by simp only [List.length_cons]; omega
   rw [yaB (by simp), ybv (yaS hl), ydF]
   by_cases hb : b.toNat = 0
   ·rw [yaB (ylW (by omega)), if_neg]
    intro hm; have := hm.2; simp [yjc, hb] at this
   ·rw [yau (yjr (by omega)), if_pos ⟨h, by simpa [yjc] using hb⟩]
 ·rw [yaB (yaS (by omega)), if_neg fun hm => h hm.1]
theorem yjq (k x q s : Nat) (h : x < 2 ^ (k * q + s)) : dg k x q < 2 ^ s := by
 unfold dg
 refine Nat.lt_of_le_of_lt (Nat.mod_le _ _) ?_
 rw [Nat.div_lt_iff_lt_mul (Nat.two_pow_pos _), ← Nat.pow_add, Nat.add_comm s]
 exact h
theorem yix (a : List UInt8) (hL : a.length ≤ 1000000) (n : Nat) (hn : n = (a.length + 3) / 4) (c m : Nat) (k0 : Nat → Nat → Nat → (Nat → Int) → Prop) (h : k0 n c m (G 32 (val a))) :
  ∀ (j i : Nat), i + j = a.length → zbq.l3 k0 (j + 1) a n c a.length i m (G 32 (val a % 2 ^ (8 * i))) := by
 intro j
 induction j with
 | zero =>
  intro i hi
  unfold zbq.l3 zbq.l3.step
  rw [yau (ya1 (by omega)), Nat.mod_eq_of_lt (by have := ygg a; rw [ynJ] at this; rwa [show i = a.length from by omega])]
  exact h
 | succ j ih =>
  intro i hi
  have ih := ih (i + 1) (by omega)
  have e : ((i + 1 : Nat) : Int) = (i : Int) + 1 := by omega
  rw [e] at ih
  unfold zbq.l3 zbq.l3.step
  simp (disch := omega) only [ybw, yf9, yap, yan, ybm, yaO, yaS, ya4, ya1, yay, yaX, Bool.and_self, Bool.not_false]
  have e1 : Int.toNat ((i : Int) / 4) = i / 4 := by omega
  have e2 : Int.toNat ((a.length : Int) - 1 - i) = a.length - 1 - i := by omega
  have e3 : 8 * ((i : Int) % 4) = ((8 * (i % 4) : Nat) : Int) := by omega
  have hd := yaV 8 (val a) i
  have e8 : (2 : Nat) ^ 8 = 256 := rfl
  rw [e1, e2, e3, yfq a i (by omega), ybL, Int.emod_eq_of_lt (by omega) (by omega), ybe,
   yrX _ _ _ (yjq 32 _ (i / 4) (8 * (i % 4)) (by rw [show 32 * (i / 4) + 8 * (i % 4) = 8 * i from by omega]; exact Nat.mod_lt _ (Nat.two_pow_pos _))) (by omega) (by omega)]
  rw [yfw (k := 32) (N' := val a % 2 ^ (8 * (i + 1)))]
  ·exact ih
  ·rw [ya7, Nat.add_mul, Nat.mul_assoc, ← Nat.pow_add, show 8 * (i % 4) + 32 * (i / 4) = 8 * i from by omega]; omega
  ·have h1 := yjq 32 (val a % 2 ^ (8 * i)) (i / 4) (8 * (i % 4)) (by rw [show 32 * (i / 4) + 8 * (i % 4) = 8 * i from by omega]; exact Nat.mod_lt _ (Nat.two_pow_pos _))
   have h2 : (dg 8 (val a) i + 1) * 2 ^ (8 * (i % 4)) ≤ 256 * 2 ^ (8 * (i % 4)) := Nat.mul_le_mul_right _ (by omega)
   have h3 : 256 * 2 ^ (8 * (i % 4)) ≤ 2 ^ 32 := by
    rw [show (256 : Nat) = 2 ^ 8 from rfl, ← Nat.pow_add]; exact Nat.pow_le_pow_right (by omega) (by omega)
   rw [Nat.add_mul] at h2
   omega
theorem ygn (a : List UInt8) (hL : a.length ≤ 1000000) (K : Nat → (Nat → Int) → Prop) (h : K ((a.length + 3) / 4) (G 32 (val a))) : zbq a K := by
 rw [zbq.is]; unfold zbq.d
 simp (disch := omega) only [ybw, yan, ya4, yay, Bool.and_self]
 have e1 : Int.toNat (((a.length : Int) + 3) / 4) = (a.length + 3) / 4 := by omega
 rw [e1]
 refine ⟨a.length + 1, ?_⟩
 have := yix a hL ((a.length + 3) / 4) rfl ((a.length + 3) / 4) ((a.length + 3) / 4) (fun y0 y1 y2 y3 => K y0 y3) h a.length 0 (by omega)
 rw [Nat.mul_zero, Nat.pow_zero, Nat.mod_one, ybY] at this
 exact this
theorem yjQ {x n : Nat} (hn : n ≠ 0) (hx : x < 2 ^ (32 * n)) : (dg 32 x (n - 1) = 0 → x < 2 ^ (32 * (n - 1))) ∧ (dg 32 x (n - 1) ≠ 0 → wl 32 x = n) := by
 refine ⟨fun h => ?_, fun h => ytU 32 (by omega) x n hx (.inr h)⟩
 have h2 := ya7 32 x (n - 1)
 rw [show n - 1 + 1 = n from by omega, Nat.mod_eq_of_lt hx, h, Nat.zero_mul, Nat.add_zero] at h2
 have := Nat.mod_lt x (Nat.two_pow_pos (32 * (n - 1)))
 omega
theorem yiy (k0 : Nat → (Nat → Int) → Prop) (x : Nat) (h : k0 (wl 32 x) (G 32 x)) : ∀ (n : Nat), n ≤ 1000000000 → x < 2 ^ (32 * n) → zbe.l1 k0 (n + 1) n (G 32 x) := by
 intro n
 induction n with
 | zero =>
  intro _ hx
  have hx0 : x = 0 := by simp at hx; omega
  unfold zbe.l1 zbe.l1.step
  rw [yau (ya1 (by omega))]
  have e := yc5 32
  subst hx0; rwa [e] at h
 | succ n ih =>
  intro hn hx
  obtain ⟨s1, s2⟩ := yjQ (show n + 1 ≠ 0 by omega) hx
  rw [show n + 1 - 1 = n from by omega] at s1 s2
  unfold zbe.l1 zbe.l1.step
  simp (disch := omega) only [yap, yaS, ya4, yay, yaX, Bool.and_self]
  have e1 : Int.toNat (((n + 1 : Nat) : Int) - 1) = n := by omega
  rw [e1, ybe]
  by_cases hd : dg 32 x n = 0
  ·rw [yaB (ylW (by omega))]
   exact ih (by omega) (s1 hd)
  ·rw [yau (yjr (by omega))]
   rw [s2 hd] at h; exact h
theorem ylH (n x : Nat) (hn : n ≤ 1000000000) (hx : x < 2 ^ (32 * n)) (K : Nat → (Nat → Int) → Prop) (h : K (wl 32 x) (G 32 x)) : zbe n (G 32 x) K := by
 rw [zbe.is]; unfold zbe.d
 exact ⟨n + 1, yiy _ x h n hn hx⟩
theorem yiK (k0 : Nat → Nat → Nat → (Nat → Int) → Prop) (x m : Nat) (h : ∀ c, k0 (wl 32 x) c m (G 32 x)) : ∀ (n c : Nat), n ≤ 1000000000 → n ≤ c → x < 2 ^ (32 * n) → zbd.l1 k0 (n + 1) n c m (G 32 x) := by
 intro n
 induction n with
 | zero =>
  intro c _ _ hx
  have hx0 : x = 0 := by simp at hx; omega
  unfold zbd.l1 zbd.l1.step
  rw [yau (ya1 (by omega))]
  have e := yc5 32
  subst hx0; rw [e] at h; exact h c
 | succ n ih =>
  intro c hn hc hx
  obtain ⟨s1, s2⟩ := yjQ (show n + 1 ≠ 0 by omega) hx
  rw [show n + 1 - 1 = n from by omega] at s1 s2
  unfold zbd.l1 zbd.l1.step
  simp (disch := omega) only [yap, yaS, ya4, yay, yaX, Bool.and_self]
  have e1 : Int.toNat (((n + 1 : Nat) : Int) - 1) = n := by omega
  rw [e1, ybe]
  by_cases hd : dg 32 x n = 0
  ·rw [yaB (ylW (by omega))]
   exact ih (c - 0) (by omega) (by omega) (s1 hd)
  ·rw [yau (yjr (by omega))]
   rw [s2 hd] at h; exact h c
theorem ybZ (n c m x : Nat) (hn : n ≤ 1000000000) (hc : n ≤ c) (hx : x < 2 ^ (32 * n)) (K : Nat → Nat → Nat → (Nat → Int) → Prop) (h : ∀ c, K (wl 32 x) c m (G 32 x)) : zbd n c m (G 32 x) K := by
 rw [zbd.is]; unfold zbd.d
 exact ⟨n + 1, yiK _ x m h n c hn hc hx⟩
theorem yiG (k0 : Nat → Nat → (Nat → Int) → Prop) (x m : Nat) (h : k0 (wl 32 x) m (G 32 x)) : ∀ (n : Nat), n ≤ 1000000000 → x < 2 ^ (32 * n) → zbc.l1 k0 (n + 1) n m (G 32 x) := by
 intro n
 induction n with
 | zero =>
  intro _ hx
  have hx0 : x = 0 := by simp at hx; omega
  unfold zbc.l1 zbc.l1.step
  rw [yau (ya1 (by omega))]
  have e := yc5 32
  subst hx0; rwa [e] at h
 | succ n ih =>
  intro hn hx
  obtain ⟨s1, s2⟩ := yjQ (show n + 1 ≠ 0 by omega) hx
  rw [show n + 1 - 1 = n from by omega] at s1 s2
  unfold zbc.l1 zbc.l1.step
  simp (disch := omega) only [yap, yaS, ya4, yay, yaX, Bool.and_self]
  have e1 : Int.toNat (((n + 1 : Nat) : Int) - 1) = n := by omega
  rw [e1, ybe]
  by_cases hd : dg 32 x n = 0
  ·rw [yaB (ylW (by omega))]
   exact ih (by omega) (s1 hd)
  ·rw [yau (yjr (by omega))]
   rw [s2 hd] at h; exact h
theorem yd1 (n m x : Nat) (hn : n ≤ 1000000000) (hx : x < 2 ^ (32 * n)) (K : Nat → Nat → (Nat → Int) → Prop) (h : K (wl 32 x) m (G 32 x)) : zbc n m (G 32 x) K := by
 rw [zbc.is]; unfold zbc.d
 exact ⟨n + 1, yiG _ x m h n hn hx⟩
theorem ytw (x q s : Nat) (hs : s < 4) : dg 8 x (4 * q + s) = dg 32 x q / 2 ^ (8 * s) % 256 := by
 unfold dg
 rw [show 8 * (4 * q + s) = 32 * q + 8 * s from by omega, Nat.pow_add, ← Nat.div_div_eq_div_mul]
 generalize x / 2 ^ (32 * q) = y
 have h1 : (2 : Nat) ^ 32 = 2 ^ (8 * s) * (256 * 2 ^ (8 * (3 - s))) := by
  rw [show (256 : Nat) = 2 ^ 8 from rfl, ← Nat.pow_add, ← Nat.pow_add]; congr 1; omega
 rw [h1, Nat.mod_mul_right_div_self, Nat.mod_mul_right_mod]
theorem ysO (a s : Nat) (hs : s ≤ 32) : ya8 .u32 (a : Int) (s : Int) = ((a / 2 ^ s : Nat) : Int) := by
 rw [yd2 (k := .u32) hs]; simp
theorem yhv (x n : Nat) (hn : n ≤ 100000000) (L c m : Nat) (hL : L = 4 * n) (k0 : Nat → Nat → Nat → (Nat → Int) → Prop) (h : k0 L c m (BE L L x)) :
  ∀ (j i : Nat), i + j = L → zbi.l4 k0 (j + 1) n (G 32 x) L c L i m (BE L i x) := by
 intro j
 induction j with
 | zero =>
  intro i hi
  unfold zbi.l4 zbi.l4.step
  rw [yau (ya1 (by omega)), show i = L from by omega]
  exact h
 | succ j ih =>
  intro i hi
  have ih := ih (i + 1) (by omega)
  have e : ((i + 1 : Nat) : Int) = (i : Int) + 1 := by omega
  rw [e] at ih
  unfold zbi.l4 zbi.l4.step
  simp (disch := omega) only [ybw, yf9, yap, yan, ybm, yaO, yaS, ya4, ya1, yay, yaX, Bool.and_self, Bool.not_false]
  have e1 : Int.toNat ((i : Int) / 4) = i / 4 := by omega
  have e2 : Int.toNat ((L : Int) - 1 - i) = L - 1 - i := by omega
  have e3 : 8 * ((i : Int) % 4) = ((8 * (i % 4) : Nat) : Int) := by omega
  rw [e1, e2, e3, ybe, ysO _ _ (by omega), yhF, ysI _ _ _ (dg 8 x i : Int), ypz L i x (by omega)]
  ·exact ih
  ·have := ytw x (i / 4) (i % 4) (by omega)
   rw [show 4 * (i / 4) + i % 4 = i from by omega] at this
   rw [this]; simp
theorem ygF (x L : Nat) (hL : L ≤ 400000000) (c m : Nat) (k0 : Nat → Nat → Nat → Nat → (Nat → Int) → Prop)
  (h : ∀ o n c, o + n = L → x < 2 ^ (8 * n) → (n = 0 ∨ dg 8 x (n - 1) ≠ 0) → k0 o n c m (BE L L x)) :
  ∀ (n o c : Nat), o + n = L → n ≤ c → x < 2 ^ (8 * n) → zbi.l8 k0 (n + 1) o n c m (BE L L x) := by
 intro n
 induction n with
 | zero =>
  intro o c ho _ hx
  unfold zbi.l8 zbi.l8.step
  rw [yau (ya1 (by omega))]
  exact h o 0 c ho hx (.inl rfl)
 | succ n ih =>
  intro o c ho hc hx
  unfold zbi.l8 zbi.l8.step
  simp (disch := omega) only [yaS, ya4, yay, yaX, Bool.and_self, yfj]
  rw [yty L x _ (by omega), show L - 1 - (o + 0) = n from by omega]
  by_cases hd : dg 8 x n = 0
  ·rw [yaB (ylW (by omega))]
   have e1 : Int.toNat ((n + 1 : Nat) : Int) - 1 = n := by omega
   rw [e1]
   refine ih (o + 1) (c - 1) (by omega) (by omega) ?_
   have h2 := ya7 8 x n
   rw [Nat.mod_eq_of_lt hx, hd, Nat.zero_mul, Nat.add_zero] at h2
   have := Nat.mod_lt x (Nat.two_pow_pos (8 * n))
   omega
  ·rw [yau (yjr (by omega))]
   exact h o (n + 1) c ho hx (.inr hd)
theorem ybp (n x : Nat) (hn : n ≤ 100000000) (hx : x < 2 ^ (32 * n)) (K : List UInt8 → Prop) (h : K (nb x)) : zbi n (G 32 x) K := by
 rw [zbi.is]; unfold zbi.d
 refine ylH n x (by omega) hx _ ?_
 have hw := (ydW 32 (by omega) x n).2 hx
 have hl := yeP 32 (by omega) x
 generalize wl 32 x = w at hw hl
 simp (disch := omega) only [ybm, ya4, yay, Bool.and_self]
 have e1 : Int.toNat (4 * (w : Int)) = 4 * w := by omega
 rw [e1]
 refine ⟨4 * w + 1, ?_⟩
 have := yhv x w (by omega) (4 * w) (4 * w) (4 * w) rfl (fun y0 y1 y2 y3 => ∃ n, zbi.l8 (fun y0 y1 y2 y3 y4 => K (ybB y1 (shift y0 y4))) n 0 y0 y1 y2 y3) ?_ (4 * w) 0 (by omega)
 ·rw [yqm] at this
  exact this
 ·refine ⟨4 * w + 1, ?_⟩
  refine ygF x (4 * w) (by omega) (4 * w) (4 * w) _ ?_ (4 * w) 0 (4 * w) (by omega) (Nat.le_refl _) (by rw [show 8 * (4 * w) = 32 * w from by omega]; exact hl)
  intro o n c ho hx' ht
  rw [ymv, yno (4 * w) o n x ho hx' ht]
  exact h
theorem yhu (n x : Nat) (hn : n ≤ 100000000) (hx : x < 2 ^ (32 * n)) (K : List UInt8 → Int → Prop) (h : if 16384 < (nb x).length then K [] 4 else K (nb x) 0) : zbn n (G 32 x) K := by
 rw [zbn.is]; unfold zbn.d
 refine ybp n x hn hx _ ?_
 by_cases hl : 16384 < (nb x).length
 ·rw [yaB (yaS (by omega))]; rwa [if_pos hl] at h
 ·rw [yau (ya1 (by omega))]; rwa [if_neg hl] at h
def sgn (x y : Nat) : Int := if x < y then -1 else if y < x then 1 else 0
theorem ykW (x y n m : Nat) (k0 : Int → Prop) (k1 : Prop) (hn : n ≤ 1000000000) (h : x / 2 ^ (32 * n) = y / 2 ^ (32 * n)) :
  ∀ (i : Nat), i ≤ n → i ≤ m → x / 2 ^ (32 * i) = y / 2 ^ (32 * i) → (x < y → k0 (-1)) → (y < x → k0 1) → (x = y → k1) → ∀ (j : Nat), n = n → zbb.l6 k0 k1 (i + 1) n (G 32 x) m (G 32 y) ((i : Int) - 1) := by
 intro i
 induction i with
 | zero =>
  intro _ _ he _ _ h3 _ _
  unfold zbb.l6 zbb.l6.step
  rw [yau (yes (by omega))]
  simp at he
  exact h3 he
 | succ i ih =>
  intro hin him he h1 h2 h3 j _
  unfold zbb.l6 zbb.l6.step
  have e0 : ((i + 1 : Nat) : Int) - 1 = (i : Int) := by omega
  rw [e0]
  simp (disch := omega) only [yap, yaS, ya4, yay, yaX, Bool.and_self, Int.toNat_natCast]
  rw [ybe, ybe, ysf, ysf]
  have d1 := ydk 32 x i
  have d2 := ydk 32 y i
  rw [← he] at d2
  by_cases hlt : dg 32 x i < dg 32 y i
  ·rw [yaB (by simpa using hlt)]
   refine h1 (Classical.byContradiction fun hc => ?_)
   have := Nat.div_le_div_right (c := 2 ^ (32 * i)) (show y ≤ x by omega)
   omega
  ·rw [yau (by simpa using hlt)]
   by_cases hgt : dg 32 y i < dg 32 x i
   ·rw [yaB (by simpa using hgt)]
    refine h2 (Classical.byContradiction fun hc => ?_)
    have := Nat.div_le_div_right (c := 2 ^ (32 * i)) (show x ≤ y by omega)
    omega
   ·rw [yau (by simpa using hgt)]
    exact ih (by omega) (by omega) (by omega) h1 h2 h3 j rfl
theorem ygb (x y n m : Nat) (hn : n ≤ 1000000000) (hm : m ≤ 1000000000) (hxn : n = wl 32 x) (hym : m = wl 32 y) (K : Int → Prop) (h : K (sgn x y)) : zbb n (G 32 x) m (G 32 y) K := by
 rw [zbb.is]; unfold zbb.d
 have h32 : (32 : Nat) ≠ 0 := by omega
 by_cases hlt : n < m
 ·have : x < y := Classical.byContradiction fun hc => by have := ybn h32 (show y ≤ x by omega); omega
  rw [yaB (yaS (by omega))]
  unfold sgn at h; rwa [if_pos this] at h
 ·rw [yau (ya1 (by omega))]
  by_cases hgt : m < n
  ·have : y < x := Classical.byContradiction fun hc => by have := ybn h32 (show x ≤ y by omega); omega
   rw [yaB (yaS (by omega))]
   unfold sgn at h; rwa [if_neg (by omega), if_pos this] at h
  ·rw [yau (ya1 (by omega)), yap (by omega) (by omega)]
   have h1 := yeP 32 h32 x
   have h2 := yeP 32 h32 y
   have hnm : n = m := by omega
   have q : x / 2 ^ (32 * n) = y / 2 ^ (32 * n) := by
    rw [Nat.div_eq_of_lt (hxn ▸ h1), Nat.div_eq_of_lt (by rw [hnm, hym]; exact h2)]
   refine ⟨n + 1, ykW x y n m _ _ hn q n (Nat.le_refl _) (by omega) q (fun hl => ?_) (fun hl => ?_) (fun he => ?_) 0 rfl⟩
   ·unfold sgn at h; rwa [if_pos hl] at h
   ·unfold sgn at h; rwa [if_neg (by omega), if_pos hl] at h
   ·unfold sgn at h; rwa [if_neg (by omega), if_neg (by omega)] at h
end Go.Ev.S

/- Natural numbers as rows of words: sums, differences, products. -/
set_option linter.unusedVariables false
set_option linter.unusedSimpArgs false
set_option maxRecDepth 8000
namespace Go.Ev.S
open Go Go.Ev
theorem ykB {k N j s : Nat} {P : Nat} (hP : P = 2 ^ (k * j)) : ∃ N', N' + dg k N j * P = N + s % 2 ^ k * P ∧ N' + s / 2 ^ k * 2 ^ (k * (j + 1)) + dg k N j * P = N + s * P := by
 have h := ygU k N j
 refine ⟨N % 2 ^ (k * j) + s % 2 ^ k * 2 ^ (k * j) + N / 2 ^ (k * (j + 1)) * 2 ^ (k * (j + 1)), ?_, ?_⟩
 ·rw [hP]; omega
 ·have h2 := Nat.div_add_mod s (2 ^ k)
  have h3 : s * P = s % 2 ^ k * P + s / 2 ^ k * 2 ^ (k * (j + 1)) := by
   conv => lhs; rw [← h2]
   rw [Nat.add_mul, yb1, ← hP, Nat.mul_comm (2 ^ k), Nat.mul_assoc, Nat.mul_comm (2 ^ k)]
   omega
  rw [h3, hP]; omega
theorem ytG (x n : Nat) (hx : x < 2 ^ (32 * n)) : ovl 0 (ygy n (n + 1)) (G 32 x) (fun _ => 0) = G 32 x := by
 funext i
 have hm : ygy n (n + 1) = n := by unfold ygy; exact Nat.min_eq_left (by omega)
 rw [hm]
 unfold ovl
 by_cases hi : i < n
 ·have : (Nat.ble 0 i && Nat.blt i (0 + n)) = true := by simp [hi]
  rw [this]; rfl
 ·have : (Nat.ble 0 i && Nat.blt i (0 + n)) = false := by
   rw [Bool.eq_false_iff]; intro h; exact hi (by simpa using h)
  rw [this]
  show (0 : Int) = G 32 x i
  rw [ybe, ydZ 32 x n i hx (by omega)]; rfl
theorem B32 : (2 : Nat) ^ 32 = 4294967296 := rfl
theorem yly (x y n m : Nat) (hn : n ≤ 1000000) (hm : m ≤ n) (hx : x < 2 ^ (32 * n)) (hy : y < 2 ^ (32 * m)) (c0 m0 : Nat) (k0 : Nat → Nat → Nat → (Nat → Int) → Prop) (h : k0 (n + 1) c0 m0 (G 32 (x + y))) :
  ∀ (j i N c : Nat), i + j = n + 1 → N + c * 2 ^ (32 * i) = x + y % 2 ^ (32 * i) → c < 4294967296 → zbl.l7 k0 (j + 1) m (G 32 y) (n + 1) c0 c i m0 (G 32 N) := by
 have hxy : x + y < 2 ^ (32 * (n + 1)) := by
  have h1 : y < 2 ^ (32 * n) := Nat.lt_of_lt_of_le hy (ybQ hm)
  rw [yb1, B32]; omega
 have fin : ∀ (i N : Nat), m ≤ i → N = x + y % 2 ^ (32 * i) → N = x + y := by
  intro i N hi hN
  rw [hN, Nat.mod_eq_of_lt (Nat.lt_of_lt_of_le hy (ybQ hi))]
 intro j
 induction j with
 | zero =>
  intro i N c hi hN hc
  have hi : i = n + 1 := by omega
  have hc0 : c = 0 := by
   apply Classical.byContradiction
   intro hne
   have h1 : 1 * 2 ^ (32 * i) ≤ c * 2 ^ (32 * i) := Nat.mul_le_mul_right _ (by omega)
   have h2 := Nat.mod_le y (2 ^ (32 * i))
   rw [hi] at h1 hN h2
   omega
  have hN2 := fin i N (by omega) (by rw [hc0] at hN; omega)
  unfold zbl.l7 zbl.l7.step
  rw [yau (ya1 (by omega)), yau (ya1 (by omega)), hN2]
  exact h
 | succ j ih =>
  intro i N c hi hN hc
  have hdN := yaV 32 N i
  have hdy := yaV 32 y i
  rw [B32] at hdN hdy
  obtain ⟨N', s1, s2⟩ := ykB (k := 32) (N := N) (j := i) (s := c + dg 32 N i + dg 32 y i) rfl
  have hy1 := ya7 32 y i
  have next := ih (i + 1) N' ((c + dg 32 N i + dg 32 y i) / 4294967296) (by omega) (by
   rw [hy1]
   rw [Nat.add_mul, Nat.add_mul] at s2
   rw [B32] at s2
   omega) (by omega)
  have e : ((i + 1 : Nat) : Int) = (i : Int) + 1 := by omega
  rw [e] at next
  have hG : upd (G 32 N) i (((c + dg 32 N i + dg 32 y i) % 4294967296 : Nat) : Int) = G 32 N' := yfw s1 (Nat.mod_lt _ (by omega))
  unfold zbl.l7 zbl.l7.step
  by_cases hlt : i < m
  ·have e1 : ((c : Int) + (dg 32 N i : Int) + (dg 32 y i : Int)) / 4294967296 = (((c + dg 32 N i + dg 32 y i) / 4294967296 : Nat) : Int) := by omega
   have e2 : ((c : Int) + (dg 32 N i : Int) + (dg 32 y i : Int)) % 4294967296 = (((c + dg 32 N i + dg 32 y i) % 4294967296 : Nat) : Int) := by omega
   simp (disch := omega) only [yaS, ya4, yay, yaX, Bool.and_self, Int.toNat_natCast, ybe, yaO, yfR, yan, ycM, ybL, e1, e2]
   rw [hG]; exact next
  ·have hd0 : dg 32 y i = 0 := ydZ 32 y m i hy (by omega)
   rw [hd0, Nat.add_zero] at next hG
   rw [yau (ya1 (by omega))]
   by_cases hc0 : c = 0
   ·rw [yau (ya1 (by omega)), fin i N (by omega) (by rw [hc0] at hN; omega)]
    exact h
   ·have e1 : ((c : Int) + (dg 32 N i : Int)) / 4294967296 = (((c + dg 32 N i) / 4294967296 : Nat) : Int) := by omega
    have e2 : ((c : Int) + (dg 32 N i : Int)) % 4294967296 = (((c + dg 32 N i) % 4294967296 : Nat) : Int) := by omega
    simp (disch := omega) only [yaS, ya1, ya4, yay, yaX, ydB, Bool.and_self, Int.toNat_natCast, ybe, yaO, yfR, yan, ycM, ybL, e1, e2]
    rw [hG]; exact next
theorem yjs (x y n m : Nat) (hn : n ≤ 1000000) (hm : m ≤ 1000000) (hx : x < 2 ^ (32 * n)) (hy : y < 2 ^ (32 * m)) (K : Nat → (Nat → Int) → Prop) (h : K (wl 32 (x + y)) (G 32 (x + y))) : zbl n (G 32 x) m (G 32 y) K := by
 have main : ∀ (x y n m : Nat), n ≤ 1000000 → m ≤ n → x < 2 ^ (32 * n) → y < 2 ^ (32 * m) → K (wl 32 (x + y)) (G 32 (x + y)) →
   ∃ f, zbl.l7 (fun y0 y1 y2 y3 => zbd y0 y1 y2 y3 fun y0 y1 y2 y3 => K y0 y3) f m (G 32 y) (n + 1) (n + 1) 0 0 (n + 1) (G 32 x) := by
  intro x y n m hn hm hx hy h
  refine ⟨n + 2, ?_⟩
  have := yly x y n m hn hm hx hy (n + 1) (n + 1) (fun y0 y1 y2 y3 => zbd y0 y1 y2 y3 fun y0 y1 y2 y3 => K y0 y3) ?_ (n + 1) 0 x 0 (by omega) (by simp [Nat.mod_one]) (by omega)
  ·exact this
  ·refine ybZ (n + 1) (n + 1) (n + 1) (x + y) (by omega) (Nat.le_refl _) ?_ _ fun c => h
   have h1 : y < 2 ^ (32 * n) := Nat.lt_of_lt_of_le hy (ybQ hm)
   rw [yb1, B32]; omega
 rw [zbl.is]; unfold zbl.d
 by_cases hlt : n < m
 ·have e1 : Int.toNat ((m : Int) + 1) = m + 1 := by omega
  simp (disch := omega) only [yaS, ya4, yan, yay, yaX, Bool.and_self, e1]
  rw [ytG y m hy]
  exact main y x m n hm (by omega) hy hx (by rw [Nat.add_comm]; exact h)
 ·have e1 : Int.toNat ((n : Int) + 1) = n + 1 := by omega
  simp (disch := omega) only [ya1, ya4, yan, yay, ydB, Bool.and_self, e1]
  rw [ytG x n hx]
  exact main x y n m hn (by omega) hx hy h
theorem yj8 (x y n m : Nat) (hn : n ≤ 1000000) (hm : m ≤ 1000000) (hx : x < 2 ^ (32 * n)) (hy : y < 2 ^ (32 * m)) (hle : y ≤ x) (c0 m0 : Nat) (k0 : Nat → Nat → Nat → (Nat → Int) → Prop) (h : k0 n c0 m0 (G 32 (x - y))) :
  ∀ (j i z : Nat) (c : Int), i + j = n → z < 2 ^ (32 * i) → (z : Int) + c * (2 ^ (32 * i) : Nat) = (x % 2 ^ (32 * i) : Nat) - (y % 2 ^ (32 * i) : Nat) → -2 ≤ c → c ≤ 0 →
   zbh.l4 k0 (j + 1) n (G 32 x) m (G 32 y) n c0 c n i m0 (G 32 z) := by
 intro j
 induction j with
 | zero =>
  intro i z c hi hz hN hc hc'
  have hi : i = n := by omega
  subst hi
  unfold zbh.l4 zbh.l4.step
  rw [yau (ya1 (by omega))]
  have hyi : y < 2 ^ (32 * i) := by omega
  rw [Nat.mod_eq_of_lt hx, Nat.mod_eq_of_lt hyi] at hN
  have hc0 : c = 0 := by
   rcases (show c = 0 ∨ c ≤ -1 by omega) with h0 | h0
   ·exact h0
   ·exfalso
    have : c * ((2 ^ (32 * i) : Nat) : Int) ≤ (-1) * ((2 ^ (32 * i) : Nat) : Int) := Int.mul_le_mul_of_nonneg_right h0 (by omega)
    omega
  rw [hc0] at hN
  have : z = x - y := by omega
  rw [this]; exact h
 | succ j ih =>
  intro i z c hi hz hN hc hc'
  have hdx := yaV 32 x i
  have hdy := yaV 32 y i
  rw [B32] at hdx hdy
  have hx1 := ya7 32 x i
  have hy1 := ya7 32 y i
  have step : ∀ (s : Int), s = c + dg 32 x i - dg 32 y i → zbh.l4 k0 (j + 1) n (G 32 x) m (G 32 y) n c0 (s / 4294967296) n ((i : Int) + 1) m0 (upd (G 32 z) i (s % 4294967296)) := by
   intro s hs
   have hw : s % 4294967296 = ((s % 4294967296).toNat : Int) := by omega
   have hwl : (s % 4294967296).toNat < 2 ^ 32 := by rw [B32]; omega
   have e : ((i + 1 : Nat) : Int) = (i : Int) + 1 := by omega
   rw [hw, yhp 32 z _ i hz hwl, ← e]
   refine ih (i + 1) _ _ (by omega) (ygm 32 z _ i hz hwl) ?_ (by omega) (by omega)
   rw [hx1, hy1, yb1, B32]
   generalize 2 ^ (32 * i) = P at *
   have h4 := Int.emod_add_mul_ediv s 4294967296
   have h5 : s * (P : Int) = (s % 4294967296).toNat * (P : Int) + s / 4294967296 * ((P : Int) * 4294967296) := by
    conv => lhs; rw [← h4]
    rw [← hw, Int.add_mul, Int.mul_comm (4294967296 : Int), Int.mul_assoc, Int.mul_comm (4294967296 : Int)]
   have h6 : s * (P : Int) = c * P + (dg 32 x i : Int) * P - (dg 32 y i : Int) * P := by rw [hs, Int.sub_mul, Int.add_mul]
   have c1 : ((z + (s % 4294967296).toNat * P : Nat) : Int) = (z : Int) + ((s % 4294967296).toNat : Int) * (P : Int) := by simp
   have c2 : ((x % P + dg 32 x i * P : Nat) : Int) = ((x % P : Nat) : Int) + (dg 32 x i : Int) * (P : Int) := by simp
   have c3 : ((y % P + dg 32 y i * P : Nat) : Int) = ((y % P : Nat) : Int) + (dg 32 y i : Int) * (P : Int) := by simp
   have c4 : ((P * 4294967296 : Nat) : Int) = (P : Int) * 4294967296 := by simp
   rw [c1, c2, c3, c4]
   omega
  unfold zbh.l4 zbh.l4.step
  by_cases hlt : i < m
  ·simp (disch := omega) only [yaS, ya4, yay, yaX, Bool.and_self, Int.toNat_natCast, ybe, ygo, yan, yap, yfV, ybL]
   exact step _ rfl
  ·have hd0 : dg 32 y i = 0 := ydZ 32 y m i hy (by omega)
   simp (disch := omega) only [yaS, ya1, ya4, yay, yaX, ydB, Bool.and_self, Int.toNat_natCast, ybe, ygo, yan, yap, yfV, ybL]
   exact step _ (by rw [hd0]; omega)
theorem ymV (x y n m : Nat) (hn : n ≤ 1000000) (hm : m ≤ 1000000) (hx : x < 2 ^ (32 * n)) (hy : y < 2 ^ (32 * m)) (hle : y ≤ x) (K : Nat → (Nat → Int) → Prop) (h : K (wl 32 (x - y)) (G 32 (x - y))) : zbh n (G 32 x) m (G 32 y) K := by
 rw [zbh.is]; unfold zbh.d
 simp (disch := omega) only [ya4, yay, Bool.and_self, Int.toNat_natCast]
 refine ⟨n + 1, ?_⟩
 have := yj8 x y n m hn hm hx hy hle n n (fun y0 y1 y2 y3 => zbd y0 y1 y2 y3 fun y0 y1 y2 y3 => K y0 y3) ?_ n 0 0 0 (by omega) (Nat.two_pow_pos _) (by simp [Nat.mod_one]) (by omega) (by omega)
 ·rw [ybY] at this; exact this
 ·exact ybZ n n n (x - y) (by omega) (Nat.le_refl _) (by omega) _ fun c => h
theorem yqp (a b c d : Nat) (ha : a < 4294967296) (hb : b < 4294967296) (hc : c < 4294967296) (hd : d < 4294967296) : c + (a * b + d) < 18446744073709551616 := by
 have : a * b ≤ 4294967295 * 4294967295 := Nat.mul_le_mul (by omega) (by omega)
 omega
theorem yh0 (y m : Nat) (hm : m ≤ 1000000) (hy : y < 2 ^ (32 * m)) (i a : Nat) (hi : i ≤ 1000000) (ha : a < 4294967296) (n Z c0 m0 q : Nat) (hq : q ≤ 3000000) (him : i + m < q) (f1 : Nat → Int) (x7 : Nat) (x9 : Int)
  (k0 : Nat → (Nat → Int) → Nat → Nat → Int → Int → Nat → (Nat → Int) → Int → Int → Nat → (Nat → Int) → Prop)
  (h : ∀ N c, c < 4294967296 → N + c * 2 ^ (32 * (i + m)) = Z + a * y * 2 ^ (32 * i) → dg 32 N (i + m) = dg 32 Z (i + m) → k0 m (G 32 y) q c0 i c x7 f1 x9 i m0 (G 32 N)) :
  ∀ (j k N c : Nat), k + j = m → c < 4294967296 → N + c * 2 ^ (32 * (i + k)) = Z + a * (y % 2 ^ (32 * k)) * 2 ^ (32 * i) → (∀ t, i + k ≤ t → dg 32 N t = dg 32 Z t) →
   zbm.l7 k0 (j + 1) m (G 32 y) q c0 i a c x7 f1 x9 i m (G 32 y) m k m0 (G 32 N) := by
 intro j
 induction j with
 | zero =>
  intro k N c hk hc hN ht
  have hkm : k = m := by omega
  subst hkm
  unfold zbm.l7 zbm.l7.step
  rw [yau (ya1 (by omega))]
  rw [Nat.mod_eq_of_lt hy] at hN
  exact h N c hc hN (ht _ (Nat.le_refl _))
 | succ j ih =>
  intro k N c hk hc hN ht
  have hdN := yaV 32 N (i + k)
  have hdy := yaV 32 y k
  rw [B32] at hdN hdy
  have hs := yqp a (dg 32 y k) c (dg 32 N (i + k)) ha hdy hc hdN
  have hy1 := ya7 32 y k
  obtain ⟨N', s1, s2⟩ := ykB (k := 32) (N := N) (j := i + k) (s := c + (a * dg 32 y k + dg 32 N (i + k))) rfl
  have e : ((k + 1 : Nat) : Int) = (k : Int) + 1 := by omega
  have hw : (c + (a * dg 32 y k + dg 32 N (i + k))) % 4294967296 < 2 ^ 32 := Nat.mod_lt _ (by omega)
  have hG : upd (G 32 N) (i + k) (((c + (a * dg 32 y k + dg 32 N (i + k))) % 4294967296 : Nat) : Int) = G 32 N' := yfw s1 hw
  have next := ih (k + 1) N' ((c + (a * dg 32 y k + dg 32 N (i + k))) / 4294967296) (by omega) (by omega) (by
   rw [hy1, show i + (k + 1) = i + k + 1 from by omega, Nat.mul_add a, Nat.add_mul, Nat.mul_assoc a, Nat.mul_assoc a (dg 32 y k * _)]
   rw [Nat.add_mul, Nat.add_mul] at s2
   rw [B32] at s2
   have e3 : a * (dg 32 y k * 2 ^ (32 * k) * 2 ^ (32 * i)) = a * dg 32 y k * 2 ^ (32 * (i + k)) := by
    rw [Nat.mul_assoc (dg 32 y k), ← Nat.pow_add, show 32 * k + 32 * i = 32 * (i + k) from by omega, Nat.mul_assoc]
   rw [e3]
   rw [Nat.mul_assoc a] at hN
   omega) (fun t htt => by
    have := congrFun hG t
    rw [ycP _ _ _ _ (by omega), ybe, ybe] at this
    rw [← ht t (by omega)]; omega)
  rw [e] at next
  have e0 : Int.toNat ((i : Int) + k) = i + k := by omega
  have e4 : ((a : Int) * (dg 32 y k : Int)) = ((a * dg 32 y k : Nat) : Int) := by simp
  have e1 : ((c : Int) + (((a * dg 32 y k : Nat) : Int) + (dg 32 N (i + k) : Int))) / 4294967296 = (((c + (a * dg 32 y k + dg 32 N (i + k))) / 4294967296 : Nat) : Int) := by omega
  have e2 : ((c : Int) + (((a * dg 32 y k : Nat) : Int) + (dg 32 N (i + k) : Int))) % 4294967296 = (((c + (a * dg 32 y k + dg 32 N (i + k))) % 4294967296 : Nat) : Int) := by omega
  unfold zbm.l7 zbm.l7.step
  have e5 : ybS .u64 (a : Int) (dg 32 y k : Int) = ((a * dg 32 y k : Nat) : Int) := by rw [ym2 (by rw [e4]; omega) (by rw [e4]; omega), e4]
  simp (disch := omega) only [yaS, ya4, yay, yaX, Bool.and_self, Int.toNat_natCast, ybe, yaO, yfR, yan, ycM, ybL, e0, e5, e1, e2]
  rw [hG]; exact next
theorem yiv (x y n m : Nat) (hn : n ≤ 1000000) (hm : m ≤ 1000000) (hx : x < 2 ^ (32 * n)) (hy : y < 2 ^ (32 * m)) (c0 m0 : Nat) (k0 : Nat → Nat → Nat → (Nat → Int) → Prop) (h : k0 (n + m) c0 m0 (G 32 (x * y))) :
  ∀ (j i : Nat), i + j = n → zbm.l3 k0 (j + 1) m (G 32 y) (n + m) c0 n (G 32 x) n i m0 (G 32 (x % 2 ^ (32 * i) * y)) := by
 intro j
 induction j with
 | zero =>
  intro i hi
  unfold zbm.l3 zbm.l3.step
  rw [yau (ya1 (by omega)), show i = n from by omega, Nat.mod_eq_of_lt hx]
  exact h
 | succ j ih =>
  intro i hi
  have ih := ih (i + 1) (by omega)
  have e : ((i + 1 : Nat) : Int) = (i : Int) + 1 := by omega
  rw [e] at ih
  unfold zbm.l3 zbm.l3.step
  simp (disch := omega) only [yaS, ya4, yay, yaX, Bool.and_self, Int.toNat_natCast, ybe]
  have hdx := yaV 32 x i
  rw [B32] at hdx
  have hZ : x % 2 ^ (32 * i) * y < 2 ^ (32 * (i + m)) := by
   rw [Nat.mul_add, Nat.pow_add]
   exact Nat.mul_lt_mul_of_lt_of_lt (Nat.mod_lt _ (Nat.two_pow_pos _)) hy
  refine ⟨m + 1, yh0 y m hm hy i (dg 32 x i) (by omega) hdx n (x % 2 ^ (32 * i) * y) c0 m0 (n + m) (by omega) (by omega) (G 32 x) n n _ ?_ m 0 _ 0 (by omega) (by omega) (by simp [Nat.mod_one]) (fun t _ => rfl)⟩
  intro N c hc hN hd
  have hd0 : dg 32 N (i + m) = 0 := by rw [hd]; exact ydD 32 _ _ hZ
  simp (disch := omega) only [yan, yaS, ya4, yay, Bool.and_self, ybL]
  have e0 : Int.toNat ((i : Int) + m) = i + m := by omega
  have e1 : (c : Int) % 4294967296 = (c : Int) := by omega
  rw [e0, e1, yfw (N' := x % 2 ^ (32 * (i + 1)) * y)]
  ·exact ih
  ·rw [hd0, Nat.zero_mul, Nat.add_zero, hN, ya7, Nat.add_mul, Nat.mul_assoc, Nat.mul_assoc, Nat.mul_comm y]
  ·exact hc
theorem ykU (x y n m : Nat) (hn : n ≤ 1000000) (hm : m ≤ 1000000) (hx : x < 2 ^ (32 * n)) (hy : y < 2 ^ (32 * m)) (K : Nat → (Nat → Int) → Prop) (h : K (wl 32 (x * y)) (G 32 (x * y))) : zbm n (G 32 x) m (G 32 y) K := by
 rw [zbm.is]; unfold zbm.d
 have e0 : Int.toNat ((n : Int) + m) = n + m := by omega
 simp (disch := omega) only [yan, ya4, yay, Bool.and_self, e0]
 refine ⟨n + 1, ?_⟩
 have := yiv x y n m hn hm hx hy (n + m) (n + m) (fun y0 y1 y2 y3 => zbd y0 y1 y2 y3 fun y0 y1 y2 y3 => K y0 y3) ?_ n 0 (by omega)
 ·rw [Nat.mul_zero, Nat.pow_zero, Nat.mod_one, Nat.zero_mul, ybY] at this; exact this
 ·refine ybZ (n + m) (n + m) (n + m) (x * y) (by omega) (Nat.le_refl _) ?_ _ fun c => h
  rw [Nat.mul_add, Nat.pow_add]
  exact Nat.mul_lt_mul_of_lt_of_lt hx hy
end Go.Ev.S

/- The functions of natural numbers: held against each other, added, subtracted, multiplied; their texts. -/
set_option linter.unusedVariables false
set_option linter.unusedSimpArgs false
set_option maxRecDepth 8000
namespace Go.Ev.S
open Go Go.Ev
theorem yc3 (a b : List UInt8) (K : Bool → Prop) : zbk a b K = K (decide (May a ∧ May b)) := by
 rw [zbk.is]; unfold zbk.d
 rw [yaW, yaW]
 by_cases ha : May a
 ·rw [if_pos ha, yaB (by rfl)]
  by_cases hb : May b
  ·rw [if_pos hb]; simp [ha, hb]; rfl
  ·rw [if_neg hb]; simp [ha, hb]; rfl
 ·rw [if_neg ha, yau (by rfl)]; simp [ha]
theorem yrQ (x : Nat) : wl 32 x = (wl 8 x + 3) / 4 := by
 have e : ∀ m, wl 32 x ≤ m ↔ wl 8 x ≤ 4 * m := fun m => by
  rw [ydW 32 (by omega), ydW 8 (by omega), show 8 * (4 * m) = 32 * m from by omega]
 have h1 := (e (wl 32 x)).1 (Nat.le_refl _)
 have h2 := (e ((wl 8 x + 3) / 4)).2 (by omega)
 omega
theorem ylS {a : List UInt8} (h : yjc a = true) : wl 8 (val a) = a.length := by rw [ytZ, yju h]
theorem ynx {a : List UInt8} (h : yjc a = true) : (a.length + 3) / 4 = wl 32 (val a) := by rw [yrQ, ylS h]
theorem ysc {x y n : Nat} (hx : wl 32 x ≤ n) (hy : wl 32 y ≤ n) : wl 32 (x + y) ≤ n + 1 := by
 have h1 := (ydW 32 (by omega) _ _).1 hx
 have h2 := (ydW 32 (by omega) _ _).1 hy
 exact (ydW 32 (by omega) _ _).2 (by rw [yb1, B32]; omega)
theorem May.words {a : List UInt8} (h : May a) (K : Nat → (Nat → Int) → Prop) (hk : K (wl 32 (val a)) (G 32 (val a))) : zbq a K := by
 refine ygn a (by have := h.1; omega) K ?_
 rw [ynx h.2]; exact hk
theorem May.wl {a : List UInt8} (h : May a) : wl 32 (val a) ≤ 4096 := by rw [← ynx h.2]; have := h.1; omega
theorem May.lt {a : List UInt8} (h : May a) : val a < 2 ^ (32 * Ev.S.wl 32 (val a)) := yeP 32 (by omega) _
theorem May.nb {a : List UInt8} (h : May a) : nb (val a) = a := yju h.2
theorem ybW (x : Nat) : x < 2 ^ (32 * wl 32 x) := yeP 32 (by omega) _
def yo8 (K : List UInt8 → Int → Prop) (x : Nat) : Prop := if 16384 < (nb x).length then K [] 4 else K (nb x) 0
theorem yoP (a b : List UInt8) (K : Int → Int → Prop) (h1 : ¬ (May a ∧ May b) → K 0 2) (h2 : May a → May b → K (sgn (val a) (val b)) 0) : zas a b K := by
 rw [zas.is]; unfold zas.d
 rw [yc3]
 by_cases h : May a ∧ May b
 ·rw [yau (by simp [h])]
  refine h.1.words _ (h.2.words _ ?_)
  have := h.1.wl; have := h.2.wl
  exact ygb _ _ _ _ (by omega) (by omega) rfl rfl _ (h2 h.1 h.2)
 ·rw [yaB (by simp [h])]; exact h1 h
theorem yoo (a b : List UInt8) (K : List UInt8 → Int → Prop) (h1 : ¬ (May a ∧ May b) → K [] 2) (h2 : May a → May b → yo8 K (val a + val b)) : zaq a b K := by
 rw [zaq.is]; unfold zaq.d
 rw [yc3]
 by_cases h : May a ∧ May b
 ·rw [yau (by simp [h])]
  refine h.1.words _ (h.2.words _ ?_)
  have w1 := h.1.wl; have w2 := h.2.wl
  refine yjs _ _ _ _ (by omega) (by omega) h.1.lt h.2.lt _ ?_
  refine yhu _ _ ?_ (ybW _) _ (h2 h.1 h.2)
  have := ysc w1 w2
  omega
 ·rw [yaB (by simp [h])]; exact h1 h
theorem yjS (x y : Nat) : ltI (sgn x y) 0 = decide (x < y) := by
 unfold sgn
 by_cases h : x < y
 ·rw [if_pos h, yaS (by omega)]; simp [h]
 ·rw [if_neg h]
  by_cases h2 : y < x
  ·rw [if_pos h2, ya1 (by omega)]; simp [h]
  ·rw [if_neg h2, ya1 (by omega)]; simp [h]
theorem ykr : ∀ (a b : List UInt8), a.length = b.length → Op.bytesLess a b = decide (val a < val b) := by
 intro a
 induction a with
 | nil => intro b h; cases b with
  | nil => rfl
  | cons _ _ => simp at h
 | cons x l ih =>
  intro b h
  cases b with
  | nil => exact absurd h (by simp)
  | cons y r =>
   have hl : l.length = r.length := by simpa using h
   have h1 := ygg l
   have h2 := ygg r
   rw [hl] at h1
   rw [yg6, yg6, hl]
   simp only [Op.bytesLess]
   rw [ih r hl]
   have hP := Nat.pow_pos (n := r.length) (show 0 < 256 by omega)
   generalize 256 ^ r.length = P at *
   by_cases hxy : x = y
   ·subst hxy; simp
   ·have hne : x.toNat ≠ y.toNat := fun e => hxy (UInt8.toNat_inj.1 e)
    have e1 : (x == y) = false := by simpa using hxy
    rw [e1, Bool.false_and, Bool.or_false]
    rw [decide_eq_decide, UInt8.lt_iff_toNat_lt]
    constructor
    ·intro hlt
     have : (x.toNat + 1) * P ≤ y.toNat * P := Nat.mul_le_mul_right _ hlt
     rw [Nat.add_mul] at this; omega
    ·intro hlt
     apply Classical.byContradiction
     intro hc
     have : (y.toNat + 1) * P ≤ x.toNat * P := Nat.mul_le_mul_right _ (by omega)
     rw [Nat.add_mul] at this; omega
theorem ysy (a b : List UInt8) (h : a.length = b.length) : ltS a b = decide (val a < val b) := ykr a b h
theorem yjI (a b : List UInt8) : eqS a b = decide (a = b) := by
 unfold eqS
 by_cases h : a = b <;> simp [h]
def yui (n : Nat) : UInt8 := UInt8.ofNat (if n < 10 then 48 + n else 87 + n)
def hx (x : Nat) : List UInt8 := if h : x = 0 then [] else hx (x / 16) ++ [yui (x % 16)]
decreasing_by omega
theorem ytO {a b : Nat} (h : a ≤ b) : leN a b = true := Nat.ble_eq_true_of_le h
end Go.Ev.S

/- Natural numbers as rows of words: moved to the left and to the right; how long they are. -/
set_option linter.unusedVariables false
set_option linter.unusedSimpArgs false
set_option maxRecDepth 8000
namespace Go.Ev.S
open Go Go.Ev
theorem ye0 {d m r : Nat} (hd : d < 2 ^ r) (hm : m % 2 ^ r = 0) : d ||| m = d + m := by
 have h5 := Nat.div_add_mod m (2 ^ r)
 rw [hm, Nat.add_zero, Nat.mul_comm] at h5
 have := Nat.shiftLeft_add_eq_or_of_lt hd (m / 2 ^ r)
 rw [Nat.shiftLeft_eq, h5] at this
 rw [Nat.or_comm, ← this, Nat.add_comm]
theorem B64 : (2 : Nat) ^ 64 = 18446744073709551616 := rfl
theorem ylq (a r : Nat) (ha : a < 4294967296) (hr : r < 32) : yb0 .u64 (a : Int) (r : Int) = ((a * 2 ^ r : Nat) : Int) ∧ a * 2 ^ r < 9223372036854775808 := by
 have h1 : a * 2 ^ r < 2 ^ 63 := by
  have h2 : a * 2 ^ r < 2 ^ 32 * 2 ^ 31 := Nat.mul_lt_mul_of_lt_of_le (by rw [B32]; exact ha) (Nat.pow_le_pow_right (by omega) (by omega)) (Nat.two_pow_pos _)
  rwa [← Nat.pow_add] at h2
 have e63 : (2 : Nat) ^ 63 = 9223372036854775808 := rfl
 have hb : IntKind.bits .u64 = 64 := rfl
 refine ⟨?_, by omega⟩
 rw [yn9 (k := .u64) rfl a r (by rw [hb]; omega), hb, Nat.mod_eq_of_lt (by rw [B64]; omega)]
theorem ykK (s B P : Nat) : s % B * P + s / B * (P * B) = s * P := by
 have := Nat.div_add_mod s B
 conv => rhs; rw [← this]
 rw [Nat.add_mul, Nat.mul_comm B, Nat.mul_assoc, Nat.mul_comm B, Nat.add_comm]
theorem ysH (x i s t y N : Nat) (ht : t = i + s / 32) (hy : dg 32 x i * 2 ^ (s % 32) = y) (hNN : x % 2 ^ (32 * i) * 2 ^ s = N) :
  ∃ N1, upd (G 32 N) t (((dg 32 N t ||| y % 4294967296 : Nat)) : Int) = G 32 N1 ∧ dg 32 N1 (t + 1) = 0 ∧ upd (G 32 N1) (t + 1) ((y / 4294967296 : Nat) : Int) = G 32 (x % 2 ^ (32 * (i + 1)) * 2 ^ s) := by
 have hdx := yaV 32 x i
 rw [B32] at hdx
 have hr : s % 32 < 32 := Nat.mod_lt _ (by omega)
 have hx := Nat.mod_lt x (Nat.two_pow_pos (32 * i))
 have hp : 2 ^ (32 * i) * 2 ^ s = 2 ^ (32 * t + s % 32) := by rw [← Nat.pow_add]; congr 1; omega
 have hN : N < 2 ^ (32 * t + s % 32) := by
  rw [← hp, ← hNN]; exact Nat.mul_lt_mul_of_pos_right hx (Nat.two_pow_pos _)
 have hlow := yjq 32 N t (s % 32) hN
 have hN1 : N < 2 ^ (32 * (t + 1)) := Nat.lt_of_lt_of_le hN (Nat.pow_le_pow_right (by omega) (by omega))
 have hym : y % 4294967296 % 2 ^ (s % 32) = 0 := by
  rw [show (4294967296 : Nat) = 2 ^ 32 from rfl, Nat.mod_mod_of_dvd _ (Nat.pow_dvd_pow 2 (by omega)), ← hy]
  exact Nat.mul_mod_left _ _
 have hor : dg 32 N t ||| y % 4294967296 = dg 32 N t + y % 4294967296 := ye0 hlow hym
 have hsum : dg 32 N t + y % 4294967296 < 2 ^ 32 := by
  rw [← hor]; exact Nat.or_lt_two_pow (yaV 32 N t) (by rw [B32]; exact Nat.mod_lt _ (by omega))
 have hyl : y / 4294967296 < 2 ^ 32 := by
  rw [B32, Nat.div_lt_iff_lt_mul (by omega), ← hy]
  have : dg 32 x i * 2 ^ (s % 32) < 2 ^ 32 * 2 ^ 32 := Nat.mul_lt_mul_of_lt_of_le (by rw [B32]; exact hdx) (Nat.pow_le_pow_right (by omega) (by omega)) (Nat.two_pow_pos _)
  rw [B32] at this; exact this
 have hG1 : upd (G 32 N) t (((dg 32 N t ||| y % 4294967296 : Nat)) : Int) = G 32 (N + y % 4294967296 * 2 ^ (32 * t)) := by
  rw [hor]
  refine yfw ?_ hsum
  rw [Nat.add_mul]; omega
 have hlt : N + y % 4294967296 * 2 ^ (32 * t) < 2 ^ (32 * (t + 1)) := by
  have hNl : N = N % 2 ^ (32 * t) + dg 32 N t * 2 ^ (32 * t) := by
   have := ya7 32 N t
   rw [Nat.mod_eq_of_lt hN1] at this; exact this
  have h1 := ygm 32 (N % 2 ^ (32 * t)) (dg 32 N t + y % 4294967296) t (Nat.mod_lt _ (Nat.two_pow_pos _)) hsum
  rw [Nat.add_mul] at h1
  omega
 refine ⟨N + y % 4294967296 * 2 ^ (32 * t), hG1, ydD 32 _ _ hlt, ?_⟩
 rw [yhp 32 _ _ (t + 1) hlt hyl]
 refine congrArg (G 32) ?_
 have h2 := ykK y 4294967296 (2 ^ (32 * t))
 rw [yb1, B32]
 have h3 : y * 2 ^ (32 * t) = dg 32 x i * 2 ^ (32 * i) * 2 ^ s := by
  rw [← hy, Nat.mul_assoc, ← Nat.pow_add, Nat.mul_assoc, ← Nat.pow_add]; congr 2; omega
 rw [ya7, Nat.add_mul, hNN, ← h3]
 omega
theorem ym7 (x n s : Nat) (hn : n ≤ 1000000) (hs : s ≤ 100000000) (hx : x < 2 ^ (32 * n)) (c0 m0 : Nat) (k0 : Nat → Nat → Nat → (Nat → Int) → Prop) (h : k0 (n + s / 32 + 1) c0 m0 (G 32 (x * 2 ^ s))) :
  ∀ (j i : Nat), i + j = n → zbo.l5 k0 (j + 1) s (n + s / 32 + 1) c0 n (G 32 x) n i m0 (G 32 (x % 2 ^ (32 * i) * 2 ^ s)) := by
 intro j
 induction j with
 | zero =>
  intro i hi
  unfold zbo.l5 zbo.l5.step
  rw [yau (ya1 (by omega)), show i = n from by omega, Nat.mod_eq_of_lt hx]
  exact h
 | succ j ih =>
  intro i hi
  have ih := ih (i + 1) (by omega)
  have e : ((i + 1 : Nat) : Int) = (i : Int) + 1 := by omega
  obtain ⟨N1, u1, u2, u3⟩ := ysH x i s _ _ _ rfl rfl rfl
  rw [e, ← u3] at ih
  have hd := yaV 32 x i
  rw [B32] at hd
  obtain ⟨q1, q2⟩ := ylq (dg 32 x i) (s % 32) hd (Nat.mod_lt _ (by omega))
  have e1 : Int.toNat ((i : Int) + (s : Int) / 32) = i + s / 32 := by omega
  have e2 : Int.toNat ((i : Int) + (s : Int) / 32 + 1) = i + s / 32 + 1 := by omega
  have e3 : (s : Int) % 32 = ((s % 32 : Nat) : Int) := by omega
  have e4 : ((dg 32 x i * 2 ^ (s % 32) : Nat) : Int) % 4294967296 = ((dg 32 x i * 2 ^ (s % 32) % 4294967296 : Nat) : Int) := by omega
  have e5 : ((dg 32 x i * 2 ^ (s % 32) : Nat) : Int) / 4294967296 % 4294967296 = ((dg 32 x i * 2 ^ (s % 32) / 4294967296 : Nat) : Int) := by omega
  have hb : IntKind.bits .u32 = 32 := rfl
  have o1 : orI .u32 ((dg 32 (x % 2 ^ (32 * i) * 2 ^ s) (i + s / 32) : Nat) : Int) ((dg 32 x i * 2 ^ (s % 32) % 4294967296 : Nat) : Int) = ((dg 32 (x % 2 ^ (32 * i) * 2 ^ s) (i + s / 32) ||| dg 32 x i * 2 ^ (s % 32) % 4294967296 : Nat) : Int) :=
   yr7 (k := .u32) rfl _ _ (by rw [hb]; exact yaV 32 _ _) (by rw [hb, B32]; exact Nat.mod_lt _ (by omega))
  have o2 : orI .u32 ((0 : Nat) : Int) ((dg 32 x i * 2 ^ (s % 32) / 4294967296 : Nat) : Int) = ((dg 32 x i * 2 ^ (s % 32) / 4294967296 : Nat) : Int) := by
   rw [yr7 (k := .u32) rfl _ _ (by rw [hb, B32]; omega) (by rw [hb, B32]; omega), Nat.zero_or]
  unfold zbo.l5 zbo.l5.step
  simp (disch := omega) only [yaS, ya1, ya4, yay, yaX, Bool.and_self, Bool.not_false, Int.toNat_natCast, ybw, yf9, yan, yaO, ybe, e1, e2, e3, q1, ybL, ycM, e4, e5, o1, u1, u2, o2]
  exact ih
theorem yiZ (x n s : Nat) (hn : n ≤ 1000000) (hs : s ≤ 100000000) (hx : x < 2 ^ (32 * n)) : x * 2 ^ s < 2 ^ (32 * (n + s / 32 + 1)) := by
 have : x * 2 ^ s < 2 ^ (32 * n) * 2 ^ s := Nat.mul_lt_mul_of_pos_right hx (Nat.two_pow_pos _)
 rw [← Nat.pow_add] at this
 exact Nat.lt_of_lt_of_le this (Nat.pow_le_pow_right (by omega) (by omega))
theorem yfp (x n s : Nat) (hn : n ≤ 1000000) (hs : s ≤ 100000000) (hx : x < 2 ^ (32 * n)) (K0 : Prop) (K1 : Nat → Nat → Nat → (Nat → Int) → Prop) (h0 : n = 0 → K0) (h1 : n ≠ 0 → ∀ c m, K1 (wl 32 (x * 2 ^ s)) c m (G 32 (x * 2 ^ s))) :
  zbo n (G 32 x) s K0 K1 := by
 rw [zbo.is]; unfold zbo.d
 by_cases hz : n = 0
 ·rw [yaB (ylW (by omega))]; exact h0 hz
 ·rw [yau (yjr (by omega))]
  have e1 : Int.toNat ((n : Int) + (s : Int) / 32 + 1) = n + s / 32 + 1 := by omega
  simp (disch := omega) only [ybw, yan, ya4, yay, Bool.and_self, e1]
  refine ⟨n + 1, ?_⟩
  have := ym7 x n s hn hs hx (n + s / 32 + 1) (n + s / 32 + 1) (fun y0 y1 y2 y3 => zbd y0 y1 y2 y3 fun y0 y1 y2 y3 => K1 y0 y1 y2 y3) ?_ n 0 (by omega)
  ·rw [Nat.mul_zero, Nat.pow_zero, Nat.mod_one, Nat.zero_mul, ybY] at this; exact this
  ·exact ybZ _ _ _ _ (by omega) (Nat.le_refl _) (yiZ x n s hn hs hx) _ fun c => h1 hz c _
theorem ysT (x s i : Nat) : (dg 32 x (i + s / 32) + dg 32 x (i + s / 32 + 1) * 4294967296) / 2 ^ (s % 32) % 4294967296 = dg 32 (x / 2 ^ s) i := by
 have hr : s % 32 < 32 := Nat.mod_lt _ (by omega)
 have h1 : dg 32 x (i + s / 32) + dg 32 x (i + s / 32 + 1) * 4294967296 = x / 2 ^ (32 * (i + s / 32)) % 2 ^ 64 := by
  have a := ydk 32 x (i + s / 32)
  have b := ydk 32 x (i + s / 32 + 1)
  rw [B32] at a b
  rw [a, b, B64]
  have c := yaV 32 x (i + s / 32)
  have d := yaV 32 x (i + s / 32 + 1)
  rw [B32] at c d
  omega
 rw [h1]
 unfold dg
 rw [Nat.div_div_eq_div_mul, ← Nat.pow_add]
 have h2 : (2 : Nat) ^ 64 = 2 ^ (s % 32) * 2 ^ (64 - s % 32) := by rw [← Nat.pow_add]; congr 1; omega
 rw [h2, Nat.mod_mul_right_div_self, Nat.div_div_eq_div_mul, ← Nat.pow_add, show (4294967296 : Nat) = 2 ^ 32 from rfl, Nat.mod_mod_of_dvd _ (Nat.pow_dvd_pow 2 (by omega))]
 congr 3; omega
theorem ykc (x n s : Nat) (hn : n ≤ 1000000) (hx : x < 2 ^ (32 * n)) (hs : s / 32 < n) (c0 m0 : Nat) (k0 : Nat → Nat → Nat → (Nat → Int) → Prop) (h : k0 (n - s / 32) c0 m0 (G 32 (x / 2 ^ s % 2 ^ (32 * (n - s / 32))))) :
  ∀ (j i : Nat), i + j = n - s / 32 → zbf.l5 k0 (j + 1) n (G 32 x) s (n - s / 32) c0 ((n - s / 32 : Nat) : Int) i m0 (G 32 (x / 2 ^ s % 2 ^ (32 * i))) := by
 intro j
 induction j with
 | zero =>
  intro i hi
  unfold zbf.l5 zbf.l5.step
  rw [yau (ya1 (by omega)), show i = n - s / 32 from by omega]
  exact h
 | succ j ih =>
  intro i hi
  have ih := ih (i + 1) (by omega)
  have e : ((i + 1 : Nat) : Int) = (i : Int) + 1 := by omega
  have hr : s % 32 < 32 := Nat.mod_lt _ (by omega)
  have hw := ysT x s i
  have hdw := yaV 32 (x / 2 ^ s) i
  rw [e, ya7, ← yhp 32 _ _ i (Nat.mod_lt _ (Nat.two_pow_pos _)) hdw, ← hw] at ih
  have hd := yaV 32 x (i + s / 32)
  have hd2 := yaV 32 x (i + s / 32 + 1)
  rw [B32] at hd hd2
  have e1 : Int.toNat ((i : Int) + (s : Int) / 32) = i + s / 32 := by omega
  have e2 : Int.toNat ((i : Int) + (s : Int) / 32 + 1) = i + s / 32 + 1 := by omega
  have e3 : (s : Int) % 32 = ((s % 32 : Nat) : Int) := by omega
  have hb : IntKind.bits .u64 = 64 := rfl
  have sh : ∀ z : Nat, ya8 .u64 (z : Int) ((s % 32 : Nat) : Int) = ((z / 2 ^ (s % 32) : Nat) : Int) := fun z => by
   rw [yd2 (k := .u64) (by rw [hb]; omega)]; simp
  unfold zbf.l5 zbf.l5.step
  by_cases hlt : i + s / 32 + 1 < n
  ·have o1 : orI .u64 ((dg 32 x (i + s / 32) : Nat) : Int) (yb0 .u64 ((dg 32 x (i + s / 32 + 1) : Nat) : Int) 32) = ((dg 32 x (i + s / 32) + dg 32 x (i + s / 32 + 1) * 4294967296 : Nat) : Int) := by
    have := yn9 (k := .u64) rfl (dg 32 x (i + s / 32 + 1)) 32 (by rw [hb]; omega)
    rw [show ((32 : Nat) : Int) = 32 from rfl] at this
    rw [this, hb, B32, Nat.mod_eq_of_lt (by rw [B64]; omega), yr7 (k := .u64) rfl _ _ (by rw [hb, B64]; omega) (by rw [hb, B64]; omega)]
    congr 1
    exact ye0 (r := 32) (by rw [B32]; exact hd) (by rw [B32]; exact Nat.mul_mod_left _ _)
   have e4 : (((dg 32 x (i + s / 32) + dg 32 x (i + s / 32 + 1) * 4294967296) / 2 ^ (s % 32) : Nat) : Int) % 4294967296 = (((dg 32 x (i + s / 32) + dg 32 x (i + s / 32 + 1) * 4294967296) / 2 ^ (s % 32) % 4294967296 : Nat) : Int) := by omega
   simp (disch := omega) only [yaS, ya1, ya4, yay, yaX, Bool.and_self, Bool.not_false, Int.toNat_natCast, ybw, yf9, yan, yaO, ybe, e1, e2, e3, o1, sh, ybL, e4]
   exact ih
  ·have hz : dg 32 x (i + s / 32 + 1) = 0 := ydZ 32 x n _ hx (by omega)
   rw [hz, Nat.zero_mul, Nat.add_zero] at ih
   have e4 : ((dg 32 x (i + s / 32) / 2 ^ (s % 32) : Nat) : Int) % 4294967296 = ((dg 32 x (i + s / 32) / 2 ^ (s % 32) % 4294967296 : Nat) : Int) := by omega
   simp (disch := omega) only [yaS, ya1, ya4, yay, yaX, ydB, Bool.and_self, Bool.not_false, Int.toNat_natCast, ybw, yf9, yan, yaO, ybe, e1, e2, e3, sh, ybL, e4]
   exact ih
theorem yeO (x n s : Nat) (hn : n ≤ 1000000) (hs : s < 9223372036854775808) (hx : x < 2 ^ (32 * n)) (K : Nat → (Nat → Int) → Prop) (h : K (wl 32 (x / 2 ^ s)) (G 32 (x / 2 ^ s))) : zbf n (G 32 x) s K := by
 rw [zbf.is]; unfold zbf.d
 rw [ybw (by omega) (by omega) (by omega)]
 by_cases hlt : n ≤ s / 32
 ·rw [yaB (ya4 (by omega))]
  have hz : x / 2 ^ s = 0 := Nat.div_eq_of_lt (Nat.lt_of_lt_of_le hx (Nat.pow_le_pow_right (by omega) (by omega)))
  rw [hz, yc5, ybY] at h
  exact h
 ·rw [yau (yes (by omega))]
  have e1 : Int.toNat ((n : Int) - (s : Int) / 32) = n - s / 32 := by omega
  have e2 : (n : Int) - (s : Int) / 32 = ((n - s / 32 : Nat) : Int) := by omega
  simp (disch := omega) only [yap, ya4, yay, Bool.and_self, e1]
  have hlt2 : x / 2 ^ s < 2 ^ (32 * (n - s / 32)) := by
   rw [Nat.div_lt_iff_lt_mul (Nat.two_pow_pos _), ← Nat.pow_add]
   exact Nat.lt_of_lt_of_le hx (Nat.pow_le_pow_right (by omega) (by omega))
  refine ⟨n - s / 32 + 1, ?_⟩
  have := ykc x n s hn hx (by omega) (n - s / 32) (n - s / 32) (fun y0 y1 y2 y3 => zbd y0 y1 y2 y3 fun y0 y1 y2 y3 => K y0 y3) ?_ (n - s / 32) 0 (by omega)
  ·rw [Nat.mul_zero, Nat.pow_zero, Nat.mod_one, ybY] at this; exact this
  ·rw [Nat.mod_eq_of_lt hlt2]
   exact ybZ _ _ _ _ (by omega) (Nat.le_refl _) hlt2 _ fun c => h
theorem yjF (k x : Nat) (hk : k ≠ 0) (hx : x ≠ 0) : yav x = k * (wl k x - 1) + yav (dg k x (wl k x - 1)) := by
 have h1 := yeP k hk x
 have hp : wl k x ≠ 0 := by rw [yii hx hk]; omega
 have h2 : x / 2 ^ (k * (wl k x - 1)) = dg k x (wl k x - 1) := by
  have := ydk k x (wl k x - 1)
  rw [show wl k x - 1 + 1 = wl k x from by omega, Nat.div_eq_of_lt h1] at this
  omega
 have h3 := ynz k hk x hx
 rw [← h2] at h3 ⊢
 exact ydt h3
theorem yjB (x : Nat) (hw : wl 32 x ≤ 1000000) (K : Int → Prop) (h : K (yav x)) : zbg (wl 32 x) (G 32 x) K := by
 rw [zbg.is]; unfold zbg.d
 by_cases hx : x = 0
 ·subst hx
  rw [yc5, yaB (ylW (by omega))]; exact h
 ·have hp : wl 32 x ≠ 0 := by rw [yii hx (by omega)]; omega
  have hb := yjF 32 x (by omega) hx
  have hd := yaV 32 x (wl 32 x - 1)
  rw [B32] at hd
  have e1 : Int.toNat ((wl 32 x : Int) - 1) = wl 32 x - 1 := by omega
  rw [yau (yjr (by omega))]
  simp (disch := omega) only [yap, yaS, ya4, yay, Bool.and_self, e1, ybe, yaO]
  refine ydy _ (by omega) _ ?_
  have hl : yav (dg 32 x (wl 32 x - 1)) ≤ 32 := (yaP _ _).2 (by rw [B32]; exact hd)
  simp (disch := omega) only [ybm, yan]
  rw [show 32 * ((wl 32 x : Int) - 1) + (yav (dg 32 x (wl 32 x - 1)) : Int) = ((yav x : Nat) : Int) from by rw [hb]; omega]
  exact h
theorem ypV (b : UInt8) (l : List UInt8) : dg 8 (val (b :: l)) l.length = b.toNat := by
 have := ynI (b :: l) l.length (by simp)
 rw [show (b :: l).length - 1 - l.length = 0 from by simp] at this
 exact this.symm
theorem yf2 (a : List UInt8) (K : Int → Prop) (h : K (if May a then (yav (val a) : Int) else 0)) : zaw a K := by
 rw [zaw.is]; unfold zaw.d
 rw [yaW]
 by_cases hm : May a
 ·rw [if_pos hm] at h
  rw [if_pos hm, yau (by rfl), ya9]
  cases a with
  | nil => rw [yaB (by simp)]; exact h
  | cons b l =>
   have hl := hm.1
   rw [List.length_cons] at hl
   have hv : val (b :: l) ≠ 0 := fun e => by have := hm.nb; rw [e, yaN] at this; cases this
   have hb := yjF 8 _ (by omega) hv
   rw [ylS hm.2, List.length_cons, Nat.add_sub_cancel, ypV] at hb
   have hbl := yqJ b
   rw [yau (by simp), ybv (yaS (by rw [List.length_cons]; omega)), ydF, yaO (by omega) (by omega)]
   refine ydy _ (by omega) _ ?_
   have h8 : yav b.toNat ≤ 8 := (yaP _ _).2 hbl
   rw [List.length_cons]
   simp (disch := omega) only [yap, ybm, yan]
   rw [show 8 * (((l.length + 1 : Nat) : Int) - 1) + (yav b.toNat : Int) = ((yav (val (b :: l)) : Nat) : Int) from by rw [hb]; omega]
   exact h
 ·rw [if_neg hm] at h
  rw [if_neg hm, yaB (by rfl)]; exact h
def ybG (x : Nat) : Nat := if h : x % 2 = 1 ∨ x = 0 then 0 else ybG (x / 2) + 1
decreasing_by omega
theorem yd9 (x : Nat) (h : x ≠ 0) : ∃ q, x = 2 ^ ybG x * (2 * q + 1) := by
 induction x using Nat.strongRecOn with
 | _ x ih =>
  by_cases h1 : x % 2 = 1
  ·have : ybG x = 0 := by rw [ybG]; simp [h1]
   exact ⟨x / 2, by rw [this, Nat.pow_zero, Nat.one_mul]; omega⟩
  ·have : ybG x = ybG (x / 2) + 1 := by rw [ybG]; rw [dif_neg (by omega)]
   obtain ⟨q, hq⟩ := ih (x / 2) (by omega) (by omega)
   refine ⟨q, ?_⟩
   rw [this, Nat.pow_succ, Nat.mul_assoc, Nat.mul_comm 2, ← Nat.mul_assoc, ← hq]; omega
theorem ymp (k q : Nat) : ybG (2 ^ k * (2 * q + 1)) = k := by
 induction k with
 | zero => rw [ybG]; rw [dif_pos (by left; omega)]
 | succ k ih =>
  have hp := Nat.two_pow_pos k
  have hpos : 0 < 2 ^ k * (2 * q + 1) := Nat.mul_pos hp (by omega)
  have e : 2 ^ (k + 1) * (2 * q + 1) = 2 * (2 ^ k * (2 * q + 1)) := by rw [Nat.pow_succ, Nat.mul_comm (2 ^ k) 2, Nat.mul_assoc]
  rw [e, ybG, dif_neg (by omega), show 2 * (2 ^ k * (2 * q + 1)) / 2 = 2 ^ k * (2 * q + 1) from by omega, ih]
theorem ylK (x t : Nat) (h0 : x % 2 ^ (8 * t) = 0) (hd : dg 8 x t ≠ 0) : ybG x = 8 * t + ybG (dg 8 x t) := by
 obtain ⟨q, hq⟩ := yd9 _ hd
 have hlt := yaV 8 x t
 have hk : ybG (dg 8 x t) < 8 := by
  apply Classical.byContradiction
  intro hc
  have h1 : 2 ^ 8 ≤ 2 ^ ybG (dg 8 x t) := Nat.pow_le_pow_right (by omega) (by omega)
  have h2 : 2 ^ ybG (dg 8 x t) * 1 ≤ 2 ^ ybG (dg 8 x t) * (2 * q + 1) := Nat.mul_le_mul_left _ (by omega)
  omega
 have hx := ygU 8 x t
 rw [h0, Nat.zero_add] at hx
 generalize hkk : ybG (dg 8 x t) = k at *
 have h8 : (2 : Nat) ^ (8 * (t + 1)) = 2 ^ (8 * t) * (2 ^ k * (2 * 2 ^ (7 - k))) := by
  rw [show (2 : Nat) * 2 ^ (7 - k) = 2 ^ (8 - k) from by rw [show 8 - k = 7 - k + 1 from by omega, Nat.pow_succ, Nat.mul_comm], ← Nat.pow_add, ← Nat.pow_add]; congr 1; omega
 have e : x = 2 ^ (8 * t + k) * (2 * (q + x / 2 ^ (8 * (t + 1)) * 2 ^ (7 - k)) + 1) := by
  conv => lhs; rw [hx, hq]
  generalize x / 2 ^ (8 * (t + 1)) = y
  rw [h8, Nat.pow_add]
  generalize 2 ^ (8 * t) = P
  generalize 2 ^ k = Q
  generalize 2 ^ (7 - k) = R
  have e1 : y * (P * (Q * (2 * R))) = P * Q * (2 * (y * R)) := by
   rw [Nat.mul_left_comm y P, Nat.mul_left_comm y Q, Nat.mul_left_comm y 2, ← Nat.mul_assoc P]
  rw [e1, Nat.mul_comm (Q * _) P, ← Nat.mul_assoc, ← Nat.mul_add]
  congr 1; omega
 have := ymp (8 * t + k) (q + x / 2 ^ (8 * (t + 1)) * 2 ^ (7 - k))
 rw [← e] at this
 exact this
theorem ylu : ybG 0 = 0 := by rw [ybG]; simp
theorem ylP (a : List UInt8) (hl : a.length ≤ 100000) (k0 : Int → Prop) (k1 : Prop) (h0 : val a ≠ 0 → k0 (ybG (val a))) (h1 : val a = 0 → k1) :
  ∀ (j t : Nat), t + j = a.length → val a % 2 ^ (8 * t) = 0 → zax.l4 k0 k1 (j + 1) a ((a.length : Int) - 1 - t) := by
 intro j
 induction j with
 | zero =>
  intro t ht hm
  unfold zax.l4 zax.l4.step
  rw [yau (yes (by omega))]
  refine h1 ?_
  rw [Nat.mod_eq_of_lt (by have := ygg a; rw [ynJ] at this; rwa [show t = a.length from by omega])] at hm
  exact hm
 | succ j ih =>
  intro t ht hm
  have hd := yaV 8 (val a) t
  have e8 : (2 : Nat) ^ 8 = 256 := rfl
  have e1 : Int.toNat ((a.length : Int) - 1 - t) = a.length - 1 - t := by omega
  have e2 : (a.length : Int) - 1 - ((a.length : Int) - 1 - t) = t := by omega
  have e3 : (a.length : Int) - 1 - t - 1 = (a.length : Int) - 1 - ((t + 1 : Nat) : Int) := by omega
  unfold zax.l4 zax.l4.step
  simp (disch := omega) only [yaS, ya4, yay, yaX, Bool.and_self, e1]
  rw [yfq a t (by omega)]
  by_cases hz : dg 8 (val a) t = 0
  ·rw [ylW (by omega), yau (by rfl)]
   simp (disch := omega) only [yap, e3]
   refine ih (t + 1) (by omega) ?_
   rw [ya7, hm, hz]; omega
  ·rw [yjr (by omega), yaB (by rfl), yaO (by omega) (by omega)]
   obtain ⟨q, hq⟩ := yd9 _ hz
   have hk : ybG (dg 8 (val a) t) < 64 := by
    apply Classical.byContradiction
    intro hc
    have h1 : 2 ^ 64 ≤ 2 ^ ybG (dg 8 (val a) t) := Nat.pow_le_pow_right (by omega) (by omega)
    have h2 : 2 ^ ybG (dg 8 (val a) t) * 1 ≤ 2 ^ ybG (dg 8 (val a) t) * (2 * q + 1) := Nat.mul_le_mul_left _ (by omega)
    rw [B64] at h1; omega
   have hlow := ylK (val a) t hm hz
   have := ymM (ybG (dg 8 (val a) t)) q hk (by rw [← hq]; omega) (fun y0 => k0 (yaj .i64 (ybS .i64 8 (yaq .i64 (yaq .i64 (a.length : Int) 1) ((a.length : Int) - 1 - t))) y0)) ?_
   ·rw [← hq] at this; exact this
   ·simp (disch := omega) only [yap, ybm, yan, e2]
    rw [show 8 * (t : Int) + (ybG (dg 8 (val a) t) : Int) = ((ybG (val a) : Nat) : Int) from by rw [hlow]; omega]
    refine h0 fun e => hz ?_
    rw [e]; exact ydD 8 0 t (Nat.two_pow_pos _)
theorem yey (a : List UInt8) (K : Int → Prop) (h : K (if May a then (ybG (val a) : Int) else 0)) : zax a K := by
 rw [zax.is]; unfold zax.d
 rw [yaW]
 by_cases hm : May a
 ·rw [if_pos hm] at h
  have hl := hm.1
  rw [if_pos hm, yau (by rfl), yap (by omega) (by omega)]
  refine ⟨a.length + 1, ?_⟩
  have := ylP a (by omega) (fun y0 => K y0) (K 0) (fun _ => h) (fun e => by rw [e, ylu] at h; exact h) a.length 0 (by omega) (by simp [Nat.mod_one])
  rw [show (a.length : Int) - 1 - ((0 : Nat) : Int) = (a.length : Int) - 1 from by omega] at this
  exact this
 ·rw [if_neg hm] at h
  rw [if_neg hm, yaB (by rfl)]; exact h
end Go.Ev.S

/- Natural numbers as rows of words: divided. -/
set_option linter.unusedVariables false
set_option linter.unusedSimpArgs false
set_option maxRecDepth 8000
namespace Go.Ev.S
open Go Go.Ev
theorem yq9 {B P U D v1 v2 dl x u2 ul q left : Nat} (hP : 0 < P) (hD : D = (v1 * B + v2) * P + dl) (hU : U = (x * B + u2) * P + ul) (hul : ul < P) (hx : q * v1 + left = x) (hD0 : 0 < D) (hUB : U < D * B)
  (h : B ≤ q ∨ left * B + u2 < q * v2) : U / D < q := by
 rw [Nat.div_lt_iff_lt_mul hD0]
 rcases h with h | h
 ·exact Nat.lt_of_lt_of_le hUB (by rw [Nat.mul_comm q]; exact Nat.mul_le_mul_left _ h)
 ·have h1 : (x * B + u2 + 1) * P ≤ q * ((v1 * B + v2) * P) := by
   rw [← Nat.mul_assoc]
   refine Nat.mul_le_mul_right _ ?_
   rw [← hx, Nat.mul_add, Nat.add_mul, ← Nat.mul_assoc]
   omega
  have h2 : q * ((v1 * B + v2) * P) ≤ q * D := Nat.mul_le_mul_left _ (by omega)
  rw [Nat.add_mul, Nat.one_mul] at h1
  omega
theorem yqX {B P U D v1 v2 dl x u2 ul q left : Nat} (hD : D = (v1 * B + v2) * P + dl) (hdl : dl < P) (hU : U = (x * B + u2) * P + ul) (hx : q * v1 + left = x) (hD0 : 0 < D) (hv : 0 < v1) (hqB : q < B) (h : q * v2 ≤ left * B + u2) : q ≤ U / D + 1 := by
 have key : (q - 1) * D ≤ U := by
  have h1 : (q - 1) * D ≤ (q - 1) * ((v1 * B + v2 + 1) * P) := Nat.mul_le_mul_left _ (by rw [Nat.add_mul (v1 * B + v2)]; omega)
  have h2 : (q - 1) * (v1 * B + v2 + 1) ≤ x * B + u2 := by
   rcases Nat.eq_zero_or_pos q with h0 | h0
   ·subst h0; simp
   ·have e1 : (q - 1) * (v1 * B + v2 + 1) = q * (v1 * B + v2) + (q - 1) - (v1 * B + v2) := by
     obtain ⟨t, rfl⟩ : ∃ t, q = t + 1 := ⟨q - 1, by omega⟩
     rw [Nat.add_sub_cancel, Nat.mul_add t, Nat.add_mul t 1]
     omega
    have e2 : q * (v1 * B + v2) ≤ x * B + u2 := by
     rw [← hx, Nat.mul_add, Nat.add_mul, ← Nat.mul_assoc]; omega
    have e3 : B ≤ v1 * B := Nat.le_mul_of_pos_left _ hv
    omega
  have h3 : (q - 1) * ((v1 * B + v2 + 1) * P) ≤ (x * B + u2) * P := by
   rw [← Nat.mul_assoc]; exact Nat.mul_le_mul_right _ h2
  omega
 have := (Nat.le_div_iff_mul_le hD0).2 key
 omega
theorem yia (a b : Nat) (ha : a < 4294967296) (hb : b < 4294967296) : orI .u64 (yb0 .u64 (a : Int) 32) (b : Int) = ((a * 4294967296 + b : Nat) : Int) := by
 have hb64 : IntKind.bits .u64 = 64 := rfl
 have := yn9 (k := .u64) rfl a 32 (by rw [hb64]; omega)
 rw [show ((32 : Nat) : Int) = 32 from rfl] at this
 rw [this, hb64, B32, Nat.mod_eq_of_lt (by rw [B64]; omega), yr7 (k := .u64) rfl _ _ (by rw [hb64, B64]; omega) (by rw [hb64, B64]; omega)]
 congr 1
 rw [Nat.or_comm, ye0 (r := 32) (by rw [B32]; exact hb) (by rw [B32]; exact Nat.mul_mod_left _ _), Nat.add_comm]
theorem yqq (a b : Nat) (ha : a < 18446744073709551616) : yaE .u64 (a : Int) (b : Int) = ((a / b : Nat) : Int) := by
 have h : a / b ≤ a := Nat.div_le_self a b
 show IntKind.wrap .u64 ((a : Int).tdiv b) = _
 rw [Int.tdiv_eq_ediv_of_nonneg (by omega)]
 have : (a : Int) / (b : Int) = ((a / b : Nat) : Int) := by simp
 rw [this]
 generalize a / b = q at h ⊢
 exact yhS (by omega) (by omega)
theorem yjf {again : Nat → Int → Nat → Nat → Int → Int → Int → Int → Nat → (Nat → Int) → Nat → (Nat → Int) → Nat → (Nat → Int) → Prop} {k0 : Nat → Int → Nat → Nat → Int → Int → Int → Nat → (Nat → Int) → Nat → (Nat → Int) → Nat → (Nat → Int) → Prop} (n0 : Nat) (s : Int) (L md i : Nat) (hmd : 2 ≤ md) (hmd2 : md ≤ 1000000) (c1 c2 c3 : Nat) (f1 f3 : Nat → Int) (D v1 q left : Nat) (hv1 : v1 < 4294967296) (hl : left < 4294967296) (e1 : dg 32 D (md - 1) = v1) (hq1 : q + 1 < 18446744073709551616)
  (h1 : left + v1 < 4294967296 → again n0 s md L md i q (left + v1 : Nat) c1 f1 c2 (G 32 D) c3 f3) (h2 : 4294967296 ≤ left + v1 → k0 n0 s md L md i q c1 f1 c2 (G 32 D) c3 f3) :
  gd (leI 0 (yaq IntKind.i64 (md : Int) 1) && ltI (yaq IntKind.i64 (md : Int) 1) (md : Int)) (br (leI 4294967296 (yaj IntKind.u64 (left : Int) (cvI IntKind.u64 (G 32 D (Int.toNat (yaq IntKind.i64 (md : Int) 1)))))) (k0 n0 s md L md i (yaq IntKind.u64 ((q + 1 : Nat) : Int) 1) c1 f1 c2 (G 32 D) c3 f3) (again n0 s md L md i (yaq IntKind.u64 ((q + 1 : Nat) : Int) 1) (yaj IntKind.u64 (left : Int) (cvI IntKind.u64 (G 32 D (Int.toNat (yaq IntKind.i64 (md : Int) 1))))) c1 f1 c2 (G 32 D) c3 f3)) := by
 have s1 : yaq .u64 ((q + 1 : Nat) : Int) 1 = (q : Int) := by rw [yj3 (by omega) (by omega)]; omega
 have a1 : yaj .u64 (left : Int) ((v1 : Nat) : Int) = ((left + v1 : Nat) : Int) := by rw [yfR (by omega) (by omega)]; omega
 have i0 : yaq IntKind.i64 (md : Int) 1 = (md : Int) - 1 := by rw [yap (by omega) (by omega)]
 have i1 : Int.toNat ((md : Int) - 1) = md - 1 := by omega
 have i2 : cvI IntKind.u64 ((v1 : Nat) : Int) = v1 := by rw [yaO (by omega) (by omega)]
 rw [i0, i1, ybe, e1, i2, a1, s1, ybv (by rw [ya4 (by omega), yaS (by omega)]; rfl)]
 by_cases hl2 : left + v1 < 4294967296
 ·rw [yau (yes (by omega))]; exact h1 hl2
 ·rw [yaB (ya4 (by omega))]; exact h2 (by omega)
theorem you (left u2 q v2 : Nat) (hl : left < 4294967296) (hu : u2 < 4294967296) (hq : q < 4294967296) (hv : v2 < 4294967296) : ltI (orI IntKind.u64 (yb0 IntKind.u64 (left : Int) 32) (cvI IntKind.u64 (u2 : Int))) (ybS IntKind.u64 (q : Int) (cvI IntKind.u64 (v2 : Int))) = decide (left * 4294967296 + u2 < q * v2) := by
 have h1 : q * v2 ≤ 4294967295 * 4294967295 := Nat.mul_le_mul (by omega) (by omega)
 have e4 : ((q : Int) * ((v2 : Nat) : Int)) = ((q * v2 : Nat) : Int) := by simp
 rw [yaO (by omega) (by omega), yaO (by omega) (by omega), yia left u2 hl hu, ym2 (by rw [e4]; omega) (by rw [e4]; omega), e4]
 generalize q * v2 = t
 by_cases h : left * 4294967296 + u2 < t
 ·rw [yaS (by omega)]; exact (decide_eq_true h).symm
 ·rw [ya1 (by omega)]; exact (decide_eq_false h).symm
theorem yiT {again : Nat → Int → Nat → Nat → Int → Int → Int → Int → Nat → (Nat → Int) → Nat → (Nat → Int) → Nat → (Nat → Int) → Prop} {k0 : Nat → Int → Nat → Nat → Int → Int → Int → Nat → (Nat → Int) → Nat → (Nat → Int) → Nat → (Nat → Int) → Prop} (n0 : Nat) (s : Int) (L md i : Nat) (hi : i ≤ 1000000) (hmd : 2 ≤ md) (hmd2 : md ≤ 1000000) (hL : i + md < L) (c1 c2 c3 : Nat) (f1 : Nat → Int) (D N v1 v2 u2 q left : Nat) (hv1 : v1 < 4294967296) (hv2 : v2 < 4294967296) (hu2 : u2 < 4294967296) (hl : left < 4294967296)
  (e1 : dg 32 D (md - 1) = v1) (e2 : dg 32 D (md - 2) = v2) (e3 : dg 32 N (i + md - 2) = u2) (hq1 : q < 18446744073709551616)
  (hd : 4294967296 ≤ q ∨ left * 4294967296 + u2 < q * v2 → ∃ p, q = p + 1 ∧ (left + v1 < 4294967296 → again n0 s md L md i p (left + v1 : Nat) c1 f1 c2 (G 32 D) c3 (G 32 N)) ∧ (4294967296 ≤ left + v1 → k0 n0 s md L md i p c1 f1 c2 (G 32 D) c3 (G 32 N)))
  (hk : q < 4294967296 → q * v2 ≤ left * 4294967296 + u2 → k0 n0 s md L md i q c1 f1 c2 (G 32 D) c3 (G 32 N)) :
  zbj.l24.step again k0 n0 s md L md i q left c1 f1 c2 (G 32 D) c3 (G 32 N) := by
 unfold zbj.l24.step
 by_cases hbig : 4294967296 ≤ q
 ·rw [yaB (ya4 (by omega))]
  obtain ⟨p, rfl, h1, h2⟩ := hd (.inl hbig)
  exact yjf n0 s L md i hmd hmd2 c1 c2 c3 f1 _ D v1 p left hv1 hl e1 (by omega) h1 h2
 ·rw [yau (yes (by omega))]
  have i0 : yaq IntKind.i64 (md : Int) 2 = (md : Int) - 2 := by rw [yap (by omega) (by omega)]
  have i1 : yaj IntKind.i64 (i : Int) (md : Int) = (i : Int) + md := by rw [yan (by omega) (by omega)]
  have i2 : yaq IntKind.i64 ((i : Int) + md) 2 = (i : Int) + md - 2 := by rw [yap (by omega) (by omega)]
  have i3 : Int.toNat ((md : Int) - 2) = md - 2 := by omega
  have i4 : Int.toNat ((i : Int) + md - 2) = i + md - 2 := by omega
  rw [i0, i1, i2, i3, i4, ybv (by rw [ya4 (by omega), yaS (by omega)]; rfl), ybv (by rw [ya4 (by omega), yaS (by omega)]; rfl), ybe, ybe, e2, e3, you left u2 q v2 hl hu2 (by omega) hv2]
  by_cases ht : left * 4294967296 + u2 < q * v2
  ·rw [yaB (decide_eq_true ht)]
   obtain ⟨p, rfl, h1, h2⟩ := hd (.inr ht)
   exact yjf n0 s L md i hmd hmd2 c1 c2 c3 f1 _ D v1 p left hv1 hl e1 (by omega) h1 h2
  ·rw [yau (decide_eq_false ht)]
   exact hk (by omega) (by omega)
theorem yoU {B v1 x q left : Nat} (hxv : x / B ≤ v1) (hB : 0 < B) (hx : q * v1 + left = x) (hq : B ≤ q) : left < B := by
 have h1 : B * v1 ≤ q * v1 := Nat.mul_le_mul_right _ hq
 have h2 := Nat.div_add_mod x B
 have h3 := Nat.mod_lt x hB
 have h4 : B * (x / B) ≤ B * v1 := Nat.mul_le_mul_left _ hxv
 omega
theorem yoA {B q v2 left u2 : Nat} (hq : q < B) (hv : v2 < B) (hl : B ≤ left) : q * v2 ≤ left * B + u2 := by
 have h1 : q * v2 ≤ B * B := Nat.mul_le_mul (by omega) (by omega)
 have h2 : B * B ≤ left * B := Nat.mul_le_mul_right _ hl
 omega
theorem yhr (n s : Int) (L md i : Nat) (hi : i ≤ 1000000) (hmd : 2 ≤ md) (hmd2 : md ≤ 1000000) (hL : i + md < L) (n0 : Nat) (D N : Nat) (c1 c2 c3 : Nat) (f1 : Nat → Int)
  (U v1 v2 dl x u2 ul P : Nat) (hP : 0 < P) (hD : D = (v1 * 4294967296 + v2) * P + dl) (hdl : dl < P) (hU : U = (x * 4294967296 + u2) * P + ul) (hul : ul < P) (hD0 : 0 < D) (hUB : U < D * 4294967296) (hv : 0 < v1)
  (hxv : x / 4294967296 ≤ v1) (hx2 : x < 18446744073709551616)
  (e1 : dg 32 D (md - 1) = v1) (e2 : dg 32 D (md - 2) = v2) (e3 : dg 32 N (i + md - 2) = u2)
  (k0 : Nat → Int → Nat → Nat → Int → Int → Int → Nat → (Nat → Int) → Nat → (Nat → Int) → Nat → (Nat → Int) → Prop)
  (h : ∀ q : Nat, U / D ≤ q → q ≤ U / D + 1 → q < 4294967296 → k0 n0 s md L md i q c1 f1 c2 (G 32 D) c3 (G 32 N)) :
  ∀ (q left : Nat), q * v1 + left = x → left < 4294967296 → U / D ≤ q → zbj.l24 k0 (q + 1) n0 s md L md i q left c1 f1 c2 (G 32 D) c3 (G 32 N) := by
 have hv1 := yaV 32 D (md - 1)
 have hv2 := yaV 32 D (md - 2)
 have hu2 := yaV 32 N (i + md - 2)
 rw [B32, e1] at hv1
 rw [B32, e2] at hv2
 rw [B32, e3] at hu2
 have done : ∀ q left : Nat, q * v1 + left = x → U / D ≤ q → q < 4294967296 → q * v2 ≤ left * 4294967296 + u2 → k0 n0 s md L md i q c1 f1 c2 (G 32 D) c3 (G 32 N) :=
  fun q left hx hge hlt ht => h q hge (yqX hD hdl hU hx hD0 hv hlt ht) hlt
 have qx : ∀ q left : Nat, q * v1 + left = x → q < 18446744073709551616 := fun q left hx => by
  have : q * 1 ≤ q * v1 := Nat.mul_le_mul_left _ hv
  omega
 intro q
 induction q with
 | zero =>
  intro left hx hl hge
  unfold zbj.l24
  refine yiT n0 s L md i hi hmd hmd2 hL c1 c2 c3 f1 D N v1 v2 u2 0 left hv1 hv2 hu2 hl e1 e2 e3 (by omega) (fun hc => ?_) (fun a b => done 0 left hx hge a b)
  rw [Nat.zero_mul] at hc
  omega
 | succ q ih =>
  intro left hx hl hge
  have hqx := qx (q + 1) left hx
  have hx' : q * v1 + (left + v1) = x := by rw [Nat.add_mul] at hx; omega
  have hover : 4294967296 ≤ left + v1 → q < 4294967296 := fun hl2 => by
   apply Classical.byContradiction
   intro hc
   have := yoU hxv (by omega) hx' (by omega)
   omega
  unfold zbj.l24
  refine yiT n0 s L md i hi hmd hmd2 hL c1 c2 c3 f1 D N v1 v2 u2 (q + 1) left hv1 hv2 hu2 hl e1 e2 e3 hqx (fun hc => ?_) (fun a b => done (q + 1) left hx hge a b)
  have hlt := yq9 hP hD hU hul hx hD0 hUB hc
  have hge' : U / D ≤ q := Nat.le_of_lt_succ hlt
  exact ⟨q, rfl, fun hl2 => ih (left + v1) hx' hl2 hge', fun hl2 => done q (left + v1) hx' hge' (hover hl2) (yoA (hover hl2) hv2 hl2)⟩
theorem yrG (k n x : Nat) (hk : k ≠ 0) (h : ∀ i, n ≤ i → dg k x i = 0) : x < 2 ^ (k * n) := by
 rw [← ydW k hk]
 apply Classical.byContradiction
 intro hc
 have hx : x ≠ 0 := by intro e; subst e; rw [yc5] at hc; omega
 exact ynz k hk x hx (h _ (by omega))
theorem yng {k N N' w j n : Nat} (hk : k ≠ 0) (hN : N < 2 ^ (k * n)) (hj : j < n) (hw : w < 2 ^ k) (h : N' + dg k N j * 2 ^ (k * j) = N + w * 2 ^ (k * j)) : N' < 2 ^ (k * n) := by
 refine yrG k n N' hk fun i hi => ?_
 have h1 := congrFun (yfw h hw) i
 rw [ycP _ _ _ _ (by omega), ybe, ybe, ydZ k N n i hN hi] at h1
 omega
theorem yir (n0 : Nat) (s : Int) (L md i q : Nat) (hi : i ≤ 1000000) (hmd2 : md ≤ 1000000) (hL : i + md < L) (hq : q < 4294967296) (c1 c2 c3 : Nat) (f1 : Nat → Int) (D N0 : Nat) (hD : D < 2 ^ (32 * md)) (hN0 : N0 < 2 ^ (32 * (i + md + 1)))
  (k0 : Nat → Int → Nat → Nat → Int → Int → Int → Int → Int → Nat → (Nat → Int) → Nat → (Nat → Int) → Nat → (Nat → Int) → Prop)
  (h : ∀ (N c : Nat) (b : Int), N < 2 ^ (32 * (i + md + 1)) → c < 4294967296 → -1 ≤ b → b ≤ 0 → (N : Int) + (b - c) * ((2 ^ (32 * (i + md)) : Nat) : Int) = N0 - ((q * D * 2 ^ (32 * i) : Nat) : Int) → k0 n0 s md L md i q c b c1 f1 c2 (G 32 D) c3 (G 32 N)) :
  ∀ (j k N c : Nat) (b : Int), k + j = md → N < 2 ^ (32 * (i + md + 1)) → c < 4294967296 → -1 ≤ b → b ≤ 0 → (N : Int) + (b - c) * ((2 ^ (32 * (i + k)) : Nat) : Int) = N0 - ((q * (D % 2 ^ (32 * k)) * 2 ^ (32 * i) : Nat) : Int) →
   zbj.l31 k0 (j + 1) n0 s md L md i q c b md k c1 f1 c2 (G 32 D) c3 (G 32 N) := by
 intro j
 induction j with
 | zero =>
  intro k N c b hk hN hc hb1 hb2 hE
  have hk : k = md := by omega
  subst hk
  unfold zbj.l31 zbj.l31.step
  rw [yau (ya1 (by omega))]
  rw [Nat.mod_eq_of_lt hD] at hE
  exact h N c b hN hc hb1 hb2 hE
 | succ j ih =>
  intro k N c b hk hN hc hb1 hb2 hE
  have hdN := yaV 32 N (i + k)
  have hdD := yaV 32 D k
  rw [B32] at hdN hdD
  have hm : q * dg 32 D k ≤ 4294967295 * 4294967295 := Nat.mul_le_mul (by omega) (by omega)
  have hD1 := ya7 32 D k
  -- the product's low word, and what is carried
  have hs : ∀ (t : Nat) (z : Int), t = c + q * dg 32 D k → z = b + ((dg 32 N (i + k) : Int) - ((t % 4294967296 : Nat) : Int)) →
    zbj.l31 k0 (j + 1) n0 s md L md i q ((t / 4294967296 : Nat) : Int) (z / 4294967296) md ((k : Int) + 1) c1 f1 c2 (G 32 D) c3 (upd (G 32 N) (i + k) (z % 4294967296)) := by
   intro t z ht hz
   have hw : z % 4294967296 = ((z % 4294967296).toNat : Int) := by omega
   have hwl : (z % 4294967296).toNat < 2 ^ 32 := by rw [B32]; omega
   have e : ((k + 1 : Nat) : Int) = (k : Int) + 1 := by omega
   have hsp := ygU 32 N (i + k)
   obtain ⟨N', hN'⟩ : ∃ N', N' + dg 32 N (i + k) * 2 ^ (32 * (i + k)) = N + (z % 4294967296).toNat * 2 ^ (32 * (i + k)) :=
    ⟨N % 2 ^ (32 * (i + k)) + (z % 4294967296).toNat * 2 ^ (32 * (i + k)) + N / 2 ^ (32 * (i + k + 1)) * 2 ^ (32 * (i + k + 1)), by omega⟩
   rw [hw, yfw hN' hwl, ← e]
   refine ih (k + 1) N' _ _ (by omega) (yng (by omega) hN (by omega) hwl hN') (by omega) (by omega) (by omega) ?_
   rw [hD1, show i + (k + 1) = i + k + 1 from by omega, yb1, B32]
   have hp : 2 ^ (32 * (i + k)) = 2 ^ (32 * k) * 2 ^ (32 * i) := by rw [← Nat.pow_add, show 32 * k + 32 * i = 32 * (i + k) from by omega]
   have h1 : ((q * (D % 2 ^ (32 * k) + dg 32 D k * 2 ^ (32 * k)) * 2 ^ (32 * i) : Nat) : Int) = ((q * (D % 2 ^ (32 * k)) * 2 ^ (32 * i) : Nat) : Int) + ((q * dg 32 D k : Nat) : Int) * ((2 ^ (32 * (i + k)) : Nat) : Int) := by
    rw [hp, Nat.mul_add, Nat.add_mul, ← Nat.mul_assoc q (dg 32 D k), Nat.mul_assoc (q * dg 32 D k)]
    simp
   rw [h1]
   generalize 2 ^ (32 * (i + k)) = P at *
   have h4 := Int.emod_add_mul_ediv z 4294967296
   have h5 : z * (P : Int) = (z % 4294967296).toNat * (P : Int) + z / 4294967296 * ((P : Int) * 4294967296) := by
    conv => lhs; rw [← h4]
    rw [← hw, Int.add_mul, Int.mul_comm (4294967296 : Int), Int.mul_assoc, Int.mul_comm (4294967296 : Int)]
   have h6 : z * (P : Int) = b * P + (dg 32 N (i + k) : Int) * P - ((t % 4294967296 : Nat) : Int) * P := by rw [hz, Int.add_mul, Int.sub_mul]; omega
   have h7 : ((t : Nat) : Int) * (P : Int) = ((t % 4294967296 : Nat) : Int) * P + ((t / 4294967296 : Nat) : Int) * ((P : Int) * 4294967296) := by
    have := ykK t 4294967296 P
    have h8 : ((t % 4294967296 * P + t / 4294967296 * (P * 4294967296) : Nat) : Int) = ((t * P : Nat) : Int) := by rw [this]
    simpa using h8.symm
   have h9 : ((t : Nat) : Int) * (P : Int) = (c : Int) * P + ((q * dg 32 D k : Nat) : Int) * P := by rw [ht]; rw [show ((c + q * dg 32 D k : Nat) : Int) = (c : Int) + ((q * dg 32 D k : Nat) : Int) from by omega, Int.add_mul]
   have h10 : (N' : Int) + (dg 32 N (i + k) : Int) * P = N + ((z % 4294967296).toNat : Int) * P := by
    have : ((N' + dg 32 N (i + k) * P : Nat) : Int) = ((N + (z % 4294967296).toNat * P : Nat) : Int) := by rw [hN']
    simpa using this
   have c4 : ((P * 4294967296 : Nat) : Int) = (P : Int) * 4294967296 := by simp
   rw [c4, Int.sub_mul]
   rw [Int.sub_mul] at hE
   omega
  have e0 : Int.toNat ((i : Int) + k) = i + k := by omega
  have e5 : ybS .u64 (q : Int) (dg 32 D k : Int) = ((q * dg 32 D k : Nat) : Int) := by
   have e4 : ((q : Int) * (dg 32 D k : Int)) = ((q * dg 32 D k : Nat) : Int) := by simp
   rw [ym2 (by rw [e4]; omega) (by rw [e4]; omega), e4]
  have e6 : (c : Int) + ((q * dg 32 D k : Nat) : Int) = ((c + q * dg 32 D k : Nat) : Int) := by omega
  have e7 : ((c + q * dg 32 D k : Nat) : Int) / 4294967296 = (((c + q * dg 32 D k) / 4294967296 : Nat) : Int) := by omega
  have e8 : ((c + q * dg 32 D k : Nat) : Int) % 4294967296 = (((c + q * dg 32 D k) % 4294967296 : Nat) : Int) := by omega
  unfold zbj.l31 zbj.l31.step
  simp (disch := omega) only [yaS, ya4, yay, yaX, Bool.and_self, Int.toNat_natCast, yan, yap, yaO, yfR, ybe, e0, e5, e6, ycM, yfV, ybL, e7, e8, ygo]
  exact hs _ _ rfl rfl
theorem yiF (n0 : Nat) (s : Int) (L md i : Nat) (q : Int) (hi : i ≤ 1000000) (hmd2 : md ≤ 1000000) (hL : i + md < L) (c1 c2 c3 : Nat) (f1 : Nat → Int) (D N0 : Nat) (hD : D < 2 ^ (32 * md))
  (k0 : Nat → Int → Nat → Nat → Int → Int → Int → Int → Nat → (Nat → Int) → Nat → (Nat → Int) → Nat → (Nat → Int) → Prop)
  (h : ∀ (N c : Nat), N < 2 ^ (32 * (i + md + 1)) → c < 4294967296 → N + c * 2 ^ (32 * (i + md)) = N0 + D * 2 ^ (32 * i) → k0 n0 s md L md i q c c1 f1 c2 (G 32 D) c3 (G 32 N)) :
  ∀ (j k N c : Nat), k + j = md → N < 2 ^ (32 * (i + md + 1)) → c < 2 → N + c * 2 ^ (32 * (i + k)) = N0 + D % 2 ^ (32 * k) * 2 ^ (32 * i) → zbj.l45 k0 (j + 1) n0 s md L md i q c md k c1 f1 c2 (G 32 D) c3 (G 32 N) := by
 intro j
 induction j with
 | zero =>
  intro k N c hk hN hc hE
  have hk : k = md := by omega
  subst hk
  unfold zbj.l45 zbj.l45.step
  rw [yau (ya1 (by omega))]
  rw [Nat.mod_eq_of_lt hD] at hE
  exact h N c hN (by omega) hE
 | succ j ih =>
  intro k N c hk hN hc hE
  have hdN := yaV 32 N (i + k)
  have hdD := yaV 32 D k
  rw [B32] at hdN hdD
  have hD1 := ya7 32 D k
  obtain ⟨N', s1, s2⟩ := ykB (k := 32) (N := N) (j := i + k) (s := c + (dg 32 N (i + k) + dg 32 D k)) rfl
  have hw : (c + (dg 32 N (i + k) + dg 32 D k)) % 4294967296 < 2 ^ 32 := Nat.mod_lt _ (by omega)
  have e : ((k + 1 : Nat) : Int) = (k : Int) + 1 := by omega
  have next := ih (k + 1) N' ((c + (dg 32 N (i + k) + dg 32 D k)) / 4294967296) (by omega) (yng (by omega) hN (by omega) hw s1) (by omega) (by
   rw [hD1, show i + (k + 1) = i + k + 1 from by omega]
   rw [B32, Nat.add_mul, Nat.add_mul] at s2
   have hp : dg 32 D k * 2 ^ (32 * k) * 2 ^ (32 * i) = dg 32 D k * 2 ^ (32 * (i + k)) := by rw [Nat.mul_assoc, ← Nat.pow_add, show 32 * k + 32 * i = 32 * (i + k) from by omega]
   rw [Nat.add_mul, hp]
   omega)
  rw [e] at next
  have hG : upd (G 32 N) (i + k) (((c + (dg 32 N (i + k) + dg 32 D k)) % 4294967296 : Nat) : Int) = G 32 N' := yfw s1 hw
  have e0 : Int.toNat ((i : Int) + k) = i + k := by omega
  have e1 : ((c : Int) + ((dg 32 N (i + k) : Int) + (dg 32 D k : Int))) / 4294967296 = (((c + (dg 32 N (i + k) + dg 32 D k)) / 4294967296 : Nat) : Int) := by omega
  have e2 : ((c : Int) + ((dg 32 N (i + k) : Int) + (dg 32 D k : Int))) % 4294967296 = (((c + (dg 32 N (i + k) + dg 32 D k)) % 4294967296 : Nat) : Int) := by omega
  unfold zbj.l45 zbj.l45.step
  simp (disch := omega) only [yaS, ya4, yay, yaX, Bool.and_self, Int.toNat_natCast, yan, yaO, yfR, ybe, e0, ycM, ybL, e1, e2]
  rw [hG]; exact next
end Go.Ev.S

/- Natural numbers as rows of words: the loop of the long division. -/
set_option linter.unusedVariables false
set_option linter.unusedSimpArgs false
set_option maxRecDepth 8000
namespace Go.Ev.S
open Go Go.Ev
theorem yp9 {PT E R T q qs Nl : Nat} {z : Int} (hE : E < PT) (hNl : Nl < PT) (h1 : qs * E ≤ R) (h2 : R < qs * E + E) (hT : T = q * E) (h : (Nl : Int) + z * (PT : Int) = R - (T : Int)) (hq1 : qs ≤ q) (hq2 : q ≤ qs + 1) :
  (q = qs ∧ z = 0 ∧ Nl = R - qs * E) ∨ (q = qs + 1 ∧ z = -1 ∧ Nl + E = PT + (R - qs * E)) := by
 have zp : z ≥ 1 → (PT : Int) ≤ z * PT := fun hz => by
  have := Int.mul_le_mul_of_nonneg_right hz (show (0 : Int) ≤ PT by omega)
  omega
 have zn : z ≤ -1 → z * PT ≤ -(PT : Int) := fun hz => by
  have := Int.mul_le_mul_of_nonneg_right hz (show (0 : Int) ≤ PT by omega)
  omega
 have zn2 : z ≤ -2 → z * PT ≤ -(PT : Int) - PT := fun hz => by
  have := Int.mul_le_mul_of_nonneg_right hz (show (0 : Int) ≤ PT by omega)
  omega
 rcases (by omega : q = qs ∨ q = qs + 1) with e | e
 ·left
  rw [e] at hT
  have hz : z = 0 := by
   rcases (by omega : z ≥ 1 ∨ z ≤ -1 ∨ z = 0) with hz | hz | hz
   ·have := zp hz; omega
   ·have := zn hz; omega
   ·exact hz
  subst hz
  refine ⟨e, rfl, ?_⟩
  rw [Int.zero_mul] at h
  omega
 ·right
  rw [e, Nat.add_mul, Nat.one_mul] at hT
  have hz : z = -1 := by
   rcases (by omega : z ≥ 1 ∨ z ≤ -2 ∨ z = 0 ∨ z = -1) with hz | hz | hz | hz
   ·have := zp hz; omega
   ·have := zn2 hz; omega
   ·subst hz; rw [Int.zero_mul] at h; omega
   ·exact hz
  subst hz
  refine ⟨e, rfl, ?_⟩
  omega
theorem ymG (D R md i : Nat) (hmd : 2 ≤ md) (hD : D < 2 ^ (32 * md)) (hv : dg 32 D (md - 1) ≠ 0) (hR : R < D * 2 ^ (32 * (i + 1))) :
  ∃ dl ul P, 0 < P ∧ dl < P ∧ ul < P ∧ D = (dg 32 D (md - 1) * 4294967296 + dg 32 D (md - 2)) * P + dl ∧
   R / 2 ^ (32 * i) = ((dg 32 R (i + md) * 4294967296 + dg 32 R (i + md - 1)) * 4294967296 + dg 32 R (i + md - 2)) * P + ul ∧
   R / 2 ^ (32 * i) < D * 4294967296 ∧ dg 32 R (i + md) ≤ dg 32 D (md - 1) ∧ R / 2 ^ (32 * i) / D ≤ (dg 32 R (i + md) * 4294967296 + dg 32 R (i + md - 1)) / dg 32 D (md - 1) := by
 obtain ⟨m, rfl⟩ : ∃ m, md = m + 2 := ⟨md - 2, by omega⟩
 have hU : R / 2 ^ (32 * i) < D * 4294967296 := by
  rw [Nat.div_lt_iff_lt_mul (Nat.two_pow_pos _), Nat.mul_assoc, Nat.mul_comm 4294967296, ← B32, ← yb1]
  exact hR
 have hd := fun j => ynZ 32 R i j
 generalize R / 2 ^ (32 * i) = U at *
 have hUB : U < 2 ^ (32 * (m + 3)) := by
  rw [yb1, B32]
  exact Nat.lt_trans hU (Nat.mul_lt_mul_of_pos_right hD (by omega))
 have a1 := ydk 32 D m
 have a2 := ydk 32 D (m + 1)
 have b1 := ydk 32 U m
 have b2 := ydk 32 U (m + 1)
 have b3 := ydk 32 U (m + 2)
 rw [Nat.div_eq_of_lt hD] at a2
 rw [Nat.div_eq_of_lt hUB] at b3
 rw [B32] at a1 a2 b1 b2 b3
 rw [hd] at b1 b2 b3
 rw [show m + 1 + 1 = m + 2 from rfl] at b2
 have hP := Nat.two_pow_pos (32 * m)
 have c1 := Nat.div_add_mod D (2 ^ (32 * m))
 have c2 := Nat.div_add_mod U (2 ^ (32 * m))
 have c3 := Nat.mod_lt D hP
 have c4 := Nat.mod_lt U hP
 have c5 := Nat.mod_lt D (Nat.two_pow_pos (32 * (m + 1)))
 have c6 := Nat.div_add_mod D (2 ^ (32 * (m + 1)))
 have d1 : D / 2 ^ (32 * m) = dg 32 D (m + 1) * 4294967296 + dg 32 D m := by omega
 have d2 : U / 2 ^ (32 * m) = (dg 32 R (i + (m + 2)) * 4294967296 + dg 32 R (i + (m + 1))) * 4294967296 + dg 32 R (i + m) := by omega
 have d3 : D / 2 ^ (32 * (m + 1)) = dg 32 D (m + 1) := by omega
 have d4 : U / 2 ^ (32 * (m + 1)) = dg 32 R (i + (m + 2)) * 4294967296 + dg 32 R (i + (m + 1)) := by omega
 have d5 : U / 2 ^ (32 * (m + 2)) = dg 32 R (i + (m + 2)) := by omega
 simp only [show m + 2 - 1 = m + 1 from rfl, show m + 2 - 2 = m from rfl, show i + (m + 2) - 1 = i + (m + 1) from rfl, show i + (m + 2) - 2 = i + m from rfl] at hv ⊢
 refine ⟨D % 2 ^ (32 * m), U % 2 ^ (32 * m), 2 ^ (32 * m), hP, c3, c4, ?_, ?_, hU, ?_, ?_⟩
 ·rw [← d1, Nat.mul_comm]; exact c1.symm
 ·rw [← d2, Nat.mul_comm]; exact c2.symm
 ·rw [← d5]
  have : U < (dg 32 D (m + 1) + 1) * 2 ^ (32 * (m + 2)) := by
   rw [show m + 2 = m + 1 + 1 from rfl, yb1 32 (m + 1), B32, ← Nat.mul_assoc]
   refine Nat.lt_of_lt_of_le hU (Nat.mul_le_mul_right _ ?_)
   rw [Nat.add_mul, ← d3, Nat.mul_comm (D / _)]
   omega
  have := (Nat.div_lt_iff_lt_mul (Nat.two_pow_pos (32 * (m + 2)))).2 this
  omega
 ·rw [← d4, Nat.div_div_eq_div_mul]
  refine Nat.div_le_div_left ?_ (Nat.mul_pos (Nat.two_pow_pos _) (by omega))
  rw [← d3]; exact Nat.mul_div_le D _
theorem ykJ {N t w z : Nat} (hN : N < 2 ^ (32 * (t + 1))) (hw : w < 2 ^ 32) : upd (G 32 N) t (w : Int) = G 32 (N % 2 ^ (32 * t) + w * 2 ^ (32 * t)) := by
 rw [yr5 32 N w t hw, Nat.div_eq_of_lt hN, Nat.zero_mul, Nat.add_zero]
theorem yhj (n0 : Nat) (s : Int) (L md i : Nat) (hmd : 2 ≤ md) (hmd2 : md ≤ 1000000) (hi : i ≤ 1000000) (hL : i + md < L) (hL2 : L ≤ 2000000) (hin : i < n0) (hn : n0 ≤ 1000000) (c1 c2 c3 : Nat) (D Q R : Nat)
  (hD : D < 2 ^ (32 * md)) (hv : dg 32 D (md - 1) ≠ 0) (hR : R < D * 2 ^ (32 * (i + 1))) (hQ : Q % 2 ^ (32 * (i + 1)) = 0)
  (again : Nat → Int → Nat → Nat → Int → Int → Nat → (Nat → Int) → Nat → (Nat → Int) → Nat → (Nat → Int) → Prop) (k0 : Nat → Int → Nat → Nat → (Nat → Int) → Nat → (Nat → Int) → Prop)
  (h : ∀ q R', q < 4294967296 → R' + q * (D * 2 ^ (32 * i)) = R → R' < D * 2 ^ (32 * i) → again n0 s md L md ((i : Int) - 1) c1 (G 32 (Q + q * 2 ^ (32 * i))) c2 (G 32 D) c3 (G 32 R')) :
  zbj.l20.step again k0 n0 s md L md i c1 (G 32 Q) c2 (G 32 D) c3 (G 32 R) := by
 obtain ⟨dl, ul, P, hP, hdl, hul, hDe, hUe, hUB, hu1, hq0⟩ := ymG D R md i hmd hD hv hR
 have hv1 := yaV 32 D (md - 1)
 have hv2 := yaV 32 D (md - 2)
 have hr0 := yaV 32 R (i + md)
 have hr1 := yaV 32 R (i + md - 1)
 rw [B32] at hv1 hv2 hr0 hr1
 have hD0 : 0 < D := by
  rcases Nat.eq_zero_or_pos D with e | e
  ·rw [e] at hR; omega
  ·exact e
 have hx2 : dg 32 R (i + md) * 4294967296 + dg 32 R (i + md - 1) < 18446744073709551616 := by omega
 have hqs : R / 2 ^ (32 * i) / D < 4294967296 := (Nat.div_lt_iff_lt_mul hD0).2 (by rw [Nat.mul_comm 4294967296]; exact hUB)
 have hPi := Nat.two_pow_pos (32 * i)
 have hE : D * 2 ^ (32 * i) < 2 ^ (32 * (i + md)) := by
  rw [show 32 * (i + md) = 32 * md + 32 * i from by omega, Nat.pow_add]
  exact Nat.mul_lt_mul_of_pos_right hD hPi
 have hRlt : R < 2 ^ (32 * (i + md + 1)) := by
  refine Nat.lt_trans hR ?_
  rw [show 32 * (i + md + 1) = 32 * md + 32 * (i + 1) from by omega, Nat.pow_add]
  exact Nat.mul_lt_mul_of_pos_right hD (Nat.two_pow_pos _)
 have hq1 : R / 2 ^ (32 * i) / D * (D * 2 ^ (32 * i)) ≤ R := by
  rw [Nat.div_div_eq_div_mul, Nat.mul_comm (2 ^ (32 * i)) D]; exact Nat.div_mul_le_self _ _
 have hq2 : R < R / 2 ^ (32 * i) / D * (D * 2 ^ (32 * i)) + D * 2 ^ (32 * i) := by
  rw [Nat.div_div_eq_div_mul, Nat.mul_comm (2 ^ (32 * i)) D]
  have a := Nat.div_add_mod R (D * 2 ^ (32 * i))
  have b := Nat.mod_lt R (Nat.mul_pos hD0 hPi)
  rw [Nat.mul_comm] at a
  omega
 generalize R / 2 ^ (32 * i) = U at *
 have fin := h (U / D) (R - U / D * (D * 2 ^ (32 * i))) hqs (by omega) (by omega)
 generalize hqse : U / D = qs at *
 have i0 : yaq IntKind.i64 (md : Int) 1 = (md : Int) - 1 := by rw [yap (by omega) (by omega)]
 have i1 : yaj IntKind.i64 (i : Int) (md : Int) = (i : Int) + md := by rw [yan (by omega) (by omega)]
 have i2 : yaq IntKind.i64 ((i : Int) + md) 1 = (i : Int) + md - 1 := by rw [yap (by omega) (by omega)]
 have i3 : Int.toNat ((md : Int) - 1) = md - 1 := by omega
 have i4 : Int.toNat ((i : Int) + md - 1) = i + md - 1 := by omega
 have i5 : Int.toNat ((i : Int) + md) = i + md := by omega
 have i6 : yaq IntKind.i64 (i : Int) 1 = (i : Int) - 1 := by rw [yap (by omega) (by omega)]
 have w0 : (leI 0 ((i : Int) + md) && ltI ((i : Int) + md) (L : Int)) = true := by rw [ya4 (by omega), yaS (by omega)]; rfl
 have w1 : (leI 0 ((i : Int) + md - 1) && ltI ((i : Int) + md - 1) (L : Int)) = true := by rw [ya4 (by omega), yaS (by omega)]; rfl
 have w2 : (leI 0 ((md : Int) - 1) && ltI ((md : Int) - 1) (md : Int)) = true := by rw [ya4 (by omega), yaS (by omega)]; rfl
 have w3 : (leI 0 (i : Int) && ltI (i : Int) (n0 : Int)) = true := by rw [ya4 (by omega), yaS (by omega)]; rfl
 have w4 : (!eqI ((dg 32 D (md - 1) : Nat) : Int) 0) = true := by rw [yjr (by omega)]; rfl
 have c0 : ∀ j, cvI IntKind.u64 ((dg 32 D j : Nat) : Int) = (dg 32 D j : Nat) := fun j => by
  have := yaV 32 D j; rw [B32] at this; rw [yaO (by omega) (by omega)]
 have c4 : ∀ j, cvI IntKind.u64 ((dg 32 R j : Nat) : Int) = (dg 32 R j : Nat) := fun j => by
  have := yaV 32 R j; rw [B32] at this; rw [yaO (by omega) (by omega)]
 -- the quotient's word
 have setQ : ∀ q : Nat, q = qs → upd (G 32 Q) i (cvI IntKind.u32 (q : Int)) = G 32 (Q + qs * 2 ^ (32 * i)) := by
  intro q e
  have hz : dg 32 Q i = 0 := by
   have := ya7 32 Q i
   rw [hQ] at this
   have h0 : dg 32 Q i * 2 ^ (32 * i) = 0 := by omega
   rcases Nat.mul_eq_zero.1 h0 with h0 | h0
   ·exact h0
   ·omega
  rw [e, ybL, show ((qs : Nat) : Int) % 4294967296 = ((qs : Nat) : Int) from by omega]
  exact yfw (by rw [hz]; omega) (by rw [B32]; exact hqs)
 unfold zbj.l20.step
 rw [yaB (ya4 (by omega)), i1, i2, i0, i3, i4, i5, ybv w0, ybv w1, ybv w2]
 simp only [ybe]
 rw [c0, c4, c4, ybv w4, ybv w2, ybv w4, yia _ _ hr0 hr1, yqq _ _ hx2, yf9 (by omega), ← Int.natCast_emod]
 refine ⟨_, yhr 0 s L md i hi hmd hmd2 hL n0 D R c1 c2 c3 (G 32 Q) U (dg 32 D (md - 1)) (dg 32 D (md - 2)) dl _ (dg 32 R (i + md - 2)) ul P hP hDe hdl hUe hul hD0 hUB (by omega) ?_ hx2 rfl rfl rfl _ ?_ _ _ ?_ ?_ ?_⟩
 ·omega
 ·-- behind the guess
  intro q hge hle hqB
  rw [hqse] at hge hle
  refine ⟨md + 1, ?_⟩
  refine yir n0 s L md i q hi hmd2 hL hqB c1 c2 c3 (G 32 Q) D R hD hRlt _ ?_ md 0 R 0 0 (by omega) hRlt (by omega) (by omega) (by omega) (by simp [Nat.mod_one])
  intro N c b hN hc hb1 hb2 hE2
  have hdN := yaV 32 N (i + md)
  rw [B32] at hdN
  have hNs := ya7 32 N (i + md)
  rw [Nat.mod_eq_of_lt hN] at hNs
  have hNl := Nat.mod_lt N (Nat.two_pow_pos (32 * (i + md)))
  have e1 : ((dg 32 N (i + md) : Nat) : Int) - (c : Int) = (dg 32 N (i + md) : Int) - c := rfl
  have cz : yaj IntKind.i64 b (yaq IntKind.i64 (cvI IntKind.i64 ((dg 32 N (i + md) : Nat) : Int)) (cvI IntKind.i64 (c : Int))) = b + ((dg 32 N (i + md) : Int) - c) := by
   rw [ygo (by omega) (by omega), ygo (by omega) (by omega), yap (by omega) (by omega), yan (by omega) (by omega)]
  have hf := yp9 (z := b + ((dg 32 N (i + md) : Int) - c)) (T := q * D * 2 ^ (32 * i)) (q := q) hE hNl hq1 hq2 (by rw [Nat.mul_assoc]) (by
   rw [← hE2]
   have e2 : (N : Int) = ((N % 2 ^ (32 * (i + md)) : Nat) : Int) + (dg 32 N (i + md) : Int) * ((2 ^ (32 * (i + md)) : Nat) : Int) := by
    have : ((N : Nat) : Int) = ((N % 2 ^ (32 * (i + md)) + dg 32 N (i + md) * 2 ^ (32 * (i + md)) : Nat) : Int) := by rw [← hNs]
    rw [this]; simp
   rw [e2]
   generalize ((2 ^ (32 * (i + md)) : Nat) : Int) = PT
   rw [show b + ((dg 32 N (i + md) : Int) - c) = dg 32 N (i + md) + (b - c) from by omega, Int.add_mul]
   omega) hge hle
  show gd _ _
  rw [i1, i5, ybv w0, ybv w0]
  simp only [ybe]
  rw [cz]
  rcases hf with ⟨hq, hz, hNe⟩ | ⟨hq, hz, hNe⟩
  ·rw [hz, yau (by rfl), ybv w3, i6, Int.toNat_natCast, setQ q hq]
   have : upd (G 32 N) (i + md) (cvI IntKind.u32 0) = G 32 (R - qs * (D * 2 ^ (32 * i))) := by
    have := ykJ (w := 0) (z := 0) hN (by omega)
    rw [Nat.zero_mul, Nat.add_zero, hNe] at this
    exact this
   rw [this]; exact fin
  ·rw [hz, yaB (by rfl)]
   have hup : upd (G 32 N) (i + md) (cvI IntKind.u32 (-1)) = G 32 (N % 2 ^ (32 * (i + md)) + 4294967295 * 2 ^ (32 * (i + md))) :=
    ykJ (w := 4294967295) (z := 0) hN (by omega)
   have hNlt := ygm 32 (N % 2 ^ (32 * (i + md))) 4294967295 (i + md) hNl (by omega)
   have hs1 : yaq IntKind.u64 (q : Int) 1 = ((qs : Nat) : Int) := by rw [yj3 (by omega) (by omega)]; omega
   rw [hup, hs1]
   refine ⟨md + 1, ?_⟩
   refine yiF n0 s L md i (qs : Int) hi hmd2 hL c1 c2 c3 (G 32 Q) D (N % 2 ^ (32 * (i + md)) + 4294967295 * 2 ^ (32 * (i + md))) hD _ ?_ md 0 _ 0 (by omega) hNlt (by omega) (by simp [Nat.mod_one])
   intro N2 c5 hN2 hc5 hE3
   have hd2 := yaV 32 N2 (i + md)
   rw [B32] at hd2
   have hNs2 := ya7 32 N2 (i + md)
   rw [Nat.mod_eq_of_lt hN2] at hNs2
   have hNl2 := Nat.mod_lt N2 (Nat.two_pow_pos (32 * (i + md)))
   have cc : cvI IntKind.u32 (c5 : Int) = c5 := by rw [ybL]; omega
   -- the sum of the two highest words is the base
   have hsum : dg 32 N2 (i + md) + c5 = 4294967296 ∧ N2 % 2 ^ (32 * (i + md)) = R - qs * (D * 2 ^ (32 * i)) := by
    have hl : N2 % 2 ^ (32 * (i + md)) + (dg 32 N2 (i + md) + c5) * 2 ^ (32 * (i + md)) = (R - qs * (D * 2 ^ (32 * i))) + 4294967296 * 2 ^ (32 * (i + md)) := by
     rw [Nat.add_mul]; omega
    have hlt : R - qs * (D * 2 ^ (32 * i)) < 2 ^ (32 * (i + md)) := by omega
    generalize 2 ^ (32 * (i + md)) = PT at *
    generalize dg 32 N2 (i + md) + c5 = t at *
    generalize R - qs * (D * 2 ^ (32 * i)) = v at *
    generalize N2 % PT = u at *
    have hPT : 0 < PT := by omega
    have a1 : (u + t * PT) / PT = t := by rw [Nat.add_mul_div_right _ _ hPT, Nat.div_eq_of_lt hNl2, Nat.zero_add]
    have a2 : (v + 4294967296 * PT) / PT = 4294967296 := by rw [Nat.add_mul_div_right _ _ hPT, Nat.div_eq_of_lt hlt, Nat.zero_add]
    rw [hl, a2] at a1
    subst a1
    exact ⟨rfl, by omega⟩
   show gd _ _
   rw [i1, i5, ybv w0, ybv w0, ybv w3, i6, Int.toNat_natCast, setQ qs rfl]
   simp only [ybe]
   have ha : yaj IntKind.u32 ((dg 32 N2 (i + md) : Nat) : Int) (cvI IntKind.u32 (c5 : Int)) = ((0 : Nat) : Int) := by
    rw [cc, show yaj IntKind.u32 ((dg 32 N2 (i + md) : Nat) : Int) (c5 : Int) = IntKind.wrap .u32 (((dg 32 N2 (i + md) : Nat) : Int) + c5) from rfl, ynB]
    omega
   rw [ha, ykJ (w := 0) (z := 0) hN2 (by omega), Nat.zero_mul, Nat.add_zero, hsum.2]
   exact fin
 ·rw [Nat.mul_comm]; exact Nat.div_add_mod _ _
 ·exact Nat.lt_trans (Nat.mod_lt _ (by omega)) hv1
 ·rw [hqse]; exact hq0
theorem yrw {Q n m : Nat} (h : Q % 2 ^ m = 0) (hn : n ≤ m) : Q % 2 ^ n = 0 := by
 have : 2 ^ n ∣ 2 ^ m := Nat.pow_dvd_pow 2 hn
 exact Nat.mod_eq_zero_of_dvd (Nat.dvd_trans this (Nat.dvd_of_mod_eq_zero h))
theorem yit (n0 : Nat) (s : Int) (L md : Nat) (hmd : 2 ≤ md) (hmd2 : md ≤ 1000000) (hL2 : L ≤ 2000000) (hn : n0 ≤ 1000000) (c1 c2 c3 : Nat) (D N0 : Nat)
  (hD : D < 2 ^ (32 * md)) (hv : dg 32 D (md - 1) ≠ 0)
  (k0 : Nat → Int → Nat → Nat → (Nat → Int) → Nat → (Nat → Int) → Prop)
  (h : ∀ Q R, Q * D + R = N0 → R < D → Q < 2 ^ (32 * n0) → k0 n0 s L c1 (G 32 Q) c3 (G 32 R)) :
  ∀ (t Q R : Nat), t + md ≤ L → t ≤ n0 → R < D * 2 ^ (32 * t) → Q % 2 ^ (32 * t) = 0 → Q < 2 ^ (32 * n0) → Q * D + R = N0 → zbj.l20 k0 (t + 1) n0 s md L md ((t : Int) - 1) c1 (G 32 Q) c2 (G 32 D) c3 (G 32 R) := by
 intro t
 induction t with
 | zero =>
  intro Q R hL ht hR hQ hQ2 hN
  unfold zbj.l20 zbj.l20.step
  rw [yau (yes (by omega))]
  refine h Q R hN ?_ hQ2
  rw [Nat.mul_zero, Nat.pow_zero, Nat.mul_one] at hR; exact hR
 | succ t ih =>
  intro Q R hL ht hR hQ hQ2 hN
  unfold zbj.l20
  rw [show ((t + 1 : Nat) : Int) - 1 = (t : Int) from by omega]
  refine yhj n0 s L md t hmd hmd2 (by omega) (by omega) hL2 (by omega) hn c1 c2 c3 D Q R hD hv hR hQ _ _ fun q R' hq he hR' => ?_
  have hz : dg 32 Q t = 0 := by
   have h1 := ya7 32 Q t
   rw [hQ] at h1
   have h0 : dg 32 Q t * 2 ^ (32 * t) = 0 := by omega
   have hp := Nat.two_pow_pos (32 * t)
   rcases Nat.mul_eq_zero.1 h0 with h0 | h0
   ·exact h0
   ·omega
  refine ih _ R' (by omega) (by omega) hR' ?_ (yng (w := q) (j := t) (by omega) hQ2 (by omega) (by rw [B32]; exact hq) (by rw [hz]; omega)) ?_
  ·rw [Nat.add_mul_mod_self_right]; exact yrw hQ (by omega)
  ·rw [Nat.add_mul, Nat.mul_assoc, Nat.mul_comm (2 ^ (32 * t)) D]; omega
theorem yj2 (x y n : Nat) (hn : n ≤ 1000000) (hy : y ≠ 0) (hyB : y < 4294967296) (k0 : Nat → Int → Nat → (Nat → Int) → Prop) (c : Nat) (h : k0 n ((x % y : Nat) : Int) c (G 32 (x / y))) :
  ∀ t, t ≤ n → zbj.l7 k0 (t + 1) n (G 32 x) 1 (G 32 y) n ((x / 2 ^ (32 * t) % y : Nat) : Int) ((t : Int) - 1) c (G 32 (x / 2 ^ (32 * t) / y * 2 ^ (32 * t))) := by
 intro t
 induction t with
 | zero =>
  intro ht
  unfold zbj.l7 zbj.l7.step
  rw [yau (yes (by omega)), Nat.mul_zero, Nat.pow_zero, Nat.div_one, Nat.mul_one]
  exact h
 | succ t ih =>
  intro ht
  have ih := ih (by omega)
  have hX := ydk 32 x t
  rw [B32] at hX
  have hd := yaV 32 x t
  rw [B32] at hd
  have hp := Nat.two_pow_pos (32 * t)
  generalize hX1 : x / 2 ^ (32 * (t + 1)) = X1 at *
  rw [hX] at ih
  have hr := Nat.mod_lt X1 (show 0 < y by omega)
  have hdm := Nat.div_add_mod X1 y
  generalize hre : X1 % y = r at *
  generalize hqe : X1 / y = Q1 at *
  have hsum : dg 32 x t + X1 * 4294967296 = r * 4294967296 + dg 32 x t + y * (Q1 * 4294967296) := by
   rw [← hdm, Nat.add_mul, Nat.mul_assoc]; omega
  have hmod : (dg 32 x t + X1 * 4294967296) % y = (r * 4294967296 + dg 32 x t) % y := by rw [hsum, Nat.add_mul_mod_self_left]
  have hdiv : (dg 32 x t + X1 * 4294967296) / y = (r * 4294967296 + dg 32 x t) / y + Q1 * 4294967296 := by rw [hsum, Nat.add_mul_div_left _ _ (by omega)]
  rw [hmod, hdiv] at ih
  have hq : (r * 4294967296 + dg 32 x t) / y < 4294967296 := by
   rw [Nat.div_lt_iff_lt_mul (by omega)]
   have : (r + 1) * 4294967296 ≤ y * 4294967296 := Nat.mul_le_mul_right _ hr
   omega
  have hw : r * 4294967296 + dg 32 x t < 18446744073709551616 := by omega
  have hG : upd (G 32 (Q1 * 2 ^ (32 * (t + 1)))) t (((r * 4294967296 + dg 32 x t) / y : Nat) : Int) = G 32 (((r * 4294967296 + dg 32 x t) / y + Q1 * 4294967296) * 2 ^ (32 * t)) := by
   have hz : dg 32 (Q1 * 2 ^ (32 * (t + 1))) t = 0 := by
    unfold dg
    rw [yb1, B32, Nat.mul_comm (2 ^ _), ← Nat.mul_assoc, Nat.mul_div_cancel _ hp]
    exact Nat.mul_mod_left _ _
   refine yfw ?_ (by rw [B32]; exact hq)
   rw [hz, yb1, B32, Nat.add_mul, Nat.mul_comm (2 ^ (32 * t)) 4294967296, ← Nat.mul_assoc]
   omega
  rw [← hG] at ih
  have o := yia r (dg 32 x t) (by omega) hd
  have y0 : G 32 y 0 = (y : Int) := by rw [ybe, ysY 32 y (by rw [B32]; exact hyB)]
  have e1 : ((t + 1 : Nat) : Int) - 1 = (t : Int) := by omega
  have w0 : (leI 0 (t : Int) && ltI (t : Int) (n : Int)) = true := by rw [ya4 (by omega), yaS (by omega)]; rfl
  have w1 : (!eqI (y : Int) 0) = true := by rw [yjr (by omega)]; rfl
  have cy : cvI IntKind.u64 (y : Int) = y := by rw [yaO (by omega) (by omega)]
  have cx : cvI IntKind.u64 ((dg 32 x t : Nat) : Int) = (dg 32 x t : Nat) := by rw [yaO (by omega) (by omega)]
  have r0 : ∀ a : Nat, yca IntKind.u64 ((a : Nat) : Int) ((y : Nat) : Int) = ((a % y : Nat) : Int) := fun a => by rw [yf9 (by omega), ← Int.natCast_emod]
  unfold zbj.l7 zbj.l7.step
  rw [e1, yaB (ya4 (by omega)), ybv w0, ybv (yaS (by omega)), y0, cy, ybv w1, ybv w0, ybv (yaS (by omega)), ybv w1, Int.toNat_natCast, ybe, cx, o, yqq _ _ hw, r0, ybL, yap (by omega) (by omega)]
  have e2 : ∀ q : Nat, q < 4294967296 → ((q : Nat) : Int) % 4294967296 = q := fun q h => by omega
  rw [e2 _ hq]
  exact ih
theorem yt3 (n x : Nat) (hx : x < 2 ^ (32 * n)) : app n (G 32 x) (upd (fun _ => 0) 0 0) = G 32 x := by
 funext i
 unfold app
 by_cases h : i < n
 ·have : Nat.blt i n = true := by simpa using h
  rw [this]; rfl
 ·have : Nat.blt i n = false := by
   apply Bool.eq_false_iff.2; intro hc; simp at hc; omega
  rw [this, ybe, ydZ 32 x n i hx (by omega)]
  show upd (fun _ => 0) 0 0 (i - n) = _
  by_cases h0 : i - n = 0
  ·rw [h0, yb7]; rfl
  ·rw [ycP _ _ _ _ h0]; rfl
theorem ymH (x y s : Nat) : x * 2 ^ s / (y * 2 ^ s) = x / y := Nat.mul_div_mul_right _ _ (Nat.two_pow_pos s)
theorem ynd (x y s : Nat) : x * 2 ^ s % (y * 2 ^ s) = x % y * 2 ^ s := Nat.mul_mod_mul_right _ _ _
theorem yt8 (k : Nat) (hk : k ≠ 0) (x n : Nat) : n < wl k x ↔ 2 ^ (k * n) ≤ x := by
 have := ydW k hk x n
 omega
theorem yd3 (x y : Nat) (hx : wl 32 x ≤ 100000) (hy0 : y ≠ 0) (hy : wl 32 y ≤ 100000) (K : Nat → (Nat → Int) → Nat → (Nat → Int) → Prop) (h : K (wl 32 (x / y)) (G 32 (x / y)) (wl 32 (x % y)) (G 32 (x % y))) :
  zbj (wl 32 x) (G 32 x) (wl 32 y) (G 32 y) K := by
 have h32 : (32 : Nat) ≠ 0 := by omega
 rw [zbj.is]; unfold zbj.d
 refine ygb x y _ _ (by omega) (by omega) rfl rfl _ ?_
 rw [yjS]
 by_cases hlt : x < y
 ·rw [yaB (by simpa using hlt)]
  rw [Nat.div_eq_of_lt hlt, Nat.mod_eq_of_lt hlt, yc5, ybY] at h
  exact h
 ·rw [yau (by simpa using hlt)]
  have hxl := yeP 32 h32 x
  have hyl := yeP 32 h32 y
  have hyt := ynz 32 h32 y hy0
  have hxy := ybn (k := 32) h32 (show y ≤ x by omega)
  have hyp : wl 32 y ≠ 0 := by rw [yii hy0 h32]; omega
  have hdx : x / y < 2 ^ (32 * wl 32 x) := Nat.lt_of_le_of_lt (Nat.div_le_self x y) hxl
  generalize hne : wl 32 x = n at *
  rw [ybv (by rw [ya4 (by omega), ya4 (by omega), ya4 (by omega)]; rfl)]
  by_cases h1 : wl 32 y = 1
  ·have hyB : y < 4294967296 := by rw [h1] at hyl; exact hyl
   rw [h1, yaB (ylW (by omega)), Int.toNat_natCast, yap (by omega) (by omega)]
   refine ⟨n + 1, ?_⟩
   have := yj2 x y n (by omega) hy0 hyB (fun y0 y1 y2 y3 => zbc y0 y2 y3 fun y0 y1_1 y2 => zbd 1 1 1 (upd (fun x => 0) 0 (cvI IntKind.u32 y1)) fun y0_1 y1 y2_1 y3 => K y0 y2 y0_1 y3) n ?_ n (Nat.le_refl _)
   ·rw [Nat.div_eq_of_lt hxl, Nat.zero_mod, Nat.zero_div, Nat.zero_mul, ybY] at this
    exact this
   ·refine yd1 n n _ (by omega) hdx _ ?_
    have hm := Nat.mod_lt x (show 0 < y by omega)
    have := yhp 32 0 (x % y) 0 (by simp) (by rw [B32]; omega)
    rw [Nat.mul_zero, Nat.pow_zero, Nat.mul_one, Nat.zero_add, ybY] at this
    rw [ybL, show ((x % y : Nat) : Int) % 4294967296 = ((x % y : Nat) : Int) from by generalize x % y = r at *; omega, this]
    exact ybZ 1 1 1 _ (by omega) (by omega) (by rw [show 32 * 1 = 32 from rfl, B32]; omega) _ fun c => h
  ·rw [yau (yjr (by omega))]
   have hdt := yaV 32 y (wl 32 y - 1)
   rw [B32] at hdt
   have e1 : Int.toNat ((wl 32 y : Int) - 1) = wl 32 y - 1 := by omega
   rw [yap (by omega) (by omega), e1, ybv (by rw [ya4 (by omega), yaS (by omega)]; rfl), ybe, yaO (by omega) (by omega)]
   refine ydy _ (by omega) _ ?_
   have hb : yav (dg 32 y (wl 32 y - 1)) ≤ 32 := (yaP _ _).2 (by rw [B32]; exact hdt)
   have es : yaq IntKind.i64 32 ((yav (dg 32 y (wl 32 y - 1)) : Nat) : Int) = ((32 - yav (dg 32 y (wl 32 y - 1)) : Nat) : Int) := by
    rw [yap (by omega) (by omega)]; omega
   rw [es]
   generalize hse : 32 - yav (dg 32 y (wl 32 y - 1)) = s
   have hs : s ≤ 32 := by omega
   -- the divisor moved
   have hps := Nat.two_pow_pos s
   have hD0 : y * 2 ^ s ≠ 0 := by
    intro e; rcases Nat.mul_eq_zero.1 e with e | e
    ·exact hy0 e
    ·omega
   have hX0 : x * 2 ^ s ≠ 0 := by
    intro e; rcases Nat.mul_eq_zero.1 e with e | e
    ·omega
    ·omega
   have hle : ∀ z : Nat, z ≤ z * 2 ^ s := fun z => Nat.le_mul_of_pos_right z hps
   have wD1 := ybn (k := 32) h32 (hle y)
   have wX1 := ybn (k := 32) h32 (hle x)
   have wup : ∀ z m : Nat, z < 2 ^ (32 * m) → wl 32 (z * 2 ^ s) ≤ m + 1 := fun z m hz => by
    rw [ydW 32 h32, yb1]
    exact Nat.mul_lt_mul_of_lt_of_le hz (Nat.pow_le_pow_right (by omega) hs) (Nat.two_pow_pos _)
   have wD2 := wup y _ hyl
   have wX2 := wup x _ hxl
   have wDX : wl 32 (y * 2 ^ s) ≤ wl 32 (x * 2 ^ s) := ybn (k := 32) h32 (Nat.mul_le_mul_right _ (by omega))
   rw [hne] at wX1
   refine yfp y _ s (by omega) (by omega) hyl _ _ (fun e => absurd e hyp) fun _ c2 m2 => ?_
   refine yfp x _ s (by omega) (by omega) hxl _ _ (fun e => absurd e (by omega)) fun _ c3 m3 => ?_
   have hDl := yeP 32 h32 (y * 2 ^ s)
   have hDt := ynz 32 h32 _ hD0
   have hXl := yeP 32 h32 (x * 2 ^ s)
   rw [yt3 _ _ hXl]
   generalize hmd : wl 32 (y * 2 ^ s) = md at *
   generalize hL : wl 32 (x * 2 ^ s) = L at *
   rw [ybv (ytO (by omega))]
   refine ⟨1, ?_⟩
   unfold zbj.l16 zbj.l16.step
   rw [yan (by omega) (by omega), yau (ya1 (by omega)), Int.toNat_natCast]
   dsimp only
   have ei : yaq IntKind.i64 (yaq IntKind.i64 ((L + 1 : Nat) : Int) (md : Int)) 1 = ((L + 1 - md : Nat) : Int) - 1 := by
    simp (disch := omega) only [yap]
    omega
   rw [ei]
   refine ⟨L + 1 - md + 1, ?_⟩
   rw [← ybY 32]
   refine yit n s (L + 1) md (by omega) (by omega) (by omega) (by omega) n m2 (L + 1) (y * 2 ^ s) (x * 2 ^ s) hDl hDt _ (fun Q R he hR hQ => ?_) (L + 1 - md) 0 (x * 2 ^ s) (by omega) (by omega) ?_ (by simp) (Nat.two_pow_pos _) (by omega)
   ·have hq : Q = x / y := by
     rw [← ymH x y s, ← he, Nat.mul_comm Q, Nat.mul_add_div (by omega), Nat.div_eq_of_lt hR, Nat.add_zero]
    have hr : R = x % y * 2 ^ s := by
     rw [← ynd x y s, ← he, Nat.mul_comm Q, Nat.mul_add_mod, Nat.mod_eq_of_lt hR]
    refine yd1 n n Q (by omega) hQ _ ?_
    have hRX : R < 2 ^ (32 * (L + 1)) := by
     have h1 : R ≤ x * 2 ^ s := by rw [← he]; omega
     have h2 : (2 : Nat) ^ (32 * L) ≤ 2 ^ (32 * (L + 1)) := Nat.pow_le_pow_right (by omega) (by omega)
     omega
    refine yd1 (L + 1) (L + 1) R (by omega) hRX _ ?_
    refine yeO R _ s ?_ (by omega) (yeP 32 h32 R) _ ?_
    ·have := (ydW 32 h32 R (L + 1)).2 hRX
     omega
    ·have : R / 2 ^ s = x % y := by rw [hr, Nat.mul_div_cancel _ hps]
     rw [this, hq]; exact h
   ·have h1 : 2 ^ (32 * (md - 1)) ≤ y * 2 ^ s := (yt8 32 h32 _ _).1 (by omega)
    have h2 : 2 ^ (32 * (md - 1)) * 2 ^ (32 * (L + 1 - md)) ≤ y * 2 ^ s * 2 ^ (32 * (L + 1 - md)) := Nat.mul_le_mul_right _ h1
    rw [← Nat.pow_add, show 32 * (md - 1) + 32 * (L + 1 - md) = 32 * L from by omega] at h2
    omega
end Go.Ev.S

/- Natural numbers: quotients, greatest common divisors, roots. -/
set_option linter.unusedVariables false
set_option linter.unusedSimpArgs false
set_option maxRecDepth 8000
namespace Go.Ev.S
open Go Go.Ev
theorem ygP {a : List UInt8} (h : yjc a = true) : val a = 0 ↔ a = [] := by
 constructor
 ·intro e; rw [← yju h, e, yaN]
 ·intro e; subst e; rfl
theorem yfN (a b : List UInt8) (K : List UInt8 → List UInt8 → Int → Prop) (h1 : ¬ (May a ∧ May b) → K [] [] 2) (h0 : b = [] → K [] [] 2) (h2 : May a → May b → val b ≠ 0 → K (nb (val a / val b)) (nb (val a % val b)) 0) : zat a b K := by
 rw [zat.is]; unfold zat.d
 rw [yc3]
 by_cases h : May a ∧ May b
 ·rw [yau (by simp [h]), ya9]
  by_cases hb : b = []
  ·rw [yaB (by simpa using hb)]; exact h0 hb
  ·rw [yau (by simpa using hb)]
   have hv : val b ≠ 0 := fun e => hb ((ygP h.2.2).1 e)
   refine h.1.words _ (h.2.words _ ?_)
   have w1 := h.1.wl; have w2 := h.2.wl
   have w3 := ybn (k := 32) (by omega) (Nat.div_le_self (val a) (val b))
   have w4 := ybn (k := 32) (by omega) (Nat.mod_le (val a) (val b))
   refine yd3 _ _ (by omega) hv (by omega) _ ?_
   refine ybp _ _ (by omega) (ybW _) _ ?_
   exact ybp _ _ (by omega) (ybW _) _ (h2 h.1 h.2 hv)
 ·rw [yaB (by simp [h])]; exact h1 h
theorem ykN (k0 : Nat → (Nat → Int) → Prop) : ∀ (y x : Nat), wl 32 x ≤ 100000 → wl 32 y ≤ 100000 → k0 (wl 32 (Nat.gcd x y)) (G 32 (Nat.gcd x y)) → ∃ f, zau.l4 k0 f (wl 32 x) (G 32 x) (wl 32 y) (G 32 y) := by
 intro y
 induction y using Nat.strongRecOn with
 | _ y ih =>
  intro x hx hy hk
  by_cases h0 : y = 0
  ·subst h0
   refine ⟨1, ?_⟩
   unfold zau.l4 zau.l4.step
   rw [yc5, yau (ya1 (by omega))]
   rw [Nat.gcd_zero_right] at hk; exact hk
  ·have hm := Nat.mod_lt x (show 0 < y by omega)
   have w := ybn (k := 32) (by omega) (Nat.le_of_lt hm)
   have hg : Nat.gcd y (x % y) = Nat.gcd x y := by rw [Nat.gcd_comm x y, Nat.gcd_rec y x, Nat.gcd_comm]
   obtain ⟨f, hf⟩ := ih (x % y) hm y hy (by omega) (by rw [hg]; exact hk)
   refine ⟨f + 1, ?_⟩
   unfold zau.l4 zau.l4.step
   have hp : wl 32 y ≠ 0 := by rw [yii h0 (by omega)]; omega
   rw [yaB (yaS (by omega))]
   exact yd3 x y hx h0 hy _ hf
theorem yo0 (x y : Nat) : Nat.gcd x y ≤ x ∨ Nat.gcd x y ≤ y := by
 rcases Nat.eq_zero_or_pos x with e | e
 ·right; subst e; rw [Nat.gcd_zero_left]; omega
 ·left; exact Nat.gcd_le_left y e
theorem yjx (a b : List UInt8) (K : List UInt8 → Int → Prop) (h1 : ¬ (May a ∧ May b) → K [] 2) (h2 : May a → May b → K (nb (Nat.gcd (val a) (val b))) 0) : zau a b K := by
 rw [zau.is]; unfold zau.d
 rw [yc3]
 by_cases h : May a ∧ May b
 ·rw [yau (by simp [h])]
  refine h.1.words _ (h.2.words _ ?_)
  have w1 := h.1.wl; have w2 := h.2.wl
  refine ykN _ _ _ (by omega) (by omega) ?_
  have w3 : wl 32 (Nat.gcd (val a) (val b)) ≤ 4096 := by
   rcases yo0 (val a) (val b) with e | e
   ·have := ybn (k := 32) (by omega) e; omega
   ·have := ybn (k := 32) (by omega) e; omega
  exact ybp _ _ (by omega) (ybW _) _ (h2 h.1 h.2)
 ·rw [yaB (by simp [h])]; exact h1 h
theorem ys7 (k0 : Nat → Nat → Nat → (Nat → Int) → Prop) : ∀ n, zbp.l5 k0 n = zbo.l5 k0 n := by
 intro n
 induction n with
 | zero => rfl
 | succ n ih =>
  unfold zbp.l5 zbo.l5
  rw [ih]; rfl
theorem ytj (n : Nat) (f : Nat → Int) (s : Int) (K : Nat → (Nat → Int) → Prop) : zbp n f s K = zbo n f s (K 0 fun _ => 0) (fun y0 _ _ y3 => K y0 y3) := by
 rw [zbp.is, zbo.is]; unfold zbp.d zbo.d
 simp only [ys7]
def yb8 (x r : Nat) : Prop := r * r ≤ x ∧ x < (r + 1) * (r + 1)
theorem yp8 {x r s : Nat} (h : yb8 x r) (g : yb8 x s) : r = s := by
 have key : ∀ {r s : Nat}, yb8 x r → yb8 x s → r ≤ s := by
  intro r s h g
  apply Classical.byContradiction
  intro hc
  have : (s + 1) * (s + 1) ≤ r * r := Nat.mul_le_mul (by omega) (by omega)
  have h1 := h.1; have h2 := g.2
  omega
 have h1 := key h g; have h2 := key g h
 omega
theorem ytF {x r : Nat} (hr : 0 < r) : x < ((r + x / r) / 2 + 1) * ((r + x / r) / 2 + 1) := by
 have h1 : x < r * (x / r + 1) := by
  have := Nat.div_add_mod x r
  have := Nat.mod_lt x hr
  rw [Nat.mul_add]; omega
 generalize x / r = q at *
 have h2 : r + (q + 1) ≤ 2 * ((r + q) / 2 + 1) := by omega
 have h3 : (r + (q + 1)) * (r + (q + 1)) ≤ 2 * ((r + q) / 2 + 1) * (2 * ((r + q) / 2 + 1)) := Nat.mul_le_mul h2 h2
 generalize (r + q) / 2 + 1 = m at *
 generalize q + 1 = p at *
 have h4 : 4 * (r * p) ≤ (r + p) * (r + p) := by
  rcases Nat.le_total r p with e | e
  ·obtain ⟨d, rfl⟩ := Nat.exists_eq_add_of_le e
   have : (r + (r + d)) * (r + (r + d)) = 4 * (r * (r + d)) + d * d := by
    simp only [Nat.add_mul, Nat.mul_add]
    have := Nat.mul_comm d r
    omega
   omega
  ·obtain ⟨d, rfl⟩ := Nat.exists_eq_add_of_le e
   have : (p + d + p) * (p + d + p) = 4 * ((p + d) * p) + d * d := by
    simp only [Nat.add_mul, Nat.mul_add]
    have := Nat.mul_comm d p
    omega
   omega
 have h5 : 2 * m * (2 * m) = 4 * (m * m) := by
  rw [Nat.mul_assoc, Nat.mul_left_comm m 2 m, ← Nat.mul_assoc]
 omega
theorem ym1 {x r : Nat} (hr : 0 < r) (h : r ≤ (r + x / r) / 2) : r * r ≤ x := by
 have h1 : r ≤ x / r := by omega
 exact (Nat.le_div_iff_mul_le hr).1 h1
theorem yj5 (x : Nat) (hx0 : x ≠ 0) (hx : wl 32 x ≤ 100000) (k0 : Nat → (Nat → Int) → Nat → (Nat → Int) → Prop) (hk : ∀ r, yb8 x r → k0 (wl 32 x) (G 32 x) (wl 32 r) (G 32 r)) :
  ∀ r, wl 32 r ≤ 100000 → 0 < r → x < (r + 1) * (r + 1) → ∃ f, zaz.l7 k0 f (wl 32 x) (G 32 x) (wl 32 r) (G 32 r) := by
 intro r
 induction r using Nat.strongRecOn with
 | _ r ih =>
  intro hw hr hlt
  have w1 := ybn (k := 32) (by omega) (Nat.div_le_self x r)
  have w2 : wl 32 (r + x / r) ≤ 100000 + 1 := ysc hw (by omega)
  have hn := ytF (x := x) hr
  have base : ∀ again : Nat → (Nat → Int) → Nat → (Nat → Int) → Prop, (ltI (sgn ((r + x / r) / 2) r) 0 = false → k0 (wl 32 x) (G 32 x) (wl 32 r) (G 32 r)) → ((r + x / r) / 2 < r → again (wl 32 x) (G 32 x) (wl 32 ((r + x / r) / 2)) (G 32 ((r + x / r) / 2))) →
    zaz.l7.step again k0 (wl 32 x) (G 32 x) (wl 32 r) (G 32 r) := by
   intro again g1 g2
   unfold zaz.l7.step
   refine yd3 x r hx (by omega) hw _ ?_
   refine yjs r (x / r) _ _ (by omega) (by omega) (ybW _) (ybW _) _ ?_
   refine yeO (r + x / r) _ 1 (by omega) (by omega) (ybW _) _ ?_
   rw [Nat.pow_one]
   have w3 := ybn (k := 32) (by omega) (Nat.div_le_self (r + x / r) 2)
   refine ygb _ _ _ _ (by omega) (by omega) rfl rfl _ ?_
   by_cases hc : (r + x / r) / 2 < r
   ·rw [yau (yes (by unfold sgn; rw [if_pos hc]; omega))]
    exact g2 hc
   ·rw [yaB (ya4 (by unfold sgn; rw [if_neg hc]; split <;> omega))]
    refine g1 ?_
    rw [yjS]; simpa using hc
  by_cases hc : (r + x / r) / 2 < r
  ·have hpos : 0 < (r + x / r) / 2 := by
    apply Classical.byContradiction
    intro h0
    have h1 : (r + x / r) / 2 = 0 := Nat.le_zero.1 (Nat.not_lt.1 h0)
    rw [h1] at hn
    omega
   have w3 := ybn (k := 32) (by omega) (Nat.le_of_lt hc)
   obtain ⟨f, hf⟩ := ih _ hc (by omega) hpos hn
   refine ⟨f + 1, ?_⟩
   unfold zaz.l7
   refine base _ (fun e => ?_) fun _ => hf
   rw [yjS] at e
   exact absurd hc (by simpa using e)
  ·refine ⟨1, ?_⟩
   unfold zaz.l7
   exact base _ (fun _ => hk r ⟨ym1 hr (by omega), hlt⟩) fun e => absurd e hc
theorem ym6 (a : List UInt8) (K : List UInt8 → List UInt8 → Int → Prop) (h1 : ¬ May a → K [] [] 2) (h2 : May a → ∀ r, yb8 (val a) r → K (nb r) (nb (val a - r * r)) 0) : zaz a K := by
 rw [zaz.is]; unfold zaz.d
 rw [yaW]
 by_cases hm : May a
 ·rw [if_pos hm, yau (by rfl), ya9]
  by_cases hz : a = []
  ·rw [yaB (by simpa using hz)]
   have := h2 hm 0 (by subst hz; exact ⟨by decide, by decide⟩)
   subst hz
   rw [yfK, Nat.zero_mul, Nat.sub_zero, yaN] at this
   exact this
  ·rw [yau (by simpa using hz)]
   have hx0 : val a ≠ 0 := fun e => hz ((ygP hm.2).1 e)
   have w1 := hm.wl
   refine hm.words _ (yjB _ (by omega) _ ?_)
   have gen : ∀ m, m = 16384 → yav (val a) ≤ 8 * m := fun m hm2 => (yaP _ _).2 (Nat.lt_of_lt_of_le (ygg a) (by rw [ynJ]; exact ybQ (by have := hm.1; omega)))
   have hb := gen 16384 rfl
   have hbl := (yaP (val a) _).1 (Nat.le_refl _)
   have e1 : yaE IntKind.i64 (yaj IntKind.i64 ((yav (val a) : Nat) : Int) 1) 2 = (((yav (val a) + 1) / 2 : Nat) : Int) := by
    simp (disch := omega) only [yan, ybw]
    omega
   have e2 : upd (fun _ => (0 : Int)) 0 1 = G 32 1 := by
    have := yhp 32 0 1 0 (by simp) (by omega)
    rw [Nat.mul_zero, Nat.pow_zero, Nat.mul_one, Nat.zero_add, ybY] at this
    exact this
   rw [e1, ytj, e2]
   have hs1 : (yav (val a) + 1) / 2 ≤ 65537 := by omega
   have hs2 : yav (val a) ≤ (yav (val a) + 1) / 2 + (yav (val a) + 1) / 2 := by omega
   generalize (yav (val a) + 1) / 2 = s at *
   refine yfp 1 1 s (by omega) (by omega) (by omega) _ _ (fun e => by omega) fun _ _ _ => ?_
   rw [Nat.one_mul]
   have hps := Nat.two_pow_pos s
   have hw : wl 32 (2 ^ s) ≤ s + 1 := (ydW 32 (by omega) _ _).2 (Nat.pow_lt_pow_right (by omega) (by omega))
   have hlt : val a < (2 ^ s + 1) * (2 ^ s + 1) := by
    have h1 : 2 ^ yav (val a) ≤ 2 ^ (s + s) := Nat.pow_le_pow_right (by omega) hs2
    rw [Nat.pow_add] at h1
    have h3 : 2 ^ s * 2 ^ s ≤ (2 ^ s + 1) * (2 ^ s + 1) := Nat.mul_le_mul (by omega) (by omega)
    omega
   refine yj5 (val a) hx0 (by omega) _ (fun r hr => ?_) _ (by omega) hps hlt
   have hrx : r ≤ val a := by
    have h1 := hr.1
    rcases Nat.eq_zero_or_pos r with e | e
    ·omega
    ·have := Nat.mul_le_mul_left r e
     omega
   have w2 := ybn (k := 32) (by omega) hrx
   have w3 := ybn (k := 32) (by omega) hr.1
   have w4 := ybn (k := 32) (by omega) (Nat.sub_le (val a) (r * r))
   refine ybp _ _ (by omega) (ybW _) _ ?_
   refine ykU r r _ _ (by omega) (by omega) (ybW _) (ybW _) _ ?_
   refine ymV _ _ _ _ (by omega) (by omega) (ybW _) (ybW _) hr.1 _ ?_
   exact ybp _ _ (by omega) (ybW _) _ (h2 hm r hr)
 ·rw [if_neg hm, yaB (by rfl)]; exact h1 hm
end Go.Ev.S

/- What the document's answer reckons with natural numbers, byte by byte. -/
set_option linter.unusedVariables false
set_option linter.unusedSimpArgs false
set_option maxRecDepth 8000
namespace Go.Ev.S
open Go Go.Ev
theorem B8 : (2 : Nat) ^ 8 = 256 := rfl
theorem ym5 (n0 x : Nat) (hn0 : n0 ≤ 1000000000) (k0 : Nat → (Nat → Int) → Int → Prop) (h : ∀ n : Nat, n ≤ n0 → x < 2 ^ (8 * n) → (n = 0 ∨ dg 8 x (n - 1) ≠ 0) → k0 n0 (G 8 x) n) :
  ∀ (n : Nat), n ≤ n0 → x < 2 ^ (8 * n) → zcu.l2 k0 (n + 1) n0 (G 8 x) n := by
 intro n
 induction n with
 | zero =>
  intro hn hx
  unfold zcu.l2 zcu.l2.step
  rw [yau (ya1 (by omega))]
  exact h 0 hn hx (.inl rfl)
 | succ n ih =>
  intro hn hx
  unfold zcu.l2 zcu.l2.step
  have e1 : ((n + 1 : Nat) : Int) - 1 = (n : Int) := by omega
  simp (disch := omega) only [yap, yaS, ya4, yay, yaX, Bool.and_self, e1, Int.toNat_natCast, ybe]
  by_cases hd : dg 8 x n = 0
  ·rw [yaB (ylW (by omega))]
   refine ih (by omega) ?_
   have h2 := ya7 8 x n
   rw [Nat.mod_eq_of_lt hx, hd, Nat.zero_mul, Nat.add_zero] at h2
   have := Nat.mod_lt x (Nat.two_pow_pos (8 * n))
   omega
  ·rw [yau (yjr (by omega))]
   exact h (n + 1) hn hx (.inr hd)
theorem ylU (n0 x L c m : Nat) (hL : L ≤ n0) (hn0 : n0 ≤ 1000000000) (k0 : Nat → Nat → Nat → (Nat → Int) → Prop) (h : k0 L c m (BE L L x)) :
  ∀ (j i : Nat), i + j = L → zcu.l6 k0 (j + 1) n0 (G 8 x) L L c i m (BE L i x) := by
 intro j
 induction j with
 | zero =>
  intro i hi
  unfold zcu.l6 zcu.l6.step
  rw [yau (ya1 (by omega)), show i = L from by omega]
  exact h
 | succ j ih =>
  intro i hi
  have ih := ih (i + 1) (by omega)
  have e : ((i + 1 : Nat) : Int) = (i : Int) + 1 := by omega
  rw [e] at ih
  have e2 : Int.toNat ((L : Int) - 1 - i) = L - 1 - i := by omega
  unfold zcu.l6 zcu.l6.step
  simp (disch := omega) only [yap, yan, yaS, ya4, yay, yaX, Bool.and_self, Int.toNat_natCast, e2, ybe]
  rw [ypz L i x (by omega)]
  exact ih
theorem ycg (n x : Nat) (hn : n ≤ 1000000000) (hx : x < 2 ^ (8 * n)) (K : List UInt8 → Prop) (h : K (nb x)) : zcu n (G 8 x) K := by
 rw [zcu.is]; unfold zcu.d
 refine ⟨n + 1, ym5 n x hn _ (fun L hL hx' ht => ?_) n (Nat.le_refl _) hx⟩
 simp (disch := omega) only [ya4, yay, Bool.and_self, Int.toNat_natCast]
 refine ⟨L + 1, ?_⟩
 have := ylU n x L L L hL hn (fun y0 y1 y2 y3 => K (ybB y0 y3)) ?_ L 0 (by omega)
 ·rw [yqm] at this; exact this
 ·have h2 := yno L 0 L x (by omega) hx' ht
  have e : (fun j => BE L L x (0 + j)) = BE L L x := by funext j; rw [Nat.zero_add]
  rw [e] at h2
  show K (ybB L (BE L L x))
  rw [h2]; exact h
theorem ybr (a : List UInt8) (i : Nat) (hi : i ≤ 1000000000) (hl : a.length ≤ 1000000000) (K : Int → Prop) : zcr a i K = K (dg 8 (val a) i : Int) := by
 rw [zcr.is]; unfold zcr.d
 by_cases h : a.length ≤ i
 ·rw [yaB (ya4 (by omega)), ydZ 8 (val a) a.length i (by rw [← ynJ]; exact ygg a) h]; rfl
 ·have e2 : Int.toNat ((a.length : Int) - 1 - i) = a.length - 1 - i := by omega
  have hd := yaV 8 (val a) i
  rw [B8] at hd
  simp (disch := omega) only [yap, yaS, yes, ya4, yay, ydB, Bool.and_self, e2]
  rw [yfq a i (by omega), ygo (by omega) (by omega)]
theorem yci (a : List UInt8) (K : Bool → Prop) : zcl a K = K (decide (May a)) := by
 rw [zcl.is]; unfold zcl.d
 by_cases h : a.length ≤ 16384
 ·rw [yaB (ya4 (by omega)), ya9]
  cases a with
  | nil => rw [yaB (by simp)]; congr 1
  | cons b l =>
   have hl : (0 : Int) < ((b :: l).length : Int) := by simp only [List.length_cons]; omega
   rw [yau (by simp), ybv (yaS hl), ydF]
   by_cases hb : b.toNat = 0
   ·rw [ylW (by omega)]
    congr 1
    have : ¬ May (b :: l) := fun hm => by have := hm.2; simp [yjc, hb] at this
    simp [this]
   ·rw [yjr (by omega)]
    congr 1
    have : May (b :: l) := ⟨h, by simpa [yjc] using hb⟩
    simp [this]
 ·rw [yau (yes (by omega))]
  congr 1
  have : ¬ May a := fun hm => h hm.1
  simp [this]
theorem ymu (x : Nat) (K : List UInt8 → Int → Prop) : zcv (nb x) K = yo8 K x := by
 rw [zcv.is]; unfold zcv.d yo8
 by_cases h : 16384 < (nb x).length
 ·rw [yaB (yaS (by omega)), if_pos h]
 ·rw [yau (ya1 (by omega)), if_neg h]
theorem ybd (a : List UInt8) : val a < 2 ^ (8 * a.length) := by rw [← ynJ]; exact ygg a
theorem ytm (s B P : Nat) : s % B * P + s / B * (P * B) = s * P := by
 have := Nat.div_add_mod s B
 conv => rhs; rw [← this]
 rw [Nat.add_mul, Nat.mul_comm B, Nat.mul_assoc, Nat.mul_comm B, Nat.add_comm]
theorem yl1 (a b : List UInt8) (n : Nat) (hn : n ≤ 1000000) (ha : a.length ≤ n) (hb : b.length ≤ n) (c0 m0 : Nat) (k0 : Nat → Nat → Nat → (Nat → Int) → Prop) (h : k0 (n + 1) c0 m0 (G 8 (val a + val b))) :
  ∀ (j i z c : Nat), i + j = n + 1 → z < 2 ^ (8 * i) → z + c * 2 ^ (8 * i) = val a % 2 ^ (8 * i) + val b % 2 ^ (8 * i) → c < 2 → zcq.l7 k0 (j + 1) a b n (n + 1) c0 c i m0 (G 8 z) := by
 have hx : val a < 2 ^ (8 * n) := Nat.lt_of_lt_of_le (ybd a) (ybQ ha)
 have hy : val b < 2 ^ (8 * n) := Nat.lt_of_lt_of_le (ybd b) (ybQ hb)
 intro j
 induction j with
 | zero =>
  intro i z c hi hz hN hc
  have hi : i = n + 1 := by omega
  subst hi
  unfold zcq.l7 zcq.l7.step
  rw [yau (yes (by omega))]
  rw [yb1, B8] at hN hz
  rw [Nat.mod_eq_of_lt (by omega), Nat.mod_eq_of_lt (by omega)] at hN
  have hc0 : c = 0 := by
   rcases (show c = 0 ∨ c = 1 by omega) with h0 | h0
   ·exact h0
   ·subst h0; omega
  subst hc0
  rw [show val a + val b = z from by omega] at h
  exact h
 | succ j ih =>
  intro i z c hi hz hN hc
  have hdx := yaV 8 (val a) i
  have hdy := yaV 8 (val b) i
  rw [B8] at hdx hdy
  have hw : (c + dg 8 (val a) i + dg 8 (val b) i) % 256 < 2 ^ 8 := Nat.mod_lt _ (by omega)
  have next := ih (i + 1) (z + (c + dg 8 (val a) i + dg 8 (val b) i) % 256 * 2 ^ (8 * i)) ((c + dg 8 (val a) i + dg 8 (val b) i) / 256) (by omega) (ygm 8 z _ i hz hw) (by
   have h1 := ya7 8 (val a) i
   have h2 := ya7 8 (val b) i
   have h3 := ytm (c + dg 8 (val a) i + dg 8 (val b) i) 256 (2 ^ (8 * i))
   rw [Nat.add_mul, Nat.add_mul] at h3
   rw [h1, h2, yb1, B8]
   omega) (by omega)
  have e : ((i + 1 : Nat) : Int) = (i : Int) + 1 := by omega
  rw [e, ← yhp 8 z _ i hz hw] at next
  have e1 : ((c : Int) + (dg 8 (val a) i : Int) + (dg 8 (val b) i : Int)) / 256 = (((c + dg 8 (val a) i + dg 8 (val b) i) / 256 : Nat) : Int) := by omega
  have e2 : ((c : Int) + (dg 8 (val a) i : Int) + (dg 8 (val b) i : Int)) % 256 = (((c + dg 8 (val a) i + dg 8 (val b) i) % 256 : Nat) : Int) := by omega
  unfold zcq.l7 zcq.l7.step
  rw [yaB (ya4 (by omega)), ybr a i (by omega) (by omega), ybr b i (by omega) (by omega)]
  simp (disch := omega) only [yaS, ya4, yay, Bool.and_self, Int.toNat_natCast, yan, yhe, yhF, e1, e2]
  exact next
theorem yi5 (a b : List UInt8) (ha : a.length ≤ 1000000) (hb : b.length ≤ 1000000) (K : List UInt8 → Prop) (h : K (nb (val a + val b))) : zcq a b K := by
 have main : ∀ n, n ≤ 1000000 → a.length ≤ n → b.length ≤ n → ∃ f, zcq.l7 (fun y0 y1 y2 y3 => zcu y0 y3 fun y0 => K y0) f a b n (n + 1) (n + 1) 0 0 (n + 1) (fun _ => 0) := by
  intro n hn h1 h2
  refine ⟨n + 2, ?_⟩
  have := yl1 a b n hn h1 h2 (n + 1) (n + 1) (fun y0 y1 y2 y3 => zcu y0 y3 fun y0 => K y0) ?_ (n + 1) 0 0 0 (by omega) (Nat.two_pow_pos _) (by simp [Nat.mod_one]) (by omega)
  ·rw [ybY] at this; exact this
  ·refine ycg _ _ (by omega) ?_ _ h
   have e1 := Nat.lt_of_lt_of_le (ybd a) (ybQ (k := 8) h1)
   have e2 := Nat.lt_of_lt_of_le (ybd b) (ybQ (k := 8) h2)
   rw [yb1, B8]; omega
 rw [zcq.is]; unfold zcq.d
 by_cases hlt : a.length < b.length
 ·have e1 : Int.toNat ((b.length : Int) + 1) = b.length + 1 := by omega
  simp (disch := omega) only [yaS, ya4, yan, yay, yaX, Bool.and_self, e1]
  exact main _ hb (by omega) (Nat.le_refl _)
 ·have e1 : Int.toNat ((a.length : Int) + 1) = a.length + 1 := by omega
  simp (disch := omega) only [ya1, ya4, yan, yay, ydB, Bool.and_self, e1]
  exact main _ ha (Nat.le_refl _) (by omega)
theorem ylx (a b : List UInt8) (ha : a.length ≤ 1000000) (hb : b.length ≤ 1000000) (hle : val b ≤ val a) (c0 m0 : Nat) (k0 : Nat → Nat → Nat → (Nat → Int) → Prop) (h : k0 a.length c0 m0 (G 8 (val a - val b))) :
  ∀ (j i z : Nat) (c : Int), i + j = a.length → z < 2 ^ (8 * i) → (z : Int) - c * (2 ^ (8 * i) : Nat) = (val a % 2 ^ (8 * i) : Nat) - (val b % 2 ^ (8 * i) : Nat) → (c = 0 ∨ c = 1) →
   zcw.l4 k0 (j + 1) a b a.length c0 c i m0 (G 8 z) := by
 intro j
 induction j with
 | zero =>
  intro i z c hi hz hN hc
  have hi : i = a.length := by omega
  subst hi
  unfold zcw.l4 zcw.l4.step
  rw [yau (ya1 (by omega))]
  have hx := ybd a
  rw [Nat.mod_eq_of_lt hx, Nat.mod_eq_of_lt (by omega)] at hN
  have hc0 : c = 0 := by
   rcases hc with h0 | h0
   ·exact h0
   ·exfalso; subst h0; omega
  subst hc0
  rw [show val a - val b = z from by omega] at h
  exact h
 | succ j ih =>
  intro i z c hi hz hN hc
  have hdx := yaV 8 (val a) i
  have hdy := yaV 8 (val b) i
  rw [B8] at hdx hdy
  have step : ∀ (s c' : Int), s = (dg 8 (val a) i : Int) - (dg 8 (val b) i : Int) - c → (c' = if s < 0 then 1 else 0) → zcw.l4 k0 (j + 1) a b a.length c0 c' ((i : Int) + 1) m0 (upd (G 8 z) i (s % 256)) := by
   intro s c' hs hc'
   have hw : s % 256 = ((s % 256).toNat : Int) := by omega
   have hwl : (s % 256).toNat < 2 ^ 8 := by rw [B8]; omega
   have e : ((i + 1 : Nat) : Int) = (i : Int) + 1 := by omega
   rw [hw, yhp 8 z _ i hz hwl, ← e]
   refine ih (i + 1) _ _ (by omega) (ygm 8 z _ i hz hwl) ?_ (by rw [hc']; split <;> simp)
   rw [ya7, ya7, yb1, B8]
   generalize 2 ^ (8 * i) = P at *
   have h4 : s = (s % 256).toNat - 256 * c' := by rw [hc']; split <;> omega
   have h5 : s * (P : Int) = (s % 256).toNat * (P : Int) - c' * ((P : Int) * 256) := by
    conv => lhs; rw [h4]
    rw [Int.sub_mul, Int.mul_comm (256 : Int), Int.mul_assoc, Int.mul_comm (256 : Int)]
   have h6 : s * (P : Int) = (dg 8 (val a) i : Int) * P - (dg 8 (val b) i : Int) * P - c * P := by rw [hs, Int.sub_mul, Int.sub_mul]
   have c1 : ((z + (s % 256).toNat * P : Nat) : Int) = (z : Int) + ((s % 256).toNat : Int) * (P : Int) := by simp
   have c2 : ((val a % P + dg 8 (val a) i * P : Nat) : Int) = ((val a % P : Nat) : Int) + (dg 8 (val a) i : Int) * (P : Int) := by simp
   have c3 : ((val b % P + dg 8 (val b) i * P : Nat) : Int) = ((val b % P : Nat) : Int) + (dg 8 (val b) i : Int) * (P : Int) := by simp
   have c4 : ((P * 256 : Nat) : Int) = (P : Int) * 256 := by simp
   rw [c1, c2, c3, c4]
   omega
  unfold zcw.l4 zcw.l4.step
  rw [yaB (yaS (by omega)), ybr a i (by omega) (by omega), ybr b i (by omega) (by omega)]
  simp (disch := omega) only [yaS, ya4, yay, Bool.and_self, Int.toNat_natCast, yan, yap, yhF]
  by_cases hs : (dg 8 (val a) i : Int) - (dg 8 (val b) i : Int) - c < 0
  ·rw [yaB (yaS hs)]; exact step _ 1 rfl (by rw [if_pos hs])
  ·rw [yau (ya1 (by omega))]; exact step _ 0 rfl (by rw [if_neg hs])
theorem yiR (a b : List UInt8) (ha : a.length ≤ 1000000) (hb : b.length ≤ 1000000) (hle : val b ≤ val a) (K : List UInt8 → Prop) (h : K (nb (val a - val b))) : zcw a b K := by
 rw [zcw.is]; unfold zcw.d
 simp (disch := omega) only [ya4, yay, Bool.and_self, Int.toNat_natCast]
 refine ⟨a.length + 1, ?_⟩
 have := ylx a b ha hb hle a.length a.length (fun y0 y1 y2 y3 => zcu y0 y3 fun y0 => K y0) ?_ a.length 0 0 0 (by omega) (Nat.two_pow_pos _) (by simp [Nat.mod_one]) (.inl rfl)
 ·rw [ybY] at this; exact this
 ·refine ycg _ _ (by omega) ?_ _ h
  have := ybd a
  omega
theorem yeo (a b : List UInt8) (ha : yjc a = true) (hb : yjc b = true) (K : Int → Prop) : zcf a b K = K (sgn (val a) (val b)) := by
 rw [zcf.is]; unfold zcf.d
 have la := ylS ha; have lb := ylS hb
 by_cases hl : a.length = b.length
 ·rw [hl, ylW rfl, yau (by rfl), ysy a b hl, yjI]
  unfold sgn
  by_cases h : val a < val b
  ·rw [yaB (by simpa using h), if_pos h]
  ·rw [yau (by simpa using h), if_neg h]
   by_cases he : a = b
   ·rw [yau (by simp [he]), he, if_neg (by omega)]
   ·have : val a ≠ val b := fun e => he (ysr ha hb e)
    rw [yaB (by simp [h, he]), if_pos (by omega)]
 ·rw [yjr (by omega), yaB (by rfl)]
  unfold sgn
  by_cases h : a.length < b.length
  ·have : val a < val b := Classical.byContradiction fun hc => by have := ybn (k := 8) (by omega) (show val b ≤ val a by omega); omega
   rw [yaB (yaS (by omega)), if_pos this]
  ·have : val b < val a := Classical.byContradiction fun hc => by have := ybn (k := 8) (by omega) (show val a ≤ val b by omega); omega
   rw [yau (ya1 (by omega)), if_neg (by omega), if_pos this]
theorem yox (a b : List UInt8) (ha : a.length ≤ 1000000) (hb : b.length ≤ 1000000) (K : List UInt8 → Int → Prop) (h : yo8 K (val a + val b)) : zce a b K := by
 rw [zce.is]; unfold zce.d
 refine yi5 a b ha hb _ ?_
 rw [ymu]; exact h
end Go.Ev.S

/- What the document's answer reckons with natural numbers: products. -/
set_option linter.unusedVariables false
set_option linter.unusedSimpArgs false
set_option maxRecDepth 8000
namespace Go.Ev.S
open Go Go.Ev
end Go.Ev.S

/- What the document's answer reckons with natural numbers: made, measured, moved. -/
set_option linter.unusedVariables false
set_option linter.unusedSimpArgs false
set_option maxRecDepth 8000
namespace Go.Ev.S
open Go Go.Ev
theorem yqD (a s : Nat) (hs : s ≤ 63) (h : a * 2 ^ s < 9223372036854775808) : yb0 .i64 (a : Int) (s : Int) = ((a * 2 ^ s : Nat) : Int) := by
 have hb : IntKind.bits .i64 = 64 := rfl
 have h1 : min (Int.toNat (s : Int)) (IntKind.bits .i64) = s := by rw [Int.toNat_natCast, hb]; omega
 simp only [yb0, h1]
 have e : (a : Int) * 2 ^ s = ((a * 2 ^ s : Nat) : Int) := by simp
 rw [e]
 exact yde (by omega) (by omega)
theorem ytx (a b : Nat) (ha : a < 2 ^ 62) (hb : b < 2 ^ 62) : orI .i64 (a : Int) (b : Int) = ((a ||| b : Nat) : Int) := by
 have h3 : a ||| b < 2 ^ 62 := Nat.or_lt_two_pow ha hb
 have e62 : (2 : Nat) ^ 62 = 4611686018427387904 := rfl
 show IntKind.wrap .i64 (((BitVec.ofInt 64 (a : Int) ||| BitVec.ofInt 64 (b : Int) : BitVec 64).toNat : Nat) : Int) = _
 rw [BitVec.toNat_or, BitVec.ofInt_natCast, BitVec.ofInt_natCast, BitVec.toNat_ofNat, BitVec.toNat_ofNat, Nat.mod_eq_of_lt (by rw [B64]; omega), Nat.mod_eq_of_lt (by rw [B64]; omega)]
 exact yde (by omega) (by omega)
theorem ypk (a : Nat) (ha : a < 2 ^ 62) : ymf .i64 (a : Int) 1 = ((a % 2 : Nat) : Int) := by
 have e62 : (2 : Nat) ^ 62 = 4611686018427387904 := rfl
 show IntKind.wrap .i64 (((BitVec.ofInt 64 (a : Int) &&& BitVec.ofInt 64 ((1 : Nat) : Int) : BitVec 64).toNat : Nat) : Int) = _
 rw [BitVec.toNat_and, BitVec.ofInt_natCast, BitVec.ofInt_natCast, BitVec.toNat_ofNat, BitVec.toNat_ofNat, Nat.mod_eq_of_lt (by rw [B64]; omega), Nat.mod_eq_of_lt (by rw [B64]; omega)]
 have : a &&& 1 = a % 2 := Nat.and_one_is_mod a
 rw [this]
 exact yde (by omega) (by omega)
theorem yqK (a s : Nat) (hs : s ≤ 64) : ya8 .i64 (a : Int) (s : Int) = ((a / 2 ^ s : Nat) : Int) := by
 rw [yd2 (k := .i64) hs]; simp
theorem ymq (x : Nat) (hx : x < 18446744073709551616) (k0 : (Nat → Int) → Prop) (h : k0 (G 8 x)) : ∀ (j i : Nat), i + j = 8 → zcm.l3 k0 (j + 1) x i (G 8 (x % 2 ^ (8 * i))) := by
 intro j
 induction j with
 | zero =>
  intro i hi
  have hi : i = 8 := by omega
  subst hi
  unfold zcm.l3 zcm.l3.step
  rw [yau (ya1 (by omega)), Nat.mod_eq_of_lt (by rw [show 8 * 8 = 64 from rfl, B64]; exact hx)]
  exact h
 | succ j ih =>
  intro i hi
  have ih := ih (i + 1) (by omega)
  have e : ((i + 1 : Nat) : Int) = (i : Int) + 1 := by omega
  rw [e, ya7, ← yhp 8 _ _ i (Nat.mod_lt _ (Nat.two_pow_pos _)) (yaV 8 x i)] at ih
  have e1 : 8 * (i : Int) = ((8 * i : Nat) : Int) := by omega
  have e2 : ya8 .u64 (x : Int) ((8 * i : Nat) : Int) = ((x / 2 ^ (8 * i) : Nat) : Int) := by
   rw [yd2 (k := .u64) (by
     have : IntKind.bits .u64 = 64 := rfl
     rw [this]; omega)]
   simp
  have e3 : ((x / 2 ^ (8 * i) : Nat) : Int) % 256 = ((dg 8 x i : Nat) : Int) := by
   unfold dg; rw [B8]; omega
  unfold zcm.l3 zcm.l3.step
  simp (disch := omega) only [yaS, ya1, ya4, yay, yaX, Bool.and_self, Bool.not_false, ybm, yaO, yan, Int.toNat_natCast, e1, e2, yhF, e3]
  exact ih
theorem ypD (x : Nat) (hx : x < 18446744073709551616) (K : List UInt8 → Prop) (h : K (nb x)) : zcm x K := by
 rw [zcm.is]; unfold zcm.d
 refine ⟨9, ?_⟩
 have := ymq x hx (fun y0 => zcu 8 y0 fun y0 => K y0) ?_ 8 0 rfl
 ·rw [Nat.mul_zero, Nat.pow_zero, Nat.mod_one, ybY] at this; exact this
 ·exact ycg 8 x (by omega) (by rw [show 8 * 8 = 64 from rfl, B64]; exact hx) _ h
theorem W_G (x : Nat) : W x = G 64 x := rfl
theorem ys8 {i : Nat} (h : i = 48) : 2 ^ (8 * i) = Q6 := yeA (by omega)
theorem yn0 (d b s w : Nat) (hd : d < 2 ^ s) (hs : s + w ≤ 64) (hb : b < 2 ^ w) : orI .u64 (d : Int) (yb0 .u64 (b : Int) (s : Int)) = ((d + b * 2 ^ s : Nat) : Int) := by
 have hb64 : IntKind.bits .u64 = 64 := rfl
 have h1 : b * 2 ^ s + 2 ^ s ≤ 2 ^ 64 := by
  have h2 : (b + 1) * 2 ^ s ≤ 2 ^ w * 2 ^ s := Nat.mul_le_mul_right _ hb
  have h3 : 2 ^ w * 2 ^ s ≤ 2 ^ 64 := by rw [← Nat.pow_add]; exact Nat.pow_le_pow_right (by omega) (by omega)
  rw [Nat.add_mul] at h2; omega
 have hP := Nat.two_pow_pos s
 rw [yn9 (k := .u64) rfl b s (by rw [hb64]; omega), hb64, Nat.mod_eq_of_lt (by omega), yr7 (k := .u64) rfl _ _ (by rw [hb64]; omega) (by rw [hb64]; omega)]
 congr 1
 exact ye0 hd (Nat.mul_mod_left _ _)
theorem ynw {d b s w : Nat} (hd : d < 2 ^ s) (hs : s + w ≤ 64) (hb : b < 2 ^ w) : d + b * 2 ^ s < 2 ^ 64 := by
 have h2 : (b + 1) * 2 ^ s ≤ 2 ^ w * 2 ^ s := Nat.mul_le_mul_right _ hb
 have h3 : 2 ^ w * 2 ^ s ≤ 2 ^ 64 := by rw [← Nat.pow_add]; exact Nat.pow_le_pow_right (by omega) (by omega)
 rw [Nat.add_mul] at h2; omega
theorem yhf (a : List UInt8) (hl : a.length ≤ 48) (k0 : (Nat → Int) → (Nat → Int) → Prop) (z : Nat → Int) (h : k0 z (W (val a))) : ∀ (j i : Nat), i + j = a.length → zcp.l5 k0 (j + 1) a i z (G 64 (val a % 2 ^ (8 * i))) := by
 intro j
 induction j with
 | zero =>
  intro i hi
  unfold zcp.l5 zcp.l5.step
  rw [yau (ya1 (by omega)), Nat.mod_eq_of_lt (by have := ybd a; rwa [show i = a.length from by omega])]
  exact h
 | succ j ih =>
  intro i hi
  have ih := ih (i + 1) (by omega)
  have e : ((i + 1 : Nat) : Int) = (i : Int) + 1 := by omega
  rw [e] at ih
  have hd := yaV 8 (val a) i
  have e0 : Int.toNat ((i : Int) / 8) = i / 8 := by omega
  have e1 : 8 * ((i : Int) % 8) = ((8 * (i % 8) : Nat) : Int) := by omega
  have hlow := yjq 64 (val a % 2 ^ (8 * i)) (i / 8) (8 * (i % 8)) (by rw [show 64 * (i / 8) + 8 * (i % 8) = 8 * i from by omega]; exact Nat.mod_lt _ (Nat.two_pow_pos _))
  have o := yn0 _ (dg 8 (val a) i) (8 * (i % 8)) 8 hlow (by omega) hd
  have hG : upd (G 64 (val a % 2 ^ (8 * i))) (i / 8) ((dg 64 (val a % 2 ^ (8 * i)) (i / 8) + dg 8 (val a) i * 2 ^ (8 * (i % 8)) : Nat) : Int) = G 64 (val a % 2 ^ (8 * (i + 1))) := by
   refine yfw ?_ (ynw hlow (by omega) hd)
   rw [ya7 8, Nat.add_mul, Nat.mul_assoc, ← Nat.pow_add, show 8 * (i % 8) + 64 * (i / 8) = 8 * i from by omega]; omega
  rw [B8] at hd
  unfold zcp.l5 zcp.l5.step
  simp (disch := omega) only [yaS, ya4, yay, yaX, Bool.and_self, ybw]
  rw [ybr a i (by omega) (by omega)]
  simp (disch := omega) only [yaS, ya1, ya4, yay, Bool.and_self, Bool.not_false, yf9, ybm, yaO, yan, e0, e1, ybe, o, hG]
  exact ih
theorem ykn (a : List UInt8) (K : (Nat → Int) → Bool → Prop) (h : if May a ∧ a.length ≤ 48 then K (W (val a)) true else K (W 0) false) : zcp a K := by
 rw [zcp.is]; unfold zcp.d
 rw [yci]
 by_cases hm : May a
 ·rw [yau (by simp [hm])]
  by_cases hl : a.length ≤ 48
  ·rw [if_pos ⟨hm, hl⟩] at h
   rw [yau (ya1 (by omega))]
   refine ⟨a.length + 1, ?_⟩
   have := yhf a hl (fun y0 y1 => K y1 true) (fun _ => 0) h a.length 0 (by omega)
   rw [Nat.mul_zero, Nat.pow_zero, Nat.mod_one, ybY] at this
   exact this
  ·rw [if_neg fun hc => hl hc.2, W_zero] at h
   rw [yaB (yaS (by omega))]; exact h
 ·rw [if_neg fun hc => hm hc.1, W_zero] at h
  rw [yaB (by simp [hm])]; exact h
theorem yds (a : List UInt8) (K : Int → Prop) (h : K (if May a then (yav (val a) : Int) else 0)) : zcj a K := by
 rw [zcj.is]; unfold zcj.d
 rw [yci]
 by_cases hm : May a
 ·rw [if_pos hm] at h
  rw [yau (by simp [hm]), ya9]
  cases a with
  | nil => rw [yaB (by simp)]; exact h
  | cons b l =>
   have hl := hm.1
   rw [List.length_cons] at hl
   have hv : val (b :: l) ≠ 0 := fun e => by have := hm.nb; rw [e, yaN] at this; cases this
   have hb := yjF 8 _ (by omega) hv
   rw [ylS hm.2, List.length_cons, Nat.add_sub_cancel, ypV] at hb
   have hbl := yqJ b
   rw [yau (by simp), ybv (yaS (by rw [List.length_cons]; omega)), ydF, yaO (by omega) (by omega)]
   refine yjv _ (by omega) _ ?_
   have h8 : yav b.toNat ≤ 8 := (yaP _ _).2 hbl
   rw [List.length_cons]
   simp (disch := omega) only [yap, ybm, yan]
   rw [show 8 * (((l.length + 1 : Nat) : Int) - 1) + (yav b.toNat : Int) = ((yav (val (b :: l)) : Nat) : Int) from by rw [hb]; omega]
   exact h
 ·rw [if_neg hm] at h
  rw [yaB (by simp [hm])]; exact h
theorem ylV (x : Nat) (h : x ≠ 0) : x.testBit (ybG x) = true ∧ ∀ i, i < ybG x → x.testBit i = false := by
 obtain ⟨q, hq⟩ := yd9 x h
 generalize ybG x = k at *
 subst hq
 constructor
 ·rw [Nat.testBit_two_pow_mul]; simp [Nat.testBit_zero]
 ·intro i hi
  rw [Nat.testBit_two_pow_mul]; simp; omega
theorem ymh (x : Nat) (h0 : x ≠ 0) (hx : x < 18446744073709551616) (hk : ybG x < 64) (k0 : Int → Prop) (k1 : Prop) (h : k0 (ybG x)) : ∀ (j i : Nat), i + j = ybG x → zbu.l2 k0 k1 (j + 1) x i := by
 obtain ⟨b1, b2⟩ := ylV x h0
 intro j
 induction j with
 | zero =>
  intro i hi
  unfold zbu.l2 zbu.l2.step
  rw [yaB (yaS (by omega)), ycJ x i hx (by omega), show i = ybG x from by omega, b1, yaX]
  exact h
 | succ j ih =>
  intro i hi
  have ih := ih (i + 1) (by omega)
  have e : ((i + 1 : Nat) : Int) = (i : Int) + 1 := by omega
  rw [e] at ih
  unfold zbu.l2 zbu.l2.step
  rw [yaB (yaS (by omega)), ycJ x i hx (by omega), b2 i (by omega), ydB, yan (by omega) (by omega)]
  exact ih
theorem yjK (x n : Nat) (h0 : x ≠ 0) (hx : x < 2 ^ n) : ybG x < n := by
 obtain ⟨b1, _⟩ := ylV x h0
 apply Classical.byContradiction
 intro hc
 rw [Nat.testBit_lt_two_pow (Nat.lt_of_lt_of_le hx (Nat.pow_le_pow_right (by omega) (by omega)))] at b1
 cases b1
theorem yoK (x : Nat) (h0 : x ≠ 0) (hx : x < 18446744073709551616) (K : Int → Prop) (h : K (ybG x)) : zbu x K := by
 rw [zbu.is]; unfold zbu.d
 exact ⟨ybG x + 1, ymh x h0 hx (yjK x 64 h0 hx) _ _ h (ybG x) 0 (by omega)⟩
theorem ylt (a : List UInt8) (hl : a.length ≤ 100000) (k0 : Int → Prop) (k1 : Prop) (h0 : val a ≠ 0 → k0 (ybG (val a))) (h1 : val a = 0 → k1) :
  ∀ (j t : Nat), t + j = a.length → val a % 2 ^ (8 * t) = 0 → zck.l4 k0 k1 (j + 1) a t := by
 intro j
 induction j with
 | zero =>
  intro t ht hm
  unfold zck.l4 zck.l4.step
  rw [yau (ya1 (by omega))]
  refine h1 ?_
  rw [Nat.mod_eq_of_lt (by have := ybd a; rwa [show t = a.length from by omega])] at hm
  exact hm
 | succ j ih =>
  intro t ht hm
  have hd := yaV 8 (val a) t
  rw [B8] at hd
  unfold zck.l4 zck.l4.step
  rw [yaB (yaS (by omega)), ybr a t (by omega) (by omega)]
  by_cases hz : dg 8 (val a) t = 0
  ·rw [ylW (by omega), yau (by rfl), yan (by omega) (by omega)]
   have := ih (t + 1) (by omega) (by rw [ya7, hm, hz]; omega)
   rw [show ((t + 1 : Nat) : Int) = (t : Int) + 1 from by omega] at this
   exact this
  ·rw [yjr (by omega), yaB (by rfl), ybr a t (by omega) (by omega), yaO (by omega) (by omega)]
   refine yoK _ hz (by omega) _ ?_
   have hlow := ylK (val a) t hm hz
   have hk := yjK _ 8 hz (by rw [B8]; exact hd)
   simp (disch := omega) only [ybm, yan]
   rw [show 8 * (t : Int) + (ybG (dg 8 (val a) t) : Int) = ((ybG (val a) : Nat) : Int) from by rw [hlow]; omega]
   refine h0 fun e => hz ?_
   rw [e]; exact ydD 8 0 t (Nat.two_pow_pos _)
theorem yf3 (a : List UInt8) (K : Int → Prop) (h : K (if May a then (ybG (val a) : Int) else 0)) : zck a K := by
 rw [zck.is]; unfold zck.d
 rw [yci]
 by_cases hm : May a
 ·rw [if_pos hm] at h
  have hl := hm.1
  rw [yau (by simp [hm])]
  exact ⟨a.length + 1, ylt a (by omega) (fun y0 => K y0) (K 0) (fun _ => h) (fun e => by rw [e, ylu] at h; exact h) a.length 0 (by omega) (by simp [Nat.mod_one])⟩
 ·rw [if_neg hm] at h
  rw [yaB (by simp [hm])]; exact h
theorem yrk (x i s t y N : Nat) (ht : t = i + s / 8) (hy : dg 8 x i * 2 ^ (s % 8) = y) (hNN : x % 2 ^ (8 * i) * 2 ^ s = N) :
  ∃ N1, upd (G 8 N) t (((dg 8 N t ||| y % 256 : Nat)) : Int) = G 8 N1 ∧ upd (G 8 N1) (t + 1) ((y / 256 : Nat) : Int) = G 8 (x % 2 ^ (8 * (i + 1)) * 2 ^ s) := by
 have hdx := yaV 8 x i
 rw [B8] at hdx
 have hr : s % 8 < 8 := Nat.mod_lt _ (by omega)
 have hx := Nat.mod_lt x (Nat.two_pow_pos (8 * i))
 have hp : 2 ^ (8 * i) * 2 ^ s = 2 ^ (8 * t + s % 8) := by rw [← Nat.pow_add]; congr 1; omega
 have hN : N < 2 ^ (8 * t + s % 8) := by
  rw [← hp, ← hNN]; exact Nat.mul_lt_mul_of_pos_right hx (Nat.two_pow_pos _)
 have hlow := yjq 8 N t (s % 8) hN
 have hN1 : N < 2 ^ (8 * (t + 1)) := Nat.lt_of_lt_of_le hN (Nat.pow_le_pow_right (by omega) (by omega))
 have hym : y % 256 % 2 ^ (s % 8) = 0 := by
  rw [show (256 : Nat) = 2 ^ 8 from rfl, Nat.mod_mod_of_dvd _ (Nat.pow_dvd_pow 2 (by omega)), ← hy]
  exact Nat.mul_mod_left _ _
 have hor : dg 8 N t ||| y % 256 = dg 8 N t + y % 256 := ye0 hlow hym
 have hsum : dg 8 N t + y % 256 < 2 ^ 8 := by
  rw [← hor]; exact Nat.or_lt_two_pow (yaV 8 N t) (by rw [B8]; exact Nat.mod_lt _ (by omega))
 have hyl : y / 256 < 2 ^ 8 := by
  rw [B8, Nat.div_lt_iff_lt_mul (by omega), ← hy]
  have : dg 8 x i * 2 ^ (s % 8) < 2 ^ 8 * 2 ^ 8 := Nat.mul_lt_mul_of_lt_of_le (by rw [B8]; exact hdx) (Nat.pow_le_pow_right (by omega) (by omega)) (Nat.two_pow_pos _)
  rw [B8] at this; exact this
 have hG1 : upd (G 8 N) t (((dg 8 N t ||| y % 256 : Nat)) : Int) = G 8 (N + y % 256 * 2 ^ (8 * t)) := by
  rw [hor]
  refine yfw ?_ hsum
  rw [Nat.add_mul]; omega
 have hlt : N + y % 256 * 2 ^ (8 * t) < 2 ^ (8 * (t + 1)) := by
  have hNl : N = N % 2 ^ (8 * t) + dg 8 N t * 2 ^ (8 * t) := by
   have := ya7 8 N t
   rw [Nat.mod_eq_of_lt hN1] at this; exact this
  have h1 := ygm 8 (N % 2 ^ (8 * t)) (dg 8 N t + y % 256) t (Nat.mod_lt _ (Nat.two_pow_pos _)) hsum
  rw [Nat.add_mul] at h1
  omega
 refine ⟨N + y % 256 * 2 ^ (8 * t), hG1, ?_⟩
 rw [yhp 8 _ _ (t + 1) hlt hyl]
 refine congrArg (G 8) ?_
 have h2 := ykK y 256 (2 ^ (8 * t))
 rw [yb1, B8]
 have h3 : y * 2 ^ (8 * t) = dg 8 x i * 2 ^ (8 * i) * 2 ^ s := by
  rw [← hy, Nat.mul_assoc, ← Nat.pow_add, Nat.mul_assoc, ← Nat.pow_add]; congr 2; omega
 rw [ya7, Nat.add_mul, hNN, ← h3]
 omega
theorem yj6 (a : List UInt8) (s : Nat) (hl : a.length ≤ 100000) (hs : s ≤ 1000000) (c0 m0 : Nat) (k0 : Nat → Nat → Nat → (Nat → Int) → Prop) (h : k0 (a.length + s / 8 + 1) c0 m0 (G 8 (val a * 2 ^ s))) :
  ∀ (j i : Nat), i + j = a.length → zci.l9 k0 (j + 1) a s (a.length + s / 8 + 1) c0 i m0 (G 8 (val a % 2 ^ (8 * i) * 2 ^ s)) := by
 intro j
 induction j with
 | zero =>
  intro i hi
  unfold zci.l9 zci.l9.step
  rw [yau (ya1 (by omega)), show i = a.length from by omega, Nat.mod_eq_of_lt (ybd a)]
  exact h
 | succ j ih =>
  intro i hi
  have ih := ih (i + 1) (by omega)
  have e : ((i + 1 : Nat) : Int) = (i : Int) + 1 := by omega
  obtain ⟨N1, u1, u3⟩ := yrk (val a) i s _ _ _ rfl rfl rfl
  rw [e, ← u3] at ih
  have hd := yaV 8 (val a) i
  rw [B8] at hd
  have hy : dg 8 (val a) i * 2 ^ (s % 8) < 256 * 256 := Nat.mul_lt_mul_of_lt_of_le hd (by
   have : 2 ^ (s % 8) ≤ 2 ^ 8 := Nat.pow_le_pow_right (by omega) (by omega)
   rwa [B8] at this) (by omega)
  have q1 := yqD (dg 8 (val a) i) (s % 8) (by omega) (by omega)
  have e1 : Int.toNat ((i : Int) + (s : Int) / 8) = i + s / 8 := by omega
  have e2 : Int.toNat ((i : Int) + (s : Int) / 8 + 1) = i + s / 8 + 1 := by omega
  have e3 : (s : Int) % 8 = ((s % 8 : Nat) : Int) := by omega
  have e4 : ((dg 8 (val a) i * 2 ^ (s % 8) : Nat) : Int) % 256 = ((dg 8 (val a) i * 2 ^ (s % 8) % 256 : Nat) : Int) := by omega
  have e5 : ((dg 8 (val a) i * 2 ^ (s % 8) : Nat) : Int) / 256 % 256 = ((dg 8 (val a) i * 2 ^ (s % 8) / 256 : Nat) : Int) := by omega
  have hb : IntKind.bits .u8 = 8 := rfl
  have o1 : orI .u8 ((dg 8 (val a % 2 ^ (8 * i) * 2 ^ s) (i + s / 8) : Nat) : Int) ((dg 8 (val a) i * 2 ^ (s % 8) % 256 : Nat) : Int) = ((dg 8 (val a % 2 ^ (8 * i) * 2 ^ s) (i + s / 8) ||| dg 8 (val a) i * 2 ^ (s % 8) % 256 : Nat) : Int) :=
   yr7 (k := .u8) rfl _ _ (by rw [hb]; exact yaV 8 _ _) (by rw [hb, B8]; exact Nat.mod_lt _ (by omega))
  unfold zci.l9 zci.l9.step
  rw [yaB (yaS (by omega)), ybr a i (by omega) (by omega)]
  simp (disch := omega) only [yaS, ya1, ya4, yay, Bool.and_self, Bool.not_false, Int.toNat_natCast, ybw, yf9, yan, yaO, ybe, e1, e2, e3, q1, yhF, yhe, e4, e5, o1, u1]
  exact ih
theorem yg2 (x s : Nat) (h : x ≠ 0) : yav (x * 2 ^ s) = yav x + s := by
 have h1 : x * 2 ^ s / 2 ^ s = x := Nat.mul_div_cancel _ (Nat.two_pow_pos s)
 have := ydt (x := x * 2 ^ s) (i := s) (by rw [h1]; exact h)
 rw [this, h1, Nat.add_comm]
theorem ypB (x n : Nat) : (nb x).length ≤ n ↔ yav x ≤ 8 * n := by
 rw [ybC, yaP, ynJ]
theorem ygY (x : Nat) : (nb x).length ≤ 16384 ↔ yav x ≤ 131072 := by
 have := ypB x 16384
 omega
theorem ynb (a : List UInt8) (n : Int) (hn : n < 9223372036854775808) (hm : May a) (K : List UInt8 → Int → Prop) (h1 : n < 0 → K [] 2) (h2 : 0 ≤ n → a = [] → K [] 0)
  (h3 : 0 ≤ n → a ≠ [] → 131072 < (yav (val a) : Int) + n → K [] 4) (h4 : 0 ≤ n → a ≠ [] → (yav (val a) : Int) + n ≤ 131072 → K (nb (val a * 2 ^ n.toNat)) 0) : zci a n K := by
 rw [zci.is]; unfold zci.d
 by_cases hneg : n < 0
 ·rw [yaB (yaS hneg)]; exact h1 hneg
 rw [yau (ya1 (by omega)), ya9]
 by_cases h0 : a = []
 ·rw [yaB (by simp [h0])]; exact h2 (by omega) h0
 rw [yau (by simp [h0])]
 have hl := hm.1
 by_cases hbig : 131072 < n
 ·rw [yaB (yaS hbig)]; exact h3 (by omega) h0 (by omega)
 rw [yau (ya1 (by omega))]
 refine yds a _ ?_
 rw [if_pos hm]
 have hbl : yav (val a) ≤ 131072 := by
  rw [← ygY, hm.nb]; exact hl
 rw [yan (by omega) (by omega)]
 by_cases hlong : 131072 < (yav (val a) : Int) + n
 ·rw [yaB (yaS hlong)]; exact h3 (by omega) h0 hlong
 rw [yau (ya1 (by omega))]
 obtain ⟨s, rfl⟩ : ∃ s : Nat, n = s := ⟨n.toNat, by omega⟩
 have e1 : Int.toNat ((a.length : Int) + (s : Int) / 8 + 1) = a.length + s / 8 + 1 := by omega
 simp (disch := omega) only [ybw, yan, ya4, yay, Bool.and_self, e1]
 have h4 := h4 (by omega) h0 (by omega)
 rw [Int.toNat_natCast] at h4
 refine ⟨a.length + 1, ?_⟩
 have := yj6 a s (by omega) (by omega) (a.length + s / 8 + 1) (a.length + s / 8 + 1) (fun y0 y1 y2 y3 => zcu y0 y3 fun y0 => K y0 0) ?_ a.length 0 (by omega)
 ·rw [Nat.mul_zero, Nat.pow_zero, Nat.mod_one, Nat.zero_mul, ybY] at this; exact this
 ·refine ycg _ _ (by omega) ?_ _ h4
  have : val a * 2 ^ s < 2 ^ (8 * a.length) * 2 ^ s := Nat.mul_lt_mul_of_pos_right (ybd a) (Nat.two_pow_pos _)
  rw [← Nat.pow_add] at this
  exact Nat.lt_of_lt_of_le this (Nat.pow_le_pow_right (by omega) (by omega))
theorem yq1 (x s i : Nat) : (dg 8 x (i + s / 8) + dg 8 x (i + s / 8 + 1) * 256) / 2 ^ (s % 8) % 256 = dg 8 (x / 2 ^ s) i := by
 have hr : s % 8 < 8 := Nat.mod_lt _ (by omega)
 have h1 : dg 8 x (i + s / 8) + dg 8 x (i + s / 8 + 1) * 256 = x / 2 ^ (8 * (i + s / 8)) % 2 ^ 16 := by
  have a := ydk 8 x (i + s / 8)
  have b := ydk 8 x (i + s / 8 + 1)
  rw [B8] at a b
  rw [a, b, show (2 : Nat) ^ 16 = 65536 from rfl]
  have c := yaV 8 x (i + s / 8)
  have d := yaV 8 x (i + s / 8 + 1)
  rw [B8] at c d
  omega
 rw [h1]
 unfold dg
 rw [Nat.div_div_eq_div_mul, ← Nat.pow_add]
 have h2 : (2 : Nat) ^ 16 = 2 ^ (s % 8) * 2 ^ (16 - s % 8) := by rw [← Nat.pow_add]; congr 1; omega
 rw [h2, Nat.mod_mul_right_div_self, Nat.div_div_eq_div_mul, ← Nat.pow_add, show (256 : Nat) = 2 ^ 8 from rfl, Nat.mod_mod_of_dvd _ (Nat.pow_dvd_pow 2 (by omega))]
 congr 3; omega
theorem yiH (a : List UInt8) (s : Nat) (hl : a.length ≤ 100000) (hs : s / 8 ≤ a.length) (lost : Bool) (c0 m0 : Nat) (k0 : Bool → Nat → Nat → Nat → (Nat → Int) → Prop) (h : k0 lost (a.length - s / 8) c0 m0 (G 8 (val a / 2 ^ s % 2 ^ (8 * (a.length - s / 8))))) :
  ∀ (j i : Nat), i + j = a.length - s / 8 → zcn.l11 k0 (j + 1) a s lost ((a.length - s / 8 : Nat) : Int) (a.length - s / 8) c0 i m0 (G 8 (val a / 2 ^ s % 2 ^ (8 * i))) := by
 intro j
 induction j with
 | zero =>
  intro i hi
  unfold zcn.l11 zcn.l11.step
  rw [yau (ya1 (by omega)), show i = a.length - s / 8 from by omega]
  exact h
 | succ j ih =>
  intro i hi
  have ih := ih (i + 1) (by omega)
  have e : ((i + 1 : Nat) : Int) = (i : Int) + 1 := by omega
  have hw := yq1 (val a) s i
  have hdw := yaV 8 (val a / 2 ^ s) i
  rw [e, ya7, ← yhp 8 _ _ i (Nat.mod_lt _ (Nat.two_pow_pos _)) hdw, ← hw] at ih
  have hd := yaV 8 (val a) (i + s / 8)
  have hd2 := yaV 8 (val a) (i + s / 8 + 1)
  rw [B8] at hd hd2
  have e1 : (i : Int) + (s : Int) / 8 = ((i + s / 8 : Nat) : Int) := by omega
  have e2 : ((i + s / 8 : Nat) : Int) + 1 = ((i + s / 8 + 1 : Nat) : Int) := by omega
  have e3 : (s : Int) % 8 = ((s % 8 : Nat) : Int) := by omega
  have q1 := yqD (dg 8 (val a) (i + s / 8 + 1)) 8 (by omega) (by rw [B8]; omega)
  rw [B8, show ((8 : Nat) : Int) = 8 from rfl] at q1
  have e62 : (2 : Nat) ^ 62 = 4611686018427387904 := rfl
  have o1 : orI .i64 ((dg 8 (val a) (i + s / 8) : Nat) : Int) ((dg 8 (val a) (i + s / 8 + 1) * 256 : Nat) : Int) = ((dg 8 (val a) (i + s / 8) + dg 8 (val a) (i + s / 8 + 1) * 256 : Nat) : Int) := by
   rw [ytx _ _ (by omega) (by omega)]
   congr 1
   exact ye0 (r := 8) (by rw [B8]; exact hd) (by rw [B8]; exact Nat.mul_mod_left _ _)
  have sh := yqK (dg 8 (val a) (i + s / 8) + dg 8 (val a) (i + s / 8 + 1) * 256) (s % 8) (by omega)
  have e4 : (((dg 8 (val a) (i + s / 8) + dg 8 (val a) (i + s / 8 + 1) * 256) / 2 ^ (s % 8) : Nat) : Int) % 256 = (((dg 8 (val a) (i + s / 8) + dg 8 (val a) (i + s / 8 + 1) * 256) / 2 ^ (s % 8) % 256 : Nat) : Int) := by omega
  unfold zcn.l11 zcn.l11.step
  simp (disch := omega) only [yaS, yaX, ybw, yan, e1, e2]
  rw [ybr a _ (by omega) (by omega), ybr a _ (by omega) (by omega)]
  simp (disch := omega) only [yaS, ya1, ya4, yay, Bool.and_self, Bool.not_false, Int.toNat_natCast, yf9, yaO, e3, q1, o1, sh, yhF, e4]
  exact ih
theorem yr2 (x n : Int) : ltI x n = decide (x < n) := by simp [ltI]
theorem ygk (a : List UInt8) (n : Int) (hn : n < 9223372036854775808) (hm : May a) (K : List UInt8 → Bool → Int → Prop) (h1 : n < 0 → K [] false 2) (h2 : 0 ≤ n → a = [] → K [] false 0)
  (h3 : 0 ≤ n → a ≠ [] → K (nb (val a / 2 ^ n.toNat)) (decide ((ybG (val a) : Int) < n)) 0) : zcn a n K := by
 rw [zcn.is]; unfold zcn.d
 by_cases hneg : n < 0
 ·rw [yaB (yaS hneg)]; exact h1 hneg
 rw [yau (ya1 (by omega)), ya9]
 by_cases h0 : a = []
 ·rw [yaB (by simp [h0])]; exact h2 (by omega) h0
 rw [yau (by simp [h0])]
 have hl := hm.1
 obtain ⟨s, rfl⟩ : ∃ s : Nat, n = s := ⟨n.toNat, by omega⟩
 have h3 := h3 (by omega) h0
 rw [Int.toNat_natCast] at h3
 refine yf3 a _ ?_
 rw [if_pos hm, yr2, ybm (by omega) (by omega)]
 by_cases hbig : 8 * a.length ≤ s
 ·rw [yaB (ya4 (by omega))]
  have : val a / 2 ^ s = 0 := Nat.div_eq_of_lt (Nat.lt_of_lt_of_le (ybd a) (Nat.pow_le_pow_right (by omega) hbig))
  rw [this, yaN] at h3
  exact h3
 ·rw [yau (yes (by omega))]
  have e1 : Int.toNat ((a.length : Int) - (s : Int) / 8) = a.length - s / 8 := by omega
  have e2 : (a.length : Int) - (s : Int) / 8 = ((a.length - s / 8 : Nat) : Int) := by omega
  simp (disch := omega) only [ybw, yap, ya4, yay, Bool.and_self, e1]
  rw [e2]
  have hlt2 : val a / 2 ^ s < 2 ^ (8 * (a.length - s / 8)) := by
   rw [Nat.div_lt_iff_lt_mul (Nat.two_pow_pos _), ← Nat.pow_add]
   exact Nat.lt_of_lt_of_le (ybd a) (Nat.pow_le_pow_right (by omega) (by omega))
  refine ⟨a.length - s / 8 + 1, ?_⟩
  have := yiH a s (by omega) (by omega) (decide ((ybG (val a) : Int) < s)) (a.length - s / 8) (a.length - s / 8) (fun y0 y1 y2 y3 y4 => zcu y1 y4 fun y0_1 => K y0_1 y0 0) ?_ (a.length - s / 8) 0 (by omega)
  ·rw [Nat.mul_zero, Nat.pow_zero, Nat.mod_one, ybY] at this; exact this
  ·rw [Nat.mod_eq_of_lt hlt2]
   exact ycg _ _ (by omega) hlt2 _ h3
end Go.Ev.S
