/- Numbers of several words as natural ones; bits set one by one. -/
import Derived.Test.YtnomdgcpklbcfaaGreatDoorEvC
import Derived.Test.YtnomdgcpklbcfaaGreatDoorDA
import Derived.KernelRfl
set_option linter.unusedVariables false
set_option linter.unusedSimpArgs false
namespace Go.Ev.S
open Go Go.Ev
theorem yt4 {c : Bool} {p : Prop} (h : c = true) (hp : p) : gd c p := by rw [ybo h]; exact hp
theorem ybz {i n : Int} (h : 0 ≤ i) (h2 : i < n) : (leI 0 i && ltI i n) = true := by rw [ya9 h, yaZ h2]; rfl
theorem yit {i : Int} (h : 0 ≤ i) : (!ltI i 0) = true := by rw [ya2 h]; rfl
theorem ysf (a b : Nat) (ha : a < 9223372036854775808) (hb : 0 < b) : yaC .i64 (a : Int) (b : Int) = ((a / b : Nat) : Int) := by
 have h : a / b ≤ a := Nat.div_le_self a b
 show IntKind.wrap .i64 ((a : Int).tdiv b) = _
 rw [Int.tdiv_eq_ediv_of_nonneg (by omega)]
 have : (a : Int) / (b : Int) = ((a / b : Nat) : Int) := by simp
 rw [this]
 generalize a / b = q at h ⊢
 exact ydH (by omega) (by omega)
theorem ysn (k : IntKind) (a b : Nat) : yb8 k (a : Int) (b : Int) = ((a % b : Nat) : Int) := by
 show (a : Int).tmod b = _
 rw [Int.tmod_eq_emod_of_nonneg (by omega)]
 simp
theorem ymO (a : Nat) (ha : a < 9223372036854775808) : yaC .i64 (a : Int) 64 = ((a / 64 : Nat) : Int) := ysf a 64 ha (by omega)
theorem yl5 (a : Nat) : yb8 .i64 (a : Int) 64 = ((a % 64 : Nat) : Int) := ysn .i64 a 64
theorem ymz (i : Nat) (hi : i < 64) : ybQ .u64 1 (i : Int) = ((2 ^ i : Nat) : Int) := by
 have := ypG 1 i hi
 rw [show (1 : Int) = ((1 : Nat) : Int) from rfl, this, Nat.shiftLeft_eq, Nat.one_mul]
 have h : 2 ^ i < 2 ^ 64 := Nat.pow_lt_pow_right (by omega) hi
 rw [Nat.mod_eq_of_lt h]
theorem yhO {i : Nat} (h : i < 64) : 2 ^ i < 18446744073709551616 := Nat.pow_lt_pow_right (a := 2) (m := i) (n := 64) (by omega) h
theorem yjm (a b : Nat) : eqI (a : Int) (b : Int) = decide (a = b) := by
 by_cases h : a = b
 ·subst h; simp [eqI]
 ·rw [yip (by omega)]; simp [h]
theorem yrV (a b : Nat) : ltI (a : Int) (b : Int) = decide (a < b) := by simp [ltI]
theorem yjy {a b : Int} (h : 0 ≤ a - b) (h2 : a - b < 18446744073709551616) : yao .u64 a b = a - b := yhA h h2
theorem yg6 {a b : Int} (h : 0 ≤ a + b) (h2 : a + b < 18446744073709551616) : yai .u64 a b = a + b := yhA h h2
def Q6 : Nat := 2 ^ 192 * 2 ^ 192
theorem ydP {n : Nat} (h : n = 384) : 2 ^ n = Q6 := by
 obtain ⟨a, ha⟩ : ∃ a, a = 192 := ⟨_, rfl⟩
 have : n = a + a := by omega
 rw [this, Nat.pow_add, ha]; exact rfl
theorem yrU : 0 < Q6 := Nat.mul_pos (Nat.two_pow_pos _) (Nat.two_pow_pos _)
theorem yti {a : Nat} (h : a ≤ 384) : 2 ^ a ≤ Q6 := by
 obtain ⟨n, hn⟩ : ∃ n, n = 384 := ⟨_, rfl⟩
 rw [← ydP hn]; exact Nat.pow_le_pow_right (by omega) (by omega)
theorem ys0 {a : Nat} (h : a < 384) : 2 ^ a < Q6 := by
 obtain ⟨n, hn⟩ : ∃ n, n = 384 := ⟨_, rfl⟩
 rw [← ydP hn]; exact Nat.pow_lt_pow_right (by omega) (by omega)
theorem yoT {a : Nat} (h : a ≤ 384) {x : Nat} (hx : x < 2 ^ a) : x < Q6 := Nat.lt_of_lt_of_le hx (yti h)
def wd (x i : Nat) : Nat := x / 2 ^ (64 * i) % 18446744073709551616
theorem ydO (x i : Nat) : wd x i < 18446744073709551616 := Nat.mod_lt _ (by omega)
theorem yb1 (x i j : Nat) : (wd x i).testBit j = (decide (j < 64) && x.testBit (64 * i + j)) := by
 unfold wd
 rw [show (18446744073709551616 : Nat) = 2 ^ 64 from rfl, Nat.testBit_mod_two_pow, Nat.testBit_div_two_pow, Nat.add_comm]
theorem ycR (x i : Nat) (h : x < 2 ^ (64 * i)) : wd x i = 0 := by
 unfold wd; rw [Nat.div_eq_of_lt h]
def W (x : Nat) : Nat → Int := fun i => ((wd x i : Nat) : Int)
theorem ybj (x i : Nat) : W x i = ((wd x i : Nat) : Int) := rfl
theorem W_zero : W 0 = fun _ => 0 := by
 funext i
 have : wd 0 i = 0 := ycR 0 i (Nat.two_pow_pos _)
 simp [ybj, this]
theorem yrE {x y : Nat} {n : Nat} (hx : x < 2 ^ (64 * n)) (hy : y < 2 ^ (64 * n)) (h : ∀ i, i < n → wd x i = wd y i) : x = y := by
 apply Nat.eq_of_testBit_eq
 intro j
 by_cases hj : j < 64 * n
 ·have h1 := congrArg (fun z => Nat.testBit z (j % 64)) (h (j / 64) (by omega))
  simp only [yb1] at h1
  have h2 : j % 64 < 64 := Nat.mod_lt _ (by omega)
  simp only [h2, decide_true, Bool.true_and] at h1
  rwa [show 64 * (j / 64) + j % 64 = j from by omega] at h1
 ·rw [Nat.testBit_lt_two_pow (Nat.lt_of_lt_of_le hx (Nat.pow_le_pow_right (by omega) (by omega))), Nat.testBit_lt_two_pow (Nat.lt_of_lt_of_le hy (Nat.pow_le_pow_right (by omega) (by omega)))]
theorem yto (hi lo : Nat) (hh : hi < 18446744073709551616) (hl : lo < 18446744073709551616) : upd (upd (fun _ => 0) 0 (lo : Int)) 1 (hi : Int) = W (hi * 18446744073709551616 + lo) := by
 funext i
 by_cases h1 : i = 1
 ·subst h1
  rw [ybZ, ybj]
  congr 1
  unfold wd
  rw [show 2 ^ (64 * 1) = 18446744073709551616 from rfl]; omega
 ·rw [ycT _ _ _ _ h1]
  by_cases h0 : i = 0
  ·subst h0
   rw [ybZ, ybj]
   congr 1
   unfold wd
   rw [show 2 ^ (64 * 0) = 1 from rfl]; omega
  ·rw [ycT _ _ _ _ h0, ybj, ycR]
   ·rfl
   ·refine Nat.lt_of_lt_of_le (show _ < 2 ^ 128 from ?_) (Nat.pow_le_pow_right (by omega) (by omega))
    rw [show (2 : Nat) ^ 128 = 340282366920938463463374607431768211456 from rfl]; omega
theorem ytr (lo : Nat) (hl : lo < 18446744073709551616) : upd (fun _ => 0) 0 (lo : Int) = W lo := by
 have h := yto 0 lo (by omega) hl
 have h2 : upd (upd (fun _ => (0 : Int)) 0 (lo : Int)) 1 ((0 : Nat) : Int) = upd (fun _ => 0) 0 (lo : Int) := by
  funext i
  by_cases h1 : i = 1
  ·subst h1; rw [ybZ, ycT _ _ _ _ (by omega)]; rfl
  ·rw [ycT _ _ _ _ h1]
 rw [h2] at h
 rw [h]; congr 1; omega
theorem ylo (x n i : Nat) : wd (x ||| 2 ^ n) i = if i = n / 64 then wd x i ||| 2 ^ (n % 64) else wd x i := by
 apply Nat.eq_of_testBit_eq
 intro j
 have hm : n % 64 < 64 := Nat.mod_lt _ (by omega)
 rw [yb1, Nat.testBit_or, Nat.testBit_two_pow]
 by_cases hi : i = n / 64
 ·rw [if_pos hi, Nat.testBit_or, yb1, Nat.testBit_two_pow]
  by_cases hj : j < 64
  ·have : decide (n = 64 * i + j) = decide (n % 64 = j) := by rw [decide_eq_decide]; omega
   simp [hj, this]
  ·have : ¬ (n % 64 = j) := by omega
   simp [hj, this]
 ·rw [if_neg hi, yb1]
  by_cases hj : j < 64
  ·have : ¬ (n = 64 * i + j) := by omega
   simp [this]
  ·simp [hj]
theorem ygO (x n : Nat) : upd (W x) (n / 64) (orI .u64 (W x (n / 64)) (ybQ .u64 1 ((n % 64 : Nat) : Int))) = W (x ||| 2 ^ n) := by
 have hm : n % 64 < 64 := Nat.mod_lt _ (by omega)
 rw [ymz _ hm, ybj, yju _ _ (ydO _ _) (Nat.pow_lt_pow_right (by omega) hm)]
 funext i
 by_cases hi : i = n / 64
 ·subst hi
  rw [ybZ, ybj, ylo, if_pos rfl]
 ·rw [ycT _ _ _ _ hi, ybj, ybj, ylo, if_neg hi]
def Hi (x : Nat) : Int := ((x / 18446744073709551616 : Nat) : Int)
def Lo (x : Nat) : Int := ((x % 18446744073709551616 : Nat) : Int)
def two (hi lo : Nat) : Nat := hi * 18446744073709551616 + lo
theorem yqQ {x : Nat} (h : x < 2 ^ 128) : x / 18446744073709551616 < 18446744073709551616 := by
 rw [show (2 : Nat) ^ 128 = 340282366920938463463374607431768211456 from rfl] at h; omega
theorem ysw (x : Nat) : x % 18446744073709551616 < 18446744073709551616 := Nat.mod_lt _ (by omega)
theorem ypC (x j : Nat) : (x / 18446744073709551616).testBit j = x.testBit (64 + j) := by
 rw [show (18446744073709551616 : Nat) = 2 ^ 64 from rfl, Nat.testBit_div_two_pow, Nat.add_comm]
theorem ypq (x j : Nat) : (x % 18446744073709551616).testBit j = (decide (j < 64) && x.testBit j) := by
 rw [show (18446744073709551616 : Nat) = 2 ^ 64 from rfl, Nat.testBit_mod_two_pow]
theorem ypN (x y : Nat) : (eqI (Hi x) (Hi y) && eqI (Lo x) (Lo y)) = decide (x = y) := by
 unfold Hi Lo
 rw [yjm, yjm]
 by_cases h : x = y
 ·subst h; simp
 ·have : ¬ (x / 18446744073709551616 = y / 18446744073709551616 ∧ x % 18446744073709551616 = y % 18446744073709551616) := by omega
  rw [← Bool.decide_and]
  simp [h, this]
theorem ysV (x : Nat) (h : x < 2 ^ 128) : upd (upd (fun _ => 0) 0 (Lo x)) 1 (Hi x) = W x := by
 have := yto (x / 18446744073709551616) (x % 18446744073709551616) (yqQ h) (ysw x)
 unfold Lo Hi
 rw [this]; congr 1; omega
theorem ytZ (x : Nat) (h : x < 2 ^ 128) : W x 1 = Hi x := by
 rw [ybj]; unfold Hi wd
 congr 1
 rw [show 2 ^ (64 * 1) = 18446744073709551616 from rfl]
 exact Nat.mod_eq_of_lt (yqQ h)
theorem ytW (x : Nat) : W x 0 = Lo x := by
 rw [ybj]; unfold Lo wd
 rw [show 2 ^ (64 * 0) = 1 from rfl, Nat.div_one]
theorem yf7 (x i : Nat) (h : x < 2 ^ 128) (hi : 2 ≤ i) : W x i = 0 := by
 rw [ybj, ycR x i (Nat.lt_of_lt_of_le h (Nat.pow_le_pow_right (by omega) (by omega)))]; rfl
theorem ysW (f : Bool → Bool → Bool) (op : Nat → Nat → Nat) (hop : ∀ a b j, (op a b).testBit j = f (a.testBit j) (b.testBit j)) (hf : f false false = false) (x y : Nat) :
  op x y / 18446744073709551616 = op (x / 18446744073709551616) (y / 18446744073709551616) ∧ op x y % 18446744073709551616 = op (x % 18446744073709551616) (y % 18446744073709551616) := by
 constructor
 ·apply Nat.eq_of_testBit_eq; intro j; rw [ypC, hop, hop, ypC, ypC]
 ·apply Nat.eq_of_testBit_eq; intro j; rw [ypq, hop, hop, ypq, ypq]
  by_cases hj : j < 64
  ·simp [hj]
  ·simp [hj, hf]
theorem yta (x y : Nat) (hx : x < 2 ^ 128) (hy : y < 2 ^ 128) : orI .u64 (Hi x) (Hi y) = Hi (x ||| y) ∧ orI .u64 (Lo x) (Lo y) = Lo (x ||| y) := by
 obtain ⟨h1, h2⟩ := ysW (· || ·) (· ||| ·) (fun a b j => Nat.testBit_or a b j) rfl x y
 unfold Hi Lo
 exact ⟨by rw [yju _ _ (yqQ hx) (yqQ hy)]; exact congrArg _ h1.symm, by rw [yju _ _ (ysw x) (ysw y)]; exact congrArg _ h2.symm⟩
end Go.Ev.S

/- What the document's answer reckons with words, bit by bit. -/
set_option linter.unusedVariables false
set_option linter.unusedSimpArgs false
namespace Go.Ev.S
open Go Go.Ev
theorem ycD (a i : Nat) (ha : a < 18446744073709551616) (hi : i < 64) (K : Bool → Prop) : zbs a i K = K (a.testBit i) := by
 rw [zbs.is]; unfold zbs.d
 rw [yaA (ya9 (by omega)), yaA (yaZ (by omega)), yaQ (by omega) (by omega), ybo (yit (by omega)), ynH a i ha hi]
theorem yc2 (a i : Nat) : a % 2 ^ (i + 1) = a % 2 ^ i + (a.testBit i).toNat * 2 ^ i := by
 have h : (a.testBit i).toNat = a / 2 ^ i % 2 := by
  rw [Nat.testBit_eq_decide_div_mod_eq]
  rcases Nat.mod_two_eq_zero_or_one (a / 2 ^ i) with h | h <;> rw [h] <;> rfl
 rw [h, Nat.mod_pow_succ, Nat.mul_comm]
theorem yiM (s i : Nat) (h : s < 2 ^ i) : s ||| 2 ^ i = s + 2 ^ i := by
 have := Nat.two_pow_add_eq_or_of_lt h 1
 rw [Nat.mul_one] at this
 rw [Nat.or_comm, ← this, Nat.add_comm]
def yiD (a b c i : Nat) : Nat := a % 2 ^ i + b % 2 ^ i + c
theorem ysb (a b c i : Nat) (hc : c ≤ 1) : yiD a b c i < 2 * 2 ^ i := by
 have h1 := Nat.mod_lt a (Nat.two_pow_pos i)
 have h2 := Nat.mod_lt b (Nat.two_pow_pos i)
 unfold yiD; omega
theorem yga (a b c : Nat) (ha : a < 18446744073709551616) (hb : b < 18446744073709551616) (hc : c ≤ 1) (k0 : Bool → Int → Prop) (h : k0 (decide (18446744073709551616 ≤ a + b + c)) (((a + b + c) % 18446744073709551616 : Nat))) :
  ∀ (j i : Nat), i + j = 64 → zbr.l3 k0 (j + 1) a b (decide (2 ^ i ≤ yiD a b c i)) ((yiD a b c i % 2 ^ i : Nat)) i
 | 0, i, hij => by
  have : i = 64 := by omega
  subst this
  unfold zbr.l3 zbr.l3.step
  rw [yau (by decide)]
  have e : yiD a b c 64 = a + b + c := by
   unfold yiD
   rw [show (2 : Nat) ^ 64 = 18446744073709551616 from rfl]; omega
  rw [e]
  exact h
 | j + 1, i, hij => by
  have ih := yga a b c ha hb hc k0 h j (i + 1) (by omega)
  have e : ((i + 1 : Nat) : Int) = (i : Int) + 1 := by omega
  rw [e] at ih
  have hT : yiD a b c (i + 1) = yiD a b c i + (a.testBit i).toNat * 2 ^ i + (b.testBit i).toNat * 2 ^ i := by
   unfold yiD; rw [yc2, yc2]; omega
  have hlt := ysb a b c i hc
  have hp := Nat.two_pow_pos i
  have h2 : 2 ^ (i + 1) = 2 * 2 ^ i := by rw [Nat.pow_succ]; omega
  rw [hT, h2] at ih
  have hs : yiD a b c i % 2 ^ i < 2 ^ i := Nat.mod_lt _ hp
  have hsum : yiD a b c i % 2 ^ i = yiD a b c i - (if 2 ^ i ≤ yiD a b c i then 2 ^ i else 0) := by
   split
   ·rw [Nat.mod_eq_sub_mod (by omega), Nat.mod_eq_of_lt (by omega)]
   ·rw [Nat.mod_eq_of_lt (by omega)]; omega
  have hi64 : 2 ^ i < 18446744073709551616 := yhO (by omega)
  have hor : orI .u64 ((yiD a b c i % 2 ^ i : Nat) : Int) (ybQ .u64 1 (cvI .u64 (i : Int))) = ((yiD a b c i % 2 ^ i + 2 ^ i : Nat) : Int) := by
   rw [yaQ (by omega) (by omega), ymz i (by omega), yju _ _ (Nat.lt_trans hs hi64) hi64, yiM _ _ hs]
  show zbr.l3.step (zbr.l3 k0 (j + 1)) k0 _ _ _ _ _
  unfold zbr.l3.step
  rw [yaA (yaZ (by omega)), ycD a i ha (by omega), ycD b i hb (by omega), hor, yas (by omega) (by omega), yaQ (by omega) (by omega)]
  have fin : ∀ (cy : Bool) (s : Nat), (∀ S, S = yiD a b c i + (a.testBit i).toNat * 2 ^ i + (b.testBit i).toNat * 2 ^ i → decide (2 * 2 ^ i ≤ S) = cy ∧ S % (2 * 2 ^ i) = s) → zbr.l3 k0 (j + 1) a b cy (s : Int) ((i : Int) + 1) := by
   intro cy s hh
   obtain ⟨g1, g2⟩ := hh _ rfl
   rw [g1, g2] at ih
   exact ih
  have md : ∀ S s : Nat, S = s ∨ S = s + 2 * 2 ^ i → s < 2 * 2 ^ i → S % (2 * 2 ^ i) = s := by
   intro S s hh hs
   rcases hh with rfl | rfl
   ·exact Nat.mod_eq_of_lt hs
   ·rw [Nat.add_mod_right]; exact Nat.mod_eq_of_lt hs
  generalize yiD a b c i % 2 ^ i = s0 at *
  generalize yiD a b c i = T at *
  generalize 2 ^ i = p at *
  clear hT hor ih
  have hg : ∀ q : Prop, q → gd (!ltI (i : Int) 0) q := fun q hq => yt4 (yit (by omega)) hq
  by_cases hcy : p ≤ T
  ·rw [if_pos hcy] at hsum
   simp only [hcy, decide_true] 
   cases hx : a.testBit i <;> cases hy : b.testBit i <;> simp only [ycZ, br, cond_true, cond_false, Bool.not_true, Bool.not_false] <;> (try refine hg _ ?_) <;> (try simp only [ycZ, br, cond_true, cond_false, Bool.not_true, Bool.not_false])
   all_goals
    refine fin _ _ fun S hS => ?_
    simp only [hx, hy, Bool.toNat_true, Bool.toNat_false] at hS
    refine ⟨?_, md _ _ (by omega) (by omega)⟩
    simp only [decide_eq_true_eq, decide_eq_false_iff_not]
    omega
  ·rw [if_neg hcy] at hsum
   simp only [hcy, decide_false]
   cases hx : a.testBit i <;> cases hy : b.testBit i <;> simp only [ycZ, br, cond_true, cond_false, Bool.not_true, Bool.not_false] <;> (try refine hg _ ?_) <;> (try simp only [ycZ, br, cond_true, cond_false, Bool.not_true, Bool.not_false])
   all_goals
    refine fin _ _ fun S hS => ?_
    simp only [hx, hy, Bool.toNat_true, Bool.toNat_false] at hS
    refine ⟨?_, md _ _ (by omega) (by omega)⟩
    simp only [decide_eq_true_eq, decide_eq_false_iff_not]
    omega
theorem yoG (a b : Nat) (c : Bool) (ha : a < 18446744073709551616) (hb : b < 18446744073709551616) (K : Int → Bool → Prop)
  (h : K (((a + b + c.toNat) % 18446744073709551616 : Nat)) (decide (18446744073709551616 ≤ a + b + c.toNat))) : zbr a b c K := by
 rw [zbr.is]
 refine ⟨65, ?_⟩
 have := yga a b c.toNat ha hb (by cases c <;> simp) (fun y0 y1 => K y1 y0) h 64 0 rfl
 have e1 : decide (2 ^ 0 ≤ yiD a b c.toNat 0) = c := by
  unfold yiD
  cases c <;> simp [Nat.mod_one]
 have e2 : yiD a b c.toNat 0 % 2 ^ 0 = 0 := by simp [Nat.mod_one]
 rw [e1, e2] at this
 exact this
def ygE (a : Nat) : Nat → Nat
 | 0 => 0
 | i + 1 => cond (a.testBit i) (i + 1) (ygE a i)
theorem yjC (a w : Nat) : ∀ n, ygE a n ≤ w ↔ ∀ i, i < n → w ≤ i → a.testBit i = false
 | 0 => by simp [ygE]
 | n + 1 => by
  have ih := yjC a w n
  cases hb : a.testBit n with
  | true =>
   simp only [ygE, hb, cond_true]
   constructor
   ·intro h i hi hw; omega
   ·intro h
    apply Classical.byContradiction
    intro hc
    have := h n (by omega) (by omega)
    rw [hb] at this; cases this
  | false =>
   simp only [ygE, hb, cond_false]
   rw [ih]
   constructor
   ·intro h i hi hw
    by_cases hin : i = n
    ·subst hin; exact hb
    ·exact h i (by omega) hw
   ·intro h i hi hw; exact h i (by omega) hw
def yaw (a : Nat) : Nat := if a = 0 then 0 else a.log2 + 1
theorem yaV (a w : Nat) : yaw a ≤ w ↔ a < 2 ^ w := by
 unfold yaw
 by_cases h : a = 0
 ·subst h; simp [Nat.two_pow_pos]
 ·rw [if_neg h]
  rw [← Nat.log2_lt h]; omega
theorem ykx (a : Nat) : a < 2 ^ yaw a := (yaV a _).1 (Nat.le_refl _)
theorem ynv {a : Nat} (h : a ≠ 0) : 0 < yaw a := by unfold yaw; rw [if_neg h]; omega
theorem yqn {a : Nat} (h : a ≠ 0) : 2 ^ (yaw a - 1) ≤ a := by
 unfold yaw; rw [if_neg h]
 exact Nat.log2_self_le h
theorem yoj (a n : Nat) (ha : a < 2 ^ n) : ygE a n = yaw a := by
 apply Nat.le_antisymm
 ·rw [yjC]
  intro i _ hw
  exact Nat.testBit_lt_two_pow (Nat.lt_of_lt_of_le (ykx a) (Nat.pow_le_pow_right (by omega) hw))
 ·rw [yaV]
  apply Nat.lt_pow_two_of_testBit
  intro i hi
  by_cases hin : i < n
  ·exact (yjC a _ n).1 (Nat.le_refl _) i hin hi
  ·exact Nat.testBit_lt_two_pow (Nat.lt_of_lt_of_le ha (Nat.pow_le_pow_right (by omega) (by omega)))
theorem ygd (a : Nat) (ha : a < 18446744073709551616) (k0 : Int → Prop) (h : k0 (ygE a 64)) : ∀ (j i : Nat), i + j = 64 → zbt.l3 k0 (j + 1) a (ygE a i) i
 | 0, i, hij => by
  have : i = 64 := by omega
  subst this
  unfold zbt.l3 zbt.l3.step
  rw [yau (by decide)]
  exact h
 | j + 1, i, hij => by
  show br (ltI i 64) (zbs a i fun r0 => br r0 (zbt.l3 k0 (j + 1) a (yai .i64 i 1) (yai .i64 i 1)) (zbt.l3 k0 (j + 1) a (ygE a i) (yai .i64 i 1))) (k0 (ygE a i))
  rw [yaA (yaZ (by omega)), ycD a i ha (by omega), yas (by omega) (by omega)]
  have ih := ygd a ha k0 h j (i + 1) (by omega)
  have e : ((i + 1 : Nat) : Int) = (i : Int) + 1 := by omega
  rw [e] at ih
  cases hb : a.testBit i with
  | true =>
   rw [yaA rfl]
   simp only [ygE, hb, cond_true] at ih
   rw [e] at ih
   exact ih
  | false =>
   rw [yau rfl]
   simp only [ygE, hb, cond_false] at ih
   exact ih
theorem yi5 (a : Nat) (ha : a < 18446744073709551616) (K : Int → Prop) (h : K (yaw a)) : zbt a K := by
 rw [zbt.is]
 refine ⟨65, ygd a ha K ?_ 64 0 rfl⟩
 rw [yoj a 64 ha]; exact h
end Go.Ev.S

/- What the document's answer reckons with numbers of six words. -/
set_option linter.unusedVariables false
set_option linter.unusedSimpArgs false
set_option maxRecDepth 8000
namespace Go.Ev.S
open Go Go.Ev
theorem yd5 (n : Nat) (h : n ≤ 384) (K : Int → Prop) : zby n K = K n := by
 rw [zby.is]; unfold zby.d
 rw [yau (ya2 (by omega)), yau (ya2 (by omega))]
theorem yea (x i : Nat) (hi : i < 384) (K : Bool → Prop) : zbx (W x) i K = K (x.testBit i) := by
 rw [zbx.is]; unfold zbx.d
 rw [yaA (ya9 (by omega)), yaA (yaZ (by omega)), ymO i (by omega), yl5 i, ybo (ybz (by omega) (by omega)), Int.toNat_natCast, ybj, ycD _ _ (ydO _ _) (Nat.mod_lt _ (by omega)), yb1]
 have h1 : i % 64 < 64 := Nat.mod_lt _ (by omega)
 rw [show 64 * (i / 64) + i % 64 = i from by omega]
 simp [h1]
theorem ylQ (x : Nat) (h : x < 18446744073709551616) (K : (Nat → Int) → Prop) : zcc x K = K (W x) := by
 rw [zcc.is]; unfold zcc.d; rw [ytr x h]
theorem ykd (x : Nat) (h : x < 2 ^ 128) (K : (Nat → Int) → Prop) : zcd (Hi x) (Lo x) K = K (W x) := by
 rw [zcd.is]; unfold zcd.d; rw [ysV x h]
theorem yfk (x : Nat) (h : x < 2 ^ 128) (K : Int → Int → Bool → Prop) : zcf (W x) K = K (Hi x) (Lo x) true := by
 rw [zcf.is]; unfold zcf.d
 rw [yf7 x 2 h (by omega), yf7 x 3 h (by omega), yf7 x 4 h (by omega), yf7 x 5 h (by omega), ytZ x h, ytW x]
 rfl
theorem ysS (z w i : Nat) (hz : z < 2 ^ (64 * i)) (hw : w < 18446744073709551616) : upd (W z) i (w : Int) = W (z + w * 2 ^ (64 * i)) := by
 funext j
 have hP := Nat.two_pow_pos (64 * i)
 by_cases hj : j = i
 ·subst hj
  rw [ybZ, ybj]
  congr 1
  unfold wd
  rw [Nat.add_mul_div_right _ _ hP, Nat.div_eq_of_lt hz, Nat.zero_add, Nat.mod_eq_of_lt hw]
 ·rw [ycT _ _ _ _ hj, ybj, ybj]
  congr 1
  by_cases hlt : j < i
  ·unfold wd
   have e : 2 ^ (64 * i) = 2 ^ (64 * j) * (18446744073709551616 * 2 ^ (64 * (i - j - 1))) := by
    rw [show (18446744073709551616 : Nat) = 2 ^ 64 from rfl, ← Nat.pow_add, ← Nat.pow_add]; congr 1; omega
   rw [e, Nat.mul_comm w, Nat.mul_assoc, Nat.add_mul_div_left _ _ (Nat.two_pow_pos _), Nat.mul_assoc, Nat.add_mul_mod_self_left]
  ·rw [ycR z j (Nat.lt_of_lt_of_le hz (Nat.pow_le_pow_right (by omega) (by omega))), ycR]
   have h1 : z + w * 2 ^ (64 * i) < 2 ^ (64 * (i + 1)) := by
    rw [show 64 * (i + 1) = 64 * i + 64 from by omega, Nat.pow_add, show (2 : Nat) ^ 64 = 18446744073709551616 from rfl]
    have : (w + 1) * 2 ^ (64 * i) ≤ 18446744073709551616 * 2 ^ (64 * i) := Nat.mul_le_mul_right _ (by omega)
    rw [Nat.add_mul, Nat.one_mul] at this
    rw [Nat.mul_comm (2 ^ (64 * i))]
    omega
   exact Nat.lt_of_lt_of_le h1 (Nat.pow_le_pow_right (by omega) (by omega))
theorem yj4 (x i : Nat) : x % 2 ^ (64 * (i + 1)) = x % 2 ^ (64 * i) + wd x i * 2 ^ (64 * i) := by
 unfold wd
 rw [show 64 * (i + 1) = 64 * i + 64 from by omega, Nat.pow_add, show (2 : Nat) ^ 64 = 18446744073709551616 from rfl, Nat.mod_mul, Nat.mul_comm (2 ^ (64 * i))]
def yi9 (x y i : Nat) : Nat := x % 2 ^ (64 * i) + y % 2 ^ (64 * i)
theorem ypE (x y i q : Nat) (hqd : q = (decide (2 ^ (64 * i) ≤ yi9 x y i)).toNat) :
  (yi9 x y (i + 1) % 2 ^ (64 * (i + 1)) = yi9 x y i % 2 ^ (64 * i) + ((wd x i + wd y i + q) % 18446744073709551616) * 2 ^ (64 * i)) ∧
  (decide (2 ^ (64 * (i + 1)) ≤ yi9 x y (i + 1)) = decide (18446744073709551616 ≤ wd x i + wd y i + q)) := by
 have hP : 0 < 2 ^ (64 * i) := Nat.two_pow_pos _
 have h1 : x % 2 ^ (64 * i) < 2 ^ (64 * i) := Nat.mod_lt _ hP
 have h2 : y % 2 ^ (64 * i) < 2 ^ (64 * i) := Nat.mod_lt _ hP
 have hT : yi9 x y (i + 1) = yi9 x y i + (wd x i + wd y i) * 2 ^ (64 * i) := by
  unfold yi9; rw [yj4, yj4, Nat.add_mul]; omega
 have hlt : yi9 x y i < 2 * 2 ^ (64 * i) := by unfold yi9; omega
 have h64 : 2 ^ (64 * (i + 1)) = 2 ^ (64 * i) * 18446744073709551616 := by
  rw [show 64 * (i + 1) = 64 * i + 64 from by omega, Nat.pow_add]
 rw [hT, h64]
 clear hT h64 h1 h2
 generalize 2 ^ (64 * i) = P at *
 generalize yi9 x y i = T at *
 have hq : T = T % P + q * P := by
  by_cases hc : P ≤ T
  ·have : q = 1 := by rw [hqd]; simp only [hc, decide_true, Bool.toNat_true]
   rw [this, Nat.mod_eq_sub_mod hc, Nat.mod_eq_of_lt (by omega)]; omega
  ·have : q = 0 := by rw [hqd]; simp only [hc, decide_false, Bool.toNat_false]
   rw [this, Nat.mod_eq_of_lt (by omega)]; omega
 have hr : T % P < P := Nat.mod_lt _ hP
 clear hqd
 generalize T % P = r at *
 subst hq
 rw [show r + q * P + (wd x i + wd y i) * P = r + (wd x i + wd y i + q) * P from by rw [Nat.add_mul (wd x i + wd y i)]; omega]
 generalize wd x i + wd y i + q = v
 constructor
 ·rw [Nat.mod_mul, Nat.add_mul_mod_self_right, Nat.mod_eq_of_lt hr, Nat.add_mul_div_right _ _ hP, Nat.div_eq_of_lt hr, Nat.zero_add, Nat.mul_comm P]
 ·rw [decide_eq_decide]
  constructor
  ·intro h
   apply Classical.byContradiction
   intro hc
   have : (v + 1) * P ≤ 18446744073709551616 * P := Nat.mul_le_mul_right _ (by omega)
   rw [Nat.add_mul, Nat.mul_comm 18446744073709551616] at this
   omega
  ·intro h
   have : 18446744073709551616 * P ≤ v * P := Nat.mul_le_mul_right _ h
   rw [Nat.mul_comm 18446744073709551616] at this
   omega
theorem ylj (x y : Nat) (k0 : Bool → (Nat → Int) → (Nat → Int) → Prop) (z : Nat → Int) (h : k0 (decide (Q6 ≤ yi9 x y 6)) z (W (yi9 x y 6 % Q6))) :
  ∀ (j i : Nat), i + j = 6 → zbv.l4 k0 (j + 1) (decide (2 ^ (64 * i) ≤ yi9 x y i)) i (W x) (W y) z (W (yi9 x y i % 2 ^ (64 * i))) := by
 intro j
 induction j with
 | zero =>
  intro i hij
  have h6 : i = 6 := by omega
  unfold zbv.l4 zbv.l4.step
  rw [yau (ya2 (by omega)), ydP (show 64 * i = 384 by omega), h6]
  exact h
 | succ j ih =>
  intro i hij
  have ih := ih (i + 1) (by omega)
  have e : ((i + 1 : Nat) : Int) = (i : Int) + 1 := by omega
  rw [e] at ih
  obtain ⟨s1, s2⟩ := ypE x y i _ rfl
  rw [s1, s2] at ih
  unfold zbv.l4 zbv.l4.step
  have hi : (leI 0 (i : Int) && ltI (i : Int) 6) = true := ybz (by omega) (by omega)
  rw [yaA (yaZ (by omega)), ybo hi, ybo hi, Int.toNat_natCast, ybj, ybj]
  refine yoG _ _ _ (ydO _ _) (ydO _ _) _ ?_
  rw [ybo hi, yas (by omega) (by omega), ysS _ _ _ (Nat.mod_lt _ (Nat.two_pow_pos _)) (Nat.mod_lt _ (by omega))]
  exact ih
theorem yiV (x y : Nat) (hx : x < Q6) (hy : y < Q6) (K : (Nat → Int) → Bool → Prop) (h : K (W ((x + y) % Q6)) (decide (Q6 ≤ x + y))) : zbv (W x) (W y) K := by
 rw [zbv.is]
 refine ⟨7, ?_⟩
 have h6 : yi9 x y 6 = x + y := by
  obtain ⟨i, hi⟩ : ∃ i, i = 6 := ⟨_, rfl⟩
  rw [← hi]
  unfold yi9; rw [ydP (show 64 * i = 384 by omega), Nat.mod_eq_of_lt hx, Nat.mod_eq_of_lt hy]
 have := ylj x y (fun y0 y1 y2 => K y2 y0) (fun _ => 0) (by rw [h6]; exact h) 6 0 rfl
 have e1 : decide (2 ^ (64 * 0) ≤ yi9 x y 0) = false := by simp [yi9, Nat.mod_one]
 have e2 : W (yi9 x y 0 % 2 ^ (64 * 0)) = fun _ => 0 := by
  rw [show yi9 x y 0 % 2 ^ (64 * 0) = 0 from by simp [Nat.mod_one]]; exact W_zero
 rw [e1, e2] at this
 exact this
theorem yry {x n i m : Nat} (hb : x.testBit i = true) (h : i + n < m) :
  (x % 2 ^ (i + 1)) * 2 ^ n % 2 ^ m = ((x % 2 ^ i) * 2 ^ n % 2 ^ m) ||| 2 ^ (i + n) ∧ ¬ 2 ^ m ≤ (x % 2 ^ i) * 2 ^ n ∧ ¬ 2 ^ m ≤ (x % 2 ^ (i + 1)) * 2 ^ n := by
 have h1 : (x % 2 ^ i) * 2 ^ n < 2 ^ (i + n) := by
  rw [Nat.pow_add]; exact Nat.mul_lt_mul_of_pos_right (Nat.mod_lt _ (Nat.two_pow_pos _)) (Nat.two_pow_pos _)
 have h2 : (x % 2 ^ (i + 1)) * 2 ^ n = (x % 2 ^ i) * 2 ^ n + 2 ^ (i + n) := by
  rw [yc2, hb, Nat.add_mul, Nat.pow_add]; simp
 have h3 : 2 ^ (i + n) + 2 ^ (i + n) ≤ 2 ^ m := by
  have : 2 ^ (i + n + 1) ≤ 2 ^ m := Nat.pow_le_pow_right (by omega) (by omega)
  rw [Nat.pow_succ] at this; omega
 rw [h2]
 generalize x % 2 ^ i * 2 ^ n = A at *
 rw [Nat.mod_eq_of_lt (show A + 2 ^ (i + n) < 2 ^ m by omega), Nat.mod_eq_of_lt (show A < 2 ^ m by omega), yiM _ _ h1]
 exact ⟨rfl, by omega, by omega⟩
theorem ypY {x n i m : Nat} (hb : x.testBit i = true) (h : m ≤ i + n) :
  (x % 2 ^ (i + 1)) * 2 ^ n % 2 ^ m = (x % 2 ^ i) * 2 ^ n % 2 ^ m ∧ 2 ^ m ≤ (x % 2 ^ (i + 1)) * 2 ^ n := by
 have h2 : (x % 2 ^ (i + 1)) * 2 ^ n = (x % 2 ^ i) * 2 ^ n + 2 ^ (i + n) := by
  rw [yc2, hb, Nat.add_mul, Nat.pow_add]; simp
 have h3 : 2 ^ (i + n) = 2 ^ m * 2 ^ (i + n - m) := by rw [← Nat.pow_add]; congr 1; omega
 have h4 : 2 ^ m ≤ 2 ^ (i + n) := Nat.pow_le_pow_right (by omega) h
 rw [h2]
 exact ⟨by rw [h3, Nat.add_mul_mod_self_left], by omega⟩
theorem yh2 {x i : Nat} (hb : x.testBit i = false) : x % 2 ^ (i + 1) = x % 2 ^ i := by rw [yc2, hb]; simp
theorem yjY (x n m : Nat) (hm : m = 384) (hn : n ≤ 384) (k0 : Bool → (Nat → Int) → (Nat → Int) → Prop) (z : Nat → Int) (h : k0 (decide (2 ^ m ≤ (x % 2 ^ m) * 2 ^ n)) z (W ((x % 2 ^ m) * 2 ^ n % 2 ^ m))) :
  ∀ (j i : Nat), i + j = 384 → zbz.l5 k0 (j + 1) n (decide (2 ^ m ≤ (x % 2 ^ i) * 2 ^ n)) i (W x) z (W ((x % 2 ^ i) * 2 ^ n % 2 ^ m)) := by
 intro j
 induction j with
 | zero =>
  intro i hij
  have h6 : i = m := by omega
  subst h6
  unfold zbz.l5 zbz.l5.step
  rw [yau (ya2 (by omega))]
  exact h
 | succ j ih =>
  intro i hij
  have ih := ih (i + 1) (by omega)
  have e : ((i + 1 : Nat) : Int) = (i : Int) + 1 := by omega
  rw [e] at ih
  unfold zbz.l5 zbz.l5.step
  rw [yaA (yaZ (by omega)), yea x i (by omega)]
  have e1 : yai .i64 (i : Int) (n : Int) = ((i + n : Nat) : Int) := by rw [yas (by omega) (by omega)]; omega
  rw [e1, yas (a := (i : Int)) (b := 1) (by omega) (by omega)]
  cases hb : x.testBit i with
  | false =>
   rw [yau rfl]
   rw [yh2 hb] at ih
   exact ih
  | true =>
   rw [yaA rfl]
   by_cases hin : i + n < 384
   ·obtain ⟨s1, s2, s3⟩ := yry (m := m) hb (show i + n < m by omega)
    rw [s1] at ih
    rw [yaA (yaZ (by omega)), ymO (i + n) (by omega), yl5, ybo (ybz (by omega) (by omega)), yaQ (by omega) (by omega), ybo (yit (by omega)), ybo (ybz (by omega) (by omega)), Int.toNat_natCast, ygO]
    simp only [s2, s3, decide_false] at ih ⊢
    exact ih
   ·obtain ⟨s1, s2⟩ := ypY (m := m) (n := n) hb (by omega)
    rw [yau (ya2 (by omega))]
    rw [s1] at ih
    simp only [s2, decide_true] at ih
    exact ih
theorem yhs (x n : Nat) (hx : x < Q6) (hn : n ≤ 384) (K : (Nat → Int) → Bool → Prop) (h : K (W (x * 2 ^ n % Q6)) (decide (Q6 ≤ x * 2 ^ n))) : zbz (W x) n K := by
 rw [zbz.is]; unfold zbz.d
 rw [yd5 n hn]
 refine ⟨384 + 1, ?_⟩
 obtain ⟨m, hm⟩ : ∃ m, m = 384 := ⟨_, rfl⟩
 have := yjY x n m hm hn (fun y0 y1 y2 => K y2 y0) (fun _ => 0) (by rw [ydP hm, Nat.mod_eq_of_lt hx]; exact h) 384 0 rfl
 rw [ydP hm] at this
 have e1 : decide (Q6 ≤ (x % 2 ^ 0) * 2 ^ n) = false := by
  simp only [Nat.pow_zero, Nat.mod_one, Nat.zero_mul, decide_eq_false_iff_not, Nat.not_le]; exact yrU
 have e2 : W ((x % 2 ^ 0) * 2 ^ n % Q6) = fun _ => 0 := by
  rw [show (x % 2 ^ 0) * 2 ^ n % Q6 = 0 from by simp [Nat.mod_one]]; exact W_zero
 rw [e1, e2] at this
 exact this
theorem yiG (x n m : Nat) (hm : m = 384) (hn : n ≤ 384) (k0 : Bool → (Nat → Int) → (Nat → Int) → Prop) (z : Nat → Int) (h : k0 (decide (x % 2 ^ min m n ≠ 0)) z (W ((x % 2 ^ m) / 2 ^ n))) :
  ∀ (j i : Nat), i + j = 384 → zce.l5 k0 (j + 1) n (decide (x % 2 ^ min i n ≠ 0)) i (W x) z (W ((x % 2 ^ i) / 2 ^ n)) := by
 intro j
 induction j with
 | zero =>
  intro i hij
  have h6 : i = m := by omega
  subst h6
  unfold zce.l5 zce.l5.step
  rw [yau (ya2 (by omega))]
  exact h
 | succ j ih =>
  intro i hij
  have ih := ih (i + 1) (by omega)
  have e : ((i + 1 : Nat) : Int) = (i : Int) + 1 := by omega
  rw [e] at ih
  unfold zce.l5 zce.l5.step
  rw [yaA (yaZ (by omega)), yea x i (by omega), yas (a := (i : Int)) (b := 1) (by omega) (by omega)]
  cases hb : x.testBit i with
  | false =>
   rw [yau rfl]
   rw [yh2 hb] at ih
   have : x % 2 ^ min (i + 1) n = x % 2 ^ min i n := by
    by_cases hin : i < n
    ·rw [Nat.min_eq_left (by omega), Nat.min_eq_left (by omega), yh2 hb]
    ·rw [Nat.min_eq_right (by omega), Nat.min_eq_right (by omega)]
   rw [this] at ih
   exact ih
  | true =>
   rw [yaA rfl]
   by_cases hin : n ≤ i
   ·rw [yaA (ya9 (by omega)), show yao .i64 (i : Int) (n : Int) = ((i - n : Nat) : Int) from by rw [yar (by omega) (by omega)]; omega]
    have hlt : x % 2 ^ i < 2 ^ i := Nat.mod_lt _ (Nat.two_pow_pos _)
    have hp : 2 ^ i = 2 ^ (i - n) * 2 ^ n := by rw [← Nat.pow_add]; congr 1; omega
    have s1 : (x % 2 ^ (i + 1)) / 2 ^ n = (x % 2 ^ i) / 2 ^ n ||| 2 ^ (i - n) := by
     rw [yiM _ _ (by rw [Nat.div_lt_iff_lt_mul (Nat.two_pow_pos _), ← hp]; exact hlt), yc2, hb, Bool.toNat_true, Nat.one_mul]
     conv => lhs; rw [show (x % 2 ^ i + 2 ^ i) = x % 2 ^ i + 2 ^ (i - n) * 2 ^ n from by rw [← hp]]
     rw [Nat.add_mul_div_right _ _ (Nat.two_pow_pos _)]
    rw [s1, Nat.min_eq_right (by omega)] at ih
    rw [ymO (i - n) (by omega), yl5, ybo (ybz (by omega) (by omega)), yaQ (by omega) (by omega), ybo (yit (by omega)), ybo (ybz (by omega) (by omega)), Int.toNat_natCast, ygO, Nat.min_eq_right hin]
    exact ih
   ·rw [yau (yeu (by omega))]
    have hlt : x % 2 ^ (i + 1) < 2 ^ n := Nat.lt_of_lt_of_le (Nat.mod_lt _ (Nat.two_pow_pos _)) (Nat.pow_le_pow_right (by omega) (by omega))
    have hlt2 : x % 2 ^ i < 2 ^ n := Nat.lt_of_lt_of_le (Nat.mod_lt _ (Nat.two_pow_pos _)) (Nat.pow_le_pow_right (by omega) (by omega))
    rw [Nat.div_eq_of_lt hlt, Nat.min_eq_left (by omega)] at ih
    rw [Nat.div_eq_of_lt hlt2]
    have hne : x % 2 ^ (i + 1) ≠ 0 := by
     rw [yc2, hb, Bool.toNat_true, Nat.one_mul]
     have := Nat.two_pow_pos i; omega
    simp only [hne, ne_eq, not_false_eq_true, decide_true] at ih
    exact ih
theorem ylg (x n : Nat) (hx : x < Q6) (hn : n ≤ 384) (K : (Nat → Int) → Bool → Prop) (h : K (W (x / 2 ^ n)) (decide (x % 2 ^ n ≠ 0))) : zce (W x) n K := by
 rw [zce.is]; unfold zce.d
 rw [yd5 n hn]
 refine ⟨384 + 1, ?_⟩
 obtain ⟨m, hm⟩ : ∃ m, m = 384 := ⟨_, rfl⟩
 have := yiG x n m hm hn (fun y0 y1 y2 => K y2 y0) (fun _ => 0) (by rw [ydP hm, Nat.mod_eq_of_lt hx, Nat.min_eq_right (by omega)]; exact h) 384 0 rfl
 have e1 : decide (x % 2 ^ min 0 n ≠ 0) = false := by simp [Nat.mod_one]
 have e2 : W ((x % 2 ^ 0) / 2 ^ n) = fun _ => 0 := by
  rw [show (x % 2 ^ 0) / 2 ^ n = 0 from by simp [Nat.mod_one]]; exact W_zero
 rw [e1, e2] at this
 exact this
theorem yku (n : Nat) (hn : n ≤ 384) (k0 : (Nat → Int) → (Nat → Int) → Prop) (z : Nat → Int) (h : k0 z (W (2 ^ n - 1))) :
  ∀ (j i : Nat), i + j = n → zcb.l4 k0 (j + 1) n i z (W (2 ^ i - 1)) := by
 intro j
 induction j with
 | zero =>
  intro i hij
  have : i = n := by omega
  subst this
  unfold zcb.l4 zcb.l4.step
  rw [yau (ya2 (by omega))]
  exact h
 | succ j ih =>
  intro i hij
  have ih := ih (i + 1) (by omega)
  have e : ((i + 1 : Nat) : Int) = (i : Int) + 1 := by omega
  rw [e] at ih
  unfold zcb.l4 zcb.l4.step
  have hp := Nat.two_pow_pos i
  have s1 : 2 ^ (i + 1) - 1 = (2 ^ i - 1) ||| 2 ^ i := by rw [yiM _ _ (by omega), Nat.pow_succ]; omega
  rw [yaA (yaZ (by omega)), ymO i (by omega), yl5, ybo (ybz (by omega) (by omega)), yaQ (by omega) (by omega), ybo (yit (by omega)), ybo (ybz (by omega) (by omega)), Int.toNat_natCast, ygO, yas (by omega) (by omega), ← s1]
  exact ih
theorem yeM (n : Nat) (hn : n ≤ 384) (K : (Nat → Int) → Prop) (h : K (W (2 ^ n - 1))) : zcb n K := by
 rw [zcb.is]; unfold zcb.d
 rw [yd5 n hn]
 refine ⟨n + 1, ?_⟩
 have := yku n hn (fun y0 y1 => K y1) (fun _ => 0) h n 0 (by omega)
 rw [show 2 ^ 0 - 1 = 0 from rfl, W_zero] at this
 exact this
def mix (i : Nat) (x y : Nat) : Nat → Int := fun j => cond (Nat.blt j i) (W x j) (W y j)
theorem yjM (x y : Nat) : mix 0 x y = W y := by
 funext j
 have h1 : Nat.blt j 0 = false := by
  cases hb : Nat.blt j 0 with
  | false => rfl
  | true => have := bltI.1 hb; omega
 simp [mix, h1]
theorem yma (x y n : Nat) (hx : x < 2 ^ (64 * n)) (hy : y < 2 ^ (64 * n)) : mix n x y = W x := by
 funext j
 unfold mix
 cases hb : Nat.blt j n with
 | true => rfl
 | false =>
  have hj : n ≤ j := by
   rcases Nat.lt_or_ge j n with h | h
   ·rw [bltI.2 h] at hb; cases hb
   ·exact h
  simp only [cond_false]
  rw [ybj, ybj, ycR x j (Nat.lt_of_lt_of_le hx (Nat.pow_le_pow_right (by omega) (by omega))), ycR y j (Nat.lt_of_lt_of_le hy (Nat.pow_le_pow_right (by omega) (by omega)))]
theorem yjX (x y i : Nat) : upd (mix i x y) i (W x i) = mix (i + 1) x y := by
 funext j
 by_cases hj : j = i
 ·subst hj; rw [ybZ]; simp [mix, bltI.2 (show j < j + 1 by omega)]
 ·rw [ycT _ _ _ _ hj]
  unfold mix
  by_cases h : j < i
  ·rw [bltI.2 h, bltI.2 (show j < i + 1 by omega)]
  ·have h1 : Nat.blt j i = false := by
    cases hb : Nat.blt j i with
    | false => rfl
    | true => exact absurd (bltI.1 hb) h
   have h2 : Nat.blt j (i + 1) = false := by
    cases hb : Nat.blt j (i + 1) with
    | false => rfl
    | true => have := bltI.1 hb; omega
   rw [h1, h2]
theorem yqm (x y i : Nat) : mix i x y i = W y i := by
 have h1 : Nat.blt i i = false := by
  cases hb : Nat.blt i i with
  | false => rfl
  | true => have := bltI.1 hb; omega
 simp [mix, h1]
theorem yrY (x y i : Nat) : wd (x &&& y) i = wd x i &&& wd y i := by
 apply Nat.eq_of_testBit_eq; intro j
 rw [Nat.testBit_and, yb1, yb1, yb1, Nat.testBit_and]
 by_cases hj : j < 64 <;> simp [hj]
theorem ytI (x y i : Nat) : wd (x ||| y) i = wd x i ||| wd y i := by
 apply Nat.eq_of_testBit_eq; intro j
 rw [Nat.testBit_or, yb1, yb1, yb1, Nat.testBit_or]
 by_cases hj : j < 64 <;> simp [hj]
theorem yrQ {x y m : Nat} (h : x < 2 ^ m) : x &&& y < 2 ^ m := Nat.lt_of_le_of_lt Nat.and_le_left h
theorem yk1 (x y : Nat) (hx : x < Q6) (k0 : (Nat → Int) → (Nat → Int) → Prop) (z : Nat → Int) (h : k0 (W (x &&& y)) z) :
  ∀ (j i : Nat), i + j = 6 → zbw.l2 k0 (j + 1) i (mix i (x &&& y) x) (W y) z := by
 intro j
 induction j with
 | zero =>
  intro i hij
  have h6 : i = 6 := by omega
  have hx' : x < 2 ^ (64 * i) := by rw [ydP (show 64 * i = 384 by omega)]; exact hx
  unfold zbw.l2 zbw.l2.step
  rw [yau (ya2 (by omega)), yma _ _ i (yrQ hx') hx']
  exact h
 | succ j ih =>
  intro i hij
  have ih := ih (i + 1) (by omega)
  have e : ((i + 1 : Nat) : Int) = (i : Int) + 1 := by omega
  rw [e] at ih
  unfold zbw.l2 zbw.l2.step
  have hi : (leI 0 (i : Int) && ltI (i : Int) 6) = true := ybz (by omega) (by omega)
  rw [yaA (yaZ (by omega)), ybo hi, ybo hi, ybo hi, Int.toNat_natCast, yqm, ybj, ybj, yjU _ _ (ydO _ _) (ydO _ _), ← yrY, ← ybj, yjX, yas (by omega) (by omega)]
  exact ih
theorem yiN (x y : Nat) (hx : x < Q6) (K : (Nat → Int) → Prop) (h : K (W (x &&& y))) : zbw (W x) (W y) K := by
 rw [zbw.is]
 refine ⟨7, ?_⟩
 have := yk1 x y hx (fun y0 y1 => K y0) (fun _ => 0) h 6 0 rfl
 rw [yjM] at this
 exact this
theorem yde {x i : Nat} (h : x / 2 ^ i ≠ 0) : yaw x = i + yaw (x / 2 ^ i) := by
 apply Nat.le_antisymm
 ·rw [yaV, Nat.pow_add, Nat.mul_comm, ← Nat.div_lt_iff_lt_mul (Nat.two_pow_pos i)]
  exact ykx _
 ·have h1 := yqn h
  have h2 : 2 ^ (i + (yaw (x / 2 ^ i) - 1)) ≤ x := by
   rw [Nat.pow_add, Nat.mul_comm]
   exact (Nat.le_div_iff_mul_le (Nat.two_pow_pos i)).1 h1
  have hp := ynv h
  apply Classical.byContradiction
  intro hc
  have h3 : yaw x ≤ i + (yaw (x / 2 ^ i) - 1) := by omega
  have := (yaV x _).1 h3
  omega
theorem ygv (x : Nat) (k0 : Int → Prop) (k1 : Prop) (h : x ≠ 0 → k0 (yaw x)) (n i : Nat) (hi : i < 6) (hx : x < 2 ^ (64 * (i + 1))) (hrec : x < 2 ^ (64 * i) → zca.l2 k0 k1 n ((i : Int) - 1) (W x)) :
  zca.l2 k0 k1 (n + 1) i (W x) := by
 have hwd : wd x i = x / 2 ^ (64 * i) := by
  unfold wd
  apply Nat.mod_eq_of_lt
  rw [Nat.div_lt_iff_lt_mul (Nat.two_pow_pos _), show (18446744073709551616 : Nat) = 2 ^ 64 from rfl, ← Nat.pow_add]
  rw [show 64 + 64 * i = 64 * (i + 1) from by omega]; exact hx
 unfold zca.l2 zca.l2.step
 have hi' : (leI 0 (i : Int) && ltI (i : Int) 6) = true := ybz (by omega) (by omega)
 rw [yaA (ya9 (by omega)), ybo hi', Int.toNat_natCast, ybj]
 by_cases hz : wd x i = 0
 ·have hx2 : x < 2 ^ (64 * i) := by
   rw [hwd] at hz
   rcases (Nat.div_eq_zero_iff).1 hz with h' | h'
   ·have := Nat.two_pow_pos (64 * i); omega
   ·exact h'
  rw [yau (by rw [hz]; rfl), yar (by omega) (by omega)]
  exact hrec hx2
 ·rw [yaA (by rw [show (0 : Int) = ((0 : Nat) : Int) from rfl, yjm]; simp [hz]), ybo hi']
  refine yi5 _ (ydO _ _) _ ?_
  have hb : yaw (wd x i) ≤ 64 := (yaV _ _).2 (ydO x i)
  rw [yb3 (by omega) (by omega), yas (by omega) (by omega)]
  have hx0 : x ≠ 0 := by
   intro e; subst e; exact hz (ycR 0 i (Nat.two_pow_pos _))
  have := h hx0
  rw [hwd] at hz ⊢
  rw [yde hz] at this
  rw [show (64 * (i : Int) + (yaw (x / 2 ^ (64 * i)) : Int)) = ((64 * i + yaw (x / 2 ^ (64 * i)) : Nat) : Int) from by omega]
  exact this
theorem yk2 (x : Nat) (k0 : Int → Prop) (k1 : Prop) (h : x ≠ 0 → k0 (yaw x)) (h1 : x = 0 → k1) (i : Nat) : i < 6 → x < 2 ^ (64 * (i + 1)) → zca.l2 k0 k1 (i + 2) i (W x) := by
 induction i with
 | zero =>
  intro hi hx
  refine ygv x k0 k1 h 1 0 hi hx fun hx2 => ?_
  have hx0 : x = 0 := by
   have : x < 1 := hx2
   omega
  unfold zca.l2 zca.l2.step
  rw [yau (by decide)]
  exact h1 hx0
 | succ i ih =>
  intro hi hx
  refine ygv x k0 k1 h (i + 2) (i + 1) hi hx fun hx2 => ?_
  rw [show (((i + 1 : Nat) : Int) - 1) = (i : Int) from by omega]
  exact ih (by omega) hx2
theorem yon (x : Nat) (hx : x < Q6) (K : Int → Prop) (h : K (yaw x)) : zca (W x) K := by
 rw [zca.is]
 obtain ⟨i, hi⟩ : ∃ i, i = 5 := ⟨_, rfl⟩
 have := yk2 x K (K 0) (fun _ => h) (fun e => by subst e; exact h) i (by omega) (by rw [ydP (show 64 * (i + 1) = 384 by omega)]; exact hx)
 rw [hi] at this
 exact ⟨5 + 2, this⟩
end Go.Ev.S

/- What the abacus reckons with words and with numbers of six words. -/
set_option linter.unusedVariables false
set_option linter.unusedSimpArgs false
set_option maxRecDepth 8000
namespace Go.Ev.S
open Go Go.Ev
theorem ysd (g : Nat → Int) (i : Nat) (a b : Int) : upd (upd g i a) i b = upd g i b := by
 funext j
 simp only [upd]
 cases Nat.beq j i <;> rfl
theorem yte (g : Nat → Int) (i : Nat) (a : Int) : upd g i a i = a := by
 simp only [upd]
 have : Nat.beq i i = true := by simp
 rw [this]; rfl
theorem yfH (n m : Int) : yik n m = if n < m then m else n := by
 unfold yik ltI; by_cases h : n < m <;> simp [h]
theorem yjV (n m : Int) : yoV n m = if m < n then m else n := by
 unfold yoV ltI; by_cases h : m < n <;> simp [h]
theorem ylC (n : Nat) (h : n ≤ 64) (K : Int → Prop) : zfr n K = K ((2 ^ n - 1 : Nat)) := by
 rw [zfr.is]; unfold zfr.d; rw [zfs.is]; unfold zfs.d
 have e : yoV (yik (n : Int) 0) 64 = (n : Int) := by
  rw [yfH, yjV]; split <;> split <;> omega
 rw [e, yaQ (by omega) (by omega)]
 show gd (!ltI (n : Int) 0) (K (yao IntKind.u64 (ybQ IntKind.u64 1 (n : Int)) 1)) = _
 rw [ybo (yit (by omega))]
 by_cases hn : n = 64
 ·subst hn; rfl
 ·have hlt : 2 ^ n < 18446744073709551616 := yhO (by omega)
  have hp := Nat.two_pow_pos n
  rw [ymz n (by omega)]
  generalize 2 ^ n = p at *
  rw [yjy (by omega) (by omega), show ((p : Int) - 1) = ((p - 1 : Nat) : Int) from by omega]
theorem yj8 (n : Int) (h : n ≤ 0) (h2 : -9223372036854775808 ≤ n) (K : Int → Prop) : zfr n K = K 0 := by
 rw [zfr.is]; unfold zfr.d; rw [zfs.is]; unfold zfs.d
 have e : yoV (yik n 0) 64 = 0 := by
  rw [yfH, yjV]; split <;> split <;> omega
 rw [e]; rfl
theorem yjE (n : Int) (h : 64 ≤ n) (K : Int → Prop) : zfr n K = K ((2 ^ 64 - 1 : Nat)) := by
 rw [zfr.is]; unfold zfr.d; rw [zfs.is]; unfold zfs.d
 have e : yoV (yik n 0) 64 = 64 := by
  rw [yfH, yjV]; split <;> split <;> omega
 rw [e]; rfl
theorem ye1 (n : Nat) (h : n ≤ 384) (K : Int → Prop) : zfo n K = K n := by
 rw [zfo.is]; unfold zfo.d
 have e : yoV (yik (n : Int) 0) 384 = (n : Int) := by
  rw [yfH, yjV]; split <;> split <;> omega
 rw [e]
theorem yl7 (x i : Nat) (hi : i < 384) (K : Bool → Prop) : zfh (W x) i K = K (x.testBit i) := by
 rw [zfh.is]; unfold zfh.d
 have h1 : i % 64 < 64 := Nat.mod_lt _ (by omega)
 rw [yaA (ya9 (by omega)), yaA (yaZ (by omega)), ymO i (by omega), yl5 i, ybo (ybz (by omega) (by omega)), yaQ (by omega) (by omega), ybo (yit (by omega)), Int.toNat_natCast, ybj, ynH _ _ (ydO _ _) h1, yb1]
 rw [show 64 * (i / 64) + i % 64 = i from by omega]
 simp [h1]
theorem ykg (x y : Nat) (hx : x < Q6) (k0 : (Nat → Int) → (Nat → Int) → Prop) (z : Nat → Int) (h : k0 (W (x &&& y)) z) :
  ∀ (j i : Nat), i + j = 6 → zfg.l2 k0 (j + 1) i (mix i (x &&& y) x) (W y) z := by
 intro j
 induction j with
 | zero =>
  intro i hij
  have h6 : i = 6 := by omega
  have hx' : x < 2 ^ (64 * i) := by rw [ydP (show 64 * i = 384 by omega)]; exact hx
  unfold zfg.l2 zfg.l2.step
  rw [yau (ya2 (by omega)), yma _ _ i (yrQ hx') hx']
  exact h
 | succ j ih =>
  intro i hij
  have ih := ih (i + 1) (by omega)
  have e : ((i + 1 : Nat) : Int) = (i : Int) + 1 := by omega
  rw [e] at ih
  unfold zfg.l2 zfg.l2.step
  have hi : (leI 0 (i : Int) && ltI (i : Int) 6) = true := ybz (by omega) (by omega)
  rw [yaA (yaZ (by omega)), ybo hi, ybo hi, ybo hi, Int.toNat_natCast, yqm, ybj, ybj, yjU _ _ (ydO _ _) (ydO _ _), ← yrY, ← ybj, yjX, yas (by omega) (by omega)]
  exact ih
theorem yih (x y : Nat) (hx : x < Q6) (K : (Nat → Int) → Prop) (h : K (W (x &&& y))) : zfg (W x) (W y) K := by
 rw [zfg.is]
 refine ⟨7, ?_⟩
 have := ykg x y hx (fun y0 y1 => K y0) (fun _ => 0) h 6 0 rfl
 rw [yjM] at this
 exact this
theorem ysH (n i : Nat) : ((wd (2 ^ n - 1) i : Nat) : Int) = if 64 * i + 64 ≤ n then ((2 ^ 64 - 1 : Nat) : Int) else if n ≤ 64 * i then 0 else ((2 ^ (n - 64 * i) - 1 : Nat) : Int) := by
 have key : ∀ m, m ≤ 64 → (∀ j, j < 64 → (decide (64 * i + j < n) = decide (j < m))) → wd (2 ^ n - 1) i = 2 ^ m - 1 := by
  intro m hm hj
  apply Nat.eq_of_testBit_eq; intro j
  rw [yb1, Nat.testBit_two_pow_sub_one, Nat.testBit_two_pow_sub_one]
  by_cases h : j < 64
  ·rw [hj j h]; simp [h]
  ·have : ¬ j < m := by omega
   simp [h, this]
 split
 ·rw [key 64 (Nat.le_refl _) (by intro j hj; apply decide_eq_decide.2; omega)]
 ·split
  ·rw [key 0 (by omega) (by intro j hj; apply decide_eq_decide.2; omega)]; rfl
  ·rw [key (n - 64 * i) (by omega) (by intro j hj; apply decide_eq_decide.2; omega)]
theorem yqw (n i : Nat) (hn : n ≤ 384) (hi : i < 6) (K : Int → Prop) : zfr (yao .i64 n (ybT .i64 64 i)) K = K (W (2 ^ n - 1) i) := by
 have e : yao .i64 (n : Int) (ybT .i64 64 (i : Int)) = (n : Int) - 64 * i := by
  rw [yb3 (by omega) (by omega), yar (by omega) (by omega)]
 rw [e, ybj, ysH]
 split
 ·rw [yjE _ (by omega)]
 ·split
  ·rw [yj8 _ (by omega) (by omega)]
  ·rw [show (n : Int) - 64 * i = ((n - 64 * i : Nat) : Int) from by omega, ylC _ (by omega)]
theorem yiK (n : Nat) (hn : n ≤ 384) (k0 : (Nat → Int) → (Nat → Int) → Prop) (z : Nat → Int) (h : k0 z (W (2 ^ n - 1))) :
  ∀ (j i : Nat), i + j = 6 → zfk.l4 k0 (j + 1) n i z (W ((2 ^ n - 1) % 2 ^ (64 * i))) := by
 intro j
 induction j with
 | zero =>
  intro i hij
  have : i = 6 := by omega
  have hp := Nat.two_pow_pos n
  have hlt : 2 ^ n - 1 < 2 ^ (64 * i) := by
   have := Nat.pow_le_pow_right (n := 2) (by omega) (show n ≤ 64 * i by omega)
   omega
  unfold zfk.l4 zfk.l4.step
  rw [yau (ya2 (by omega)), Nat.mod_eq_of_lt hlt]
  exact h
 | succ j ih =>
  intro i hij
  have ih := ih (i + 1) (by omega)
  have e : ((i + 1 : Nat) : Int) = (i : Int) + 1 := by omega
  rw [e, yj4] at ih
  unfold zfk.l4 zfk.l4.step
  rw [yaA (yaZ (by omega)), yqw n i hn (by omega), ybo (ybz (by omega) (by omega)), Int.toNat_natCast, ybj, ysS _ _ i (Nat.mod_lt _ (Nat.two_pow_pos _)) (ydO _ _), yas (by omega) (by omega)]
  exact ih
theorem ygw (n : Nat) (hn : n ≤ 384) (K : (Nat → Int) → Prop) (h : K (W (2 ^ n - 1))) : zfk n K := by
 rw [zfk.is]; unfold zfk.d
 rw [ye1 n hn]
 refine ⟨7, ?_⟩
 have := yiK n hn (fun y0 y1 => K y1) (fun _ => 0) h 6 0 rfl
 rw [Nat.mul_zero, Nat.pow_zero, Nat.mod_one, W_zero] at this
 exact this
end Go.Ev.S

/- The lowest bit: of a word (the table of math/bits), of six words; a shift to the right with what fell off. -/
set_option linter.unusedVariables false
set_option linter.unusedSimpArgs false
set_option maxRecDepth 8000
namespace Go.Ev.S
open Go Go.Ev
theorem ysx (k q : Nat) (hk : k < 64) (ha : 2 ^ k * (2 * q + 1) < 18446744073709551616) : (2 ^ k * (2 * q + 1)) &&& (18446744073709551616 - 2 ^ k * (2 * q + 1)) = 2 ^ k := by
 have hp := Nat.two_pow_pos k
 have e1 : 2 ^ k * (2 * q + 1) = 2 ^ (k + 1) * q + 2 ^ k := by rw [Nat.pow_succ, Nat.mul_add, Nat.mul_one, Nat.mul_assoc]
 have e2 : 2 ^ k * (2 * q + 1) - 1 = 2 ^ (k + 1) * q + (2 ^ k - 1) := by omega
 have h1 : 2 ^ k < 2 ^ (k + 1) := Nat.pow_lt_pow_right (by omega) (by omega)
 apply Nat.eq_of_testBit_eq; intro j
 have e3 : 18446744073709551616 - 2 ^ k * (2 * q + 1) = 2 ^ 64 - ((2 ^ k * (2 * q + 1) - 1) + 1) := by
  rw [show (2 : Nat) ^ 64 = 18446744073709551616 from rfl]; omega
 rw [Nat.testBit_and, e3, Nat.testBit_two_pow_sub_succ (by rw [show (2 : Nat) ^ 64 = 18446744073709551616 from rfl]; omega), e2]
 conv => lhs; lhs; rw [e1]
 rw [Nat.testBit_two_pow_mul_add _ h1, Nat.testBit_two_pow_mul_add _ (by omega : 2 ^ k - 1 < 2 ^ (k + 1)), Nat.testBit_two_pow, Nat.testBit_two_pow_sub_one]
 by_cases hj : j < k + 1
 ·by_cases hjk : j = k
  ·subst hjk; simp [hk]
  ·have : j < k := by omega
   have h3 : ¬ k = j := by omega
   simp [hj, this, h3]
 ·have h3 : ¬ k = j := by omega
  simp only [hj, if_false, h3, decide_false]
  cases q.testBit (j - (k + 1)) <;> simp
theorem ysp : ((List.range 64).all fun k => ysJ ((2 ^ k * 285870213051353865 % 18446744073709551616) >>> 58) == (k : Int)) = true := by decide +kernel
theorem ytF (k q : Nat) (hk : k < 64) (ha : 2 ^ k * (2 * q + 1) < 18446744073709551616) (K : Int → Prop) (h : K k) : zab ((2 ^ k * (2 * q + 1) : Nat) : Int) K := by
 have hp := Nat.two_pow_pos k
 have hpos : 0 < 2 ^ k * (2 * q + 1) := Nat.mul_pos hp (by omega)
 have hl := ysx k q hk ha
 have hk2 : 2 ^ k < 18446744073709551616 := yhO hk
 have ht := List.all_eq_true.1 ysp k (List.mem_range.2 hk)
 rw [zab.is]; unfold zab.d
 generalize 2 ^ k * (2 * q + 1) = a at *
 have e1 : yrJ .u64 (a : Int) = ((18446744073709551616 - a : Nat) : Int) := by
  show IntKind.wrap .u64 _ = _
  rw [ygX]; omega
 have e2 : ybT .u64 ((2 ^ k : Nat) : Int) 285870213051353865 = ((2 ^ k * 285870213051353865 % 18446744073709551616 : Nat) : Int) := by
  show IntKind.wrap .u64 _ = _
  rw [ygX]
  generalize 2 ^ k = p at *
  omega
 have h1 : (2 ^ k * 285870213051353865 % 18446744073709551616) >>> 58 < 64 := by
  rw [Nat.shiftRight_eq_div_pow]
  have := Nat.mod_lt (2 ^ k * 285870213051353865) (show 0 < 18446744073709551616 by omega)
  omega
 rw [yau (yip (by omega)), e1, yjU _ _ (by omega) (by omega), hl, e2, show (58 : Int) = ((58 : Nat) : Int) from rfl, yjZ _ 58 (by omega)]
 refine ⟨ybz (by omega) (by omega), ?_⟩
 rw [Int.toNat_natCast, yrR, eq_of_beq ht, yhe (by omega) (by omega)]
 exact h
theorem ymA (k q : Nat) (hk : k < 64) (ha : 2 ^ k * (2 * q + 1) < 18446744073709551616) (K : Int → Prop) (h : K k) : zfq ((2 ^ k * (2 * q + 1) : Nat) : Int) K := by
 rw [zfq.is]; exact ytF k q hk ha _ h
end Go.Ev.S

/- Lengths, sums and the like: the abacus' words and six words. -/
set_option linter.unusedVariables false
set_option linter.unusedSimpArgs false
set_option maxRecDepth 8000
namespace Go.Ev.S
open Go Go.Ev
theorem ytR (v : Nat) (h : v < 256) : cvI .u8 (v : Int) = (v : Int) := by
 exact ytO (by omega) (by omega)
theorem ycX (L : List UInt8) (hL : ((List.range 256).all fun v => ybg L v == (yaw v : Int)) = true) (a n : Nat) (nI S : Int) (hn0 : nI = n) (hS : S = ((a / 2 ^ n : Nat) : Int)) (hlt : a / 2 ^ n < 256) (hn : n ≤ 56)
  (h0 : a / 2 ^ n ≠ 0 ∨ n = 0) (K : Int → Prop) (h : K (yaw a)) : gd (leI 0 (cvI .u8 S) && ltI (cvI .u8 S) 256) (K (yai .i64 nI (cvI .i64 (ybg L (Int.toNat (cvI .u8 S)))))) := by
 subst hS hn0
 have hb : ybg L (a / 2 ^ n) = (yaw (a / 2 ^ n) : Int) := eq_of_beq (List.all_eq_true.1 hL _ (List.mem_range.2 hlt))
 have hb8 : yaw (a / 2 ^ n) ≤ 8 := (yaV _ _).2 hlt
 have e : yaw a = n + yaw (a / 2 ^ n) := by
  rcases h0 with h0 | h0
  ·exact yde h0
  ·subst h0; rw [Nat.pow_zero, Nat.div_one, Nat.zero_add]
 generalize a / 2 ^ n = v at *
 rw [ytR _ hlt, ybo (ybz (by omega) (by omega)), Int.toNat_natCast, hb, yhe (by omega) (by omega), yas (by omega) (by omega), show ((n : Nat) : Int) + (yaw v : Int) = ((yaw a : Nat) : Int) from by rw [e]; omega]
 exact h
theorem yeL (a i : Nat) (hi : i < 64) : ya7 .u64 (a : Int) (i : Int) = ((a / 2 ^ i : Nat) : Int) := by rw [yjZ a i hi, Nat.shiftRight_eq_div_pow]
theorem yjF (a : Nat) (ha : a < 18446744073709551616) (K : Int → Prop) (h : K (yaw a)) : zaa a K := by
 have s32 : ya7 .u64 (a : Int) 32 = ((a / 2 ^ 32 : Nat) : Int) := yeL a 32 (by omega)
 have s16 : ya7 .u64 (a : Int) 16 = ((a / 2 ^ 16 : Nat) : Int) := yeL a 16 (by omega)
 have s8 : ya7 .u64 (a : Int) 8 = ((a / 2 ^ 8 : Nat) : Int) := yeL a 8 (by omega)
 have t16 : ya7 .u64 ((a / 2 ^ 32 : Nat) : Int) 16 = ((a / 2 ^ 32 / 2 ^ 16 : Nat) : Int) := yeL (a / 2 ^ 32) 16 (by omega)
 have t8 : ya7 .u64 ((a / 2 ^ 32 : Nat) : Int) 8 = ((a / 2 ^ 32 / 2 ^ 8 : Nat) : Int) := yeL (a / 2 ^ 32) 8 (by omega)
 have u8 : ya7 .u64 ((a / 2 ^ 32 / 2 ^ 16 : Nat) : Int) 8 = ((a / 2 ^ 32 / 2 ^ 16 / 2 ^ 8 : Nat) : Int) := yeL (a / 2 ^ 32 / 2 ^ 16) 8 (by omega)
 have v8 : ya7 .u64 ((a / 2 ^ 16 : Nat) : Int) 8 = ((a / 2 ^ 16 / 2 ^ 8 : Nat) : Int) := yeL (a / 2 ^ 16) 8 (by omega)
 rw [zaa.is]; unfold zaa.d
 rw [s32, s16, s8, t16, t8, u8, v8]
 have d1 : a / 2 ^ 32 / 2 ^ 16 / 2 ^ 8 = a / 2 ^ 56 := by rw [Nat.div_div_eq_div_mul, Nat.div_div_eq_div_mul]
 have d2 : a / 2 ^ 32 / 2 ^ 16 = a / 2 ^ 48 := by rw [Nat.div_div_eq_div_mul]
 have d3 : a / 2 ^ 32 / 2 ^ 8 = a / 2 ^ 40 := by rw [Nat.div_div_eq_div_mul]
 have d4 : a / 2 ^ 16 / 2 ^ 8 = a / 2 ^ 24 := by rw [Nat.div_div_eq_div_mul]
 rw [d1, d2, d3, d4]
 by_cases c1 : 4294967296 ≤ a
 ·rw [yaA (ya9 (by omega))]
  by_cases c2 : 65536 ≤ a / 2 ^ 32
  ·rw [yaA (ya9 (by omega))]
   by_cases c3 : 256 ≤ a / 2 ^ 48
   ·rw [yaA (ya9 (by omega))]
    exact ycX _ (by decide +kernel) a 56 _ _ rfl rfl (by omega) (by omega) (by omega) K h
   ·rw [yau (yeu (by omega))]
    exact ycX _ (by decide +kernel) a 48 _ _ rfl rfl (by omega) (by omega) (by omega) K h
  ·rw [yau (yeu (by omega))]
   by_cases c3 : 256 ≤ a / 2 ^ 32
   ·rw [yaA (ya9 (by omega))]
    exact ycX _ (by decide +kernel) a 40 _ _ rfl rfl (by omega) (by omega) (by omega) K h
   ·rw [yau (yeu (by omega))]
    exact ycX _ (by decide +kernel) a 32 _ _ rfl rfl (by omega) (by omega) (by omega) K h
 ·rw [yau (yeu (by omega))]
  by_cases c2 : 65536 ≤ a
  ·rw [yaA (ya9 (by omega))]
   by_cases c3 : 256 ≤ a / 2 ^ 16
   ·rw [yaA (ya9 (by omega))]
    exact ycX _ (by decide +kernel) a 24 _ _ rfl rfl (by omega) (by omega) (by omega) K h
   ·rw [yau (yeu (by omega))]
    exact ycX _ (by decide +kernel) a 16 _ _ rfl rfl (by omega) (by omega) (by omega) K h
  ·rw [yau (yeu (by omega))]
   by_cases c3 : 256 ≤ a
   ·rw [yaA (ya9 (by omega))]
    exact ycX _ (by decide +kernel) a 8 _ _ rfl rfl (by omega) (by omega) (by omega) K h
   ·rw [yau (yeu (by omega))]
    exact ycX _ (by decide +kernel) a 0 _ _ rfl (by simp) (by simp; omega) (by omega) (.inr rfl) K h
theorem yeW (a : Nat) (ha : a < 18446744073709551616) (K : Int → Prop) (h : K (yaw a)) : zfp a K := by
 rw [zfp.is]; exact yjF a ha _ h
theorem yfg (x : Nat) (k0 : Int → Prop) (k1 : Prop) (h : x ≠ 0 → k0 (yaw x)) (n i : Nat) (hi : i < 6) (hx : x < 2 ^ (64 * (i + 1))) (hrec : x < 2 ^ (64 * i) → zfj.l2 k0 k1 n ((i : Int) - 1) (W x)) :
  zfj.l2 k0 k1 (n + 1) i (W x) := by
 have hwd : wd x i = x / 2 ^ (64 * i) := by
  unfold wd
  apply Nat.mod_eq_of_lt
  rw [Nat.div_lt_iff_lt_mul (Nat.two_pow_pos _), show (18446744073709551616 : Nat) = 2 ^ 64 from rfl, ← Nat.pow_add]
  rw [show 64 + 64 * i = 64 * (i + 1) from by omega]; exact hx
 unfold zfj.l2 zfj.l2.step
 have hi' : (leI 0 (i : Int) && ltI (i : Int) 6) = true := ybz (by omega) (by omega)
 rw [yaA (ya9 (by omega)), ybo hi', Int.toNat_natCast, ybj]
 by_cases hz : wd x i = 0
 ·have hx2 : x < 2 ^ (64 * i) := by
   rw [hwd] at hz
   rcases (Nat.div_eq_zero_iff).1 hz with h' | h'
   ·have := Nat.two_pow_pos (64 * i); omega
   ·exact h'
  rw [yau (by rw [hz]; rfl), yar (by omega) (by omega)]
  exact hrec hx2
 ·rw [yaA (by rw [show (0 : Int) = ((0 : Nat) : Int) from rfl, yjm]; simp [hz]), ybo hi']
  refine yeW _ (ydO _ _) _ ?_
  have hb : yaw (wd x i) ≤ 64 := (yaV _ _).2 (ydO x i)
  rw [yb3 (by omega) (by omega), yas (by omega) (by omega)]
  have hx0 : x ≠ 0 := by
   intro e; subst e; exact hz (ycR 0 i (Nat.two_pow_pos _))
  have := h hx0
  rw [hwd] at hz ⊢
  rw [yde hz] at this
  rw [show (64 * (i : Int) + (yaw (x / 2 ^ (64 * i)) : Int)) = ((64 * i + yaw (x / 2 ^ (64 * i)) : Nat) : Int) from by omega]
  exact this
theorem yj7 (x : Nat) (k0 : Int → Prop) (k1 : Prop) (h : x ≠ 0 → k0 (yaw x)) (h1 : x = 0 → k1) (i : Nat) : i < 6 → x < 2 ^ (64 * (i + 1)) → zfj.l2 k0 k1 (i + 2) i (W x) := by
 induction i with
 | zero =>
  intro hi hx
  refine yfg x k0 k1 h 1 0 hi hx fun hx2 => ?_
  have hx0 : x = 0 := by
   have : x < 1 := hx2
   omega
  unfold zfj.l2 zfj.l2.step
  rw [yau (by decide)]
  exact h1 hx0
 | succ i ih =>
  intro hi hx
  refine yfg x k0 k1 h (i + 2) (i + 1) hi hx fun hx2 => ?_
  rw [show (((i + 1 : Nat) : Int) - 1) = (i : Int) from by omega]
  exact ih (by omega) hx2
theorem yh0 (x : Nat) (hx : x < Q6) (K : Int → Prop) (h : K (yaw x)) : zfj (W x) K := by
 rw [zfj.is]
 obtain ⟨i, hi⟩ : ∃ i, i = 5 := ⟨_, rfl⟩
 have := yj7 x K (K 0) (fun _ => h) (fun e => by subst e; exact h) i (by omega) (by rw [ydP (show 64 * (i + 1) = 384 by omega)]; exact hx)
 rw [hi] at this
 exact ⟨5 + 2, this⟩
theorem you (x : Nat) (h : x < 18446744073709551616) (K : (Nat → Int) → Prop) : zfl x K = K (W x) := by
 rw [zfl.is]; unfold zfl.d; rw [ytr x h]
theorem yez (x : Nat) (h : x < 2 ^ 128) (K : Int → Int → Bool → Prop) : zfn (W x) K = K (Hi x) (Lo x) true := by
 rw [zfn.is]; unfold zfn.d
 rw [yf7 x 2 h (by omega), yf7 x 3 h (by omega), yf7 x 4 h (by omega), yf7 x 5 h (by omega), ytZ x h, ytW x]
 rfl
theorem yla (x y : Nat) (hx : x < Q6) (hy : y < Q6) (k0 : (Nat → Int) → (Nat → Int) → Prop) (z : Nat → Int) (h : k0 (W (x ||| y)) z) :
  ∀ (j i : Nat), i + j = 6 → zfm.l2 k0 (j + 1) i (mix i (x ||| y) x) (W y) z := by
 intro j
 induction j with
 | zero =>
  intro i hij
  have hx' : x < 2 ^ (64 * i) := by rw [ydP (show 64 * i = 384 by omega)]; exact hx
  have hy' : y < 2 ^ (64 * i) := by rw [ydP (show 64 * i = 384 by omega)]; exact hy
  unfold zfm.l2 zfm.l2.step
  rw [yau (ya2 (by omega)), yma _ _ i (Nat.or_lt_two_pow hx' hy') hx']
  exact h
 | succ j ih =>
  intro i hij
  have ih := ih (i + 1) (by omega)
  have e : ((i + 1 : Nat) : Int) = (i : Int) + 1 := by omega
  rw [e] at ih
  unfold zfm.l2 zfm.l2.step
  have hi : (leI 0 (i : Int) && ltI (i : Int) 6) = true := ybz (by omega) (by omega)
  rw [yaA (yaZ (by omega)), ybo hi, ybo hi, ybo hi, Int.toNat_natCast, yqm, ybj, ybj, yju _ _ (ydO _ _) (ydO _ _), ← ytI, ← ybj, yjX, yas (by omega) (by omega)]
  exact ih
theorem ynV (x y : Nat) (hx : x < Q6) (hy : y < Q6) (K : (Nat → Int) → Prop) (h : K (W (x ||| y))) : zfm (W x) (W y) K := by
 rw [zfm.is]
 refine ⟨7, ?_⟩
 have := yla x y hx hy (fun y0 y1 => K y0) (fun _ => 0) h 6 0 rfl
 rw [yjM] at this
 exact this
def part (z i : Nat) : Nat → Int := fun j => cond (Nat.ble i j) (W z j) 0
theorem yqG (z : Nat) (hz : z < Q6) : part z 6 = fun _ => 0 := by
 funext j
 unfold part
 cases h : Nat.ble 6 j with
 | false => rfl
 | true =>
  have hj : 6 ≤ j := Nat.le_of_ble_eq_true h
  show W z j = 0
  rw [ybj, ycR z j]; rfl
  obtain ⟨m, hm⟩ : ∃ m : Nat, m = 384 := ⟨_, rfl⟩
  exact Nat.lt_of_lt_of_le hz (by rw [← ydP hm]; exact Nat.pow_le_pow_right (by omega) (by omega))
theorem ykE (z i : Nat) : upd (part z (i + 1)) i (W z i) = part z i := by
 funext j
 simp only [upd, part]
 by_cases h : j = i
 ·subst h
  have h1 : Nat.beq j j = true := by simp
  have h2 : Nat.ble j j = true := by simp
  rw [h1, h2]; rfl
 ·have h1 : Nat.beq j i = false := by rw [Bool.eq_false_iff]; intro hq; exact h (Nat.eq_of_beq_eq_true hq)
  have h2 : Nat.ble (i + 1) j = Nat.ble i j := by
   rw [Bool.eq_iff_iff, Nat.ble_eq, Nat.ble_eq]; omega
  rw [h1, h2]; rfl
theorem yqF (x q r : Nat) (hx : x < Q6) (hq : q ≤ 6) (hr : r < 64) : part (x * 2 ^ (64 * q + r) % Q6) q = W (x * 2 ^ (64 * q + r) % Q6) := by
 funext j
 unfold part
 cases h : Nat.ble q j with
 | true => rfl
 | false =>
  have hj : j < q := by
   apply Classical.byContradiction; intro hc
   have := Nat.ble_eq_true_of_le (show q ≤ j by omega)
   rw [this] at h; cases h
  show 0 = W _ j
  obtain ⟨m, hm⟩ : ∃ m : Nat, m = 384 := ⟨_, rfl⟩
  rw [ybj]
  have : wd (x * 2 ^ (64 * q + r) % Q6) j = 0 := by
   apply Nat.eq_of_testBit_eq; intro b
   rw [yb1, Nat.zero_testBit, ← ydP hm, Nat.testBit_mod_two_pow, ← Nat.shiftLeft_eq, Nat.testBit_shiftLeft]
   by_cases hb : b < 64
   ·have : ¬ 64 * q + r ≤ 64 * j + b := by omega
    simp [this]
   ·simp [hb]
  rw [this]; rfl
theorem ysa (a s : Nat) (ha : a < 18446744073709551616) (hs : s ≤ 64) : ya7 .u64 (a : Int) (s : Int) = ((a >>> s : Nat) : Int) := by
 by_cases h : s = 64
 ·subst h
  rw [ysq a 64 ha (by omega), Nat.shiftRight_eq_div_pow, Nat.div_eq_of_lt (by exact ha)]; rfl
 ·exact yjZ a s (by omega)
theorem ysB (x q r i : Nat) (hi : i < 6) (hq : q ≤ i) (hr : r < 64) :
  wd (x * 2 ^ (64 * q + r) % Q6) i = (wd x (i - q) <<< r % 18446744073709551616) ||| (if q < i then wd x (i - q - 1) >>> (64 - r) else 0) := by
 obtain ⟨m, hm⟩ : ∃ m : Nat, m = 384 := ⟨_, rfl⟩
 apply Nat.eq_of_testBit_eq; intro b
 rw [yb1, ← ydP hm, Nat.testBit_mod_two_pow, ← Nat.shiftLeft_eq, Nat.testBit_shiftLeft, Nat.testBit_or, show (18446744073709551616 : Nat) = 2 ^ 64 from rfl, Nat.testBit_mod_two_pow, Nat.testBit_shiftLeft, yb1]
 by_cases hb : b < 64
 ·have h1 : 64 * i + b < m := by omega
  by_cases hbr : r ≤ b
  ·have h2 : 64 * q + r ≤ 64 * i + b := by omega
   have h3 : b - r < 64 := by omega
   have h4 : 64 * i + b - (64 * q + r) = 64 * (i - q) + (b - r) := by omega
   split
   ·rw [Nat.testBit_shiftRight, yb1]
    have h5 : ¬ 64 - r + b < 64 := by omega
    simp [hb, h1, hbr, h2, h3, h4, h5]
   ·simp [hb, h1, hbr, h2, h3, h4]
  ·split
   ·rename_i hqi
    rw [Nat.testBit_shiftRight, yb1]
    have h2 : 64 * q + r ≤ 64 * i + b := by omega
    have h5 : 64 - r + b < 64 := by omega
    have h4 : 64 * i + b - (64 * q + r) = 64 * (i - q - 1) + (64 - r + b) := by omega
    simp [hb, h1, hbr, h2, h4, h5]
   ·have h2 : ¬ 64 * q + r ≤ 64 * i + b := by omega
    simp [hb, h1, hbr, h2]
 ·split
  ·rw [Nat.testBit_shiftRight, yb1]
   have h5 : ¬ 64 - r + b < 64 := by omega
   simp [hb, h5]
  ·simp [hb]
theorem yiI (x q r : Nat) (hx : x < Q6) (hr : r < 64) (hq : q ≤ 6) (b : Bool) (k0 : Bool → (Nat → Int) → Prop) (h : k0 b (W (x * 2 ^ (64 * q + r) % Q6))) :
  ∀ (j : Nat), q + j ≤ 6 → zfi.l5 k0 (j + 1) b q r (((q + j : Nat) : Int) - 1) (W x) (part (x * 2 ^ (64 * q + r) % Q6) (q + j)) := by
 intro j
 induction j with
 | zero =>
  intro hij
  unfold zfi.l5 zfi.l5.step
  rw [yau (yeu (by omega)), Nat.add_zero, yqF x q r hx hq hr]
  exact h
 | succ j ih =>
  intro hij
  have ih := ih (by omega)
  have e : (((q + (j + 1) : Nat) : Int) - 1) = ((q + j : Nat) : Int) := by omega
  rw [e]
  unfold zfi.l5 zfi.l5.step
  have e1 : yao .i64 ((q + j : Nat) : Int) (q : Int) = (j : Int) := by rw [yar (by omega) (by omega)]; omega
  have e2 : yao .i64 ((q + j : Nat) : Int) 1 = ((q + j : Nat) : Int) - 1 := yar (by omega) (by omega)
  have lw := ysB x q r (q + j) (by omega) (by omega) hr
  have lj : q + j - q = j := by omega
  rw [lj] at lw
  have ha : wd x j <<< r % 18446744073709551616 < 18446744073709551616 := Nat.mod_lt _ (by omega)
  rw [yaA (ya9 (by omega)), e1, ybo (ybz (by omega) (by omega)), ybo (yit (by omega)), ybo (ybz (by omega) (by omega)), Int.toNat_natCast, Int.toNat_natCast, ybj x j, ypG _ r hr, e2]
  by_cases hj : j = 0
  ·rw [if_neg (by omega), Nat.or_zero] at lw
   rw [yau (ya2 (by omega)), ← lw, ← ybj, show q + (j + 1) = q + j + 1 from rfl, ykE]
   exact ih
  ·rw [if_pos (by omega)] at lw
   have hs : wd x (j - 1) >>> (64 - r) < 18446744073709551616 := Nat.lt_of_le_of_lt (Nat.shiftRight_le _ _) (ydO _ _)
   have e3 : yao .i64 (j : Int) 1 = ((j - 1 : Nat) : Int) := by rw [yar (by omega) (by omega)]; omega
   have e4 : yao .u64 64 (r : Int) = ((64 - r : Nat) : Int) := by rw [yjy (by omega) (by omega)]; omega
   rw [yaA (yaZ (by omega)), ybo (ybz (by omega) (by omega)), e3, ybo (ybz (by omega) (by omega)), e4, ybo (yit (by omega)), ybo (ybz (by omega) (by omega)), ysd, yte, Int.toNat_natCast, ybj x (j - 1), ysa _ _ (ydO _ _) (by omega), yju _ _ ha hs, ← lw, ← ybj, show q + (j + 1) = q + j + 1 from rfl, ykE]
   exact ih
theorem yks (x n : Nat) (hx : x < Q6) (hn : n ≤ 384) (K : (Nat → Int) → Bool → Prop) (h : ∀ b, K (W (x * 2 ^ n % Q6)) b) : zfi (W x) n K := by
 rw [zfi.is]; unfold zfi.d
 have key : ∀ b, ∃ m, zfi.l5 (fun y0 y1 => K y1 y0) m b (yaC IntKind.i64 (n : Int) 64) (cvI IntKind.u64 (yb8 IntKind.i64 (n : Int) 64)) 5 (W x) fun x => 0 := by
  intro b
  rw [ymO n (by omega), yl5 n, yaQ (by omega) (by omega)]
  refine ⟨6 - n / 64 + 1, ?_⟩
  have hm : n % 64 < 64 := Nat.mod_lt _ (by omega)
  have := yiI x (n / 64) (n % 64) hx hm (by omega) b (fun y0 y1 => K y1 y0) (by rw [Nat.div_add_mod]; exact h b) (6 - n / 64) (by omega)
  rw [show n / 64 + (6 - n / 64) = 6 from by omega, yqG _ (Nat.mod_lt _ yrU)] at this
  exact this
 rw [ye1 n hn]
 refine yh0 x hx _ ?_
 by_cases hc : ltI 384 (yai IntKind.i64 (yaw x : Int) (n : Int)) = true
 ·rw [yaA hc]; exact key _
 ·rw [yau (by simpa using hc)]; exact key _
end Go.Ev.S

/- The formats: their numbers, and the encodings that have names. -/
set_option linter.unusedVariables false
set_option linter.unusedSimpArgs false
set_option maxRecDepth 8000
namespace Go.Ev.S
open Go Go.Ev
def fw : Nat → Nat | 0 => 32 | 1 => 64 | 2 => 16 | 3 => 128 | _ => 0
def fp : Nat → Nat | 0 => 24 | 1 => 53 | 2 => 11 | 3 => 113 | _ => 0
def fe : Nat → Nat | 0 => 127 | 1 => 1023 | 2 => 15 | 3 => 16383 | _ => 0
def sg (f : Nat) (neg : Bool) : Nat := cond neg (2 ^ (fw f - 1)) 0
def enc (f : Nat) (neg : Bool) (e t : Nat) : Nat := sg f neg + e * 2 ^ (fp f - 1) + t
theorem yeY {f : Nat} (h : f ≤ 3) : f = 0 ∨ f = 1 ∨ f = 2 ∨ f = 3 := by omega
theorem yaR (f : Nat) (h : f ≤ 3) (K : Int → Prop) : zet f K = K 0 := by
 rw [zet.is]; unfold zet.d; rw [yau (ya2 (by omega))]
theorem yeB (f : Nat) (h : 3 < f) (K : Int → Prop) : zet f K = K 2 := by
 rw [zet.is]; unfold zet.d; rw [yaA (yaZ (by omega))]
theorem yc5 (f : Nat) (h : f ≤ 3) (K : Int → Prop) : zfa f K = K (fw f) := by
 rw [zfa.is]; unfold zfa.d; rw [zfe.is]
 rcases yeY h with rfl | rfl | rfl | rfl <;> kernel_rfl
theorem ybd (f : Nat) (h : f ≤ 3) (K : Int → Prop) : zez f K = K (fp f) := by
 rw [zez.is]; unfold zez.d; rw [zfe.is]
 rcases yeY h with rfl | rfl | rfl | rfl <;> kernel_rfl
theorem ybU (f : Nat) (h : f ≤ 3) (K : Int → Prop) : zev f K = K (fe f) := by
 rw [zev.is]; unfold zev.d; rw [zfe.is]
 rcases yeY h with rfl | rfl | rfl | rfl <;> kernel_rfl
theorem ybX (f : Nat) (h : f ≤ 3) (K : Int → Prop) : zew f K = K (1 - (fe f : Int)) := by
 rw [zew.is]; unfold zew.d; rw [yaR f h, ybU f h]
 rcases yeY h with rfl | rfl | rfl | rfl <;> kernel_rfl
theorem yjz (f : Nat) (h : f ≤ 3) (K : Int → Int → Prop) : (zfa f fun y0 => zfc 1 (yao IntKind.i64 y0 1) K) = K (Hi (2 ^ (fw f - 1))) (Lo (2 ^ (fw f - 1))) := by
 rw [yc5 f h, zfc.is]
 rcases yeY h with rfl | rfl | rfl | rfl <;> kernel_rfl
theorem yty (f : Nat) (h : f ≤ 3) (neg : Bool) : sg f neg < 2 ^ 128 := by
 rcases yeY h with rfl | rfl | rfl | rfl <;> cases neg <;> decide
theorem ydo (f x : Nat) (h : f ≤ 3) (hx : x < 2 ^ 128) (neg : Bool) (K : Int → Int → Prop) : zff f (Hi x) (Lo x) neg K = K (Hi (x ||| sg f neg)) (Lo (x ||| sg f neg)) := by
 rw [zff.is]; unfold zff.d; rw [yaR f h, yau (by decide)]
 cases neg with
 | false => rw [yau rfl]; simp [sg]
 | true =>
  rw [yaA rfl, yjz f h]
  obtain ⟨h1, h2⟩ := yta x (2 ^ (fw f - 1)) hx (yty f h true)
  rw [h1, h2]; rfl
theorem HiLo_zero : Hi 0 = 0 ∧ Lo 0 = 0 := ⟨rfl, rfl⟩
theorem yft (f : Nat) (h : f ≤ 3) (neg : Bool) (K : Int → Int → Prop) : zfb f neg K = K (Hi (enc f neg 0 0)) (Lo (enc f neg 0 0)) := by
 rw [zfb.is]; unfold zfb.d
 have := ydo f 0 h (by decide) neg K
 rw [HiLo_zero.1, HiLo_zero.2, Nat.zero_or] at this
 rw [this]; simp [enc]
theorem yiv (f e : Nat) (h : f ≤ 3) (he : e = 1 ∨ e = fe f ∨ e = 2 * fe f + 1) (K : Int → Int → Prop) : zfd f e K = K (Hi (e * 2 ^ (fp f - 1))) (Lo (e * 2 ^ (fp f - 1))) := by
 rw [zfd.is]; unfold zfd.d; rw [ybd f h, zfc.is]
 rcases he with rfl | rfl | rfl <;> rcases yeY h with rfl | rfl | rfl | rfl <;> kernel_rfl
theorem yrD (f e : Nat) (h : f ≤ 3) (he : e = 1 ∨ e = fe f ∨ e = 2 * fe f + 1) (neg : Bool) : (e * 2 ^ (fp f - 1)) ||| sg f neg = enc f neg e 0 ∧ e * 2 ^ (fp f - 1) < 2 ^ 128 := by
 rcases he with rfl | rfl | rfl <;> rcases yeY h with rfl | rfl | rfl | rfl <;> cases neg <;> decide
theorem ygn (f : Nat) (h : f ≤ 3) (neg : Bool) (K : Int → Int → Prop) : zey f neg K = K (Hi (enc f neg (2 * fe f + 1) 0)) (Lo (enc f neg (2 * fe f + 1) 0)) := by
 rw [zey.is]; unfold zey.d; rw [yaR f h, yau (by decide), ybU f h]
 have e1 : yai IntKind.i64 (ybT IntKind.i64 2 (fe f)) 1 = ((2 * fe f + 1 : Nat) : Int) := by rcases yeY h with rfl | rfl | rfl | rfl <;> decide
 obtain ⟨h1, h2⟩ := yrD f _ h (.inr (.inr rfl)) neg
 rw [e1, yiv f _ h (.inr (.inr rfl)), ydo f _ h h2 neg, h1]
theorem yfP (f : Nat) (h : f ≤ 3) (neg : Bool) (K : Int → Int → Prop) : zex f neg K = K (Hi (enc f neg (2 * fe f) (2 ^ (fp f - 1) - 1))) (Lo (enc f neg (2 * fe f) (2 ^ (fp f - 1) - 1))) := by
 rw [zex.is]; unfold zex.d; rw [ygn f h]; simp only [yaR f h, yc5 f h]
 have key : ∀ x : Nat, x < 2 ^ 128 → x ||| sg f neg = enc f neg (2 * fe f) (2 ^ (fp f - 1) - 1) → zff f (Hi x) (Lo x) neg (fun y0 y1 => K y0 y1) = K (Hi (enc f neg (2 * fe f) (2 ^ (fp f - 1) - 1))) (Lo (enc f neg (2 * fe f) (2 ^ (fp f - 1) - 1))) := by
  intro x hx hq
  rw [ydo f x h hx neg, hq]
 have k2 := key ((2 * fe f) * 2 ^ (fp f - 1) + (2 ^ (fp f - 1) - 1)) (by rcases yeY h with rfl | rfl | rfl | rfl <;> decide) (by rcases yeY h with rfl | rfl | rfl | rfl <;> cases neg <;> decide)
 rw [← k2]
 clear key k2
 generalize hq : (zff f : Int → Int → Bool → (Int → Int → Prop) → Prop) = sw
 clear hq
 rcases yeY h with rfl | rfl | rfl | rfl <;> (refine Eq.trans ?_ rfl; kernel_rfl)
end Go.Ev.S

/- The document's answer on formats: an encoding of its fields, and its fields. -/
set_option linter.unusedVariables false
set_option linter.unusedSimpArgs false
set_option maxRecDepth 8000
namespace Go.Ev.S
open Go Go.Ev
theorem ybm (f : Nat) (h : f ≤ 3) (K : Bool → Prop) : zdo f K = K true := by
 rw [zdo.is]; unfold zdo.d; rw [ya9 (by omega)]
theorem yge (f : Nat) (h : 3 < f) (K : Bool → Prop) : zdo f K = K false := by
 rw [zdo.is]; unfold zdo.d; rw [yeu (by omega)]
theorem ygg (f : Nat) (h : f ≤ 3) (K : Int → Prop) : zdq f K = K (fw f) := by
 rw [zdq.is]
 rcases yeY h with rfl | rfl | rfl | rfl <;> kernel_rfl
theorem yaM (f : Nat) (h : f ≤ 3) (K : Int → Prop) : zdn f K = K (fp f) := by
 rw [zdn.is]
 rcases yeY h with rfl | rfl | rfl | rfl <;> kernel_rfl
theorem ydr (f : Nat) (h : f ≤ 3) (K : Int → Prop) : zdh f K = K (fe f) := by
 rw [zdh.is]
 rcases yeY h with rfl | rfl | rfl | rfl <;> kernel_rfl
theorem ycf (f : Nat) (h : f ≤ 3) (K : Int → Prop) : zdi f K = K (1 - (fe f : Int)) := by
 rw [zdi.is]; unfold zdi.d; rw [ybm f h, ydr f h]
 rcases yeY h with rfl | rfl | rfl | rfl <;> kernel_rfl
theorem ydE (f : Nat) (h : f ≤ 3) (K : Int → Prop) : zdm f K = K ((2 * fe f + 1 : Nat)) := by
 rw [zdm.is]; unfold zdm.d; rw [ydr f h]
 rcases yeY h with rfl | rfl | rfl | rfl <;> kernel_rfl
theorem ytc (f : Nat) (h : f ≤ 3) : 2 ^ (fw f - 1) = (2 * fe f + 2) * 2 ^ (fp f - 1) := by rcases yeY h with rfl | rfl | rfl | rfl <;> decide
theorem ybY (f : Nat) (h : f ≤ 3) : 1 ≤ fw f ∧ fw f ≤ 128 ∧ 2 ≤ fp f ∧ fp f ≤ 113 ∧ fp f < fw f ∧ 2 * fe f + 1 < 32768 := by rcases yeY h with rfl | rfl | rfl | rfl <;> decide
theorem yhk {f e t : Nat} (h : f ≤ 3) (he : e ≤ 2 * fe f + 1) (ht : t < 2 ^ (fp f - 1)) : e * 2 ^ (fp f - 1) + t < 2 ^ (fw f - 1) := by
 rw [ytc f h]
 have : (e + 1) * 2 ^ (fp f - 1) ≤ (2 * fe f + 2) * 2 ^ (fp f - 1) := Nat.mul_le_mul_right _ (by omega)
 rw [Nat.add_mul, Nat.one_mul] at this
 omega
theorem ym5 {f e t : Nat} (h : f ≤ 3) (he : e ≤ 2 * fe f + 1) (ht : t < 2 ^ (fp f - 1)) (neg : Bool) : enc f neg e t < 2 ^ fw f := by
 have h1 := yhk h he ht
 have h2 := (ybY f h).1
 have h3 : 2 ^ fw f = 2 ^ (fw f - 1) + 2 ^ (fw f - 1) := by
  have : fw f = fw f - 1 + 1 := by omega
  conv => lhs; rw [this, Nat.pow_succ]
  omega
 unfold enc sg
 cases neg <;> simp <;> omega
theorem ysX {a : Nat} (h : a ≤ 128) {x : Nat} (hx : x < 2 ^ a) : x < 2 ^ 128 := Nat.lt_of_lt_of_le hx (Nat.pow_le_pow_right (by omega) h)
theorem yco (f e t : Nat) (h : f ≤ 3) (he : e ≤ 2 * fe f + 1) (ht : t < 2 ^ (fp f - 1)) (neg : Bool) (K : Int → Int → Prop) (hK : K (Hi (enc f neg e t)) (Lo (enc f neg e t))) : zdg f neg e (W t) K := by
 obtain ⟨w1, w2, w3, w4, w5, w6⟩ := ybY f h
 have hb := yhk h he ht
 have hen := ym5 h he ht neg
 have hb' : e * 2 ^ (fp f - 1) + t < Q6 := yoT (by omega) hb
 have he1 : e * 2 ^ (fp f - 1) < Q6 := by omega
 have ht1 : t < Q6 := yoT (by omega) ht
 rw [zdg.is]; unfold zdg.d
 rw [ybm f h, yau (by decide), yaQ (by omega) (by omega), ylQ e (by omega), yaM f h, show yao IntKind.i64 (fp f : Int) 1 = ((fp f - 1 : Nat) : Int) from by rw [yar (by omega) (by omega)]; omega]
 refine yhs e (fp f - 1) (yoT (a := 64) (by omega) (by omega)) (by omega) _ ?_
 rw [Nat.mod_eq_of_lt he1]
 refine yiV _ _ he1 ht1 _ ?_
 rw [Nat.mod_eq_of_lt hb']
 cases neg with
 | false =>
  rw [yau rfl]
  rw [yfk _ (ysX (by omega) hb)]
  have : enc f false e t = e * 2 ^ (fp f - 1) + t := by simp [enc, sg]
  rw [this] at hK; exact hK
 | true =>
  have e1 : enc f true e t = e * 2 ^ (fp f - 1) + t + 2 ^ (fw f - 1) := by simp [enc, sg]; omega
  rw [e1] at hK hen
  have hen' : e * 2 ^ (fp f - 1) + t + 2 ^ (fw f - 1) < Q6 := yoT (by omega) hen
  rw [yaA rfl, show (1 : Int) = ((1 : Nat) : Int) from rfl, ylQ 1 (by omega), ygg f h, show yao IntKind.i64 (fw f : Int) ((1 : Nat) : Int) = ((fw f - 1 : Nat) : Int) from by rw [yar (by omega) (by omega)]; omega]
  refine yhs 1 (fw f - 1) (yoT (a := 64) (by omega) (by omega)) (by omega) _ ?_
  have h1 : 2 ^ (fw f - 1) < Q6 := ys0 (by omega)
  rw [Nat.one_mul, Nat.mod_eq_of_lt h1]
  refine yiV _ _ hb' h1 _ ?_
  rw [Nat.mod_eq_of_lt hen', yfk _ (ysX (by omega) hen)]
  exact hK
theorem W0 : (fun _ => (0 : Int)) = W 0 := W_zero.symm
theorem yoc (f : Nat) (h : f ≤ 3) (neg : Bool) (K : Int → Int → Prop) (hK : K (Hi (enc f neg (2 * fe f + 1) 0)) (Lo (enc f neg (2 * fe f + 1) 0))) : zdl f neg K := by
 rw [zdl.is]; unfold zdl.d; rw [ydE f h, W0]
 exact yco f _ _ h (Nat.le_refl _) (Nat.two_pow_pos _) neg _ hK
theorem ymq (f : Nat) (h : f ≤ 3) (neg : Bool) (K : Int → Int → Prop) (hK : K (Hi (enc f neg 0 0)) (Lo (enc f neg 0 0))) : zdr f neg K := by
 rw [zdr.is]; unfold zdr.d; rw [W0, show (0 : Int) = ((0 : Nat) : Int) from rfl]
 exact yco f _ _ h (by omega) (Nat.two_pow_pos _) neg _ hK
theorem yg3 (f : Nat) (h : f ≤ 3) (neg : Bool) (K : Int → Int → Prop) (hK : K (Hi (enc f neg (2 * fe f) (2 ^ (fp f - 1) - 1))) (Lo (enc f neg (2 * fe f) (2 ^ (fp f - 1) - 1)))) : zdk f neg K := by
 obtain ⟨w1, w2, w3, w4, w5, w6⟩ := ybY f h
 rw [zdk.is]; unfold zdk.d
 rw [ydE f h, yaM f h, show yao IntKind.i64 (fp f : Int) 1 = ((fp f - 1 : Nat) : Int) from by rw [yar (by omega) (by omega)]; omega,
  show yao IntKind.i64 ((2 * fe f + 1 : Nat) : Int) 1 = ((2 * fe f : Nat) : Int) from by rw [yar (by omega) (by omega)]; omega]
 refine yeM _ (by omega) _ ?_
 have := Nat.two_pow_pos (fp f - 1)
 exact yco f _ _ h (by omega) (by omega) neg _ hK
end Go.Ev.S

/- Encodings, their fields and their signs: the abacus and the document's answer. -/
set_option linter.unusedVariables false
set_option linter.unusedSimpArgs false
set_option maxRecDepth 8000
namespace Go.Ev.S
open Go Go.Ev
def ng (f x : Nat) : Bool := x.testBit (fw f - 1)
def ex (f x : Nat) : Nat := x / 2 ^ (fp f - 1) % (2 * fe f + 2)
def fr (f x : Nat) : Nat := x % 2 ^ (fp f - 1)
def ysK (f x : Nat) : Nat := x ^^^ 2 ^ (fw f - 1)
theorem ytJ (f x : Nat) : ex f x ≤ 2 * fe f + 1 := by unfold ex; have := Nat.mod_lt (x / 2 ^ (fp f - 1)) (show 0 < 2 * fe f + 2 by omega); omega
theorem ys7 (f x : Nat) : fr f x < 2 ^ (fp f - 1) := Nat.mod_lt _ (Nat.two_pow_pos _)
theorem ypW (f : Nat) (h : f ≤ 3) : 2 * fe f + 2 = 2 ^ (fw f - fp f) := by rcases yeY h with rfl | rfl | rfl | rfl <;> decide
theorem ynB (f : Nat) (h : f ≤ 3) : fw f - 1 = (fp f - 1) + (fw f - fp f) ∧ fw f = fw f - 1 + 1 := by rcases yeY h with rfl | rfl | rfl | rfl <;> decide
theorem ysU (f x : Nat) (h : f ≤ 3) (hx : x < 2 ^ fw f) : enc f (ng f x) (ex f x) (fr f x) = x := by
 have h1 : x = x / 2 ^ (fp f - 1) * 2 ^ (fp f - 1) + fr f x := by
  unfold fr; have := Nat.div_add_mod x (2 ^ (fp f - 1)); rw [Nat.mul_comm]; omega
 have h2 : x % 2 ^ (fw f - 1) = ex f x * 2 ^ (fp f - 1) + fr f x := by
  unfold ex fr
  rw [ypW f h, (ynB f h).1, Nat.pow_add, Nat.mod_mul]
  rw [Nat.mul_comm]; omega
 have h3 := yc2 x (fw f - 1)
 rw [← (ynB f h).2, Nat.mod_eq_of_lt hx] at h3
 unfold enc sg
 unfold ng
 cases hb : x.testBit (fw f - 1) with
 | false => rw [hb] at h3; simp at h3; simp only [cond_false]; omega
 | true => rw [hb] at h3; simp at h3; simp only [cond_true]; omega
theorem ysg (b k : Nat) (h : b < 2 ^ k) : b ^^^ 2 ^ k = b + 2 ^ k := by
 rw [← yiM b k h]
 apply Nat.eq_of_testBit_eq; intro j
 rw [Nat.testBit_xor, Nat.testBit_or, Nat.testBit_two_pow]
 by_cases hj : k = j
 ·subst hj
  rw [Nat.testBit_lt_two_pow h]; simp
 ·simp [hj]
theorem yt1 {f x : Nat} (h : f ≤ 3) (hx : x < 2 ^ fw f) : x < 2 ^ 128 := ysX (ybY f h).2.1 hx
theorem xQ6 {f x : Nat} (h : f ≤ 3) (hx : x < 2 ^ fw f) : x < Q6 := yoT (by have := (ybY f h).2.1; omega) hx
theorem yr6 (a b : Nat) (ha : a < 9223372036854775808) (hb : b < 9223372036854775808) : yiY .i64 a b = ((a &&& b : Nat) : Int) := by
 have h1 : (BitVec.ofInt 64 (a : Int)) = BitVec.ofNat 64 a := by simp
 have h2 : (BitVec.ofInt 64 (b : Int)) = BitVec.ofNat 64 b := by simp
 have h3 : a &&& b < 9223372036854775808 := Nat.lt_of_le_of_lt Nat.and_le_left ha
 show IntKind.wrap .i64 (((BitVec.ofInt 64 (a : Int) &&& BitVec.ofInt 64 (b : Int) : BitVec 64).toNat : Nat) : Int) = _
 rw [h1, h2]
 rw [BitVec.toNat_and, BitVec.toNat_ofNat, BitVec.toNat_ofNat, Nat.mod_eq_of_lt (by omega), Nat.mod_eq_of_lt (by omega)]
 exact ydH (by omega) (by omega)
theorem yr7 (f : Nat) (h : f ≤ 3) : yao .i64 (fw f : Int) 1 = ((fw f - 1 : Nat) : Int) := by rcases yeY h with rfl | rfl | rfl | rfl <;> decide
theorem ypX (f : Nat) (h : f ≤ 3) : yao .i64 (fp f : Int) 1 = ((fp f - 1 : Nat) : Int) := by rcases yeY h with rfl | rfl | rfl | rfl <;> decide
theorem ytV (f : Nat) (h : f ≤ 3) : yao .i64 (fp f : Int) 2 = ((fp f - 2 : Nat) : Int) := by rcases yeY h with rfl | rfl | rfl | rfl <;> decide
theorem ysC (x : Nat) (h : x < 18446744073709551616) : W x 0 = (x : Int) := by
 rw [ybj]; unfold wd; rw [Nat.mul_zero, Nat.pow_zero, Nat.div_one, Nat.mod_eq_of_lt h]
theorem yse (f x : Nat) (h : f ≤ 3) (hx : x < 2 ^ fw f) : yiY .i64 (cvI .i64 (W (x / 2 ^ (fp f - 1)) 0)) ((2 * fe f + 1 : Nat) : Int) = (ex f x : Int) := by
 have h1 : x / 2 ^ (fp f - 1) < 131072 := by
  rw [Nat.div_lt_iff_lt_mul (Nat.two_pow_pos _)]
  have h3 : 2 ^ fw f ≤ 131072 * 2 ^ (fp f - 1) := by rcases yeY h with rfl | rfl | rfl | rfl <;> decide
  omega
 have h2 := (ybY f h).2.2.2.2.2
 unfold ex
 generalize x / 2 ^ (fp f - 1) = v at *
 rw [ysC _ (by omega), yhe (by omega) (by omega), yr6 _ _ (by omega) (by omega), show 2 * fe f + 1 = 2 ^ (fw f - fp f) - 1 from by rw [← ypW f h]; omega, Nat.and_two_pow_sub_one_eq_mod, ← ypW f h]
theorem ykf (f x : Nat) (h : f ≤ 3) (hx : x < 2 ^ fw f) (K : Bool → Int → (Nat → Int) → Prop) (hK : K (ng f x) (ex f x) (W (fr f x))) : zdj f (Hi x) (Lo x) K := by
 have hw := ybY f h
 rw [zdj.is]; unfold zdj.d
 rw [ykd x (yt1 h hx), ygg f h, yr7 f h, yea x _ (by omega), yaM f h, ypX f h]
 refine yeM _ (by omega) _ ?_
 refine yiN _ _ (xQ6 h hx) _ ?_
 rw [yaM f h, ypX f h]
 refine ylg _ _ (xQ6 h hx) (by omega) _ ?_
 rw [ydE f h, yse f x h hx, Nat.and_two_pow_sub_one_eq_mod]
 exact hK
def cls (f x : Nat) : Int :=
 if ex f x = 2 * fe f + 1 then (if fr f x ≠ 0 then cond ((fr f x).testBit (fp f - 2)) 9 8 else cond (ng f x) 0 7)
 else if ex f x ≠ 0 then cond (ng f x) 1 6 else if fr f x ≠ 0 then cond (ng f x) 2 5 else cond (ng f x) 3 4
theorem yq9 (x : Nat) (hx : x < Q6) : eqN 6 (W x) (fun _ => 0) = decide (x = 0) := by
 rw [Bool.eq_iff_iff, yo9, decide_eq_true_iff]
 constructor
 ·intro h
  obtain ⟨n, hn⟩ : ∃ n : Nat, n = 6 := ⟨6, rfl⟩
  refine yrE (n := n) (by rw [ydP (by omega)]; exact hx) (Nat.two_pow_pos _) fun i hi => ?_
  rw [hn] at hi
  have := h i hi
  rw [ybj] at this
  rw [ycR 0 i (Nat.two_pow_pos _)]; omega
 ·intro h i hi; subst h; rw [W_zero]
theorem yij (b : Bool) (K : Int → Prop) (x y : Int) : br b (K x) (K y) = K (cond b x y) := by cases b <;> rfl
theorem ytN (f x : Nat) (h : f ≤ 3) : fr f x < Q6 := yoT (by have := ybY f h; omega) (ys7 f x)
theorem ylk (f x : Nat) (h : f ≤ 3) (hx : x < 2 ^ fw f) (K : Int → Prop) (hK : K (cls f x)) : zds f (Hi x) (Lo x) K := by
 have hw := ybY f h
 rw [zds.is]; unfold zds.d
 refine ykf f x h hx _ ?_
 rw [ydE f h, yjm, yq9 _ (ytN f x h), show (0 : Int) = ((0 : Nat) : Int) from rfl, yjm]
 unfold cls at hK
 by_cases h1 : ex f x = 2 * fe f + 1
 ·rw [if_pos h1] at hK
  rw [yaA (by simpa using h1)]
  by_cases h2 : fr f x = 0
  ·rw [if_neg (by simpa using h2)] at hK
   rw [yau (by simpa using h2), yij]; exact hK
  ·rw [if_pos h2] at hK
   rw [yaA (by simpa using h2), yaM f h, ytV f h, yea _ _ (by omega), yij]; exact hK
 ·rw [if_neg h1] at hK
  rw [yau (by simpa using h1)]
  by_cases h3 : ex f x = 0
  ·rw [if_neg (by simpa using h3)] at hK
   rw [yau (by simpa using h3)]
   by_cases h2 : fr f x = 0
   ·rw [if_neg (by simpa using h2)] at hK
    rw [yau (by simpa using h2), yij]; exact hK
   ·rw [if_pos h2] at hK
    rw [yaA (by simpa using h2), yij]; exact hK
  ·rw [if_pos h3] at hK
   rw [yaA (by simpa using h3), yij]; exact hK
end Go.Ev.S

/- The plain law of ShapeMakes, and that of ShapeNumbers. -/
set_option linter.unusedVariables false
set_option linter.unusedSimpArgs false
set_option maxRecDepth 8000
namespace Go.Ev.S
open Go Go.Ev
theorem yrW {a : Int} (w : (Lit.int .u8 a).wf = true) : ∃ n : Nat, a = n ∧ n < 256 := by
 obtain ⟨h1, h2⟩ := yrK w
 exact ⟨a.toNat, by omega, by omega⟩
theorem yqv {x : Nat} {p q : Prop} (h : p) : br (eqI (Hi x) (Hi x) && eqI (Lo x) (Lo x)) p q := by rw [ypN, yaA (by simp)]; exact h
end Go.Ev.S

/- The law RoundOver. -/
set_option linter.unusedVariables false
set_option linter.unusedSimpArgs false
set_option maxRecDepth 8000
namespace Go.Ev.S
open Go Go.Ev
theorem yb2 (m : Nat) (h : m ≤ 4) (K : Int → Prop) : zeu m K = K 0 := by
 rw [zeu.is]; unfold zeu.d; rw [yau (ya2 (by omega))]
theorem yfe (m : Nat) (h : 4 < m) (K : Int → Prop) : zeu m K = K 2 := by
 rw [zeu.is]; unfold zeu.d; rw [yaA (yaZ (by omega))]
def gr (m : Nat) (n : Bool) : Bool := m == 1 || (m == 2 && !n) || (m == 3 && n)
def ov (f m : Nat) (n : Bool) : Nat := cond (gr m n) (enc f n (2 * fe f) (2 ^ (fp f - 1) - 1)) (enc f n (2 * fe f + 1) 0)
theorem yra {m : Nat} (h : m ≤ 4) : m = 0 ∨ m = 1 ∨ m = 2 ∨ m = 3 ∨ m = 4 := by omega
theorem yhu (f m : Nat) (n : Bool) (h : f ≤ 3) (hm : m ≤ 4) (K : Int → Int → Prop) (hK : K (Hi (ov f m n)) (Lo (ov f m n))) : zdx f m n K := by
 have g : gr m n = true → zdk f n K := fun hg => by
  unfold ov at hK; rw [hg] at hK; exact yg3 f h n _ hK
 have i : gr m n = false → zdl f n K := fun hg => by
  unfold ov at hK; rw [hg] at hK; exact yoc f h n _ hK
 rw [zdx.is]; unfold zdx.d
 rcases yra hm with rfl | rfl | rfl | rfl | rfl <;> cases n <;> first | exact g rfl | exact i rfl
end Go.Ev.S

/- Digits of natural numbers, as rows have them; texts of bytes as numbers. -/
set_option linter.unusedVariables false
set_option linter.unusedSimpArgs false
namespace Go.Ev.S
open Go Go.Ev
def dg (k x i : Nat) : Nat := x / 2 ^ (k * i) % 2 ^ k
def G (k x : Nat) : Nat → Int := fun i => ((dg k x i : Nat) : Int)
theorem ybn (k x i : Nat) : G k x i = ((dg k x i : Nat) : Int) := rfl
theorem yb9 (k i : Nat) : 2 ^ (k * (i + 1)) = 2 ^ (k * i) * 2 ^ k := by rw [show k * (i + 1) = k * i + k from by rw [Nat.mul_add, Nat.mul_one], Nat.pow_add]
theorem ya5 (k x i : Nat) : dg k x i < 2 ^ k := Nat.mod_lt _ (Nat.two_pow_pos k)
theorem yd0 (k x i : Nat) (h : x < 2 ^ (k * i)) : dg k x i = 0 := by unfold dg; rw [Nat.div_eq_of_lt h, Nat.zero_mod]
theorem yb0 {k i j : Nat} (h : i ≤ j) : 2 ^ (k * i) ≤ 2 ^ (k * j) := Nat.pow_le_pow_right (by omega) (Nat.mul_le_mul_left k h)
theorem yeK (k x n i : Nat) (h : x < 2 ^ (k * n)) (hi : n ≤ i) : dg k x i = 0 := yd0 k x i (Nat.lt_of_lt_of_le h (yb0 hi))
theorem ycx (k : Nat) : G k 0 = fun _ => 0 := by
 funext i
 rw [ybn, yd0 k 0 i (Nat.two_pow_pos _)]; rfl
theorem ybh (k x i : Nat) : x % 2 ^ (k * (i + 1)) = x % 2 ^ (k * i) + dg k x i * 2 ^ (k * i) := by
 unfold dg
 rw [yb9, Nat.mod_mul, Nat.mul_comm (2 ^ (k * i))]
theorem ydl (k x i : Nat) : x / 2 ^ (k * i) = dg k x i + x / 2 ^ (k * (i + 1)) * 2 ^ k := by
 unfold dg
 rw [yb9, ← Nat.div_div_eq_div_mul]
 have := Nat.div_add_mod (x / 2 ^ (k * i)) (2 ^ k)
 rw [Nat.mul_comm] at this
 omega
theorem ynD (k x i j : Nat) : dg k (x / 2 ^ (k * i)) j = dg k x (i + j) := by
 unfold dg
 rw [Nat.div_div_eq_div_mul, ← Nat.pow_add, Nat.mul_add]
theorem ypA (k x i j : Nat) (h : j < i) : dg k (x % 2 ^ (k * i)) j = dg k x j := by
 unfold dg
 have h1 : 2 ^ (k * i) = 2 ^ (k * j) * (2 ^ k * 2 ^ (k * (i - j - 1))) := by
  rw [← Nat.pow_add, ← Nat.pow_add]; congr 1
  have : i = j + (1 + (i - j - 1)) := by omega
  conv => lhs; rw [this]
  rw [Nat.mul_add, Nat.mul_add, Nat.mul_one]
 rw [h1, Nat.mod_mul_right_div_self, Nat.mod_mul_right_mod]
theorem yso (k x : Nat) (h : x < 2 ^ k) : dg k x 0 = x := by unfold dg; rw [Nat.mul_zero, Nat.pow_zero, Nat.div_one, Nat.mod_eq_of_lt h]
theorem ypo (k z w i j : Nat) (hz : z < 2 ^ (k * i)) (hw : w < 2 ^ k) : dg k (z + w * 2 ^ (k * i)) j = if j = i then w else dg k z j := by
 have hP := Nat.two_pow_pos (k * i)
 by_cases hj : j = i
 ·subst hj
  rw [if_pos rfl]
  unfold dg
  rw [Nat.add_mul_div_right _ _ hP, Nat.div_eq_of_lt hz, Nat.zero_add, Nat.mod_eq_of_lt hw]
 ·rw [if_neg hj]
  by_cases hlt : j < i
  ·have h1 := ypA k (z + w * 2 ^ (k * i)) i j hlt
   rw [Nat.add_mul_mod_self_right, Nat.mod_eq_of_lt hz] at h1
   exact h1.symm
  ·rw [yeK k z i j hz (by omega), yd0]
   have h1 : z + w * 2 ^ (k * i) < 2 ^ (k * (i + 1)) := by
    rw [yb9, Nat.mul_comm (2 ^ (k * i))]
    have : (w + 1) * 2 ^ (k * i) ≤ 2 ^ k * 2 ^ (k * i) := Nat.mul_le_mul_right _ hw
    rw [Nat.add_mul, Nat.one_mul] at this
    omega
   exact Nat.lt_of_lt_of_le h1 (yb0 (by omega))
theorem yhr (k z w i : Nat) (hz : z < 2 ^ (k * i)) (hw : w < 2 ^ k) : z + w * 2 ^ (k * i) < 2 ^ (k * (i + 1)) := by
 rw [yb9, Nat.mul_comm (2 ^ (k * i))]
 have : (w + 1) * 2 ^ (k * i) ≤ 2 ^ k * 2 ^ (k * i) := Nat.mul_le_mul_right _ hw
 rw [Nat.add_mul, Nat.one_mul] at this
 omega
theorem yk6 (k z w i : Nat) (hz : z < 2 ^ (k * i)) (hw : w < 2 ^ k) : upd (G k z) i (w : Int) = G k (z + w * 2 ^ (k * i)) := by
 funext j
 rw [ybn, ypo k z w i j hz hw]
 by_cases hj : j = i
 ·subst hj; rw [ybZ, if_pos rfl]
 ·rw [ycT _ _ _ _ hj, if_neg hj, ybn]
theorem ygY (k x i : Nat) : x = x % 2 ^ (k * i) + dg k x i * 2 ^ (k * i) + x / 2 ^ (k * (i + 1)) * 2 ^ (k * (i + 1)) := by
 have h1 := Nat.div_add_mod x (2 ^ (k * (i + 1)))
 rw [ybh, Nat.mul_comm] at h1
 omega
theorem ysv (k x w i j : Nat) (hw : w < 2 ^ k) : dg k (x % 2 ^ (k * i) + w * 2 ^ (k * i) + x / 2 ^ (k * (i + 1)) * 2 ^ (k * (i + 1))) j = if j = i then w else dg k x j := by
 have hP := Nat.two_pow_pos (k * i)
 have hr : x % 2 ^ (k * i) < 2 ^ (k * i) := Nat.mod_lt _ hP
 have hl := yhr k _ w i hr hw
 by_cases hj : j ≤ i
 ·have h1 := ypA k (x % 2 ^ (k * i) + w * 2 ^ (k * i) + x / 2 ^ (k * (i + 1)) * 2 ^ (k * (i + 1))) (i + 1) j (by omega)
  rw [Nat.add_mul_mod_self_right, Nat.mod_eq_of_lt hl, ypo k _ w i j hr hw] at h1
  rw [← h1]
  by_cases he : j = i
  ·simp [he]
  ·rw [if_neg he, if_neg he, ypA k x i j (by omega)]
 ·rw [if_neg (by omega)]
  have h1 := ynD k (x % 2 ^ (k * i) + w * 2 ^ (k * i) + x / 2 ^ (k * (i + 1)) * 2 ^ (k * (i + 1))) (i + 1) (j - (i + 1))
  rw [show i + 1 + (j - (i + 1)) = j from by omega, Nat.add_mul_div_right _ _ (Nat.two_pow_pos _), Nat.div_eq_of_lt hl, Nat.zero_add] at h1
  rw [← h1, ynD, show i + 1 + (j - (i + 1)) = j from by omega]
theorem yrP (k x w i : Nat) (hw : w < 2 ^ k) : upd (G k x) i (w : Int) = G k (x % 2 ^ (k * i) + w * 2 ^ (k * i) + x / 2 ^ (k * (i + 1)) * 2 ^ (k * (i + 1))) := by
 funext j
 rw [ybn, ysv k x w i j hw]
 by_cases hj : j = i
 ·subst hj; rw [ybZ, if_pos rfl]
 ·rw [ycT _ _ _ _ hj, if_neg hj, ybn]
def val (a : List UInt8) : Nat := a.foldl (fun v b => v * 256 + b.toNat) 0
theorem ylG (a : List UInt8) : ∀ (v : Nat), a.foldl (fun v b => v * 256 + b.toNat) v = v * 256 ^ a.length + val a := by
 induction a with
 | nil => intro v; simp [val]
 | cons b l ih =>
  intro v
  simp only [List.foldl_cons, List.length_cons, val]
  rw [ih, ih (0 * 256 + b.toNat), Nat.pow_succ]
  rw [Nat.add_mul, Nat.add_mul, Nat.mul_assoc, Nat.mul_comm 256]
  omega
theorem yhf : val [] = 0 := rfl
theorem ygR (b : UInt8) (l : List UInt8) : val (b :: l) = b.toNat * 256 ^ l.length + val l := by
 show (b :: l).foldl _ 0 = _
 rw [List.foldl_cons, ylG, Nat.zero_mul, Nat.zero_add]
theorem yoF (a b : List UInt8) : val (a ++ b) = val a * 256 ^ b.length + val b := by
 show (a ++ b).foldl _ 0 = _
 rw [List.foldl_append, ylG]
 rfl
theorem ynr (a : List UInt8) (b : UInt8) : val (a ++ [b]) = val a * 256 + b.toNat := by
 rw [yoF]; simp [val]
theorem ypJ (b : UInt8) : b.toNat < 256 := b.toNat_lt
theorem yhc (a : List UInt8) : val a < 256 ^ a.length := by
 induction a with
 | nil => simp [val]
 | cons b l ih =>
  rw [ygR, List.length_cons, Nat.pow_succ]
  have := ypJ b
  have : (b.toNat + 1) * 256 ^ l.length ≤ 256 * 256 ^ l.length := Nat.mul_le_mul_right _ (by omega)
  rw [Nat.add_mul] at this
  omega
theorem yop (n : Nat) : 256 ^ n = 2 ^ (8 * n) := by rw [Nat.pow_mul]
def nb (x : Nat) : List UInt8 := if h : x = 0 then [] else nb (x / 256) ++ [UInt8.ofNat (x % 256)]
decreasing_by omega
theorem yaN : nb 0 = [] := by rw [nb]; simp
theorem ydV {x : Nat} (h : x ≠ 0) : nb x = nb (x / 256) ++ [UInt8.ofNat (x % 256)] := by rw [nb]; simp [h]
theorem ynf {n : Nat} (h : n < 256) : (UInt8.ofNat n).toNat = n := by
 rw [UInt8.toNat_ofNat']
 exact Nat.mod_eq_of_lt h
theorem yaJ (x : Nat) : val (nb x) = x := by
 induction x using Nat.strongRecOn with
 | _ x ih =>
  by_cases h : x = 0
  ·subst h; rw [yaN]; rfl
  ·rw [ydV h, ynr, ih (x / 256) (by omega), ynf (Nat.mod_lt _ (by omega))]
   omega
def yjb (a : List UInt8) : Bool := match a with | [] => true | b :: _ => !(b.toNat == 0)
theorem yhR {a b : List UInt8} (h : a ≠ []) : yjb (a ++ b) = yjb a := by cases a <;> simp_all [yjb]
theorem yhB (x : Nat) : yjb (nb x) = true := by
 induction x using Nat.strongRecOn with
 | _ x ih =>
  by_cases h : x = 0
  ·subst h; rw [yaN]; rfl
  ·rw [ydV h]
   by_cases h2 : x / 256 = 0
   ·rw [h2, yaN]
    have : x % 256 ≠ 0 := by omega
    have h3 := ynf (Nat.mod_lt x (show 0 < 256 by omega))
    simp only [List.nil_append, yjb, h3]
    simpa using this
   ·have hne : nb (x / 256) ≠ [] := by rw [ydV h2]; simp
    rw [yhR hne]
    exact ih _ (by omega)
theorem yjh {a : List UInt8} (h : yjb a = true) : nb (val a) = a := by
 induction hn : a.length generalizing a with
 | zero => have := List.length_eq_zero_iff.1 hn; subst this; exact yaN
 | succ n ih =>
  have hne : a ≠ [] := by intro e; subst e; simp at hn
  have h1 := List.dropLast_concat_getLast hne
  generalize a.dropLast = c at h1
  generalize a.getLast hne = b at h1
  subst h1
  have hlen : c.length = n := by simpa using hn
  have hb := ypJ b
  rw [ynr]
  by_cases hc : c = []
  ·subst hc
   have : b.toNat ≠ 0 := by simpa [yjb] using h
   rw [yhf, Nat.zero_mul, Nat.zero_add, ydV this, Nat.div_eq_of_lt hb, yaN, Nat.mod_eq_of_lt hb]
   simp
  ·rw [yhR hc] at h
   have ihc := ih h hlen
   have hv : val c ≠ 0 := by
    intro e
    rw [e, yaN] at ihc
    exact hc ihc.symm
   rw [ydV (by omega), show (val c * 256 + b.toNat) / 256 = val c from by omega, show (val c * 256 + b.toNat) % 256 = b.toNat from by omega, ihc]
   simp
theorem ys4 {x y : Nat} (h : nb x = nb y) : x = y := by rw [← yaJ x, h, yaJ]
theorem ysE {a b : List UInt8} (ha : yjb a = true) (hb : yjb b = true) (h : val a = val b) : a = b := by rw [← yjh ha, h, yjh hb]
theorem ybA (x n : Nat) : (nb x).length ≤ n ↔ x < 256 ^ n := by
 induction n generalizing x with
 | zero =>
  constructor
  ·intro h
   have : nb x = [] := List.length_eq_zero_iff.1 (by omega)
   have h2 := yaJ x
   rw [this] at h2
   simp [val] at h2 ⊢; omega
  ·intro h
   have : x = 0 := by simp at h; omega
   subst this; rw [yaN]; simp
 | succ n ih =>
  by_cases h : x = 0
  ·subst h; rw [yaN]; simp [Nat.pow_pos]
  ·rw [ydV h, List.length_append, List.length_singleton, Nat.pow_succ]
   have := ih (x / 256)
   rw [Nat.div_lt_iff_lt_mul (by omega)] at this
   omega
theorem ylA {x : Nat} (h : x ≠ 0) : nb x ≠ [] := by rw [ydV h]; simp
theorem yny (a : List UInt8) : ∀ (i : Nat), i < a.length → ((a[a.length - 1 - i]?).getD 0).toNat = dg 8 (val a) i := by
 induction a with
 | nil => intro i hi; simp at hi
 | cons b l ih =>
  intro i hi
  rw [List.length_cons] at hi ⊢
  have hl := yhc l
  rw [yop] at hl
  rw [ygR, yop, Nat.add_comm (b.toNat * _)]
  have h2 := ypo 8 (val l) b.toNat l.length i hl (by have := ypJ b; simpa using this)
  rw [h2]
  by_cases he : i = l.length
  ·subst he
   rw [if_pos rfl, show l.length + 1 - 1 - l.length = 0 from by omega]
   rfl
  ·rw [if_neg he, show l.length + 1 - 1 - i = (l.length - 1 - i) + 1 from by omega, List.getElem?_cons_succ]
   exact ih i (by omega)
end Go.Ev.S

/- Rows of digits: a digit set, carried, cut; bytes the highest first. Whole numbers of the machine, plainly. -/
set_option linter.unusedVariables false
set_option linter.unusedSimpArgs false
namespace Go.Ev.S
open Go Go.Ev
theorem yaF (p : Prop) : gd true p = p := rfl
theorem yba (p q : Prop) : br true p q = p := rfl
theorem yep (p q : Prop) : br false p q = q := rfl
theorem ybH {a b : Int} (h : 0 ≤ a) (h2 : a < 9223372036854775808) (hb : 0 < b) : yaC .i64 a b = a / b := by
 show IntKind.wrap .i64 (a.tdiv b) = _
 rw [Int.tdiv_eq_ediv_of_nonneg h]
 have h1 : 0 ≤ a / b := Int.ediv_nonneg h (by omega)
 have h3 : a / b ≤ a := Int.ediv_le_self _ h
 exact ydH (by omega) (by omega)
theorem yfY {k : IntKind} {a b : Int} (h : 0 ≤ a) : yb8 k a b = a % b := Int.tmod_eq_emod_of_nonneg h
theorem ycr (n : Int) : cvI .u32 n = n % 4294967296 := ynd n
theorem yjc (n : Int) : cvI .u8 n = n % 256 := ypb n
theorem yfW {k : IntKind} {a : Int} {j : Nat} (h : j ≤ k.bits) : ya7 k a (j : Int) = a / 2 ^ j := by
 have h1 : min (Int.toNat (j : Int)) k.bits = j := by rw [Int.toNat_natCast]; omega
 simp only [ya7, h1]
 exact Int.fdiv_eq_ediv_of_nonneg _ (Int.le_of_lt (Int.pow_pos (by omega)))
theorem ydj (a : Int) : ya7 .u64 a 32 = a / 4294967296 := yfW (k := .u64) (j := 32) (by decide)
theorem yn5 (a : Int) : ya7 .i64 a 32 = a / 4294967296 := yfW (k := .i64) (j := 32) (by decide)
theorem yhS (a : Int) : ya7 .i64 a 8 = a / 256 := yfW (k := .i64) (j := 8) (by decide)
theorem yp6 {a b : Int} (h : 0 ≤ a * b) (h2 : a * b < 18446744073709551616) : ybT .u64 a b = a * b := yhA h h2
theorem ygF {k N N' w j : Nat} (h : N' + dg k N j * 2 ^ (k * j) = N + w * 2 ^ (k * j)) (hw : w < 2 ^ k) : upd (G k N) j (w : Int) = G k N' := by
 rw [yrP k N w j hw]
 congr 1
 have := ygY k N j
 omega
theorem ysm (g : Nat → Int) (i : Nat) (v w : Int) (h : v = w) : upd g i v = upd g i w := by rw [h]
def wl (k x : Nat) : Nat := if h : x = 0 ∨ k = 0 then 0 else wl k (x / 2 ^ k) + 1
termination_by x
decreasing_by
 have hk : 1 < 2 ^ k := Nat.one_lt_two_pow (by omega)
 exact Nat.div_lt_self (by omega) hk
theorem yds (k : Nat) : wl k 0 = 0 := by rw [wl]; simp
theorem yjd {k x : Nat} (hx : x ≠ 0) (hk : k ≠ 0) : wl k x = wl k (x / 2 ^ k) + 1 := by rw [wl]; simp [hx, hk]
theorem yeJ (k : Nat) (hk : k ≠ 0) (x : Nat) : x < 2 ^ (k * wl k x) := by
 induction x using Nat.strongRecOn with
 | _ x ih =>
  by_cases h : x = 0
  ·subst h; exact Nat.two_pow_pos _
  ·rw [yjd h hk, yb9]
   have := ih (x / 2 ^ k) (Nat.div_lt_self (by omega) (Nat.one_lt_two_pow hk))
   exact (Nat.div_lt_iff_lt_mul (Nat.two_pow_pos k)).1 this
theorem yet (k : Nat) (hk : k ≠ 0) (x n : Nat) : wl k x ≤ n ↔ x < 2 ^ (k * n) := by
 constructor
 ·intro h; exact Nat.lt_of_lt_of_le (yeJ k hk x) (yb0 h)
 ·induction n generalizing x with
  | zero =>
   intro h
   have : x = 0 := by simp at h; omega
   subst this; rw [yds]; omega
  | succ n ih =>
   intro h
   by_cases hx : x = 0
   ·subst hx; rw [yds]; omega
   ·rw [yjd hx hk]
    have := ih (x / 2 ^ k) (by rw [Nat.div_lt_iff_lt_mul (Nat.two_pow_pos k), ← yb9]; exact h)
    omega
theorem yni (k : Nat) (hk : k ≠ 0) (x : Nat) (h : x ≠ 0) : dg k x (wl k x - 1) ≠ 0 := by
 intro he
 have h1 := yeJ k hk x
 have hp : wl k x ≠ 0 := by rw [yjd h hk]; omega
 have h2 := ybh k x (wl k x - 1)
 rw [show wl k x - 1 + 1 = wl k x from by omega, Nat.mod_eq_of_lt h1, he, Nat.zero_mul, Nat.add_zero] at h2
 have h3 : x < 2 ^ (k * (wl k x - 1)) := by
  have := Nat.mod_lt x (Nat.two_pow_pos (k * (wl k x - 1)))
  omega
 have := (yet k hk x _).2 h3
 omega
theorem ytQ (k : Nat) (hk : k ≠ 0) (x n : Nat) (h : x < 2 ^ (k * n)) (ht : n = 0 ∨ dg k x (n - 1) ≠ 0) : wl k x = n := by
 have h1 := (yet k hk x n).2 h
 rcases ht with rfl | ht
 ·omega
 ·apply Classical.byContradiction
  intro hne
  exact ht (yd0 k x (n - 1) ((yet k hk x (n - 1)).1 (by omega)))
theorem ytK (x : Nat) : wl 8 x = (nb x).length := by
 have h1 := (yet 8 (by omega) x (nb x).length).2 (by rw [← yop]; exact (ybA x _).1 (Nat.le_refl _))
 have h2 := (ybA x (wl 8 x)).2 (by rw [yop]; exact yeJ 8 (by omega) x)
 omega
theorem yb6 {k x y : Nat} (hk : k ≠ 0) (h : x ≤ y) : wl k x ≤ wl k y := (yet k hk x _).2 (Nat.lt_of_le_of_lt h (yeJ k hk y))
theorem yqS : ∀ (n x : Nat) (g : Nat → Int), (∀ j, j < n → g j = (dg 8 x (n - 1 - j) : Int)) → x < 2 ^ (8 * n) → (n = 0 ∨ dg 8 x (n - 1) ≠ 0) → ybx n g = nb x := by
 intro n
 induction n with
 | zero =>
  intro x g _ hx _
  have : x = 0 := by simp at hx; omega
  subst this; rw [yaN]; rfl
 | succ n ih =>
  intro x g hg hx ht
  have hx0 : x ≠ 0 := by
   intro e; subst e
   rcases ht with h | h
   ·omega
   ·exact h (yd0 8 0 _ (Nat.two_pow_pos _))
  have e8 : (2 : Nat) ^ 8 = 256 := rfl
  have hd : ∀ j, dg 8 (x / 256) j = dg 8 x (1 + j) := fun j => by
   have := ynD 8 x 1 j
   rwa [show 2 ^ (8 * 1) = 256 from rfl] at this
  have h1 : ybx n g = nb (x / 256) := by
   refine ih (x / 256) g (fun j hj => ?_) ?_ ?_
   ·rw [hg j (by omega), hd]; congr 2; omega
   ·rw [Nat.div_lt_iff_lt_mul (by omega)]; rw [yb9, e8] at hx; exact hx
   ·rcases Nat.eq_zero_or_pos n with h | h
    ·exact .inl h
    ·right
     rw [hd, show 1 + (n - 1) = n + 1 - 1 from by omega]
     exact ht.resolve_left (by omega)
  have h2 : ybx (n + 1) g = ybx n g ++ [UInt8.ofNat (g n).toNat] := by
   unfold ybx
   rw [List.range_succ, List.map_append]; rfl
  rw [h2, h1, ydV hx0, hg n (by omega), Int.toNat_natCast, show n + 1 - 1 - n = 0 from by omega]
  congr 2
  unfold dg
  rw [Nat.mul_zero, Nat.pow_zero, Nat.div_one]
theorem ymt (n o : Nat) (g : Nat → Int) : ybx n (shift o g) = ybx n (fun j => g (o + j)) := by
 unfold ybx
 refine List.map_congr_left fun i _ => ?_
 rw [yce]
def BE (L i x : Nat) : Nat → Int := fun j => if L - i ≤ j ∧ j < L then (dg 8 x (L - 1 - j) : Int) else 0
theorem yo7 (L x : Nat) : BE L 0 x = fun _ => 0 := by
 funext j; unfold BE; rw [if_neg (by omega)]
theorem ypF (L i x : Nat) (hi : i < L) : upd (BE L i x) (L - 1 - i) (dg 8 x i : Int) = BE L (i + 1) x := by
 funext j
 by_cases hj : j = L - 1 - i
 ·subst hj
  rw [ybZ]; unfold BE
  rw [if_pos (by omega), show L - 1 - (L - 1 - i) = i from by omega]
 ·rw [ycT _ _ _ _ hj]; unfold BE
  by_cases h : L - i ≤ j ∧ j < L
  ·rw [if_pos h, if_pos (by omega)]
  ·rw [if_neg h, if_neg (by omega)]
theorem ytg (L x j : Nat) (hj : j < L) : BE L L x j = (dg 8 x (L - 1 - j) : Int) := by unfold BE; rw [if_pos (by omega)]
theorem ynM (L o n x : Nat) (ho : o + n = L) (hx : x < 2 ^ (8 * n)) (ht : n = 0 ∨ dg 8 x (n - 1) ≠ 0) : ybx n (fun j => BE L L x (o + j)) = nb x := by
 refine yqS n x _ (fun j hj => ?_) hx ht
 rw [ytg L x _ (by omega)]; congr 2; omega
end Go.Ev.S

/- Natural numbers as rows of words: made of texts, told as texts, cut, held against each other. -/
set_option linter.unusedVariables false
set_option linter.unusedSimpArgs false
set_option maxRecDepth 8000
namespace Go.Ev.S
open Go Go.Ev
theorem yrS {k : IntKind} (hk : k.signed = false) (a b : Nat) (ha : a < 2 ^ k.bits) (hb : b < 2 ^ k.bits) : orI k a b = ((a ||| b : Nat) : Int) := by
 have h3 : a ||| b < 2 ^ k.bits := Nat.or_lt_two_pow ha hb
 show IntKind.wrap k (((BitVec.ofInt k.bits (a : Int) ||| BitVec.ofInt k.bits (b : Int) : BitVec k.bits).toNat : Nat) : Int) = _
 rw [BitVec.toNat_or, BitVec.ofInt_natCast, BitVec.ofInt_natCast, BitVec.toNat_ofNat, BitVec.toNat_ofNat, Nat.mod_eq_of_lt ha, Nat.mod_eq_of_lt hb]
 simp only [IntKind.wrap, hk]
 have : ((a ||| b : Nat) : Int) % 2 ^ k.bits = ((a ||| b : Nat) : Int) := by
  refine Int.emod_eq_of_lt (by omega) ?_
  have e : ((2 ^ k.bits : Nat) : Int) = (2 : Int) ^ k.bits := by simp
  rw [← e]; omega
 simpa using this
theorem yn9 {k : IntKind} (hk : k.signed = false) (a s : Nat) (hs : s ≤ k.bits) : ybQ k a s = ((a * 2 ^ s % 2 ^ k.bits : Nat) : Int) := by
 have h1 : min (Int.toNat (s : Int)) k.bits = s := by rw [Int.toNat_natCast]; omega
 simp only [ybQ, h1, IntKind.wrap, hk]
 simp
theorem yqO (d b s : Nat) (hd : d < 2 ^ s) (hs : s + 8 ≤ 32) (hb : b < 256) : orI .u32 (d : Int) (ybQ .u32 (b : Int) (s : Int)) = ((d + b * 2 ^ s : Nat) : Int) := by
 have hP := Nat.two_pow_pos s
 have e32 : (2 : Nat) ^ 32 = 4294967296 := rfl
 have h1 : b * 2 ^ s + 2 ^ s ≤ 2 ^ 32 := by
  have h2 : (b + 1) * 2 ^ s ≤ 256 * 2 ^ s := Nat.mul_le_mul_right _ (by omega)
  have h3 : 256 * 2 ^ s ≤ 2 ^ 32 := by
   rw [show (256 : Nat) = 2 ^ 8 from rfl, ← Nat.pow_add]; exact Nat.pow_le_pow_right (by omega) (by omega)
  rw [Nat.add_mul] at h2; omega
 rw [yn9 (k := .u32) rfl b s (by simp [IntKind.bits]; omega)]
 have hb32 : IntKind.bits .u32 = 32 := rfl
 rw [hb32, Nat.mod_eq_of_lt (by omega), yrS (k := .u32) rfl _ _ (by rw [hb32]; omega) (by rw [hb32]; omega)]
 congr 1
 have := Nat.shiftLeft_add_eq_or_of_lt hd b
 rw [Nat.shiftLeft_eq] at this
 rw [Nat.or_comm, ← this]; omega
theorem yfy (a : List UInt8) (i : Nat) (hi : i < a.length) : ybg a (a.length - 1 - i) = (dg 8 (val a) i : Int) := by
 unfold ybg
 rw [yny a i hi]
def May (a : List UInt8) : Prop := a.length ≤ 16384 ∧ yjb a = true
instance (a : List UInt8) : Decidable (May a) := inferInstanceAs (Decidable (_ ∧ _))
theorem ybb (a : List UInt8) : eqS a [] = decide (a = []) := by cases a <;> simp [eqS]
theorem ydn (b : UInt8) (l : List UInt8) : ybg (b :: l) 0 = (b.toNat : Int) := rfl
theorem ya1 (a : List UInt8) (K : Int → Prop) : zar a K = K (if May a then 0 else 2) := by
 rw [zar.is]; unfold zar.d
 by_cases h : a.length ≤ 16384
 ·rw [yau (ya2 (by omega)), ybb]
  cases a with
  | nil => rw [yau (by simp), if_pos ⟨by simp, rfl⟩]
  | cons b l =>
   have hl : (0 : Int) < ((b :: l).length : Int) := by simp only [List.length_cons]; omega
   rw [yaA (by simp), ybo (yaZ hl), ydn]
   by_cases hb : b.toNat = 0
   ·rw [yaA (ykA (by omega)), if_neg]
    intro hm; have := hm.2; simp [yjb, hb] at this
   ·rw [yau (yip (by omega)), if_pos ⟨h, by simpa [yjb] using hb⟩]
 ·rw [yaA (yaZ (by omega)), if_neg fun hm => h hm.1]
theorem yjt (k x q s : Nat) (h : x < 2 ^ (k * q + s)) : dg k x q < 2 ^ s := by
 unfold dg
 refine Nat.lt_of_le_of_lt (Nat.mod_le _ _) ?_
 rw [Nat.div_lt_iff_lt_mul (Nat.two_pow_pos _), ← Nat.pow_add, Nat.add_comm s]
 exact h
theorem yiy (a : List UInt8) (hL : a.length ≤ 1000000) (n : Nat) (hn : n = (a.length + 3) / 4) (c m : Nat) (k0 : Nat → Nat → Nat → (Nat → Int) → Prop) (h : k0 n c m (G 32 (val a))) :
  ∀ (j i : Nat), i + j = a.length → zbq.l3 k0 (j + 1) a n c a.length i m (G 32 (val a % 2 ^ (8 * i))) := by
 intro j
 induction j with
 | zero =>
  intro i hi
  unfold zbq.l3 zbq.l3.step
  rw [yau (ya2 (by omega)), Nat.mod_eq_of_lt (by have := yhc a; rw [yop] at this; rwa [show i = a.length from by omega])]
  exact h
 | succ j ih =>
  intro i hi
  have ih := ih (i + 1) (by omega)
  have e : ((i + 1 : Nat) : Int) = (i : Int) + 1 := by omega
  rw [e] at ih
  unfold zbq.l3 zbq.l3.step
  simp (disch := omega) only [ybH, yfY, yar, yas, yb3, yaQ, yaZ, ya9, ya2, yaF, yba, Bool.and_self, Bool.not_false]
  have e1 : Int.toNat ((i : Int) / 4) = i / 4 := by omega
  have e2 : Int.toNat ((a.length : Int) - 1 - i) = a.length - 1 - i := by omega
  have e3 : 8 * ((i : Int) % 4) = ((8 * (i % 4) : Nat) : Int) := by omega
  have hd := ya5 8 (val a) i
  have e8 : (2 : Nat) ^ 8 = 256 := rfl
  rw [e1, e2, e3, yfy a i (by omega), ycr, Int.emod_eq_of_lt (by omega) (by omega), ybn,
   yqO _ _ _ (yjt 32 _ (i / 4) (8 * (i % 4)) (by rw [show 32 * (i / 4) + 8 * (i % 4) = 8 * i from by omega]; exact Nat.mod_lt _ (Nat.two_pow_pos _))) (by omega) (by omega)]
  rw [ygF (k := 32) (N' := val a % 2 ^ (8 * (i + 1)))]
  ·exact ih
  ·rw [ybh, Nat.add_mul, Nat.mul_assoc, ← Nat.pow_add, show 8 * (i % 4) + 32 * (i / 4) = 8 * i from by omega]; omega
  ·have h1 := yjt 32 (val a % 2 ^ (8 * i)) (i / 4) (8 * (i % 4)) (by rw [show 32 * (i / 4) + 8 * (i % 4) = 8 * i from by omega]; exact Nat.mod_lt _ (Nat.two_pow_pos _))
   have h2 : (dg 8 (val a) i + 1) * 2 ^ (8 * (i % 4)) ≤ 256 * 2 ^ (8 * (i % 4)) := Nat.mul_le_mul_right _ (by omega)
   have h3 : 256 * 2 ^ (8 * (i % 4)) ≤ 2 ^ 32 := by
    rw [show (256 : Nat) = 2 ^ 8 from rfl, ← Nat.pow_add]; exact Nat.pow_le_pow_right (by omega) (by omega)
   rw [Nat.add_mul] at h2
   omega
theorem ygk (a : List UInt8) (hL : a.length ≤ 1000000) (K : Nat → (Nat → Int) → Prop) (h : K ((a.length + 3) / 4) (G 32 (val a))) : zbq a K := by
 rw [zbq.is]; unfold zbq.d
 simp (disch := omega) only [ybH, yas, ya9, yaF, Bool.and_self]
 have e1 : Int.toNat (((a.length : Int) + 3) / 4) = (a.length + 3) / 4 := by omega
 rw [e1]
 refine ⟨a.length + 1, ?_⟩
 have := yiy a hL ((a.length + 3) / 4) rfl ((a.length + 3) / 4) ((a.length + 3) / 4) (fun y0 y1 y2 y3 => K y0 y3) h a.length 0 (by omega)
 rw [Nat.mul_zero, Nat.pow_zero, Nat.mod_one, ycx] at this
 exact this
theorem yjH {x n : Nat} (hn : n ≠ 0) (hx : x < 2 ^ (32 * n)) : (dg 32 x (n - 1) = 0 → x < 2 ^ (32 * (n - 1))) ∧ (dg 32 x (n - 1) ≠ 0 → wl 32 x = n) := by
 refine ⟨fun h => ?_, fun h => ytQ 32 (by omega) x n hx (.inr h)⟩
 have h2 := ybh 32 x (n - 1)
 rw [show n - 1 + 1 = n from by omega, Nat.mod_eq_of_lt hx, h, Nat.zero_mul, Nat.add_zero] at h2
 have := Nat.mod_lt x (Nat.two_pow_pos (32 * (n - 1)))
 omega
theorem yio (k0 : Nat → (Nat → Int) → Prop) (x : Nat) (h : k0 (wl 32 x) (G 32 x)) : ∀ (n : Nat), n ≤ 1000000000 → x < 2 ^ (32 * n) → zbe.l1 k0 (n + 1) n (G 32 x) := by
 intro n
 induction n with
 | zero =>
  intro _ hx
  have hx0 : x = 0 := by simp at hx; omega
  unfold zbe.l1 zbe.l1.step
  rw [yau (ya2 (by omega))]
  have e := yds 32
  subst hx0; rwa [e] at h
 | succ n ih =>
  intro hn hx
  obtain ⟨s1, s2⟩ := yjH (show n + 1 ≠ 0 by omega) hx
  rw [show n + 1 - 1 = n from by omega] at s1 s2
  unfold zbe.l1 zbe.l1.step
  simp (disch := omega) only [yar, yaZ, ya9, yaF, yba, Bool.and_self]
  have e1 : Int.toNat (((n + 1 : Nat) : Int) - 1) = n := by omega
  rw [e1, ybn]
  by_cases hd : dg 32 x n = 0
  ·rw [yaA (ykA (by omega))]
   exact ih (by omega) (s1 hd)
  ·rw [yau (yip (by omega))]
   rw [s2 hd] at h; exact h
theorem ykP (n x : Nat) (hn : n ≤ 1000000000) (hx : x < 2 ^ (32 * n)) (K : Nat → (Nat → Int) → Prop) (h : K (wl 32 x) (G 32 x)) : zbe n (G 32 x) K := by
 rw [zbe.is]; unfold zbe.d
 exact ⟨n + 1, yio _ x h n hn hx⟩
theorem yiB (k0 : Nat → Nat → Nat → (Nat → Int) → Prop) (x m : Nat) (h : ∀ c, k0 (wl 32 x) c m (G 32 x)) : ∀ (n c : Nat), n ≤ 1000000000 → n ≤ c → x < 2 ^ (32 * n) → zbd.l1 k0 (n + 1) n c m (G 32 x) := by
 intro n
 induction n with
 | zero =>
  intro c _ _ hx
  have hx0 : x = 0 := by simp at hx; omega
  unfold zbd.l1 zbd.l1.step
  rw [yau (ya2 (by omega))]
  have e := yds 32
  subst hx0; rw [e] at h; exact h c
 | succ n ih =>
  intro c hn hc hx
  obtain ⟨s1, s2⟩ := yjH (show n + 1 ≠ 0 by omega) hx
  rw [show n + 1 - 1 = n from by omega] at s1 s2
  unfold zbd.l1 zbd.l1.step
  simp (disch := omega) only [yar, yaZ, ya9, yaF, yba, Bool.and_self]
  have e1 : Int.toNat (((n + 1 : Nat) : Int) - 1) = n := by omega
  rw [e1, ybn]
  by_cases hd : dg 32 x n = 0
  ·rw [yaA (ykA (by omega))]
   exact ih (c - 0) (by omega) (by omega) (s1 hd)
  ·rw [yau (yip (by omega))]
   rw [s2 hd] at h; exact h c
theorem ycY (n c m x : Nat) (hn : n ≤ 1000000000) (hc : n ≤ c) (hx : x < 2 ^ (32 * n)) (K : Nat → Nat → Nat → (Nat → Int) → Prop) (h : ∀ c, K (wl 32 x) c m (G 32 x)) : zbd n c m (G 32 x) K := by
 rw [zbd.is]; unfold zbd.d
 exact ⟨n + 1, yiB _ x m h n c hn hc hx⟩
theorem yiE (k0 : Nat → Nat → (Nat → Int) → Prop) (x m : Nat) (h : k0 (wl 32 x) m (G 32 x)) : ∀ (n : Nat), n ≤ 1000000000 → x < 2 ^ (32 * n) → zbc.l1 k0 (n + 1) n m (G 32 x) := by
 intro n
 induction n with
 | zero =>
  intro _ hx
  have hx0 : x = 0 := by simp at hx; omega
  unfold zbc.l1 zbc.l1.step
  rw [yau (ya2 (by omega))]
  have e := yds 32
  subst hx0; rwa [e] at h
 | succ n ih =>
  intro hn hx
  obtain ⟨s1, s2⟩ := yjH (show n + 1 ≠ 0 by omega) hx
  rw [show n + 1 - 1 = n from by omega] at s1 s2
  unfold zbc.l1 zbc.l1.step
  simp (disch := omega) only [yar, yaZ, ya9, yaF, yba, Bool.and_self]
  have e1 : Int.toNat (((n + 1 : Nat) : Int) - 1) = n := by omega
  rw [e1, ybn]
  by_cases hd : dg 32 x n = 0
  ·rw [yaA (ykA (by omega))]
   exact ih (by omega) (s1 hd)
  ·rw [yau (yip (by omega))]
   rw [s2 hd] at h; exact h
theorem ydX (n m x : Nat) (hn : n ≤ 1000000000) (hx : x < 2 ^ (32 * n)) (K : Nat → Nat → (Nat → Int) → Prop) (h : K (wl 32 x) m (G 32 x)) : zbc n m (G 32 x) K := by
 rw [zbc.is]; unfold zbc.d
 exact ⟨n + 1, yiE _ x m h n hn hx⟩
theorem ysP (x q s : Nat) (hs : s < 4) : dg 8 x (4 * q + s) = dg 32 x q / 2 ^ (8 * s) % 256 := by
 unfold dg
 rw [show 8 * (4 * q + s) = 32 * q + 8 * s from by omega, Nat.pow_add, ← Nat.div_div_eq_div_mul]
 generalize x / 2 ^ (32 * q) = y
 have h1 : (2 : Nat) ^ 32 = 2 ^ (8 * s) * (256 * 2 ^ (8 * (3 - s))) := by
  rw [show (256 : Nat) = 2 ^ 8 from rfl, ← Nat.pow_add, ← Nat.pow_add]; congr 1; omega
 rw [h1, Nat.mod_mul_right_div_self, Nat.mod_mul_right_mod]
theorem ysh (a s : Nat) (hs : s ≤ 32) : ya7 .u32 (a : Int) (s : Int) = ((a / 2 ^ s : Nat) : Int) := by
 rw [yfW (k := .u32) hs]; simp
theorem yh5 (x n : Nat) (hn : n ≤ 100000000) (L c m : Nat) (hL : L = 4 * n) (k0 : Nat → Nat → Nat → (Nat → Int) → Prop) (h : k0 L c m (BE L L x)) :
  ∀ (j i : Nat), i + j = L → zbi.l4 k0 (j + 1) n (G 32 x) L c L i m (BE L i x) := by
 intro j
 induction j with
 | zero =>
  intro i hi
  unfold zbi.l4 zbi.l4.step
  rw [yau (ya2 (by omega)), show i = L from by omega]
  exact h
 | succ j ih =>
  intro i hi
  have ih := ih (i + 1) (by omega)
  have e : ((i + 1 : Nat) : Int) = (i : Int) + 1 := by omega
  rw [e] at ih
  unfold zbi.l4 zbi.l4.step
  simp (disch := omega) only [ybH, yfY, yar, yas, yb3, yaQ, yaZ, ya9, ya2, yaF, yba, Bool.and_self, Bool.not_false]
  have e1 : Int.toNat ((i : Int) / 4) = i / 4 := by omega
  have e2 : Int.toNat ((L : Int) - 1 - i) = L - 1 - i := by omega
  have e3 : 8 * ((i : Int) % 4) = ((8 * (i % 4) : Nat) : Int) := by omega
  rw [e1, e2, e3, ybn, ysh _ _ (by omega), yjc, ysm _ _ _ (dg 8 x i : Int), ypF L i x (by omega)]
  ·exact ih
  ·have := ysP x (i / 4) (i % 4) (by omega)
   rw [show 4 * (i / 4) + i % 4 = i from by omega] at this
   rw [this]; simp
theorem ygA (x L : Nat) (hL : L ≤ 400000000) (c m : Nat) (k0 : Nat → Nat → Nat → Nat → (Nat → Int) → Prop)
  (h : ∀ o n c, o + n = L → x < 2 ^ (8 * n) → (n = 0 ∨ dg 8 x (n - 1) ≠ 0) → k0 o n c m (BE L L x)) :
  ∀ (n o c : Nat), o + n = L → n ≤ c → x < 2 ^ (8 * n) → zbi.l8 k0 (n + 1) o n c m (BE L L x) := by
 intro n
 induction n with
 | zero =>
  intro o c ho _ hx
  unfold zbi.l8 zbi.l8.step
  rw [yau (ya2 (by omega))]
  exact h o 0 c ho hx (.inl rfl)
 | succ n ih =>
  intro o c ho hc hx
  unfold zbi.l8 zbi.l8.step
  simp (disch := omega) only [yaZ, ya9, yaF, yba, Bool.and_self, yfn]
  rw [ytg L x _ (by omega), show L - 1 - (o + 0) = n from by omega]
  by_cases hd : dg 8 x n = 0
  ·rw [yaA (ykA (by omega))]
   have e1 : Int.toNat ((n + 1 : Nat) : Int) - 1 = n := by omega
   rw [e1]
   refine ih (o + 1) (c - 1) (by omega) (by omega) ?_
   have h2 := ybh 8 x n
   rw [Nat.mod_eq_of_lt hx, hd, Nat.zero_mul, Nat.add_zero] at h2
   have := Nat.mod_lt x (Nat.two_pow_pos (8 * n))
   omega
  ·rw [yau (yip (by omega))]
   exact h o (n + 1) c ho hx (.inr hd)
theorem yb7 (n x : Nat) (hn : n ≤ 100000000) (hx : x < 2 ^ (32 * n)) (K : List UInt8 → Prop) (h : K (nb x)) : zbi n (G 32 x) K := by
 rw [zbi.is]; unfold zbi.d
 refine ykP n x (by omega) hx _ ?_
 have hw := (yet 32 (by omega) x n).2 hx
 have hl := yeJ 32 (by omega) x
 generalize wl 32 x = w at hw hl
 simp (disch := omega) only [yb3, ya9, yaF, Bool.and_self]
 have e1 : Int.toNat (4 * (w : Int)) = 4 * w := by omega
 rw [e1]
 refine ⟨4 * w + 1, ?_⟩
 have := yh5 x w (by omega) (4 * w) (4 * w) (4 * w) rfl (fun y0 y1 y2 y3 => ∃ n, zbi.l8 (fun y0 y1 y2 y3 y4 => K (ybx y1 (shift y0 y4))) n 0 y0 y1 y2 y3) ?_ (4 * w) 0 (by omega)
 ·rw [yo7] at this
  exact this
 ·refine ⟨4 * w + 1, ?_⟩
  refine ygA x (4 * w) (by omega) (4 * w) (4 * w) _ ?_ (4 * w) 0 (4 * w) (by omega) (Nat.le_refl _) (by rw [show 8 * (4 * w) = 32 * w from by omega]; exact hl)
  intro o n c ho hx' ht
  rw [ymt, ynM (4 * w) o n x ho hx' ht]
  exact h
theorem yhU (n x : Nat) (hn : n ≤ 100000000) (hx : x < 2 ^ (32 * n)) (K : List UInt8 → Int → Prop) (h : if 16384 < (nb x).length then K [] 4 else K (nb x) 0) : zbn n (G 32 x) K := by
 rw [zbn.is]; unfold zbn.d
 refine yb7 n x hn hx _ ?_
 by_cases hl : 16384 < (nb x).length
 ·rw [yaA (yaZ (by omega))]; rwa [if_pos hl] at h
 ·rw [yau (ya2 (by omega))]; rwa [if_neg hl] at h
def sgn (x y : Nat) : Int := if x < y then -1 else if y < x then 1 else 0
theorem ykF (x y n m : Nat) (k0 : Int → Prop) (k1 : Prop) (hn : n ≤ 1000000000) (h : x / 2 ^ (32 * n) = y / 2 ^ (32 * n)) :
  ∀ (i : Nat), i ≤ n → i ≤ m → x / 2 ^ (32 * i) = y / 2 ^ (32 * i) → (x < y → k0 (-1)) → (y < x → k0 1) → (x = y → k1) → ∀ (j : Nat), n = n → zbb.l6 k0 k1 (i + 1) n (G 32 x) m (G 32 y) ((i : Int) - 1) := by
 intro i
 induction i with
 | zero =>
  intro _ _ he _ _ h3 _ _
  unfold zbb.l6 zbb.l6.step
  rw [yau (yeu (by omega))]
  simp at he
  exact h3 he
 | succ i ih =>
  intro hin him he h1 h2 h3 j _
  unfold zbb.l6 zbb.l6.step
  have e0 : ((i + 1 : Nat) : Int) - 1 = (i : Int) := by omega
  rw [e0]
  simp (disch := omega) only [yar, yaZ, ya9, yaF, yba, Bool.and_self, Int.toNat_natCast]
  rw [ybn, ybn, yrV, yrV]
  have d1 := ydl 32 x i
  have d2 := ydl 32 y i
  rw [← he] at d2
  by_cases hlt : dg 32 x i < dg 32 y i
  ·rw [yaA (by simpa using hlt)]
   refine h1 (Classical.byContradiction fun hc => ?_)
   have := Nat.div_le_div_right (c := 2 ^ (32 * i)) (show y ≤ x by omega)
   omega
  ·rw [yau (by simpa using hlt)]
   by_cases hgt : dg 32 y i < dg 32 x i
   ·rw [yaA (by simpa using hgt)]
    refine h2 (Classical.byContradiction fun hc => ?_)
    have := Nat.div_le_div_right (c := 2 ^ (32 * i)) (show x ≤ y by omega)
    omega
   ·rw [yau (by simpa using hgt)]
    exact ih (by omega) (by omega) (by omega) h1 h2 h3 j rfl
theorem yjp (x y n m : Nat) (hn : n ≤ 1000000000) (hm : m ≤ 1000000000) (hxn : n = wl 32 x) (hym : m = wl 32 y) (K : Int → Prop) (h : K (sgn x y)) : zbb n (G 32 x) m (G 32 y) K := by
 rw [zbb.is]; unfold zbb.d
 have h32 : (32 : Nat) ≠ 0 := by omega
 by_cases hlt : n < m
 ·have : x < y := Classical.byContradiction fun hc => by have := yb6 h32 (show y ≤ x by omega); omega
  rw [yaA (yaZ (by omega))]
  unfold sgn at h; rwa [if_pos this] at h
 ·rw [yau (ya2 (by omega))]
  by_cases hgt : m < n
  ·have : y < x := Classical.byContradiction fun hc => by have := yb6 h32 (show x ≤ y by omega); omega
   rw [yaA (yaZ (by omega))]
   unfold sgn at h; rwa [if_neg (by omega), if_pos this] at h
  ·rw [yau (ya2 (by omega)), yar (by omega) (by omega)]
   have h1 := yeJ 32 h32 x
   have h2 := yeJ 32 h32 y
   have hnm : n = m := by omega
   have q : x / 2 ^ (32 * n) = y / 2 ^ (32 * n) := by
    rw [Nat.div_eq_of_lt (hxn ▸ h1), Nat.div_eq_of_lt (by rw [hnm, hym]; exact h2)]
   refine ⟨n + 1, ykF x y n m _ _ hn q n (Nat.le_refl _) (by omega) q (fun hl => ?_) (fun hl => ?_) (fun he => ?_) 0 rfl⟩
   ·unfold sgn at h; rwa [if_pos hl] at h
   ·unfold sgn at h; rwa [if_neg (by omega), if_pos hl] at h
   ·unfold sgn at h; rwa [if_neg (by omega), if_neg (by omega)] at h
end Go.Ev.S

/- Natural numbers as rows of words: sums, differences, products. -/
set_option linter.unusedVariables false
set_option linter.unusedSimpArgs false
set_option maxRecDepth 8000
namespace Go.Ev.S
open Go Go.Ev
theorem yno {k N j s : Nat} {P : Nat} (hP : P = 2 ^ (k * j)) : ∃ N', N' + dg k N j * P = N + s % 2 ^ k * P ∧ N' + s / 2 ^ k * 2 ^ (k * (j + 1)) + dg k N j * P = N + s * P := by
 have h := ygY k N j
 refine ⟨N % 2 ^ (k * j) + s % 2 ^ k * 2 ^ (k * j) + N / 2 ^ (k * (j + 1)) * 2 ^ (k * (j + 1)), ?_, ?_⟩
 ·rw [hP]; omega
 ·have h2 := Nat.div_add_mod s (2 ^ k)
  have h3 : s * P = s % 2 ^ k * P + s / 2 ^ k * 2 ^ (k * (j + 1)) := by
   conv => lhs; rw [← h2]
   rw [Nat.add_mul, yb9, ← hP, Nat.mul_comm (2 ^ k), Nat.mul_assoc, Nat.mul_comm (2 ^ k)]
   omega
  rw [h3, hP]; omega
theorem ys1 (x n : Nat) (hx : x < 2 ^ (32 * n)) : ovl 0 (ygj n (n + 1)) (G 32 x) (fun _ => 0) = G 32 x := by
 funext i
 have hm : ygj n (n + 1) = n := by unfold ygj; exact Nat.min_eq_left (by omega)
 rw [hm]
 unfold ovl
 by_cases hi : i < n
 ·have : (Nat.ble 0 i && Nat.blt i (0 + n)) = true := by simp [hi]
  rw [this]; rfl
 ·have : (Nat.ble 0 i && Nat.blt i (0 + n)) = false := by
   rw [Bool.eq_false_iff]; intro h; exact hi (by simpa using h)
  rw [this]
  show (0 : Int) = G 32 x i
  rw [ybn, yeK 32 x n i hx (by omega)]; rfl
theorem B32 : (2 : Nat) ^ 32 = 4294967296 := rfl
theorem ylu (x y n m : Nat) (hn : n ≤ 1000000) (hm : m ≤ n) (hx : x < 2 ^ (32 * n)) (hy : y < 2 ^ (32 * m)) (c0 m0 : Nat) (k0 : Nat → Nat → Nat → (Nat → Int) → Prop) (h : k0 (n + 1) c0 m0 (G 32 (x + y))) :
  ∀ (j i N c : Nat), i + j = n + 1 → N + c * 2 ^ (32 * i) = x + y % 2 ^ (32 * i) → c < 4294967296 → zbl.l7 k0 (j + 1) m (G 32 y) (n + 1) c0 c i m0 (G 32 N) := by
 have hxy : x + y < 2 ^ (32 * (n + 1)) := by
  have h1 : y < 2 ^ (32 * n) := Nat.lt_of_lt_of_le hy (yb0 hm)
  rw [yb9, B32]; omega
 have fin : ∀ (i N : Nat), m ≤ i → N = x + y % 2 ^ (32 * i) → N = x + y := by
  intro i N hi hN
  rw [hN, Nat.mod_eq_of_lt (Nat.lt_of_lt_of_le hy (yb0 hi))]
 intro j
 induction j with
 | zero =>
  intro i N c hi hN hc
  have hi : i = n + 1 := by omega
  have hc0 : c = 0 := by
   apply Classical.byContradiction
   intro hne
   have h1 : 1 * 2 ^ (32 * i) ≤ c * 2 ^ (32 * i) := Nat.mul_le_mul_right _ (by omega)
   have h2 := Nat.mod_le y (2 ^ (32 * i))
   rw [hi] at h1 hN h2
   omega
  have hN2 := fin i N (by omega) (by rw [hc0] at hN; omega)
  unfold zbl.l7 zbl.l7.step
  rw [yau (ya2 (by omega)), yau (ya2 (by omega)), hN2]
  exact h
 | succ j ih =>
  intro i N c hi hN hc
  have hdN := ya5 32 N i
  have hdy := ya5 32 y i
  rw [B32] at hdN hdy
  obtain ⟨N', s1, s2⟩ := yno (k := 32) (N := N) (j := i) (s := c + dg 32 N i + dg 32 y i) rfl
  have hy1 := ybh 32 y i
  have next := ih (i + 1) N' ((c + dg 32 N i + dg 32 y i) / 4294967296) (by omega) (by
   rw [hy1]
   rw [Nat.add_mul, Nat.add_mul] at s2
   rw [B32] at s2
   omega) (by omega)
  have e : ((i + 1 : Nat) : Int) = (i : Int) + 1 := by omega
  rw [e] at next
  have hG : upd (G 32 N) i (((c + dg 32 N i + dg 32 y i) % 4294967296 : Nat) : Int) = G 32 N' := ygF s1 (Nat.mod_lt _ (by omega))
  unfold zbl.l7 zbl.l7.step
  by_cases hlt : i < m
  ·have e1 : ((c : Int) + (dg 32 N i : Int) + (dg 32 y i : Int)) / 4294967296 = (((c + dg 32 N i + dg 32 y i) / 4294967296 : Nat) : Int) := by omega
   have e2 : ((c : Int) + (dg 32 N i : Int) + (dg 32 y i : Int)) % 4294967296 = (((c + dg 32 N i + dg 32 y i) % 4294967296 : Nat) : Int) := by omega
   simp (disch := omega) only [yaZ, ya9, yaF, yba, Bool.and_self, Int.toNat_natCast, ybn, yaQ, yg6, yas, ydj, ycr, e1, e2]
   rw [hG]; exact next
  ·have hd0 : dg 32 y i = 0 := yeK 32 y m i hy (by omega)
   rw [hd0, Nat.add_zero] at next hG
   rw [yau (ya2 (by omega))]
   by_cases hc0 : c = 0
   ·rw [yau (ya2 (by omega)), fin i N (by omega) (by rw [hc0] at hN; omega)]
    exact h
   ·have e1 : ((c : Int) + (dg 32 N i : Int)) / 4294967296 = (((c + dg 32 N i) / 4294967296 : Nat) : Int) := by omega
    have e2 : ((c : Int) + (dg 32 N i : Int)) % 4294967296 = (((c + dg 32 N i) % 4294967296 : Nat) : Int) := by omega
    simp (disch := omega) only [yaZ, ya2, ya9, yaF, yba, yep, Bool.and_self, Int.toNat_natCast, ybn, yaQ, yg6, yas, ydj, ycr, e1, e2]
    rw [hG]; exact next
theorem yom (x y n m : Nat) (hn : n ≤ 1000000) (hm : m ≤ 1000000) (hx : x < 2 ^ (32 * n)) (hy : y < 2 ^ (32 * m)) (K : Nat → (Nat → Int) → Prop) (h : K (wl 32 (x + y)) (G 32 (x + y))) : zbl n (G 32 x) m (G 32 y) K := by
 have main : ∀ (x y n m : Nat), n ≤ 1000000 → m ≤ n → x < 2 ^ (32 * n) → y < 2 ^ (32 * m) → K (wl 32 (x + y)) (G 32 (x + y)) →
   ∃ f, zbl.l7 (fun y0 y1 y2 y3 => zbd y0 y1 y2 y3 fun y0 y1 y2 y3 => K y0 y3) f m (G 32 y) (n + 1) (n + 1) 0 0 (n + 1) (G 32 x) := by
  intro x y n m hn hm hx hy h
  refine ⟨n + 2, ?_⟩
  have := ylu x y n m hn hm hx hy (n + 1) (n + 1) (fun y0 y1 y2 y3 => zbd y0 y1 y2 y3 fun y0 y1 y2 y3 => K y0 y3) ?_ (n + 1) 0 x 0 (by omega) (by simp [Nat.mod_one]) (by omega)
  ·exact this
  ·refine ycY (n + 1) (n + 1) (n + 1) (x + y) (by omega) (Nat.le_refl _) ?_ _ fun c => h
   have h1 : y < 2 ^ (32 * n) := Nat.lt_of_lt_of_le hy (yb0 hm)
   rw [yb9, B32]; omega
 rw [zbl.is]; unfold zbl.d
 by_cases hlt : n < m
 ·have e1 : Int.toNat ((m : Int) + 1) = m + 1 := by omega
  simp (disch := omega) only [yaZ, ya9, yas, yaF, yba, Bool.and_self, e1]
  rw [ys1 y m hy]
  exact main y x m n hm (by omega) hy hx (by rw [Nat.add_comm]; exact h)
 ·have e1 : Int.toNat ((n : Int) + 1) = n + 1 := by omega
  simp (disch := omega) only [ya2, ya9, yas, yaF, yep, Bool.and_self, e1]
  rw [ys1 x n hx]
  exact main x y n m hn (by omega) hx hy h
end Go.Ev.S

/- The functions of natural numbers: held against each other, added, subtracted, multiplied; their texts. -/
set_option linter.unusedVariables false
set_option linter.unusedSimpArgs false
set_option maxRecDepth 8000
namespace Go.Ev.S
open Go Go.Ev
theorem yc3 (a b : List UInt8) (K : Bool → Prop) : zbk a b K = K (decide (May a ∧ May b)) := by
 rw [zbk.is]; unfold zbk.d
 rw [ya1, ya1]
 by_cases ha : May a
 ·rw [if_pos ha, yaA (by rfl)]
  by_cases hb : May b
  ·rw [if_pos hb]; simp [ha, hb]; rfl
  ·rw [if_neg hb]; simp [ha, hb]; rfl
 ·rw [if_neg ha, yau (by rfl)]; simp [ha]
theorem yq6 (x : Nat) : wl 32 x = (wl 8 x + 3) / 4 := by
 have e : ∀ m, wl 32 x ≤ m ↔ wl 8 x ≤ 4 * m := fun m => by
  rw [yet 32 (by omega), yet 8 (by omega), show 8 * (4 * m) = 32 * m from by omega]
 have h1 := (e (wl 32 x)).1 (Nat.le_refl _)
 have h2 := (e ((wl 8 x + 3) / 4)).2 (by omega)
 omega
theorem ylL {a : List UInt8} (h : yjb a = true) : wl 8 (val a) = a.length := by rw [ytK, yjh h]
theorem ync {a : List UInt8} (h : yjb a = true) : (a.length + 3) / 4 = wl 32 (val a) := by rw [yq6, ylL h]
theorem ys6 {x y n : Nat} (hx : wl 32 x ≤ n) (hy : wl 32 y ≤ n) : wl 32 (x + y) ≤ n + 1 := by
 have h1 := (yet 32 (by omega) _ _).1 hx
 have h2 := (yet 32 (by omega) _ _).1 hy
 exact (yet 32 (by omega) _ _).2 (by rw [yb9, B32]; omega)
theorem May.words {a : List UInt8} (h : May a) (K : Nat → (Nat → Int) → Prop) (hk : K (wl 32 (val a)) (G 32 (val a))) : zbq a K := by
 refine ygk a (by have := h.1; omega) K ?_
 rw [ync h.2]; exact hk
theorem May.wl {a : List UInt8} (h : May a) : wl 32 (val a) ≤ 4096 := by rw [← ync h.2]; have := h.1; omega
theorem May.lt {a : List UInt8} (h : May a) : val a < 2 ^ (32 * Ev.S.wl 32 (val a)) := yeJ 32 (by omega) _
theorem May.nb {a : List UInt8} (h : May a) : nb (val a) = a := yjh h.2
theorem yfX (x : Nat) : x < 2 ^ (32 * wl 32 x) := yeJ 32 (by omega) _
def yn2 (K : List UInt8 → Int → Prop) (x : Nat) : Prop := if 16384 < (nb x).length then K [] 4 else K (nb x) 0
theorem yoE (a b : List UInt8) (K : Int → Int → Prop) (h1 : ¬ (May a ∧ May b) → K 0 2) (h2 : May a → May b → K (sgn (val a) (val b)) 0) : zas a b K := by
 rw [zas.is]; unfold zas.d
 rw [yc3]
 by_cases h : May a ∧ May b
 ·rw [yau (by simp [h])]
  refine h.1.words _ (h.2.words _ ?_)
  have := h.1.wl; have := h.2.wl
  exact yjp _ _ _ _ (by omega) (by omega) rfl rfl _ (h2 h.1 h.2)
 ·rw [yaA (by simp [h])]; exact h1 h
theorem yok (a b : List UInt8) (K : List UInt8 → Int → Prop) (h1 : ¬ (May a ∧ May b) → K [] 2) (h2 : May a → May b → yn2 K (val a + val b)) : zaq a b K := by
 rw [zaq.is]; unfold zaq.d
 rw [yc3]
 by_cases h : May a ∧ May b
 ·rw [yau (by simp [h])]
  refine h.1.words _ (h.2.words _ ?_)
  have w1 := h.1.wl; have w2 := h.2.wl
  refine yom _ _ _ _ (by omega) (by omega) h.1.lt h.2.lt _ ?_
  refine yhU _ _ ?_ (yfX _) _ (h2 h.1 h.2)
  have := ys6 w1 w2
  omega
 ·rw [yaA (by simp [h])]; exact h1 h
theorem ypj (x y : Nat) : ltI (sgn x y) 0 = decide (x < y) := by
 unfold sgn
 by_cases h : x < y
 ·rw [if_pos h, yaZ (by omega)]; simp [h]
 ·rw [if_neg h]
  by_cases h2 : y < x
  ·rw [if_pos h2, ya2 (by omega)]; simp [h]
  ·rw [if_neg h2, ya2 (by omega)]; simp [h]
theorem yjK : ∀ (a b : List UInt8), a.length = b.length → Op.bytesLess a b = decide (val a < val b) := by
 intro a
 induction a with
 | nil => intro b h; cases b with
  | nil => rfl
  | cons _ _ => simp at h
 | cons x l ih =>
  intro b h
  cases b with
  | nil => exact absurd h (by simp)
  | cons y r =>
   have hl : l.length = r.length := by simpa using h
   have h1 := yhc l
   have h2 := yhc r
   rw [hl] at h1
   rw [ygR, ygR, hl]
   simp only [Op.bytesLess]
   rw [ih r hl]
   have hP := Nat.pow_pos (n := r.length) (show 0 < 256 by omega)
   generalize 256 ^ r.length = P at *
   by_cases hxy : x = y
   ·subst hxy; simp
   ·have hne : x.toNat ≠ y.toNat := fun e => hxy (UInt8.toNat_inj.1 e)
    have e1 : (x == y) = false := by simpa using hxy
    rw [e1, Bool.false_and, Bool.or_false]
    rw [decide_eq_decide, UInt8.lt_iff_toNat_lt]
    constructor
    ·intro hlt
     have : (x.toNat + 1) * P ≤ y.toNat * P := Nat.mul_le_mul_right _ hlt
     rw [Nat.add_mul] at this; omega
    ·intro hlt
     apply Classical.byContradiction
     intro hc
     have : (y.toNat + 1) * P ≤ x.toNat * P := Nat.mul_le_mul_right _ (by omega)
     rw [Nat.add_mul] at this; omega
theorem yr4 (a b : List UInt8) (h : a.length = b.length) : ltS a b = decide (val a < val b) := yjK a b h
theorem ykq (a b : List UInt8) : eqS a b = decide (a = b) := by
 unfold eqS
 by_cases h : a = b <;> simp [h]
def yt7 (n : Nat) : UInt8 := UInt8.ofNat (if n < 10 then 48 + n else 87 + n)
def hx (x : Nat) : List UInt8 := if h : x = 0 then [] else hx (x / 16) ++ [yt7 (x % 16)]
decreasing_by omega
theorem ytM {a b : Nat} (h : a ≤ b) : leN a b = true := Nat.ble_eq_true_of_le h
end Go.Ev.S

/- Natural numbers as rows of words: moved to the left and to the right; how long they are. -/
set_option linter.unusedVariables false
set_option linter.unusedSimpArgs false
set_option maxRecDepth 8000
namespace Go.Ev.S
open Go Go.Ev
theorem yeU {d m r : Nat} (hd : d < 2 ^ r) (hm : m % 2 ^ r = 0) : d ||| m = d + m := by
 have h5 := Nat.div_add_mod m (2 ^ r)
 rw [hm, Nat.add_zero, Nat.mul_comm] at h5
 have := Nat.shiftLeft_add_eq_or_of_lt hd (m / 2 ^ r)
 rw [Nat.shiftLeft_eq, h5] at this
 rw [Nat.or_comm, ← this, Nat.add_comm]
theorem B64 : (2 : Nat) ^ 64 = 18446744073709551616 := rfl
theorem yk7 (a r : Nat) (ha : a < 4294967296) (hr : r < 32) : ybQ .u64 (a : Int) (r : Int) = ((a * 2 ^ r : Nat) : Int) ∧ a * 2 ^ r < 9223372036854775808 := by
 have h1 : a * 2 ^ r < 2 ^ 63 := by
  have h2 : a * 2 ^ r < 2 ^ 32 * 2 ^ 31 := Nat.mul_lt_mul_of_lt_of_le (by rw [B32]; exact ha) (Nat.pow_le_pow_right (by omega) (by omega)) (Nat.two_pow_pos _)
  rwa [← Nat.pow_add] at h2
 have e63 : (2 : Nat) ^ 63 = 9223372036854775808 := rfl
 have hb : IntKind.bits .u64 = 64 := rfl
 refine ⟨?_, by omega⟩
 rw [yn9 (k := .u64) rfl a r (by rw [hb]; omega), hb, Nat.mod_eq_of_lt (by rw [B64]; omega)]
theorem yjB (s B P : Nat) : s % B * P + s / B * (P * B) = s * P := by
 have := Nat.div_add_mod s B
 conv => rhs; rw [← this]
 rw [Nat.add_mul, Nat.mul_comm B, Nat.mul_assoc, Nat.mul_comm B, Nat.add_comm]
theorem yr9 (x i s t y N : Nat) (ht : t = i + s / 32) (hy : dg 32 x i * 2 ^ (s % 32) = y) (hNN : x % 2 ^ (32 * i) * 2 ^ s = N) :
  ∃ N1, upd (G 32 N) t (((dg 32 N t ||| y % 4294967296 : Nat)) : Int) = G 32 N1 ∧ dg 32 N1 (t + 1) = 0 ∧ upd (G 32 N1) (t + 1) ((y / 4294967296 : Nat) : Int) = G 32 (x % 2 ^ (32 * (i + 1)) * 2 ^ s) := by
 have hdx := ya5 32 x i
 rw [B32] at hdx
 have hr : s % 32 < 32 := Nat.mod_lt _ (by omega)
 have hx := Nat.mod_lt x (Nat.two_pow_pos (32 * i))
 have hp : 2 ^ (32 * i) * 2 ^ s = 2 ^ (32 * t + s % 32) := by rw [← Nat.pow_add]; congr 1; omega
 have hN : N < 2 ^ (32 * t + s % 32) := by
  rw [← hp, ← hNN]; exact Nat.mul_lt_mul_of_pos_right hx (Nat.two_pow_pos _)
 have hlow := yjt 32 N t (s % 32) hN
 have hN1 : N < 2 ^ (32 * (t + 1)) := Nat.lt_of_lt_of_le hN (Nat.pow_le_pow_right (by omega) (by omega))
 have hym : y % 4294967296 % 2 ^ (s % 32) = 0 := by
  rw [show (4294967296 : Nat) = 2 ^ 32 from rfl, Nat.mod_mod_of_dvd _ (Nat.pow_dvd_pow 2 (by omega)), ← hy]
  exact Nat.mul_mod_left _ _
 have hor : dg 32 N t ||| y % 4294967296 = dg 32 N t + y % 4294967296 := yeU hlow hym
 have hsum : dg 32 N t + y % 4294967296 < 2 ^ 32 := by
  rw [← hor]; exact Nat.or_lt_two_pow (ya5 32 N t) (by rw [B32]; exact Nat.mod_lt _ (by omega))
 have hyl : y / 4294967296 < 2 ^ 32 := by
  rw [B32, Nat.div_lt_iff_lt_mul (by omega), ← hy]
  have : dg 32 x i * 2 ^ (s % 32) < 2 ^ 32 * 2 ^ 32 := Nat.mul_lt_mul_of_lt_of_le (by rw [B32]; exact hdx) (Nat.pow_le_pow_right (by omega) (by omega)) (Nat.two_pow_pos _)
  rw [B32] at this; exact this
 have hG1 : upd (G 32 N) t (((dg 32 N t ||| y % 4294967296 : Nat)) : Int) = G 32 (N + y % 4294967296 * 2 ^ (32 * t)) := by
  rw [hor]
  refine ygF ?_ hsum
  rw [Nat.add_mul]; omega
 have hlt : N + y % 4294967296 * 2 ^ (32 * t) < 2 ^ (32 * (t + 1)) := by
  have hNl : N = N % 2 ^ (32 * t) + dg 32 N t * 2 ^ (32 * t) := by
   have := ybh 32 N t
   rw [Nat.mod_eq_of_lt hN1] at this; exact this
  have h1 := yhr 32 (N % 2 ^ (32 * t)) (dg 32 N t + y % 4294967296) t (Nat.mod_lt _ (Nat.two_pow_pos _)) hsum
  rw [Nat.add_mul] at h1
  omega
 refine ⟨N + y % 4294967296 * 2 ^ (32 * t), hG1, yd0 32 _ _ hlt, ?_⟩
 rw [yk6 32 _ _ (t + 1) hlt hyl]
 refine congrArg (G 32) ?_
 have h2 := yjB y 4294967296 (2 ^ (32 * t))
 rw [yb9, B32]
 have h3 : y * 2 ^ (32 * t) = dg 32 x i * 2 ^ (32 * i) * 2 ^ s := by
  rw [← hy, Nat.mul_assoc, ← Nat.pow_add, Nat.mul_assoc, ← Nat.pow_add]; congr 2; omega
 rw [ybh, Nat.add_mul, hNN, ← h3]
 omega
theorem ymi (x n s : Nat) (hn : n ≤ 1000000) (hs : s ≤ 100000000) (hx : x < 2 ^ (32 * n)) (c0 m0 : Nat) (k0 : Nat → Nat → Nat → (Nat → Int) → Prop) (h : k0 (n + s / 32 + 1) c0 m0 (G 32 (x * 2 ^ s))) :
  ∀ (j i : Nat), i + j = n → zbo.l5 k0 (j + 1) s (n + s / 32 + 1) c0 n (G 32 x) n i m0 (G 32 (x % 2 ^ (32 * i) * 2 ^ s)) := by
 intro j
 induction j with
 | zero =>
  intro i hi
  unfold zbo.l5 zbo.l5.step
  rw [yau (ya2 (by omega)), show i = n from by omega, Nat.mod_eq_of_lt hx]
  exact h
 | succ j ih =>
  intro i hi
  have ih := ih (i + 1) (by omega)
  have e : ((i + 1 : Nat) : Int) = (i : Int) + 1 := by omega
  obtain ⟨N1, u1, u2, u3⟩ := yr9 x i s _ _ _ rfl rfl rfl
  rw [e, ← u3] at ih
  have hd := ya5 32 x i
  rw [B32] at hd
  obtain ⟨q1, q2⟩ := yk7 (dg 32 x i) (s % 32) hd (Nat.mod_lt _ (by omega))
  have e1 : Int.toNat ((i : Int) + (s : Int) / 32) = i + s / 32 := by omega
  have e2 : Int.toNat ((i : Int) + (s : Int) / 32 + 1) = i + s / 32 + 1 := by omega
  have e3 : (s : Int) % 32 = ((s % 32 : Nat) : Int) := by omega
  have e4 : ((dg 32 x i * 2 ^ (s % 32) : Nat) : Int) % 4294967296 = ((dg 32 x i * 2 ^ (s % 32) % 4294967296 : Nat) : Int) := by omega
  have e5 : ((dg 32 x i * 2 ^ (s % 32) : Nat) : Int) / 4294967296 % 4294967296 = ((dg 32 x i * 2 ^ (s % 32) / 4294967296 : Nat) : Int) := by omega
  have hb : IntKind.bits .u32 = 32 := rfl
  have o1 : orI .u32 ((dg 32 (x % 2 ^ (32 * i) * 2 ^ s) (i + s / 32) : Nat) : Int) ((dg 32 x i * 2 ^ (s % 32) % 4294967296 : Nat) : Int) = ((dg 32 (x % 2 ^ (32 * i) * 2 ^ s) (i + s / 32) ||| dg 32 x i * 2 ^ (s % 32) % 4294967296 : Nat) : Int) :=
   yrS (k := .u32) rfl _ _ (by rw [hb]; exact ya5 32 _ _) (by rw [hb, B32]; exact Nat.mod_lt _ (by omega))
  have o2 : orI .u32 ((0 : Nat) : Int) ((dg 32 x i * 2 ^ (s % 32) / 4294967296 : Nat) : Int) = ((dg 32 x i * 2 ^ (s % 32) / 4294967296 : Nat) : Int) := by
   rw [yrS (k := .u32) rfl _ _ (by rw [hb, B32]; omega) (by rw [hb, B32]; omega), Nat.zero_or]
  unfold zbo.l5 zbo.l5.step
  simp (disch := omega) only [yaZ, ya2, ya9, yaF, yba, Bool.and_self, Bool.not_false, Int.toNat_natCast, ybH, yfY, yas, yaQ, ybn, e1, e2, e3, q1, ycr, ydj, e4, e5, o1, u1, u2, o2]
  exact ih
theorem yje (x n s : Nat) (hn : n ≤ 1000000) (hs : s ≤ 100000000) (hx : x < 2 ^ (32 * n)) : x * 2 ^ s < 2 ^ (32 * (n + s / 32 + 1)) := by
 have : x * 2 ^ s < 2 ^ (32 * n) * 2 ^ s := Nat.mul_lt_mul_of_pos_right hx (Nat.two_pow_pos _)
 rw [← Nat.pow_add] at this
 exact Nat.lt_of_lt_of_le this (Nat.pow_le_pow_right (by omega) (by omega))
theorem yhX (x n s : Nat) (hn : n ≤ 1000000) (hs : s ≤ 100000000) (hx : x < 2 ^ (32 * n)) (K0 : Prop) (K1 : Nat → Nat → Nat → (Nat → Int) → Prop) (h0 : n = 0 → K0) (h1 : n ≠ 0 → ∀ c m, K1 (wl 32 (x * 2 ^ s)) c m (G 32 (x * 2 ^ s))) :
  zbo n (G 32 x) s K0 K1 := by
 rw [zbo.is]; unfold zbo.d
 by_cases hz : n = 0
 ·rw [yaA (ykA (by omega))]; exact h0 hz
 ·rw [yau (yip (by omega))]
  have e1 : Int.toNat ((n : Int) + (s : Int) / 32 + 1) = n + s / 32 + 1 := by omega
  simp (disch := omega) only [ybH, yas, ya9, yaF, Bool.and_self, e1]
  refine ⟨n + 1, ?_⟩
  have := ymi x n s hn hs hx (n + s / 32 + 1) (n + s / 32 + 1) (fun y0 y1 y2 y3 => zbd y0 y1 y2 y3 fun y0 y1 y2 y3 => K1 y0 y1 y2 y3) ?_ n 0 (by omega)
  ·rw [Nat.mul_zero, Nat.pow_zero, Nat.mod_one, Nat.zero_mul, ycx] at this; exact this
  ·exact ycY _ _ _ _ (by omega) (Nat.le_refl _) (yje x n s hn hs hx) _ fun c => h1 hz c _
theorem ysc (x s i : Nat) : (dg 32 x (i + s / 32) + dg 32 x (i + s / 32 + 1) * 4294967296) / 2 ^ (s % 32) % 4294967296 = dg 32 (x / 2 ^ s) i := by
 have hr : s % 32 < 32 := Nat.mod_lt _ (by omega)
 have h1 : dg 32 x (i + s / 32) + dg 32 x (i + s / 32 + 1) * 4294967296 = x / 2 ^ (32 * (i + s / 32)) % 2 ^ 64 := by
  have a := ydl 32 x (i + s / 32)
  have b := ydl 32 x (i + s / 32 + 1)
  rw [B32] at a b
  rw [a, b, B64]
  have c := ya5 32 x (i + s / 32)
  have d := ya5 32 x (i + s / 32 + 1)
  rw [B32] at c d
  omega
 rw [h1]
 unfold dg
 rw [Nat.div_div_eq_div_mul, ← Nat.pow_add]
 have h2 : (2 : Nat) ^ 64 = 2 ^ (s % 32) * 2 ^ (64 - s % 32) := by rw [← Nat.pow_add]; congr 1; omega
 rw [h2, Nat.mod_mul_right_div_self, Nat.div_div_eq_div_mul, ← Nat.pow_add, show (4294967296 : Nat) = 2 ^ 32 from rfl, Nat.mod_mod_of_dvd _ (Nat.pow_dvd_pow 2 (by omega))]
 congr 3; omega
theorem yjN (x n s : Nat) (hn : n ≤ 1000000) (hx : x < 2 ^ (32 * n)) (hs : s / 32 < n) (c0 m0 : Nat) (k0 : Nat → Nat → Nat → (Nat → Int) → Prop) (h : k0 (n - s / 32) c0 m0 (G 32 (x / 2 ^ s % 2 ^ (32 * (n - s / 32))))) :
  ∀ (j i : Nat), i + j = n - s / 32 → zbf.l5 k0 (j + 1) n (G 32 x) s (n - s / 32) c0 ((n - s / 32 : Nat) : Int) i m0 (G 32 (x / 2 ^ s % 2 ^ (32 * i))) := by
 intro j
 induction j with
 | zero =>
  intro i hi
  unfold zbf.l5 zbf.l5.step
  rw [yau (ya2 (by omega)), show i = n - s / 32 from by omega]
  exact h
 | succ j ih =>
  intro i hi
  have ih := ih (i + 1) (by omega)
  have e : ((i + 1 : Nat) : Int) = (i : Int) + 1 := by omega
  have hr : s % 32 < 32 := Nat.mod_lt _ (by omega)
  have hw := ysc x s i
  have hdw := ya5 32 (x / 2 ^ s) i
  rw [e, ybh, ← yk6 32 _ _ i (Nat.mod_lt _ (Nat.two_pow_pos _)) hdw, ← hw] at ih
  have hd := ya5 32 x (i + s / 32)
  have hd2 := ya5 32 x (i + s / 32 + 1)
  rw [B32] at hd hd2
  have e1 : Int.toNat ((i : Int) + (s : Int) / 32) = i + s / 32 := by omega
  have e2 : Int.toNat ((i : Int) + (s : Int) / 32 + 1) = i + s / 32 + 1 := by omega
  have e3 : (s : Int) % 32 = ((s % 32 : Nat) : Int) := by omega
  have hb : IntKind.bits .u64 = 64 := rfl
  have sh : ∀ z : Nat, ya7 .u64 (z : Int) ((s % 32 : Nat) : Int) = ((z / 2 ^ (s % 32) : Nat) : Int) := fun z => by
   rw [yfW (k := .u64) (by rw [hb]; omega)]; simp
  unfold zbf.l5 zbf.l5.step
  by_cases hlt : i + s / 32 + 1 < n
  ·have o1 : orI .u64 ((dg 32 x (i + s / 32) : Nat) : Int) (ybQ .u64 ((dg 32 x (i + s / 32 + 1) : Nat) : Int) 32) = ((dg 32 x (i + s / 32) + dg 32 x (i + s / 32 + 1) * 4294967296 : Nat) : Int) := by
    have := yn9 (k := .u64) rfl (dg 32 x (i + s / 32 + 1)) 32 (by rw [hb]; omega)
    rw [show ((32 : Nat) : Int) = 32 from rfl] at this
    rw [this, hb, B32, Nat.mod_eq_of_lt (by rw [B64]; omega), yrS (k := .u64) rfl _ _ (by rw [hb, B64]; omega) (by rw [hb, B64]; omega)]
    congr 1
    exact yeU (r := 32) (by rw [B32]; exact hd) (by rw [B32]; exact Nat.mul_mod_left _ _)
   have e4 : (((dg 32 x (i + s / 32) + dg 32 x (i + s / 32 + 1) * 4294967296) / 2 ^ (s % 32) : Nat) : Int) % 4294967296 = (((dg 32 x (i + s / 32) + dg 32 x (i + s / 32 + 1) * 4294967296) / 2 ^ (s % 32) % 4294967296 : Nat) : Int) := by omega
   simp (disch := omega) only [yaZ, ya2, ya9, yaF, yba, Bool.and_self, Bool.not_false, Int.toNat_natCast, ybH, yfY, yas, yaQ, ybn, e1, e2, e3, o1, sh, ycr, e4]
   exact ih
  ·have hz : dg 32 x (i + s / 32 + 1) = 0 := yeK 32 x n _ hx (by omega)
   rw [hz, Nat.zero_mul, Nat.add_zero] at ih
   have e4 : ((dg 32 x (i + s / 32) / 2 ^ (s % 32) : Nat) : Int) % 4294967296 = ((dg 32 x (i + s / 32) / 2 ^ (s % 32) % 4294967296 : Nat) : Int) := by omega
   simp (disch := omega) only [yaZ, ya2, ya9, yaF, yba, yep, Bool.and_self, Bool.not_false, Int.toNat_natCast, ybH, yfY, yas, yaQ, ybn, e1, e2, e3, sh, ycr, e4]
   exact ih
theorem yhL (x n s : Nat) (hn : n ≤ 1000000) (hs : s < 9223372036854775808) (hx : x < 2 ^ (32 * n)) (K : Nat → (Nat → Int) → Prop) (h : K (wl 32 (x / 2 ^ s)) (G 32 (x / 2 ^ s))) : zbf n (G 32 x) s K := by
 rw [zbf.is]; unfold zbf.d
 rw [ybH (by omega) (by omega) (by omega)]
 by_cases hlt : n ≤ s / 32
 ·rw [yaA (ya9 (by omega))]
  have hz : x / 2 ^ s = 0 := Nat.div_eq_of_lt (Nat.lt_of_lt_of_le hx (Nat.pow_le_pow_right (by omega) (by omega)))
  rw [hz, yds, ycx] at h
  exact h
 ·rw [yau (yeu (by omega))]
  have e1 : Int.toNat ((n : Int) - (s : Int) / 32) = n - s / 32 := by omega
  have e2 : (n : Int) - (s : Int) / 32 = ((n - s / 32 : Nat) : Int) := by omega
  simp (disch := omega) only [yar, ya9, yaF, Bool.and_self, e1]
  have hlt2 : x / 2 ^ s < 2 ^ (32 * (n - s / 32)) := by
   rw [Nat.div_lt_iff_lt_mul (Nat.two_pow_pos _), ← Nat.pow_add]
   exact Nat.lt_of_lt_of_le hx (Nat.pow_le_pow_right (by omega) (by omega))
  refine ⟨n - s / 32 + 1, ?_⟩
  have := yjN x n s hn hx (by omega) (n - s / 32) (n - s / 32) (fun y0 y1 y2 y3 => zbd y0 y1 y2 y3 fun y0 y1 y2 y3 => K y0 y3) ?_ (n - s / 32) 0 (by omega)
  ·rw [Nat.mul_zero, Nat.pow_zero, Nat.mod_one, ycx] at this; exact this
  ·rw [Nat.mod_eq_of_lt hlt2]
   exact ycY _ _ _ _ (by omega) (Nat.le_refl _) hlt2 _ fun c => h
theorem ynE (k x : Nat) (hk : k ≠ 0) (hx : x ≠ 0) : yaw x = k * (wl k x - 1) + yaw (dg k x (wl k x - 1)) := by
 have h1 := yeJ k hk x
 have hp : wl k x ≠ 0 := by rw [yjd hx hk]; omega
 have h2 : x / 2 ^ (k * (wl k x - 1)) = dg k x (wl k x - 1) := by
  have := ydl k x (wl k x - 1)
  rw [show wl k x - 1 + 1 = wl k x from by omega, Nat.div_eq_of_lt h1] at this
  omega
 have h3 := yni k hk x hx
 rw [← h2] at h3 ⊢
 exact yde h3
theorem ypV (b : UInt8) (l : List UInt8) : dg 8 (val (b :: l)) l.length = b.toNat := by
 have := yny (b :: l) l.length (by simp)
 rw [show (b :: l).length - 1 - l.length = 0 from by simp] at this
 exact this.symm
theorem yf2 (a : List UInt8) (K : Int → Prop) (h : K (if May a then (yaw (val a) : Int) else 0)) : zaw a K := by
 rw [zaw.is]; unfold zaw.d
 rw [ya1]
 by_cases hm : May a
 ·rw [if_pos hm] at h
  rw [if_pos hm, yau (by rfl), ybb]
  cases a with
  | nil => rw [yaA (by simp)]; exact h
  | cons b l =>
   have hl := hm.1
   rw [List.length_cons] at hl
   have hv : val (b :: l) ≠ 0 := fun e => by have := hm.nb; rw [e, yaN] at this; cases this
   have hb := ynE 8 _ (by omega) hv
   rw [ylL hm.2, List.length_cons, Nat.add_sub_cancel, ypV] at hb
   have hbl := ypJ b
   rw [yau (by simp), ybo (yaZ (by rw [List.length_cons]; omega)), ydn, yaQ (by omega) (by omega)]
   refine yeW _ (by omega) _ ?_
   have h8 : yaw b.toNat ≤ 8 := (yaV _ _).2 hbl
   rw [List.length_cons]
   simp (disch := omega) only [yar, yb3, yas]
   rw [show 8 * (((l.length + 1 : Nat) : Int) - 1) + (yaw b.toNat : Int) = ((yaw (val (b :: l)) : Nat) : Int) from by rw [hb]; omega]
   exact h
 ·rw [if_neg hm] at h
  rw [if_neg hm, yaA (by rfl)]; exact h
def ybC (x : Nat) : Nat := if h : x % 2 = 1 ∨ x = 0 then 0 else ybC (x / 2) + 1
decreasing_by omega
theorem ydT (x : Nat) (h : x ≠ 0) : ∃ q, x = 2 ^ ybC x * (2 * q + 1) := by
 induction x using Nat.strongRecOn with
 | _ x ih =>
  by_cases h1 : x % 2 = 1
  ·have : ybC x = 0 := by rw [ybC]; simp [h1]
   exact ⟨x / 2, by rw [this, Nat.pow_zero, Nat.one_mul]; omega⟩
  ·have : ybC x = ybC (x / 2) + 1 := by rw [ybC]; rw [dif_neg (by omega)]
   obtain ⟨q, hq⟩ := ih (x / 2) (by omega) (by omega)
   refine ⟨q, ?_⟩
   rw [this, Nat.pow_succ, Nat.mul_assoc, Nat.mul_comm 2, ← Nat.mul_assoc, ← hq]; omega
theorem ymY (k q : Nat) : ybC (2 ^ k * (2 * q + 1)) = k := by
 induction k with
 | zero => rw [ybC]; rw [dif_pos (by left; omega)]
 | succ k ih =>
  have hp := Nat.two_pow_pos k
  have hpos : 0 < 2 ^ k * (2 * q + 1) := Nat.mul_pos hp (by omega)
  have e : 2 ^ (k + 1) * (2 * q + 1) = 2 * (2 ^ k * (2 * q + 1)) := by rw [Nat.pow_succ, Nat.mul_comm (2 ^ k) 2, Nat.mul_assoc]
  rw [e, ybC, dif_neg (by omega), show 2 * (2 ^ k * (2 * q + 1)) / 2 = 2 ^ k * (2 * q + 1) from by omega, ih]
theorem ylV (x t : Nat) (h0 : x % 2 ^ (8 * t) = 0) (hd : dg 8 x t ≠ 0) : ybC x = 8 * t + ybC (dg 8 x t) := by
 obtain ⟨q, hq⟩ := ydT _ hd
 have hlt := ya5 8 x t
 have hk : ybC (dg 8 x t) < 8 := by
  apply Classical.byContradiction
  intro hc
  have h1 : 2 ^ 8 ≤ 2 ^ ybC (dg 8 x t) := Nat.pow_le_pow_right (by omega) (by omega)
  have h2 : 2 ^ ybC (dg 8 x t) * 1 ≤ 2 ^ ybC (dg 8 x t) * (2 * q + 1) := Nat.mul_le_mul_left _ (by omega)
  omega
 have hx := ygY 8 x t
 rw [h0, Nat.zero_add] at hx
 generalize hkk : ybC (dg 8 x t) = k at *
 have h8 : (2 : Nat) ^ (8 * (t + 1)) = 2 ^ (8 * t) * (2 ^ k * (2 * 2 ^ (7 - k))) := by
  rw [show (2 : Nat) * 2 ^ (7 - k) = 2 ^ (8 - k) from by rw [show 8 - k = 7 - k + 1 from by omega, Nat.pow_succ, Nat.mul_comm], ← Nat.pow_add, ← Nat.pow_add]; congr 1; omega
 have e : x = 2 ^ (8 * t + k) * (2 * (q + x / 2 ^ (8 * (t + 1)) * 2 ^ (7 - k)) + 1) := by
  conv => lhs; rw [hx, hq]
  generalize x / 2 ^ (8 * (t + 1)) = y
  rw [h8, Nat.pow_add]
  generalize 2 ^ (8 * t) = P
  generalize 2 ^ k = Q
  generalize 2 ^ (7 - k) = R
  have e1 : y * (P * (Q * (2 * R))) = P * Q * (2 * (y * R)) := by
   rw [Nat.mul_left_comm y P, Nat.mul_left_comm y Q, Nat.mul_left_comm y 2, ← Nat.mul_assoc P]
  rw [e1, Nat.mul_comm (Q * _) P, ← Nat.mul_assoc, ← Nat.mul_add]
  congr 1; omega
 have := ymY (8 * t + k) (q + x / 2 ^ (8 * (t + 1)) * 2 ^ (7 - k))
 rw [← e] at this
 exact this
theorem ykM : ybC 0 = 0 := by rw [ybC]; simp
theorem yk9 (a : List UInt8) (hl : a.length ≤ 100000) (k0 : Int → Prop) (k1 : Prop) (h0 : val a ≠ 0 → k0 (ybC (val a))) (h1 : val a = 0 → k1) :
  ∀ (j t : Nat), t + j = a.length → val a % 2 ^ (8 * t) = 0 → zax.l4 k0 k1 (j + 1) a ((a.length : Int) - 1 - t) := by
 intro j
 induction j with
 | zero =>
  intro t ht hm
  unfold zax.l4 zax.l4.step
  rw [yau (yeu (by omega))]
  refine h1 ?_
  rw [Nat.mod_eq_of_lt (by have := yhc a; rw [yop] at this; rwa [show t = a.length from by omega])] at hm
  exact hm
 | succ j ih =>
  intro t ht hm
  have hd := ya5 8 (val a) t
  have e8 : (2 : Nat) ^ 8 = 256 := rfl
  have e1 : Int.toNat ((a.length : Int) - 1 - t) = a.length - 1 - t := by omega
  have e2 : (a.length : Int) - 1 - ((a.length : Int) - 1 - t) = t := by omega
  have e3 : (a.length : Int) - 1 - t - 1 = (a.length : Int) - 1 - ((t + 1 : Nat) : Int) := by omega
  unfold zax.l4 zax.l4.step
  simp (disch := omega) only [yaZ, ya9, yaF, yba, Bool.and_self, e1]
  rw [yfy a t (by omega)]
  by_cases hz : dg 8 (val a) t = 0
  ·rw [ykA (by omega), yau (by rfl)]
   simp (disch := omega) only [yar, e3]
   refine ih (t + 1) (by omega) ?_
   rw [ybh, hm, hz]; omega
  ·rw [yip (by omega), yaA (by rfl), yaQ (by omega) (by omega)]
   obtain ⟨q, hq⟩ := ydT _ hz
   have hk : ybC (dg 8 (val a) t) < 64 := by
    apply Classical.byContradiction
    intro hc
    have h1 : 2 ^ 64 ≤ 2 ^ ybC (dg 8 (val a) t) := Nat.pow_le_pow_right (by omega) (by omega)
    have h2 : 2 ^ ybC (dg 8 (val a) t) * 1 ≤ 2 ^ ybC (dg 8 (val a) t) * (2 * q + 1) := Nat.mul_le_mul_left _ (by omega)
    rw [B64] at h1; omega
   have hlow := ylV (val a) t hm hz
   have := ymA (ybC (dg 8 (val a) t)) q hk (by rw [← hq]; omega) (fun y0 => k0 (yai .i64 (ybT .i64 8 (yao .i64 (yao .i64 (a.length : Int) 1) ((a.length : Int) - 1 - t))) y0)) ?_
   ·rw [← hq] at this; exact this
   ·simp (disch := omega) only [yar, yb3, yas, e2]
    rw [show 8 * (t : Int) + (ybC (dg 8 (val a) t) : Int) = ((ybC (val a) : Nat) : Int) from by rw [hlow]; omega]
    refine h0 fun e => hz ?_
    rw [e]; exact yd0 8 0 t (Nat.two_pow_pos _)
theorem yeb (a : List UInt8) (K : Int → Prop) (h : K (if May a then (ybC (val a) : Int) else 0)) : zax a K := by
 rw [zax.is]; unfold zax.d
 rw [ya1]
 by_cases hm : May a
 ·rw [if_pos hm] at h
  have hl := hm.1
  rw [if_pos hm, yau (by rfl), yar (by omega) (by omega)]
  refine ⟨a.length + 1, ?_⟩
  have := yk9 a (by omega) (fun y0 => K y0) (K 0) (fun _ => h) (fun e => by rw [e, ykM] at h; exact h) a.length 0 (by omega) (by simp [Nat.mod_one])
  rw [show (a.length : Int) - 1 - ((0 : Nat) : Int) = (a.length : Int) - 1 from by omega] at this
  exact this
 ·rw [if_neg hm] at h
  rw [if_neg hm, yaA (by rfl)]; exact h
end Go.Ev.S

/- Natural numbers as rows of words: divided. -/
set_option linter.unusedVariables false
set_option linter.unusedSimpArgs false
set_option maxRecDepth 8000
namespace Go.Ev.S
open Go Go.Ev
theorem yqD {B P U D v1 v2 dl x u2 ul q left : Nat} (hP : 0 < P) (hD : D = (v1 * B + v2) * P + dl) (hU : U = (x * B + u2) * P + ul) (hul : ul < P) (hx : q * v1 + left = x) (hD0 : 0 < D) (hUB : U < D * B)
  (h : B ≤ q ∨ left * B + u2 < q * v2) : U / D < q := by
 rw [Nat.div_lt_iff_lt_mul hD0]
 rcases h with h | h
 ·exact Nat.lt_of_lt_of_le hUB (by rw [Nat.mul_comm q]; exact Nat.mul_le_mul_left _ h)
 ·have h1 : (x * B + u2 + 1) * P ≤ q * ((v1 * B + v2) * P) := by
   rw [← Nat.mul_assoc]
   refine Nat.mul_le_mul_right _ ?_
   rw [← hx, Nat.mul_add, Nat.add_mul, ← Nat.mul_assoc]
   omega
  have h2 : q * ((v1 * B + v2) * P) ≤ q * D := Nat.mul_le_mul_left _ (by omega)
  rw [Nat.add_mul, Nat.one_mul] at h1
  omega
theorem yrF {B P U D v1 v2 dl x u2 ul q left : Nat} (hD : D = (v1 * B + v2) * P + dl) (hdl : dl < P) (hU : U = (x * B + u2) * P + ul) (hx : q * v1 + left = x) (hD0 : 0 < D) (hv : 0 < v1) (hqB : q < B) (h : q * v2 ≤ left * B + u2) : q ≤ U / D + 1 := by
 have key : (q - 1) * D ≤ U := by
  have h1 : (q - 1) * D ≤ (q - 1) * ((v1 * B + v2 + 1) * P) := Nat.mul_le_mul_left _ (by rw [Nat.add_mul (v1 * B + v2)]; omega)
  have h2 : (q - 1) * (v1 * B + v2 + 1) ≤ x * B + u2 := by
   rcases Nat.eq_zero_or_pos q with h0 | h0
   ·subst h0; simp
   ·have e1 : (q - 1) * (v1 * B + v2 + 1) = q * (v1 * B + v2) + (q - 1) - (v1 * B + v2) := by
     obtain ⟨t, rfl⟩ : ∃ t, q = t + 1 := ⟨q - 1, by omega⟩
     rw [Nat.add_sub_cancel, Nat.mul_add t, Nat.add_mul t 1]
     omega
    have e2 : q * (v1 * B + v2) ≤ x * B + u2 := by
     rw [← hx, Nat.mul_add, Nat.add_mul, ← Nat.mul_assoc]; omega
    have e3 : B ≤ v1 * B := Nat.le_mul_of_pos_left _ hv
    omega
  have h3 : (q - 1) * ((v1 * B + v2 + 1) * P) ≤ (x * B + u2) * P := by
   rw [← Nat.mul_assoc]; exact Nat.mul_le_mul_right _ h2
  omega
 have := (Nat.le_div_iff_mul_le hD0).2 key
 omega
theorem yhq (a b : Nat) (ha : a < 4294967296) (hb : b < 4294967296) : orI .u64 (ybQ .u64 (a : Int) 32) (b : Int) = ((a * 4294967296 + b : Nat) : Int) := by
 have hb64 : IntKind.bits .u64 = 64 := rfl
 have := yn9 (k := .u64) rfl a 32 (by rw [hb64]; omega)
 rw [show ((32 : Nat) : Int) = 32 from rfl] at this
 rw [this, hb64, B32, Nat.mod_eq_of_lt (by rw [B64]; omega), yrS (k := .u64) rfl _ _ (by rw [hb64, B64]; omega) (by rw [hb64, B64]; omega)]
 congr 1
 rw [Nat.or_comm, yeU (r := 32) (by rw [B32]; exact hb) (by rw [B32]; exact Nat.mul_mod_left _ _), Nat.add_comm]
theorem yp8 (a b : Nat) (ha : a < 18446744073709551616) : yaC .u64 (a : Int) (b : Int) = ((a / b : Nat) : Int) := by
 have h : a / b ≤ a := Nat.div_le_self a b
 show IntKind.wrap .u64 ((a : Int).tdiv b) = _
 rw [Int.tdiv_eq_ediv_of_nonneg (by omega)]
 have : (a : Int) / (b : Int) = ((a / b : Nat) : Int) := by simp
 rw [this]
 generalize a / b = q at h ⊢
 exact yhA (by omega) (by omega)
theorem yjk {again : Nat → Int → Nat → Nat → Int → Int → Int → Int → Nat → (Nat → Int) → Nat → (Nat → Int) → Nat → (Nat → Int) → Prop} {k0 : Nat → Int → Nat → Nat → Int → Int → Int → Nat → (Nat → Int) → Nat → (Nat → Int) → Nat → (Nat → Int) → Prop} (n0 : Nat) (s : Int) (L md i : Nat) (hmd : 2 ≤ md) (hmd2 : md ≤ 1000000) (c1 c2 c3 : Nat) (f1 f3 : Nat → Int) (D v1 q left : Nat) (hv1 : v1 < 4294967296) (hl : left < 4294967296) (e1 : dg 32 D (md - 1) = v1) (hq1 : q + 1 < 18446744073709551616)
  (h1 : left + v1 < 4294967296 → again n0 s md L md i q (left + v1 : Nat) c1 f1 c2 (G 32 D) c3 f3) (h2 : 4294967296 ≤ left + v1 → k0 n0 s md L md i q c1 f1 c2 (G 32 D) c3 f3) :
  gd (leI 0 (yao IntKind.i64 (md : Int) 1) && ltI (yao IntKind.i64 (md : Int) 1) (md : Int)) (br (leI 4294967296 (yai IntKind.u64 (left : Int) (cvI IntKind.u64 (G 32 D (Int.toNat (yao IntKind.i64 (md : Int) 1)))))) (k0 n0 s md L md i (yao IntKind.u64 ((q + 1 : Nat) : Int) 1) c1 f1 c2 (G 32 D) c3 f3) (again n0 s md L md i (yao IntKind.u64 ((q + 1 : Nat) : Int) 1) (yai IntKind.u64 (left : Int) (cvI IntKind.u64 (G 32 D (Int.toNat (yao IntKind.i64 (md : Int) 1))))) c1 f1 c2 (G 32 D) c3 f3)) := by
 have s1 : yao .u64 ((q + 1 : Nat) : Int) 1 = (q : Int) := by rw [yjy (by omega) (by omega)]; omega
 have a1 : yai .u64 (left : Int) ((v1 : Nat) : Int) = ((left + v1 : Nat) : Int) := by rw [yg6 (by omega) (by omega)]; omega
 have i0 : yao IntKind.i64 (md : Int) 1 = (md : Int) - 1 := by rw [yar (by omega) (by omega)]
 have i1 : Int.toNat ((md : Int) - 1) = md - 1 := by omega
 have i2 : cvI IntKind.u64 ((v1 : Nat) : Int) = v1 := by rw [yaQ (by omega) (by omega)]
 rw [i0, i1, ybn, e1, i2, a1, s1, ybo (by rw [ya9 (by omega), yaZ (by omega)]; rfl)]
 by_cases hl2 : left + v1 < 4294967296
 ·rw [yau (yeu (by omega))]; exact h1 hl2
 ·rw [yaA (ya9 (by omega))]; exact h2 (by omega)
theorem yoi (left u2 q v2 : Nat) (hl : left < 4294967296) (hu : u2 < 4294967296) (hq : q < 4294967296) (hv : v2 < 4294967296) : ltI (orI IntKind.u64 (ybQ IntKind.u64 (left : Int) 32) (cvI IntKind.u64 (u2 : Int))) (ybT IntKind.u64 (q : Int) (cvI IntKind.u64 (v2 : Int))) = decide (left * 4294967296 + u2 < q * v2) := by
 have h1 : q * v2 ≤ 4294967295 * 4294967295 := Nat.mul_le_mul (by omega) (by omega)
 have e4 : ((q : Int) * ((v2 : Nat) : Int)) = ((q * v2 : Nat) : Int) := by simp
 rw [yaQ (by omega) (by omega), yaQ (by omega) (by omega), yhq left u2 hl hu, yp6 (by rw [e4]; omega) (by rw [e4]; omega), e4]
 generalize q * v2 = t
 by_cases h : left * 4294967296 + u2 < t
 ·rw [yaZ (by omega)]; exact (decide_eq_true h).symm
 ·rw [ya2 (by omega)]; exact (decide_eq_false h).symm
theorem yiO {again : Nat → Int → Nat → Nat → Int → Int → Int → Int → Nat → (Nat → Int) → Nat → (Nat → Int) → Nat → (Nat → Int) → Prop} {k0 : Nat → Int → Nat → Nat → Int → Int → Int → Nat → (Nat → Int) → Nat → (Nat → Int) → Nat → (Nat → Int) → Prop} (n0 : Nat) (s : Int) (L md i : Nat) (hi : i ≤ 1000000) (hmd : 2 ≤ md) (hmd2 : md ≤ 1000000) (hL : i + md < L) (c1 c2 c3 : Nat) (f1 : Nat → Int) (D N v1 v2 u2 q left : Nat) (hv1 : v1 < 4294967296) (hv2 : v2 < 4294967296) (hu2 : u2 < 4294967296) (hl : left < 4294967296)
  (e1 : dg 32 D (md - 1) = v1) (e2 : dg 32 D (md - 2) = v2) (e3 : dg 32 N (i + md - 2) = u2) (hq1 : q < 18446744073709551616)
  (hd : 4294967296 ≤ q ∨ left * 4294967296 + u2 < q * v2 → ∃ p, q = p + 1 ∧ (left + v1 < 4294967296 → again n0 s md L md i p (left + v1 : Nat) c1 f1 c2 (G 32 D) c3 (G 32 N)) ∧ (4294967296 ≤ left + v1 → k0 n0 s md L md i p c1 f1 c2 (G 32 D) c3 (G 32 N)))
  (hk : q < 4294967296 → q * v2 ≤ left * 4294967296 + u2 → k0 n0 s md L md i q c1 f1 c2 (G 32 D) c3 (G 32 N)) :
  zbj.l24.step again k0 n0 s md L md i q left c1 f1 c2 (G 32 D) c3 (G 32 N) := by
 unfold zbj.l24.step
 by_cases hbig : 4294967296 ≤ q
 ·rw [yaA (ya9 (by omega))]
  obtain ⟨p, rfl, h1, h2⟩ := hd (.inl hbig)
  exact yjk n0 s L md i hmd hmd2 c1 c2 c3 f1 _ D v1 p left hv1 hl e1 (by omega) h1 h2
 ·rw [yau (yeu (by omega))]
  have i0 : yao IntKind.i64 (md : Int) 2 = (md : Int) - 2 := by rw [yar (by omega) (by omega)]
  have i1 : yai IntKind.i64 (i : Int) (md : Int) = (i : Int) + md := by rw [yas (by omega) (by omega)]
  have i2 : yao IntKind.i64 ((i : Int) + md) 2 = (i : Int) + md - 2 := by rw [yar (by omega) (by omega)]
  have i3 : Int.toNat ((md : Int) - 2) = md - 2 := by omega
  have i4 : Int.toNat ((i : Int) + md - 2) = i + md - 2 := by omega
  rw [i0, i1, i2, i3, i4, ybo (by rw [ya9 (by omega), yaZ (by omega)]; rfl), ybo (by rw [ya9 (by omega), yaZ (by omega)]; rfl), ybn, ybn, e2, e3, yoi left u2 q v2 hl hu2 (by omega) hv2]
  by_cases ht : left * 4294967296 + u2 < q * v2
  ·rw [yaA (decide_eq_true ht)]
   obtain ⟨p, rfl, h1, h2⟩ := hd (.inr ht)
   exact yjk n0 s L md i hmd hmd2 c1 c2 c3 f1 _ D v1 p left hv1 hl e1 (by omega) h1 h2
  ·rw [yau (decide_eq_false ht)]
   exact hk (by omega) (by omega)
theorem yoK {B v1 x q left : Nat} (hxv : x / B ≤ v1) (hB : 0 < B) (hx : q * v1 + left = x) (hq : B ≤ q) : left < B := by
 have h1 : B * v1 ≤ q * v1 := Nat.mul_le_mul_right _ hq
 have h2 := Nat.div_add_mod x B
 have h3 := Nat.mod_lt x hB
 have h4 : B * (x / B) ≤ B * v1 := Nat.mul_le_mul_left _ hxv
 omega
theorem ynT {B q v2 left u2 : Nat} (hq : q < B) (hv : v2 < B) (hl : B ≤ left) : q * v2 ≤ left * B + u2 := by
 have h1 : q * v2 ≤ B * B := Nat.mul_le_mul (by omega) (by omega)
 have h2 : B * B ≤ left * B := Nat.mul_le_mul_right _ hl
 omega
theorem yha (n s : Int) (L md i : Nat) (hi : i ≤ 1000000) (hmd : 2 ≤ md) (hmd2 : md ≤ 1000000) (hL : i + md < L) (n0 : Nat) (D N : Nat) (c1 c2 c3 : Nat) (f1 : Nat → Int)
  (U v1 v2 dl x u2 ul P : Nat) (hP : 0 < P) (hD : D = (v1 * 4294967296 + v2) * P + dl) (hdl : dl < P) (hU : U = (x * 4294967296 + u2) * P + ul) (hul : ul < P) (hD0 : 0 < D) (hUB : U < D * 4294967296) (hv : 0 < v1)
  (hxv : x / 4294967296 ≤ v1) (hx2 : x < 18446744073709551616)
  (e1 : dg 32 D (md - 1) = v1) (e2 : dg 32 D (md - 2) = v2) (e3 : dg 32 N (i + md - 2) = u2)
  (k0 : Nat → Int → Nat → Nat → Int → Int → Int → Nat → (Nat → Int) → Nat → (Nat → Int) → Nat → (Nat → Int) → Prop)
  (h : ∀ q : Nat, U / D ≤ q → q ≤ U / D + 1 → q < 4294967296 → k0 n0 s md L md i q c1 f1 c2 (G 32 D) c3 (G 32 N)) :
  ∀ (q left : Nat), q * v1 + left = x → left < 4294967296 → U / D ≤ q → zbj.l24 k0 (q + 1) n0 s md L md i q left c1 f1 c2 (G 32 D) c3 (G 32 N) := by
 have hv1 := ya5 32 D (md - 1)
 have hv2 := ya5 32 D (md - 2)
 have hu2 := ya5 32 N (i + md - 2)
 rw [B32, e1] at hv1
 rw [B32, e2] at hv2
 rw [B32, e3] at hu2
 have done : ∀ q left : Nat, q * v1 + left = x → U / D ≤ q → q < 4294967296 → q * v2 ≤ left * 4294967296 + u2 → k0 n0 s md L md i q c1 f1 c2 (G 32 D) c3 (G 32 N) :=
  fun q left hx hge hlt ht => h q hge (yrF hD hdl hU hx hD0 hv hlt ht) hlt
 have qx : ∀ q left : Nat, q * v1 + left = x → q < 18446744073709551616 := fun q left hx => by
  have : q * 1 ≤ q * v1 := Nat.mul_le_mul_left _ hv
  omega
 intro q
 induction q with
 | zero =>
  intro left hx hl hge
  unfold zbj.l24
  refine yiO n0 s L md i hi hmd hmd2 hL c1 c2 c3 f1 D N v1 v2 u2 0 left hv1 hv2 hu2 hl e1 e2 e3 (by omega) (fun hc => ?_) (fun a b => done 0 left hx hge a b)
  rw [Nat.zero_mul] at hc
  omega
 | succ q ih =>
  intro left hx hl hge
  have hqx := qx (q + 1) left hx
  have hx' : q * v1 + (left + v1) = x := by rw [Nat.add_mul] at hx; omega
  have hover : 4294967296 ≤ left + v1 → q < 4294967296 := fun hl2 => by
   apply Classical.byContradiction
   intro hc
   have := yoK hxv (by omega) hx' (by omega)
   omega
  unfold zbj.l24
  refine yiO n0 s L md i hi hmd hmd2 hL c1 c2 c3 f1 D N v1 v2 u2 (q + 1) left hv1 hv2 hu2 hl e1 e2 e3 hqx (fun hc => ?_) (fun a b => done (q + 1) left hx hge a b)
  have hlt := yqD hP hD hU hul hx hD0 hUB hc
  have hge' : U / D ≤ q := Nat.le_of_lt_succ hlt
  exact ⟨q, rfl, fun hl2 => ih (left + v1) hx' hl2 hge', fun hl2 => done q (left + v1) hx' hge' (hover hl2) (ynT (hover hl2) hv2 hl2)⟩
theorem yrt (k n x : Nat) (hk : k ≠ 0) (h : ∀ i, n ≤ i → dg k x i = 0) : x < 2 ^ (k * n) := by
 rw [← yet k hk]
 apply Classical.byContradiction
 intro hc
 have hx : x ≠ 0 := by intro e; subst e; rw [yds] at hc; omega
 exact yni k hk x hx (h _ (by omega))
theorem ymp {k N N' w j n : Nat} (hk : k ≠ 0) (hN : N < 2 ^ (k * n)) (hj : j < n) (hw : w < 2 ^ k) (h : N' + dg k N j * 2 ^ (k * j) = N + w * 2 ^ (k * j)) : N' < 2 ^ (k * n) := by
 refine yrt k n N' hk fun i hi => ?_
 have h1 := congrFun (ygF h hw) i
 rw [ycT _ _ _ _ (by omega), ybn, ybn, yeK k N n i hN hi] at h1
 omega
theorem yir (n0 : Nat) (s : Int) (L md i q : Nat) (hi : i ≤ 1000000) (hmd2 : md ≤ 1000000) (hL : i + md < L) (hq : q < 4294967296) (c1 c2 c3 : Nat) (f1 : Nat → Int) (D N0 : Nat) (hD : D < 2 ^ (32 * md)) (hN0 : N0 < 2 ^ (32 * (i + md + 1)))
  (k0 : Nat → Int → Nat → Nat → Int → Int → Int → Int → Int → Nat → (Nat → Int) → Nat → (Nat → Int) → Nat → (Nat → Int) → Prop)
  (h : ∀ (N c : Nat) (b : Int), N < 2 ^ (32 * (i + md + 1)) → c < 4294967296 → -1 ≤ b → b ≤ 0 → (N : Int) + (b - c) * ((2 ^ (32 * (i + md)) : Nat) : Int) = N0 - ((q * D * 2 ^ (32 * i) : Nat) : Int) → k0 n0 s md L md i q c b c1 f1 c2 (G 32 D) c3 (G 32 N)) :
  ∀ (j k N c : Nat) (b : Int), k + j = md → N < 2 ^ (32 * (i + md + 1)) → c < 4294967296 → -1 ≤ b → b ≤ 0 → (N : Int) + (b - c) * ((2 ^ (32 * (i + k)) : Nat) : Int) = N0 - ((q * (D % 2 ^ (32 * k)) * 2 ^ (32 * i) : Nat) : Int) →
   zbj.l31 k0 (j + 1) n0 s md L md i q c b md k c1 f1 c2 (G 32 D) c3 (G 32 N) := by
 intro j
 induction j with
 | zero =>
  intro k N c b hk hN hc hb1 hb2 hE
  have hk : k = md := by omega
  subst hk
  unfold zbj.l31 zbj.l31.step
  rw [yau (ya2 (by omega))]
  rw [Nat.mod_eq_of_lt hD] at hE
  exact h N c b hN hc hb1 hb2 hE
 | succ j ih =>
  intro k N c b hk hN hc hb1 hb2 hE
  have hdN := ya5 32 N (i + k)
  have hdD := ya5 32 D k
  rw [B32] at hdN hdD
  have hm : q * dg 32 D k ≤ 4294967295 * 4294967295 := Nat.mul_le_mul (by omega) (by omega)
  have hD1 := ybh 32 D k
  -- the product's low word, and what is carried
  have hs : ∀ (t : Nat) (z : Int), t = c + q * dg 32 D k → z = b + ((dg 32 N (i + k) : Int) - ((t % 4294967296 : Nat) : Int)) →
    zbj.l31 k0 (j + 1) n0 s md L md i q ((t / 4294967296 : Nat) : Int) (z / 4294967296) md ((k : Int) + 1) c1 f1 c2 (G 32 D) c3 (upd (G 32 N) (i + k) (z % 4294967296)) := by
   intro t z ht hz
   have hw : z % 4294967296 = ((z % 4294967296).toNat : Int) := by omega
   have hwl : (z % 4294967296).toNat < 2 ^ 32 := by rw [B32]; omega
   have e : ((k + 1 : Nat) : Int) = (k : Int) + 1 := by omega
   have hsp := ygY 32 N (i + k)
   obtain ⟨N', hN'⟩ : ∃ N', N' + dg 32 N (i + k) * 2 ^ (32 * (i + k)) = N + (z % 4294967296).toNat * 2 ^ (32 * (i + k)) :=
    ⟨N % 2 ^ (32 * (i + k)) + (z % 4294967296).toNat * 2 ^ (32 * (i + k)) + N / 2 ^ (32 * (i + k + 1)) * 2 ^ (32 * (i + k + 1)), by omega⟩
   rw [hw, ygF hN' hwl, ← e]
   refine ih (k + 1) N' _ _ (by omega) (ymp (by omega) hN (by omega) hwl hN') (by omega) (by omega) (by omega) ?_
   rw [hD1, show i + (k + 1) = i + k + 1 from by omega, yb9, B32]
   have hp : 2 ^ (32 * (i + k)) = 2 ^ (32 * k) * 2 ^ (32 * i) := by rw [← Nat.pow_add, show 32 * k + 32 * i = 32 * (i + k) from by omega]
   have h1 : ((q * (D % 2 ^ (32 * k) + dg 32 D k * 2 ^ (32 * k)) * 2 ^ (32 * i) : Nat) : Int) = ((q * (D % 2 ^ (32 * k)) * 2 ^ (32 * i) : Nat) : Int) + ((q * dg 32 D k : Nat) : Int) * ((2 ^ (32 * (i + k)) : Nat) : Int) := by
    rw [hp, Nat.mul_add, Nat.add_mul, ← Nat.mul_assoc q (dg 32 D k), Nat.mul_assoc (q * dg 32 D k)]
    simp
   rw [h1]
   generalize 2 ^ (32 * (i + k)) = P at *
   have h4 := Int.emod_add_mul_ediv z 4294967296
   have h5 : z * (P : Int) = (z % 4294967296).toNat * (P : Int) + z / 4294967296 * ((P : Int) * 4294967296) := by
    conv => lhs; rw [← h4]
    rw [← hw, Int.add_mul, Int.mul_comm (4294967296 : Int), Int.mul_assoc, Int.mul_comm (4294967296 : Int)]
   have h6 : z * (P : Int) = b * P + (dg 32 N (i + k) : Int) * P - ((t % 4294967296 : Nat) : Int) * P := by rw [hz, Int.add_mul, Int.sub_mul]; omega
   have h7 : ((t : Nat) : Int) * (P : Int) = ((t % 4294967296 : Nat) : Int) * P + ((t / 4294967296 : Nat) : Int) * ((P : Int) * 4294967296) := by
    have := yjB t 4294967296 P
    have h8 : ((t % 4294967296 * P + t / 4294967296 * (P * 4294967296) : Nat) : Int) = ((t * P : Nat) : Int) := by rw [this]
    simpa using h8.symm
   have h9 : ((t : Nat) : Int) * (P : Int) = (c : Int) * P + ((q * dg 32 D k : Nat) : Int) * P := by rw [ht]; rw [show ((c + q * dg 32 D k : Nat) : Int) = (c : Int) + ((q * dg 32 D k : Nat) : Int) from by omega, Int.add_mul]
   have h10 : (N' : Int) + (dg 32 N (i + k) : Int) * P = N + ((z % 4294967296).toNat : Int) * P := by
    have : ((N' + dg 32 N (i + k) * P : Nat) : Int) = ((N + (z % 4294967296).toNat * P : Nat) : Int) := by rw [hN']
    simpa using this
   have c4 : ((P * 4294967296 : Nat) : Int) = (P : Int) * 4294967296 := by simp
   rw [c4, Int.sub_mul]
   rw [Int.sub_mul] at hE
   omega
  have e0 : Int.toNat ((i : Int) + k) = i + k := by omega
  have e5 : ybT .u64 (q : Int) (dg 32 D k : Int) = ((q * dg 32 D k : Nat) : Int) := by
   have e4 : ((q : Int) * (dg 32 D k : Int)) = ((q * dg 32 D k : Nat) : Int) := by simp
   rw [yp6 (by rw [e4]; omega) (by rw [e4]; omega), e4]
  have e6 : (c : Int) + ((q * dg 32 D k : Nat) : Int) = ((c + q * dg 32 D k : Nat) : Int) := by omega
  have e7 : ((c + q * dg 32 D k : Nat) : Int) / 4294967296 = (((c + q * dg 32 D k) / 4294967296 : Nat) : Int) := by omega
  have e8 : ((c + q * dg 32 D k : Nat) : Int) % 4294967296 = (((c + q * dg 32 D k) % 4294967296 : Nat) : Int) := by omega
  unfold zbj.l31 zbj.l31.step
  simp (disch := omega) only [yaZ, ya9, yaF, yba, Bool.and_self, Int.toNat_natCast, yas, yar, yaQ, yg6, ybn, e0, e5, e6, ydj, yn5, ycr, e7, e8, yhe]
  exact hs _ _ rfl rfl
theorem yiq (n0 : Nat) (s : Int) (L md i : Nat) (q : Int) (hi : i ≤ 1000000) (hmd2 : md ≤ 1000000) (hL : i + md < L) (c1 c2 c3 : Nat) (f1 : Nat → Int) (D N0 : Nat) (hD : D < 2 ^ (32 * md))
  (k0 : Nat → Int → Nat → Nat → Int → Int → Int → Int → Nat → (Nat → Int) → Nat → (Nat → Int) → Nat → (Nat → Int) → Prop)
  (h : ∀ (N c : Nat), N < 2 ^ (32 * (i + md + 1)) → c < 4294967296 → N + c * 2 ^ (32 * (i + md)) = N0 + D * 2 ^ (32 * i) → k0 n0 s md L md i q c c1 f1 c2 (G 32 D) c3 (G 32 N)) :
  ∀ (j k N c : Nat), k + j = md → N < 2 ^ (32 * (i + md + 1)) → c < 2 → N + c * 2 ^ (32 * (i + k)) = N0 + D % 2 ^ (32 * k) * 2 ^ (32 * i) → zbj.l45 k0 (j + 1) n0 s md L md i q c md k c1 f1 c2 (G 32 D) c3 (G 32 N) := by
 intro j
 induction j with
 | zero =>
  intro k N c hk hN hc hE
  have hk : k = md := by omega
  subst hk
  unfold zbj.l45 zbj.l45.step
  rw [yau (ya2 (by omega))]
  rw [Nat.mod_eq_of_lt hD] at hE
  exact h N c hN (by omega) hE
 | succ j ih =>
  intro k N c hk hN hc hE
  have hdN := ya5 32 N (i + k)
  have hdD := ya5 32 D k
  rw [B32] at hdN hdD
  have hD1 := ybh 32 D k
  obtain ⟨N', s1, s2⟩ := yno (k := 32) (N := N) (j := i + k) (s := c + (dg 32 N (i + k) + dg 32 D k)) rfl
  have hw : (c + (dg 32 N (i + k) + dg 32 D k)) % 4294967296 < 2 ^ 32 := Nat.mod_lt _ (by omega)
  have e : ((k + 1 : Nat) : Int) = (k : Int) + 1 := by omega
  have next := ih (k + 1) N' ((c + (dg 32 N (i + k) + dg 32 D k)) / 4294967296) (by omega) (ymp (by omega) hN (by omega) hw s1) (by omega) (by
   rw [hD1, show i + (k + 1) = i + k + 1 from by omega]
   rw [B32, Nat.add_mul, Nat.add_mul] at s2
   have hp : dg 32 D k * 2 ^ (32 * k) * 2 ^ (32 * i) = dg 32 D k * 2 ^ (32 * (i + k)) := by rw [Nat.mul_assoc, ← Nat.pow_add, show 32 * k + 32 * i = 32 * (i + k) from by omega]
   rw [Nat.add_mul, hp]
   omega)
  rw [e] at next
  have hG : upd (G 32 N) (i + k) (((c + (dg 32 N (i + k) + dg 32 D k)) % 4294967296 : Nat) : Int) = G 32 N' := ygF s1 hw
  have e0 : Int.toNat ((i : Int) + k) = i + k := by omega
  have e1 : ((c : Int) + ((dg 32 N (i + k) : Int) + (dg 32 D k : Int))) / 4294967296 = (((c + (dg 32 N (i + k) + dg 32 D k)) / 4294967296 : Nat) : Int) := by omega
  have e2 : ((c : Int) + ((dg 32 N (i + k) : Int) + (dg 32 D k : Int))) % 4294967296 = (((c + (dg 32 N (i + k) + dg 32 D k)) % 4294967296 : Nat) : Int) := by omega
  unfold zbj.l45 zbj.l45.step
  simp (disch := omega) only [yaZ, ya9, yaF, yba, Bool.and_self, Int.toNat_natCast, yas, yaQ, yg6, ybn, e0, ydj, ycr, e1, e2]
  rw [hG]; exact next
end Go.Ev.S

/- Natural numbers as rows of words: the loop of the long division. -/
set_option linter.unusedVariables false
set_option linter.unusedSimpArgs false
set_option maxRecDepth 8000
namespace Go.Ev.S
open Go Go.Ev
theorem ype {PT E R T q qs Nl : Nat} {z : Int} (hE : E < PT) (hNl : Nl < PT) (h1 : qs * E ≤ R) (h2 : R < qs * E + E) (hT : T = q * E) (h : (Nl : Int) + z * (PT : Int) = R - (T : Int)) (hq1 : qs ≤ q) (hq2 : q ≤ qs + 1) :
  (q = qs ∧ z = 0 ∧ Nl = R - qs * E) ∨ (q = qs + 1 ∧ z = -1 ∧ Nl + E = PT + (R - qs * E)) := by
 have zp : z ≥ 1 → (PT : Int) ≤ z * PT := fun hz => by
  have := Int.mul_le_mul_of_nonneg_right hz (show (0 : Int) ≤ PT by omega)
  omega
 have zn : z ≤ -1 → z * PT ≤ -(PT : Int) := fun hz => by
  have := Int.mul_le_mul_of_nonneg_right hz (show (0 : Int) ≤ PT by omega)
  omega
 have zn2 : z ≤ -2 → z * PT ≤ -(PT : Int) - PT := fun hz => by
  have := Int.mul_le_mul_of_nonneg_right hz (show (0 : Int) ≤ PT by omega)
  omega
 rcases (by omega : q = qs ∨ q = qs + 1) with e | e
 ·left
  rw [e] at hT
  have hz : z = 0 := by
   rcases (by omega : z ≥ 1 ∨ z ≤ -1 ∨ z = 0) with hz | hz | hz
   ·have := zp hz; omega
   ·have := zn hz; omega
   ·exact hz
  subst hz
  refine ⟨e, rfl, ?_⟩
  rw [Int.zero_mul] at h
  omega
 ·right
  rw [e, Nat.add_mul, Nat.one_mul] at hT
  have hz : z = -1 := by
   rcases (by omega : z ≥ 1 ∨ z ≤ -2 ∨ z = 0 ∨ z = -1) with hz | hz | hz | hz
   ·have := zp hz; omega
   ·have := zn2 hz; omega
   ·subst hz; rw [Int.zero_mul] at h; omega
   ·exact hz
  subst hz
  refine ⟨e, rfl, ?_⟩
  omega
theorem ymx (D R md i : Nat) (hmd : 2 ≤ md) (hD : D < 2 ^ (32 * md)) (hv : dg 32 D (md - 1) ≠ 0) (hR : R < D * 2 ^ (32 * (i + 1))) :
  ∃ dl ul P, 0 < P ∧ dl < P ∧ ul < P ∧ D = (dg 32 D (md - 1) * 4294967296 + dg 32 D (md - 2)) * P + dl ∧
   R / 2 ^ (32 * i) = ((dg 32 R (i + md) * 4294967296 + dg 32 R (i + md - 1)) * 4294967296 + dg 32 R (i + md - 2)) * P + ul ∧
   R / 2 ^ (32 * i) < D * 4294967296 ∧ dg 32 R (i + md) ≤ dg 32 D (md - 1) ∧ R / 2 ^ (32 * i) / D ≤ (dg 32 R (i + md) * 4294967296 + dg 32 R (i + md - 1)) / dg 32 D (md - 1) := by
 obtain ⟨m, rfl⟩ : ∃ m, md = m + 2 := ⟨md - 2, by omega⟩
 have hU : R / 2 ^ (32 * i) < D * 4294967296 := by
  rw [Nat.div_lt_iff_lt_mul (Nat.two_pow_pos _), Nat.mul_assoc, Nat.mul_comm 4294967296, ← B32, ← yb9]
  exact hR
 have hd := fun j => ynD 32 R i j
 generalize R / 2 ^ (32 * i) = U at *
 have hUB : U < 2 ^ (32 * (m + 3)) := by
  rw [yb9, B32]
  exact Nat.lt_trans hU (Nat.mul_lt_mul_of_pos_right hD (by omega))
 have a1 := ydl 32 D m
 have a2 := ydl 32 D (m + 1)
 have b1 := ydl 32 U m
 have b2 := ydl 32 U (m + 1)
 have b3 := ydl 32 U (m + 2)
 rw [Nat.div_eq_of_lt hD] at a2
 rw [Nat.div_eq_of_lt hUB] at b3
 rw [B32] at a1 a2 b1 b2 b3
 rw [hd] at b1 b2 b3
 rw [show m + 1 + 1 = m + 2 from rfl] at b2
 have hP := Nat.two_pow_pos (32 * m)
 have c1 := Nat.div_add_mod D (2 ^ (32 * m))
 have c2 := Nat.div_add_mod U (2 ^ (32 * m))
 have c3 := Nat.mod_lt D hP
 have c4 := Nat.mod_lt U hP
 have c5 := Nat.mod_lt D (Nat.two_pow_pos (32 * (m + 1)))
 have c6 := Nat.div_add_mod D (2 ^ (32 * (m + 1)))
 have d1 : D / 2 ^ (32 * m) = dg 32 D (m + 1) * 4294967296 + dg 32 D m := by omega
 have d2 : U / 2 ^ (32 * m) = (dg 32 R (i + (m + 2)) * 4294967296 + dg 32 R (i + (m + 1))) * 4294967296 + dg 32 R (i + m) := by omega
 have d3 : D / 2 ^ (32 * (m + 1)) = dg 32 D (m + 1) := by omega
 have d4 : U / 2 ^ (32 * (m + 1)) = dg 32 R (i + (m + 2)) * 4294967296 + dg 32 R (i + (m + 1)) := by omega
 have d5 : U / 2 ^ (32 * (m + 2)) = dg 32 R (i + (m + 2)) := by omega
 simp only [show m + 2 - 1 = m + 1 from rfl, show m + 2 - 2 = m from rfl, show i + (m + 2) - 1 = i + (m + 1) from rfl, show i + (m + 2) - 2 = i + m from rfl] at hv ⊢
 refine ⟨D % 2 ^ (32 * m), U % 2 ^ (32 * m), 2 ^ (32 * m), hP, c3, c4, ?_, ?_, hU, ?_, ?_⟩
 ·rw [← d1, Nat.mul_comm]; exact c1.symm
 ·rw [← d2, Nat.mul_comm]; exact c2.symm
 ·rw [← d5]
  have : U < (dg 32 D (m + 1) + 1) * 2 ^ (32 * (m + 2)) := by
   rw [show m + 2 = m + 1 + 1 from rfl, yb9 32 (m + 1), B32, ← Nat.mul_assoc]
   refine Nat.lt_of_lt_of_le hU (Nat.mul_le_mul_right _ ?_)
   rw [Nat.add_mul, ← d3, Nat.mul_comm (D / _)]
   omega
  have := (Nat.div_lt_iff_lt_mul (Nat.two_pow_pos (32 * (m + 2)))).2 this
  omega
 ·rw [← d4, Nat.div_div_eq_div_mul]
  refine Nat.div_le_div_left ?_ (Nat.mul_pos (Nat.two_pow_pos _) (by omega))
  rw [← d3]; exact Nat.mul_div_le D _
theorem yke {N t w z : Nat} (hN : N < 2 ^ (32 * (t + 1))) (hw : w < 2 ^ 32) : upd (G 32 N) t (w : Int) = G 32 (N % 2 ^ (32 * t) + w * 2 ^ (32 * t)) := by
 rw [yrP 32 N w t hw, Nat.div_eq_of_lt hN, Nat.zero_mul, Nat.add_zero]
theorem yhQ (n0 : Nat) (s : Int) (L md i : Nat) (hmd : 2 ≤ md) (hmd2 : md ≤ 1000000) (hi : i ≤ 1000000) (hL : i + md < L) (hL2 : L ≤ 2000000) (hin : i < n0) (hn : n0 ≤ 1000000) (c1 c2 c3 : Nat) (D Q R : Nat)
  (hD : D < 2 ^ (32 * md)) (hv : dg 32 D (md - 1) ≠ 0) (hR : R < D * 2 ^ (32 * (i + 1))) (hQ : Q % 2 ^ (32 * (i + 1)) = 0)
  (again : Nat → Int → Nat → Nat → Int → Int → Nat → (Nat → Int) → Nat → (Nat → Int) → Nat → (Nat → Int) → Prop) (k0 : Nat → Int → Nat → Nat → (Nat → Int) → Nat → (Nat → Int) → Prop)
  (h : ∀ q R', q < 4294967296 → R' + q * (D * 2 ^ (32 * i)) = R → R' < D * 2 ^ (32 * i) → again n0 s md L md ((i : Int) - 1) c1 (G 32 (Q + q * 2 ^ (32 * i))) c2 (G 32 D) c3 (G 32 R')) :
  zbj.l20.step again k0 n0 s md L md i c1 (G 32 Q) c2 (G 32 D) c3 (G 32 R) := by
 obtain ⟨dl, ul, P, hP, hdl, hul, hDe, hUe, hUB, hu1, hq0⟩ := ymx D R md i hmd hD hv hR
 have hv1 := ya5 32 D (md - 1)
 have hv2 := ya5 32 D (md - 2)
 have hr0 := ya5 32 R (i + md)
 have hr1 := ya5 32 R (i + md - 1)
 rw [B32] at hv1 hv2 hr0 hr1
 have hD0 : 0 < D := by
  rcases Nat.eq_zero_or_pos D with e | e
  ·rw [e] at hR; omega
  ·exact e
 have hx2 : dg 32 R (i + md) * 4294967296 + dg 32 R (i + md - 1) < 18446744073709551616 := by omega
 have hqs : R / 2 ^ (32 * i) / D < 4294967296 := (Nat.div_lt_iff_lt_mul hD0).2 (by rw [Nat.mul_comm 4294967296]; exact hUB)
 have hPi := Nat.two_pow_pos (32 * i)
 have hE : D * 2 ^ (32 * i) < 2 ^ (32 * (i + md)) := by
  rw [show 32 * (i + md) = 32 * md + 32 * i from by omega, Nat.pow_add]
  exact Nat.mul_lt_mul_of_pos_right hD hPi
 have hRlt : R < 2 ^ (32 * (i + md + 1)) := by
  refine Nat.lt_trans hR ?_
  rw [show 32 * (i + md + 1) = 32 * md + 32 * (i + 1) from by omega, Nat.pow_add]
  exact Nat.mul_lt_mul_of_pos_right hD (Nat.two_pow_pos _)
 have hq1 : R / 2 ^ (32 * i) / D * (D * 2 ^ (32 * i)) ≤ R := by
  rw [Nat.div_div_eq_div_mul, Nat.mul_comm (2 ^ (32 * i)) D]; exact Nat.div_mul_le_self _ _
 have hq2 : R < R / 2 ^ (32 * i) / D * (D * 2 ^ (32 * i)) + D * 2 ^ (32 * i) := by
  rw [Nat.div_div_eq_div_mul, Nat.mul_comm (2 ^ (32 * i)) D]
  have a := Nat.div_add_mod R (D * 2 ^ (32 * i))
  have b := Nat.mod_lt R (Nat.mul_pos hD0 hPi)
  rw [Nat.mul_comm] at a
  omega
 generalize R / 2 ^ (32 * i) = U at *
 have fin := h (U / D) (R - U / D * (D * 2 ^ (32 * i))) hqs (by omega) (by omega)
 generalize hqse : U / D = qs at *
 have i0 : yao IntKind.i64 (md : Int) 1 = (md : Int) - 1 := by rw [yar (by omega) (by omega)]
 have i1 : yai IntKind.i64 (i : Int) (md : Int) = (i : Int) + md := by rw [yas (by omega) (by omega)]
 have i2 : yao IntKind.i64 ((i : Int) + md) 1 = (i : Int) + md - 1 := by rw [yar (by omega) (by omega)]
 have i3 : Int.toNat ((md : Int) - 1) = md - 1 := by omega
 have i4 : Int.toNat ((i : Int) + md - 1) = i + md - 1 := by omega
 have i5 : Int.toNat ((i : Int) + md) = i + md := by omega
 have i6 : yao IntKind.i64 (i : Int) 1 = (i : Int) - 1 := by rw [yar (by omega) (by omega)]
 have w0 : (leI 0 ((i : Int) + md) && ltI ((i : Int) + md) (L : Int)) = true := by rw [ya9 (by omega), yaZ (by omega)]; rfl
 have w1 : (leI 0 ((i : Int) + md - 1) && ltI ((i : Int) + md - 1) (L : Int)) = true := by rw [ya9 (by omega), yaZ (by omega)]; rfl
 have w2 : (leI 0 ((md : Int) - 1) && ltI ((md : Int) - 1) (md : Int)) = true := by rw [ya9 (by omega), yaZ (by omega)]; rfl
 have w3 : (leI 0 (i : Int) && ltI (i : Int) (n0 : Int)) = true := by rw [ya9 (by omega), yaZ (by omega)]; rfl
 have w4 : (!eqI ((dg 32 D (md - 1) : Nat) : Int) 0) = true := by rw [yip (by omega)]; rfl
 have c0 : ∀ j, cvI IntKind.u64 ((dg 32 D j : Nat) : Int) = (dg 32 D j : Nat) := fun j => by
  have := ya5 32 D j; rw [B32] at this; rw [yaQ (by omega) (by omega)]
 have c4 : ∀ j, cvI IntKind.u64 ((dg 32 R j : Nat) : Int) = (dg 32 R j : Nat) := fun j => by
  have := ya5 32 R j; rw [B32] at this; rw [yaQ (by omega) (by omega)]
 -- the quotient's word
 have setQ : ∀ q : Nat, q = qs → upd (G 32 Q) i (cvI IntKind.u32 (q : Int)) = G 32 (Q + qs * 2 ^ (32 * i)) := by
  intro q e
  have hz : dg 32 Q i = 0 := by
   have := ybh 32 Q i
   rw [hQ] at this
   have h0 : dg 32 Q i * 2 ^ (32 * i) = 0 := by omega
   rcases Nat.mul_eq_zero.1 h0 with h0 | h0
   ·exact h0
   ·omega
  rw [e, ycr, show ((qs : Nat) : Int) % 4294967296 = ((qs : Nat) : Int) from by omega]
  exact ygF (by rw [hz]; omega) (by rw [B32]; exact hqs)
 unfold zbj.l20.step
 rw [yaA (ya9 (by omega)), i1, i2, i0, i3, i4, i5, ybo w0, ybo w1, ybo w2]
 simp only [ybn]
 rw [c0, c4, c4, ybo w4, ybo w2, ybo w4, yhq _ _ hr0 hr1, yp8 _ _ hx2, yfY (by omega), ← Int.natCast_emod]
 refine ⟨_, yha 0 s L md i hi hmd hmd2 hL n0 D R c1 c2 c3 (G 32 Q) U (dg 32 D (md - 1)) (dg 32 D (md - 2)) dl _ (dg 32 R (i + md - 2)) ul P hP hDe hdl hUe hul hD0 hUB (by omega) ?_ hx2 rfl rfl rfl _ ?_ _ _ ?_ ?_ ?_⟩
 ·omega
 ·-- behind the guess
  intro q hge hle hqB
  rw [hqse] at hge hle
  refine ⟨md + 1, ?_⟩
  refine yir n0 s L md i q hi hmd2 hL hqB c1 c2 c3 (G 32 Q) D R hD hRlt _ ?_ md 0 R 0 0 (by omega) hRlt (by omega) (by omega) (by omega) (by simp [Nat.mod_one])
  intro N c b hN hc hb1 hb2 hE2
  have hdN := ya5 32 N (i + md)
  rw [B32] at hdN
  have hNs := ybh 32 N (i + md)
  rw [Nat.mod_eq_of_lt hN] at hNs
  have hNl := Nat.mod_lt N (Nat.two_pow_pos (32 * (i + md)))
  have e1 : ((dg 32 N (i + md) : Nat) : Int) - (c : Int) = (dg 32 N (i + md) : Int) - c := rfl
  have cz : yai IntKind.i64 b (yao IntKind.i64 (cvI IntKind.i64 ((dg 32 N (i + md) : Nat) : Int)) (cvI IntKind.i64 (c : Int))) = b + ((dg 32 N (i + md) : Int) - c) := by
   rw [yhe (by omega) (by omega), yhe (by omega) (by omega), yar (by omega) (by omega), yas (by omega) (by omega)]
  have hf := ype (z := b + ((dg 32 N (i + md) : Int) - c)) (T := q * D * 2 ^ (32 * i)) (q := q) hE hNl hq1 hq2 (by rw [Nat.mul_assoc]) (by
   rw [← hE2]
   have e2 : (N : Int) = ((N % 2 ^ (32 * (i + md)) : Nat) : Int) + (dg 32 N (i + md) : Int) * ((2 ^ (32 * (i + md)) : Nat) : Int) := by
    have : ((N : Nat) : Int) = ((N % 2 ^ (32 * (i + md)) + dg 32 N (i + md) * 2 ^ (32 * (i + md)) : Nat) : Int) := by rw [← hNs]
    rw [this]; simp
   rw [e2]
   generalize ((2 ^ (32 * (i + md)) : Nat) : Int) = PT
   rw [show b + ((dg 32 N (i + md) : Int) - c) = dg 32 N (i + md) + (b - c) from by omega, Int.add_mul]
   omega) hge hle
  show gd _ _
  rw [i1, i5, ybo w0, ybo w0]
  simp only [ybn]
  rw [cz]
  rcases hf with ⟨hq, hz, hNe⟩ | ⟨hq, hz, hNe⟩
  ·rw [hz, yau (by rfl), ybo w3, i6, Int.toNat_natCast, setQ q hq]
   have : upd (G 32 N) (i + md) (cvI IntKind.u32 0) = G 32 (R - qs * (D * 2 ^ (32 * i))) := by
    have := yke (w := 0) (z := 0) hN (by omega)
    rw [Nat.zero_mul, Nat.add_zero, hNe] at this
    exact this
   rw [this]; exact fin
  ·rw [hz, yaA (by rfl)]
   have hup : upd (G 32 N) (i + md) (cvI IntKind.u32 (-1)) = G 32 (N % 2 ^ (32 * (i + md)) + 4294967295 * 2 ^ (32 * (i + md))) :=
    yke (w := 4294967295) (z := 0) hN (by omega)
   have hNlt := yhr 32 (N % 2 ^ (32 * (i + md))) 4294967295 (i + md) hNl (by omega)
   have hs1 : yao IntKind.u64 (q : Int) 1 = ((qs : Nat) : Int) := by rw [yjy (by omega) (by omega)]; omega
   rw [hup, hs1]
   refine ⟨md + 1, ?_⟩
   refine yiq n0 s L md i (qs : Int) hi hmd2 hL c1 c2 c3 (G 32 Q) D (N % 2 ^ (32 * (i + md)) + 4294967295 * 2 ^ (32 * (i + md))) hD _ ?_ md 0 _ 0 (by omega) hNlt (by omega) (by simp [Nat.mod_one])
   intro N2 c5 hN2 hc5 hE3
   have hd2 := ya5 32 N2 (i + md)
   rw [B32] at hd2
   have hNs2 := ybh 32 N2 (i + md)
   rw [Nat.mod_eq_of_lt hN2] at hNs2
   have hNl2 := Nat.mod_lt N2 (Nat.two_pow_pos (32 * (i + md)))
   have cc : cvI IntKind.u32 (c5 : Int) = c5 := by rw [ycr]; omega
   -- the sum of the two highest words is the base
   have hsum : dg 32 N2 (i + md) + c5 = 4294967296 ∧ N2 % 2 ^ (32 * (i + md)) = R - qs * (D * 2 ^ (32 * i)) := by
    have hl : N2 % 2 ^ (32 * (i + md)) + (dg 32 N2 (i + md) + c5) * 2 ^ (32 * (i + md)) = (R - qs * (D * 2 ^ (32 * i))) + 4294967296 * 2 ^ (32 * (i + md)) := by
     rw [Nat.add_mul]; omega
    have hlt : R - qs * (D * 2 ^ (32 * i)) < 2 ^ (32 * (i + md)) := by omega
    generalize 2 ^ (32 * (i + md)) = PT at *
    generalize dg 32 N2 (i + md) + c5 = t at *
    generalize R - qs * (D * 2 ^ (32 * i)) = v at *
    generalize N2 % PT = u at *
    have hPT : 0 < PT := by omega
    have a1 : (u + t * PT) / PT = t := by rw [Nat.add_mul_div_right _ _ hPT, Nat.div_eq_of_lt hNl2, Nat.zero_add]
    have a2 : (v + 4294967296 * PT) / PT = 4294967296 := by rw [Nat.add_mul_div_right _ _ hPT, Nat.div_eq_of_lt hlt, Nat.zero_add]
    rw [hl, a2] at a1
    subst a1
    exact ⟨rfl, by omega⟩
   show gd _ _
   rw [i1, i5, ybo w0, ybo w0, ybo w3, i6, Int.toNat_natCast, setQ qs rfl]
   simp only [ybn]
   have ha : yai IntKind.u32 ((dg 32 N2 (i + md) : Nat) : Int) (cvI IntKind.u32 (c5 : Int)) = ((0 : Nat) : Int) := by
    rw [cc, show yai IntKind.u32 ((dg 32 N2 (i + md) : Nat) : Int) (c5 : Int) = IntKind.wrap .u32 (((dg 32 N2 (i + md) : Nat) : Int) + c5) from rfl, ynd]
    omega
   rw [ha, yke (w := 0) (z := 0) hN2 (by omega), Nat.zero_mul, Nat.add_zero, hsum.2]
   exact fin
 ·rw [Nat.mul_comm]; exact Nat.div_add_mod _ _
 ·exact Nat.lt_trans (Nat.mod_lt _ (by omega)) hv1
 ·rw [hqse]; exact hq0
theorem yqW {Q n m : Nat} (h : Q % 2 ^ m = 0) (hn : n ≤ m) : Q % 2 ^ n = 0 := by
 have : 2 ^ n ∣ 2 ^ m := Nat.pow_dvd_pow 2 hn
 exact Nat.mod_eq_zero_of_dvd (Nat.dvd_trans this (Nat.dvd_of_mod_eq_zero h))
theorem yis (n0 : Nat) (s : Int) (L md : Nat) (hmd : 2 ≤ md) (hmd2 : md ≤ 1000000) (hL2 : L ≤ 2000000) (hn : n0 ≤ 1000000) (c1 c2 c3 : Nat) (D N0 : Nat)
  (hD : D < 2 ^ (32 * md)) (hv : dg 32 D (md - 1) ≠ 0)
  (k0 : Nat → Int → Nat → Nat → (Nat → Int) → Nat → (Nat → Int) → Prop)
  (h : ∀ Q R, Q * D + R = N0 → R < D → Q < 2 ^ (32 * n0) → k0 n0 s L c1 (G 32 Q) c3 (G 32 R)) :
  ∀ (t Q R : Nat), t + md ≤ L → t ≤ n0 → R < D * 2 ^ (32 * t) → Q % 2 ^ (32 * t) = 0 → Q < 2 ^ (32 * n0) → Q * D + R = N0 → zbj.l20 k0 (t + 1) n0 s md L md ((t : Int) - 1) c1 (G 32 Q) c2 (G 32 D) c3 (G 32 R) := by
 intro t
 induction t with
 | zero =>
  intro Q R hL ht hR hQ hQ2 hN
  unfold zbj.l20 zbj.l20.step
  rw [yau (yeu (by omega))]
  refine h Q R hN ?_ hQ2
  rw [Nat.mul_zero, Nat.pow_zero, Nat.mul_one] at hR; exact hR
 | succ t ih =>
  intro Q R hL ht hR hQ hQ2 hN
  unfold zbj.l20
  rw [show ((t + 1 : Nat) : Int) - 1 = (t : Int) from by omega]
  refine yhQ n0 s L md t hmd hmd2 (by omega) (by omega) hL2 (by omega) hn c1 c2 c3 D Q R hD hv hR hQ _ _ fun q R' hq he hR' => ?_
  have hz : dg 32 Q t = 0 := by
   have h1 := ybh 32 Q t
   rw [hQ] at h1
   have h0 : dg 32 Q t * 2 ^ (32 * t) = 0 := by omega
   have hp := Nat.two_pow_pos (32 * t)
   rcases Nat.mul_eq_zero.1 h0 with h0 | h0
   ·exact h0
   ·omega
  refine ih _ R' (by omega) (by omega) hR' ?_ (ymp (w := q) (j := t) (by omega) hQ2 (by omega) (by rw [B32]; exact hq) (by rw [hz]; omega)) ?_
  ·rw [Nat.add_mul_mod_self_right]; exact yqW hQ (by omega)
  ·rw [Nat.add_mul, Nat.mul_assoc, Nat.mul_comm (2 ^ (32 * t)) D]; omega
theorem yj9 (x y n : Nat) (hn : n ≤ 1000000) (hy : y ≠ 0) (hyB : y < 4294967296) (k0 : Nat → Int → Nat → (Nat → Int) → Prop) (c : Nat) (h : k0 n ((x % y : Nat) : Int) c (G 32 (x / y))) :
  ∀ t, t ≤ n → zbj.l7 k0 (t + 1) n (G 32 x) 1 (G 32 y) n ((x / 2 ^ (32 * t) % y : Nat) : Int) ((t : Int) - 1) c (G 32 (x / 2 ^ (32 * t) / y * 2 ^ (32 * t))) := by
 intro t
 induction t with
 | zero =>
  intro ht
  unfold zbj.l7 zbj.l7.step
  rw [yau (yeu (by omega)), Nat.mul_zero, Nat.pow_zero, Nat.div_one, Nat.mul_one]
  exact h
 | succ t ih =>
  intro ht
  have ih := ih (by omega)
  have hX := ydl 32 x t
  rw [B32] at hX
  have hd := ya5 32 x t
  rw [B32] at hd
  have hp := Nat.two_pow_pos (32 * t)
  generalize hX1 : x / 2 ^ (32 * (t + 1)) = X1 at *
  rw [hX] at ih
  have hr := Nat.mod_lt X1 (show 0 < y by omega)
  have hdm := Nat.div_add_mod X1 y
  generalize hre : X1 % y = r at *
  generalize hqe : X1 / y = Q1 at *
  have hsum : dg 32 x t + X1 * 4294967296 = r * 4294967296 + dg 32 x t + y * (Q1 * 4294967296) := by
   rw [← hdm, Nat.add_mul, Nat.mul_assoc]; omega
  have hmod : (dg 32 x t + X1 * 4294967296) % y = (r * 4294967296 + dg 32 x t) % y := by rw [hsum, Nat.add_mul_mod_self_left]
  have hdiv : (dg 32 x t + X1 * 4294967296) / y = (r * 4294967296 + dg 32 x t) / y + Q1 * 4294967296 := by rw [hsum, Nat.add_mul_div_left _ _ (by omega)]
  rw [hmod, hdiv] at ih
  have hq : (r * 4294967296 + dg 32 x t) / y < 4294967296 := by
   rw [Nat.div_lt_iff_lt_mul (by omega)]
   have : (r + 1) * 4294967296 ≤ y * 4294967296 := Nat.mul_le_mul_right _ hr
   omega
  have hw : r * 4294967296 + dg 32 x t < 18446744073709551616 := by omega
  have hG : upd (G 32 (Q1 * 2 ^ (32 * (t + 1)))) t (((r * 4294967296 + dg 32 x t) / y : Nat) : Int) = G 32 (((r * 4294967296 + dg 32 x t) / y + Q1 * 4294967296) * 2 ^ (32 * t)) := by
   have hz : dg 32 (Q1 * 2 ^ (32 * (t + 1))) t = 0 := by
    unfold dg
    rw [yb9, B32, Nat.mul_comm (2 ^ _), ← Nat.mul_assoc, Nat.mul_div_cancel _ hp]
    exact Nat.mul_mod_left _ _
   refine ygF ?_ (by rw [B32]; exact hq)
   rw [hz, yb9, B32, Nat.add_mul, Nat.mul_comm (2 ^ (32 * t)) 4294967296, ← Nat.mul_assoc]
   omega
  rw [← hG] at ih
  have o := yhq r (dg 32 x t) (by omega) hd
  have y0 : G 32 y 0 = (y : Int) := by rw [ybn, yso 32 y (by rw [B32]; exact hyB)]
  have e1 : ((t + 1 : Nat) : Int) - 1 = (t : Int) := by omega
  have w0 : (leI 0 (t : Int) && ltI (t : Int) (n : Int)) = true := by rw [ya9 (by omega), yaZ (by omega)]; rfl
  have w1 : (!eqI (y : Int) 0) = true := by rw [yip (by omega)]; rfl
  have cy : cvI IntKind.u64 (y : Int) = y := by rw [yaQ (by omega) (by omega)]
  have cx : cvI IntKind.u64 ((dg 32 x t : Nat) : Int) = (dg 32 x t : Nat) := by rw [yaQ (by omega) (by omega)]
  have r0 : ∀ a : Nat, yb8 IntKind.u64 ((a : Nat) : Int) ((y : Nat) : Int) = ((a % y : Nat) : Int) := fun a => by rw [yfY (by omega), ← Int.natCast_emod]
  unfold zbj.l7 zbj.l7.step
  rw [e1, yaA (ya9 (by omega)), ybo w0, ybo (yaZ (by omega)), y0, cy, ybo w1, ybo w0, ybo (yaZ (by omega)), ybo w1, Int.toNat_natCast, ybn, cx, o, yp8 _ _ hw, r0, ycr, yar (by omega) (by omega)]
  have e2 : ∀ q : Nat, q < 4294967296 → ((q : Nat) : Int) % 4294967296 = q := fun q h => by omega
  rw [e2 _ hq]
  exact ih
theorem ytD (n x : Nat) (hx : x < 2 ^ (32 * n)) : app n (G 32 x) (upd (fun _ => 0) 0 0) = G 32 x := by
 funext i
 unfold app
 by_cases h : i < n
 ·have : Nat.blt i n = true := by simpa using h
  rw [this]; rfl
 ·have : Nat.blt i n = false := by
   apply Bool.eq_false_iff.2; intro hc; simp at hc; omega
  rw [this, ybn, yeK 32 x n i hx (by omega)]
  show upd (fun _ => 0) 0 0 (i - n) = _
  by_cases h0 : i - n = 0
  ·rw [h0, ybZ]; rfl
  ·rw [ycT _ _ _ _ h0]; rfl
theorem ymD (x y s : Nat) : x * 2 ^ s / (y * 2 ^ s) = x / y := Nat.mul_div_mul_right _ _ (Nat.two_pow_pos s)
theorem ymP (x y s : Nat) : x * 2 ^ s % (y * 2 ^ s) = x % y * 2 ^ s := Nat.mul_mod_mul_right _ _ _
theorem ytG (k : Nat) (hk : k ≠ 0) (x n : Nat) : n < wl k x ↔ 2 ^ (k * n) ≤ x := by
 have := yet k hk x n
 omega
theorem yf8 (x y : Nat) (hx : wl 32 x ≤ 100000) (hy0 : y ≠ 0) (hy : wl 32 y ≤ 100000) (K : Nat → (Nat → Int) → Nat → (Nat → Int) → Prop) (h : K (wl 32 (x / y)) (G 32 (x / y)) (wl 32 (x % y)) (G 32 (x % y))) :
  zbj (wl 32 x) (G 32 x) (wl 32 y) (G 32 y) K := by
 have h32 : (32 : Nat) ≠ 0 := by omega
 rw [zbj.is]; unfold zbj.d
 refine yjp x y _ _ (by omega) (by omega) rfl rfl _ ?_
 rw [ypj]
 by_cases hlt : x < y
 ·rw [yaA (by simpa using hlt)]
  rw [Nat.div_eq_of_lt hlt, Nat.mod_eq_of_lt hlt, yds, ycx] at h
  exact h
 ·rw [yau (by simpa using hlt)]
  have hxl := yeJ 32 h32 x
  have hyl := yeJ 32 h32 y
  have hyt := yni 32 h32 y hy0
  have hxy := yb6 (k := 32) h32 (show y ≤ x by omega)
  have hyp : wl 32 y ≠ 0 := by rw [yjd hy0 h32]; omega
  have hdx : x / y < 2 ^ (32 * wl 32 x) := Nat.lt_of_le_of_lt (Nat.div_le_self x y) hxl
  generalize hne : wl 32 x = n at *
  rw [ybo (by rw [ya9 (by omega), ya9 (by omega), ya9 (by omega)]; rfl)]
  by_cases h1 : wl 32 y = 1
  ·have hyB : y < 4294967296 := by rw [h1] at hyl; exact hyl
   rw [h1, yaA (ykA (by omega)), Int.toNat_natCast, yar (by omega) (by omega)]
   refine ⟨n + 1, ?_⟩
   have := yj9 x y n (by omega) hy0 hyB (fun y0 y1 y2 y3 => zbc y0 y2 y3 fun y0 y1_1 y2 => zbd 1 1 1 (upd (fun x => 0) 0 (cvI IntKind.u32 y1)) fun y0_1 y1 y2_1 y3 => K y0 y2 y0_1 y3) n ?_ n (Nat.le_refl _)
   ·rw [Nat.div_eq_of_lt hxl, Nat.zero_mod, Nat.zero_div, Nat.zero_mul, ycx] at this
    exact this
   ·refine ydX n n _ (by omega) hdx _ ?_
    have hm := Nat.mod_lt x (show 0 < y by omega)
    have := yk6 32 0 (x % y) 0 (by simp) (by rw [B32]; omega)
    rw [Nat.mul_zero, Nat.pow_zero, Nat.mul_one, Nat.zero_add, ycx] at this
    rw [ycr, show ((x % y : Nat) : Int) % 4294967296 = ((x % y : Nat) : Int) from by generalize x % y = r at *; omega, this]
    exact ycY 1 1 1 _ (by omega) (by omega) (by rw [show 32 * 1 = 32 from rfl, B32]; omega) _ fun c => h
  ·rw [yau (yip (by omega))]
   have hdt := ya5 32 y (wl 32 y - 1)
   rw [B32] at hdt
   have e1 : Int.toNat ((wl 32 y : Int) - 1) = wl 32 y - 1 := by omega
   rw [yar (by omega) (by omega), e1, ybo (by rw [ya9 (by omega), yaZ (by omega)]; rfl), ybn, yaQ (by omega) (by omega)]
   refine yeW _ (by omega) _ ?_
   have hb : yaw (dg 32 y (wl 32 y - 1)) ≤ 32 := (yaV _ _).2 (by rw [B32]; exact hdt)
   have es : yao IntKind.i64 32 ((yaw (dg 32 y (wl 32 y - 1)) : Nat) : Int) = ((32 - yaw (dg 32 y (wl 32 y - 1)) : Nat) : Int) := by
    rw [yar (by omega) (by omega)]; omega
   rw [es]
   generalize hse : 32 - yaw (dg 32 y (wl 32 y - 1)) = s
   have hs : s ≤ 32 := by omega
   -- the divisor moved
   have hps := Nat.two_pow_pos s
   have hD0 : y * 2 ^ s ≠ 0 := by
    intro e; rcases Nat.mul_eq_zero.1 e with e | e
    ·exact hy0 e
    ·omega
   have hX0 : x * 2 ^ s ≠ 0 := by
    intro e; rcases Nat.mul_eq_zero.1 e with e | e
    ·omega
    ·omega
   have hle : ∀ z : Nat, z ≤ z * 2 ^ s := fun z => Nat.le_mul_of_pos_right z hps
   have wD1 := yb6 (k := 32) h32 (hle y)
   have wX1 := yb6 (k := 32) h32 (hle x)
   have wup : ∀ z m : Nat, z < 2 ^ (32 * m) → wl 32 (z * 2 ^ s) ≤ m + 1 := fun z m hz => by
    rw [yet 32 h32, yb9]
    exact Nat.mul_lt_mul_of_lt_of_le hz (Nat.pow_le_pow_right (by omega) hs) (Nat.two_pow_pos _)
   have wD2 := wup y _ hyl
   have wX2 := wup x _ hxl
   have wDX : wl 32 (y * 2 ^ s) ≤ wl 32 (x * 2 ^ s) := yb6 (k := 32) h32 (Nat.mul_le_mul_right _ (by omega))
   rw [hne] at wX1
   refine yhX y _ s (by omega) (by omega) hyl _ _ (fun e => absurd e hyp) fun _ c2 m2 => ?_
   refine yhX x _ s (by omega) (by omega) hxl _ _ (fun e => absurd e (by omega)) fun _ c3 m3 => ?_
   have hDl := yeJ 32 h32 (y * 2 ^ s)
   have hDt := yni 32 h32 _ hD0
   have hXl := yeJ 32 h32 (x * 2 ^ s)
   rw [ytD _ _ hXl]
   generalize hmd : wl 32 (y * 2 ^ s) = md at *
   generalize hL : wl 32 (x * 2 ^ s) = L at *
   rw [ybo (ytM (by omega))]
   refine ⟨1, ?_⟩
   unfold zbj.l16 zbj.l16.step
   rw [yas (by omega) (by omega), yau (ya2 (by omega)), Int.toNat_natCast]
   dsimp only
   have ei : yao IntKind.i64 (yao IntKind.i64 ((L + 1 : Nat) : Int) (md : Int)) 1 = ((L + 1 - md : Nat) : Int) - 1 := by
    simp (disch := omega) only [yar]
    omega
   rw [ei]
   refine ⟨L + 1 - md + 1, ?_⟩
   rw [← ycx 32]
   refine yis n s (L + 1) md (by omega) (by omega) (by omega) (by omega) n m2 (L + 1) (y * 2 ^ s) (x * 2 ^ s) hDl hDt _ (fun Q R he hR hQ => ?_) (L + 1 - md) 0 (x * 2 ^ s) (by omega) (by omega) ?_ (by simp) (Nat.two_pow_pos _) (by omega)
   ·have hq : Q = x / y := by
     rw [← ymD x y s, ← he, Nat.mul_comm Q, Nat.mul_add_div (by omega), Nat.div_eq_of_lt hR, Nat.add_zero]
    have hr : R = x % y * 2 ^ s := by
     rw [← ymP x y s, ← he, Nat.mul_comm Q, Nat.mul_add_mod, Nat.mod_eq_of_lt hR]
    refine ydX n n Q (by omega) hQ _ ?_
    have hRX : R < 2 ^ (32 * (L + 1)) := by
     have h1 : R ≤ x * 2 ^ s := by rw [← he]; omega
     have h2 : (2 : Nat) ^ (32 * L) ≤ 2 ^ (32 * (L + 1)) := Nat.pow_le_pow_right (by omega) (by omega)
     omega
    refine ydX (L + 1) (L + 1) R (by omega) hRX _ ?_
    refine yhL R _ s ?_ (by omega) (yeJ 32 h32 R) _ ?_
    ·have := (yet 32 h32 R (L + 1)).2 hRX
     omega
    ·have : R / 2 ^ s = x % y := by rw [hr, Nat.mul_div_cancel _ hps]
     rw [this, hq]; exact h
   ·have h1 : 2 ^ (32 * (md - 1)) ≤ y * 2 ^ s := (ytG 32 h32 _ _).1 (by omega)
    have h2 : 2 ^ (32 * (md - 1)) * 2 ^ (32 * (L + 1 - md)) ≤ y * 2 ^ s * 2 ^ (32 * (L + 1 - md)) := Nat.mul_le_mul_right _ h1
    rw [← Nat.pow_add, show 32 * (md - 1) + 32 * (L + 1 - md) = 32 * L from by omega] at h2
    omega
end Go.Ev.S

/- Natural numbers: quotients, greatest common divisors, roots. -/
set_option linter.unusedVariables false
set_option linter.unusedSimpArgs false
set_option maxRecDepth 8000
namespace Go.Ev.S
open Go Go.Ev
theorem ykn {a : List UInt8} (h : yjb a = true) : val a = 0 ↔ a = [] := by
 constructor
 ·intro e; rw [← yjh h, e, yaN]
 ·intro e; subst e; rfl
theorem yfO (a b : List UInt8) (K : List UInt8 → List UInt8 → Int → Prop) (h1 : ¬ (May a ∧ May b) → K [] [] 2) (h0 : b = [] → K [] [] 2) (h2 : May a → May b → val b ≠ 0 → K (nb (val a / val b)) (nb (val a % val b)) 0) : zat a b K := by
 rw [zat.is]; unfold zat.d
 rw [yc3]
 by_cases h : May a ∧ May b
 ·rw [yau (by simp [h]), ybb]
  by_cases hb : b = []
  ·rw [yaA (by simpa using hb)]; exact h0 hb
  ·rw [yau (by simpa using hb)]
   have hv : val b ≠ 0 := fun e => hb ((ykn h.2.2).1 e)
   refine h.1.words _ (h.2.words _ ?_)
   have w1 := h.1.wl; have w2 := h.2.wl
   have w3 := yb6 (k := 32) (by omega) (Nat.div_le_self (val a) (val b))
   have w4 := yb6 (k := 32) (by omega) (Nat.mod_le (val a) (val b))
   refine yf8 _ _ (by omega) hv (by omega) _ ?_
   refine yb7 _ _ (by omega) (yfX _) _ ?_
   exact yb7 _ _ (by omega) (yfX _) _ (h2 h.1 h.2 hv)
 ·rw [yaA (by simp [h])]; exact h1 h
theorem ykI (k0 : Nat → (Nat → Int) → Prop) : ∀ (y x : Nat), wl 32 x ≤ 100000 → wl 32 y ≤ 100000 → k0 (wl 32 (Nat.gcd x y)) (G 32 (Nat.gcd x y)) → ∃ f, zau.l4 k0 f (wl 32 x) (G 32 x) (wl 32 y) (G 32 y) := by
 intro y
 induction y using Nat.strongRecOn with
 | _ y ih =>
  intro x hx hy hk
  by_cases h0 : y = 0
  ·subst h0
   refine ⟨1, ?_⟩
   unfold zau.l4 zau.l4.step
   rw [yds, yau (ya2 (by omega))]
   rw [Nat.gcd_zero_right] at hk; exact hk
  ·have hm := Nat.mod_lt x (show 0 < y by omega)
   have w := yb6 (k := 32) (by omega) (Nat.le_of_lt hm)
   have hg : Nat.gcd y (x % y) = Nat.gcd x y := by rw [Nat.gcd_comm x y, Nat.gcd_rec y x, Nat.gcd_comm]
   obtain ⟨f, hf⟩ := ih (x % y) hm y hy (by omega) (by rw [hg]; exact hk)
   refine ⟨f + 1, ?_⟩
   unfold zau.l4 zau.l4.step
   have hp : wl 32 y ≠ 0 := by rw [yjd h0 (by omega)]; omega
   rw [yaA (yaZ (by omega))]
   exact yf8 x y hx h0 hy _ hf
theorem yoa (x y : Nat) : Nat.gcd x y ≤ x ∨ Nat.gcd x y ≤ y := by
 rcases Nat.eq_zero_or_pos x with e | e
 ·right; subst e; rw [Nat.gcd_zero_left]; omega
 ·left; exact Nat.gcd_le_left y e
theorem yiT (a b : List UInt8) (K : List UInt8 → Int → Prop) (h1 : ¬ (May a ∧ May b) → K [] 2) (h2 : May a → May b → K (nb (Nat.gcd (val a) (val b))) 0) : zau a b K := by
 rw [zau.is]; unfold zau.d
 rw [yc3]
 by_cases h : May a ∧ May b
 ·rw [yau (by simp [h])]
  refine h.1.words _ (h.2.words _ ?_)
  have w1 := h.1.wl; have w2 := h.2.wl
  refine ykI _ _ _ (by omega) (by omega) ?_
  have w3 : wl 32 (Nat.gcd (val a) (val b)) ≤ 4096 := by
   rcases yoa (val a) (val b) with e | e
   ·have := yb6 (k := 32) (by omega) e; omega
   ·have := yb6 (k := 32) (by omega) e; omega
  exact yb7 _ _ (by omega) (yfX _) _ (h2 h.1 h.2)
 ·rw [yaA (by simp [h])]; exact h1 h
end Go.Ev.S

/- What the document's answer reckons with natural numbers, byte by byte. -/
set_option linter.unusedVariables false
set_option linter.unusedSimpArgs false
set_option maxRecDepth 8000
namespace Go.Ev.S
open Go Go.Ev
theorem B8 : (2 : Nat) ^ 8 = 256 := rfl
theorem ymM (n0 x : Nat) (hn0 : n0 ≤ 1000000000) (k0 : Nat → (Nat → Int) → Int → Prop) (h : ∀ n : Nat, n ≤ n0 → x < 2 ^ (8 * n) → (n = 0 ∨ dg 8 x (n - 1) ≠ 0) → k0 n0 (G 8 x) n) :
  ∀ (n : Nat), n ≤ n0 → x < 2 ^ (8 * n) → zcw.l2 k0 (n + 1) n0 (G 8 x) n := by
 intro n
 induction n with
 | zero =>
  intro hn hx
  unfold zcw.l2 zcw.l2.step
  rw [yau (ya2 (by omega))]
  exact h 0 hn hx (.inl rfl)
 | succ n ih =>
  intro hn hx
  unfold zcw.l2 zcw.l2.step
  have e1 : ((n + 1 : Nat) : Int) - 1 = (n : Int) := by omega
  simp (disch := omega) only [yar, yaZ, ya9, yaF, yba, Bool.and_self, e1, Int.toNat_natCast, ybn]
  by_cases hd : dg 8 x n = 0
  ·rw [yaA (ykA (by omega))]
   refine ih (by omega) ?_
   have h2 := ybh 8 x n
   rw [Nat.mod_eq_of_lt hx, hd, Nat.zero_mul, Nat.add_zero] at h2
   have := Nat.mod_lt x (Nat.two_pow_pos (8 * n))
   omega
  ·rw [yau (yip (by omega))]
   exact h (n + 1) hn hx (.inr hd)
theorem yld (n0 x L c m : Nat) (hL : L ≤ n0) (hn0 : n0 ≤ 1000000000) (k0 : Nat → Nat → Nat → (Nat → Int) → Prop) (h : k0 L c m (BE L L x)) :
  ∀ (j i : Nat), i + j = L → zcw.l6 k0 (j + 1) n0 (G 8 x) L L c i m (BE L i x) := by
 intro j
 induction j with
 | zero =>
  intro i hi
  unfold zcw.l6 zcw.l6.step
  rw [yau (ya2 (by omega)), show i = L from by omega]
  exact h
 | succ j ih =>
  intro i hi
  have ih := ih (i + 1) (by omega)
  have e : ((i + 1 : Nat) : Int) = (i : Int) + 1 := by omega
  rw [e] at ih
  have e2 : Int.toNat ((L : Int) - 1 - i) = L - 1 - i := by omega
  unfold zcw.l6 zcw.l6.step
  simp (disch := omega) only [yar, yas, yaZ, ya9, yaF, yba, Bool.and_self, Int.toNat_natCast, e2, ybn]
  rw [ypF L i x (by omega)]
  exact ih
theorem ycE (n x : Nat) (hn : n ≤ 1000000000) (hx : x < 2 ^ (8 * n)) (K : List UInt8 → Prop) (h : K (nb x)) : zcw n (G 8 x) K := by
 rw [zcw.is]; unfold zcw.d
 refine ⟨n + 1, ymM n x hn _ (fun L hL hx' ht => ?_) n (Nat.le_refl _) hx⟩
 simp (disch := omega) only [ya9, yaF, Bool.and_self, Int.toNat_natCast]
 refine ⟨L + 1, ?_⟩
 have := yld n x L L L hL hn (fun y0 y1 y2 y3 => K (ybx y0 y3)) ?_ L 0 (by omega)
 ·rw [yo7] at this; exact this
 ·have h2 := ynM L 0 L x (by omega) hx' ht
  have e : (fun j => BE L L x (0 + j)) = BE L L x := by funext j; rw [Nat.zero_add]
  rw [e] at h2
  show K (ybx L (BE L L x))
  rw [h2]; exact h
theorem ybr (a : List UInt8) (i : Nat) (hi : i ≤ 1000000000) (hl : a.length ≤ 1000000000) (K : Int → Prop) : zct a i K = K (dg 8 (val a) i : Int) := by
 rw [zct.is]; unfold zct.d
 by_cases h : a.length ≤ i
 ·rw [yaA (ya9 (by omega)), yeK 8 (val a) a.length i (by rw [← yop]; exact yhc a) h]; rfl
 ·have e2 : Int.toNat ((a.length : Int) - 1 - i) = a.length - 1 - i := by omega
  have hd := ya5 8 (val a) i
  rw [B8] at hd
  simp (disch := omega) only [yar, yaZ, yeu, ya9, yaF, yep, Bool.and_self, e2]
  rw [yfy a i (by omega), yhe (by omega) (by omega)]
theorem ych (a : List UInt8) (K : Bool → Prop) : zcn a K = K (decide (May a)) := by
 rw [zcn.is]; unfold zcn.d
 by_cases h : a.length ≤ 16384
 ·rw [yaA (ya9 (by omega)), ybb]
  cases a with
  | nil => rw [yaA (by simp)]; congr 1
  | cons b l =>
   have hl : (0 : Int) < ((b :: l).length : Int) := by simp only [List.length_cons]; omega
   rw [yau (by simp), ybo (yaZ hl), ydn]
   by_cases hb : b.toNat = 0
   ·rw [ykA (by omega)]
    congr 1
    have : ¬ May (b :: l) := fun hm => by have := hm.2; simp [yjb, hb] at this
    simp [this]
   ·rw [yip (by omega)]
    congr 1
    have : May (b :: l) := ⟨h, by simpa [yjb] using hb⟩
    simp [this]
 ·rw [yau (yeu (by omega))]
  congr 1
  have : ¬ May a := fun hm => h hm.1
  simp [this]
theorem ymW (x : Nat) (K : List UInt8 → Int → Prop) : zcx (nb x) K = yn2 K x := by
 rw [zcx.is]; unfold zcx.d yn2
 by_cases h : 16384 < (nb x).length
 ·rw [yaA (yaZ (by omega)), if_pos h]
 ·rw [yau (ya2 (by omega)), if_neg h]
theorem ybe (a : List UInt8) : val a < 2 ^ (8 * a.length) := by rw [← yop]; exact yhc a
theorem ytp (s B P : Nat) : s % B * P + s / B * (P * B) = s * P := by
 have := Nat.div_add_mod s B
 conv => rhs; rw [← this]
 rw [Nat.add_mul, Nat.mul_comm B, Nat.mul_assoc, Nat.mul_comm B, Nat.add_comm]
theorem ylf (a b : List UInt8) (n : Nat) (hn : n ≤ 1000000) (ha : a.length ≤ n) (hb : b.length ≤ n) (c0 m0 : Nat) (k0 : Nat → Nat → Nat → (Nat → Int) → Prop) (h : k0 (n + 1) c0 m0 (G 8 (val a + val b))) :
  ∀ (j i z c : Nat), i + j = n + 1 → z < 2 ^ (8 * i) → z + c * 2 ^ (8 * i) = val a % 2 ^ (8 * i) + val b % 2 ^ (8 * i) → c < 2 → zcs.l7 k0 (j + 1) a b n (n + 1) c0 c i m0 (G 8 z) := by
 have hx : val a < 2 ^ (8 * n) := Nat.lt_of_lt_of_le (ybe a) (yb0 ha)
 have hy : val b < 2 ^ (8 * n) := Nat.lt_of_lt_of_le (ybe b) (yb0 hb)
 intro j
 induction j with
 | zero =>
  intro i z c hi hz hN hc
  have hi : i = n + 1 := by omega
  subst hi
  unfold zcs.l7 zcs.l7.step
  rw [yau (yeu (by omega))]
  rw [yb9, B8] at hN hz
  rw [Nat.mod_eq_of_lt (by omega), Nat.mod_eq_of_lt (by omega)] at hN
  have hc0 : c = 0 := by
   rcases (show c = 0 ∨ c = 1 by omega) with h0 | h0
   ·exact h0
   ·subst h0; omega
  subst hc0
  rw [show val a + val b = z from by omega] at h
  exact h
 | succ j ih =>
  intro i z c hi hz hN hc
  have hdx := ya5 8 (val a) i
  have hdy := ya5 8 (val b) i
  rw [B8] at hdx hdy
  have hw : (c + dg 8 (val a) i + dg 8 (val b) i) % 256 < 2 ^ 8 := Nat.mod_lt _ (by omega)
  have next := ih (i + 1) (z + (c + dg 8 (val a) i + dg 8 (val b) i) % 256 * 2 ^ (8 * i)) ((c + dg 8 (val a) i + dg 8 (val b) i) / 256) (by omega) (yhr 8 z _ i hz hw) (by
   have h1 := ybh 8 (val a) i
   have h2 := ybh 8 (val b) i
   have h3 := ytp (c + dg 8 (val a) i + dg 8 (val b) i) 256 (2 ^ (8 * i))
   rw [Nat.add_mul, Nat.add_mul] at h3
   rw [h1, h2, yb9, B8]
   omega) (by omega)
  have e : ((i + 1 : Nat) : Int) = (i : Int) + 1 := by omega
  rw [e, ← yk6 8 z _ i hz hw] at next
  have e1 : ((c : Int) + (dg 8 (val a) i : Int) + (dg 8 (val b) i : Int)) / 256 = (((c + dg 8 (val a) i + dg 8 (val b) i) / 256 : Nat) : Int) := by omega
  have e2 : ((c : Int) + (dg 8 (val a) i : Int) + (dg 8 (val b) i : Int)) % 256 = (((c + dg 8 (val a) i + dg 8 (val b) i) % 256 : Nat) : Int) := by omega
  unfold zcs.l7 zcs.l7.step
  rw [yaA (ya9 (by omega)), ybr a i (by omega) (by omega), ybr b i (by omega) (by omega)]
  simp (disch := omega) only [yaZ, ya9, yaF, Bool.and_self, Int.toNat_natCast, yas, yhS, yjc, e1, e2]
  exact next
theorem ynW (a b : List UInt8) (ha : a.length ≤ 1000000) (hb : b.length ≤ 1000000) (K : List UInt8 → Prop) (h : K (nb (val a + val b))) : zcs a b K := by
 have main : ∀ n, n ≤ 1000000 → a.length ≤ n → b.length ≤ n → ∃ f, zcs.l7 (fun y0 y1 y2 y3 => zcw y0 y3 fun y0 => K y0) f a b n (n + 1) (n + 1) 0 0 (n + 1) (fun _ => 0) := by
  intro n hn h1 h2
  refine ⟨n + 2, ?_⟩
  have := ylf a b n hn h1 h2 (n + 1) (n + 1) (fun y0 y1 y2 y3 => zcw y0 y3 fun y0 => K y0) ?_ (n + 1) 0 0 0 (by omega) (Nat.two_pow_pos _) (by simp [Nat.mod_one]) (by omega)
  ·rw [ycx] at this; exact this
  ·refine ycE _ _ (by omega) ?_ _ h
   have e1 := Nat.lt_of_lt_of_le (ybe a) (yb0 (k := 8) h1)
   have e2 := Nat.lt_of_lt_of_le (ybe b) (yb0 (k := 8) h2)
   rw [yb9, B8]; omega
 rw [zcs.is]; unfold zcs.d
 by_cases hlt : a.length < b.length
 ·have e1 : Int.toNat ((b.length : Int) + 1) = b.length + 1 := by omega
  simp (disch := omega) only [yaZ, ya9, yas, yaF, yba, Bool.and_self, e1]
  exact main _ hb (by omega) (Nat.le_refl _)
 ·have e1 : Int.toNat ((a.length : Int) + 1) = a.length + 1 := by omega
  simp (disch := omega) only [ya2, ya9, yas, yaF, yep, Bool.and_self, e1]
  exact main _ ha (Nat.le_refl _) (by omega)
theorem ylJ (a b : List UInt8) (ha : a.length ≤ 1000000) (hb : b.length ≤ 1000000) (hle : val b ≤ val a) (c0 m0 : Nat) (k0 : Nat → Nat → Nat → (Nat → Int) → Prop) (h : k0 a.length c0 m0 (G 8 (val a - val b))) :
  ∀ (j i z : Nat) (c : Int), i + j = a.length → z < 2 ^ (8 * i) → (z : Int) - c * (2 ^ (8 * i) : Nat) = (val a % 2 ^ (8 * i) : Nat) - (val b % 2 ^ (8 * i) : Nat) → (c = 0 ∨ c = 1) →
   zcy.l4 k0 (j + 1) a b a.length c0 c i m0 (G 8 z) := by
 intro j
 induction j with
 | zero =>
  intro i z c hi hz hN hc
  have hi : i = a.length := by omega
  subst hi
  unfold zcy.l4 zcy.l4.step
  rw [yau (ya2 (by omega))]
  have hx := ybe a
  rw [Nat.mod_eq_of_lt hx, Nat.mod_eq_of_lt (by omega)] at hN
  have hc0 : c = 0 := by
   rcases hc with h0 | h0
   ·exact h0
   ·exfalso; subst h0; omega
  subst hc0
  rw [show val a - val b = z from by omega] at h
  exact h
 | succ j ih =>
  intro i z c hi hz hN hc
  have hdx := ya5 8 (val a) i
  have hdy := ya5 8 (val b) i
  rw [B8] at hdx hdy
  have step : ∀ (s c' : Int), s = (dg 8 (val a) i : Int) - (dg 8 (val b) i : Int) - c → (c' = if s < 0 then 1 else 0) → zcy.l4 k0 (j + 1) a b a.length c0 c' ((i : Int) + 1) m0 (upd (G 8 z) i (s % 256)) := by
   intro s c' hs hc'
   have hw : s % 256 = ((s % 256).toNat : Int) := by omega
   have hwl : (s % 256).toNat < 2 ^ 8 := by rw [B8]; omega
   have e : ((i + 1 : Nat) : Int) = (i : Int) + 1 := by omega
   rw [hw, yk6 8 z _ i hz hwl, ← e]
   refine ih (i + 1) _ _ (by omega) (yhr 8 z _ i hz hwl) ?_ (by rw [hc']; split <;> simp)
   rw [ybh, ybh, yb9, B8]
   generalize 2 ^ (8 * i) = P at *
   have h4 : s = (s % 256).toNat - 256 * c' := by rw [hc']; split <;> omega
   have h5 : s * (P : Int) = (s % 256).toNat * (P : Int) - c' * ((P : Int) * 256) := by
    conv => lhs; rw [h4]
    rw [Int.sub_mul, Int.mul_comm (256 : Int), Int.mul_assoc, Int.mul_comm (256 : Int)]
   have h6 : s * (P : Int) = (dg 8 (val a) i : Int) * P - (dg 8 (val b) i : Int) * P - c * P := by rw [hs, Int.sub_mul, Int.sub_mul]
   have c1 : ((z + (s % 256).toNat * P : Nat) : Int) = (z : Int) + ((s % 256).toNat : Int) * (P : Int) := by simp
   have c2 : ((val a % P + dg 8 (val a) i * P : Nat) : Int) = ((val a % P : Nat) : Int) + (dg 8 (val a) i : Int) * (P : Int) := by simp
   have c3 : ((val b % P + dg 8 (val b) i * P : Nat) : Int) = ((val b % P : Nat) : Int) + (dg 8 (val b) i : Int) * (P : Int) := by simp
   have c4 : ((P * 256 : Nat) : Int) = (P : Int) * 256 := by simp
   rw [c1, c2, c3, c4]
   omega
  unfold zcy.l4 zcy.l4.step
  rw [yaA (yaZ (by omega)), ybr a i (by omega) (by omega), ybr b i (by omega) (by omega)]
  simp (disch := omega) only [yaZ, ya9, yaF, Bool.and_self, Int.toNat_natCast, yas, yar, yjc]
  by_cases hs : (dg 8 (val a) i : Int) - (dg 8 (val b) i : Int) - c < 0
  ·rw [yaA (yaZ hs)]; exact step _ 1 rfl (by rw [if_pos hs])
  ·rw [yau (ya2 (by omega))]; exact step _ 0 rfl (by rw [if_neg hs])
theorem yn1 (a b : List UInt8) (ha : a.length ≤ 1000000) (hb : b.length ≤ 1000000) (hle : val b ≤ val a) (K : List UInt8 → Prop) (h : K (nb (val a - val b))) : zcy a b K := by
 rw [zcy.is]; unfold zcy.d
 simp (disch := omega) only [ya9, yaF, Bool.and_self, Int.toNat_natCast]
 refine ⟨a.length + 1, ?_⟩
 have := ylJ a b ha hb hle a.length a.length (fun y0 y1 y2 y3 => zcw y0 y3 fun y0 => K y0) ?_ a.length 0 0 0 (by omega) (Nat.two_pow_pos _) (by simp [Nat.mod_one]) (.inl rfl)
 ·rw [ycx] at this; exact this
 ·refine ycE _ _ (by omega) ?_ _ h
  have := ybe a
  omega
theorem yfG (a b : List UInt8) (ha : yjb a = true) (hb : yjb b = true) (K : Int → Prop) : zch a b K = K (sgn (val a) (val b)) := by
 rw [zch.is]; unfold zch.d
 have la := ylL ha; have lb := ylL hb
 by_cases hl : a.length = b.length
 ·rw [hl, ykA rfl, yau (by rfl), yr4 a b hl, ykq]
  unfold sgn
  by_cases h : val a < val b
  ·rw [yaA (by simpa using h), if_pos h]
  ·rw [yau (by simpa using h), if_neg h]
   by_cases he : a = b
   ·rw [yau (by simp [he]), he, if_neg (by omega)]
   ·have : val a ≠ val b := fun e => he (ysE ha hb e)
    rw [yaA (by simp [h, he]), if_pos (by omega)]
 ·rw [yip (by omega), yaA (by rfl)]
  unfold sgn
  by_cases h : a.length < b.length
  ·have : val a < val b := Classical.byContradiction fun hc => by have := yb6 (k := 8) (by omega) (show val b ≤ val a by omega); omega
   rw [yaA (yaZ (by omega)), if_pos this]
  ·have : val b < val a := Classical.byContradiction fun hc => by have := yb6 (k := 8) (by omega) (show val a ≤ val b by omega); omega
   rw [yau (ya2 (by omega)), if_neg (by omega), if_pos this]
theorem yof (a b : List UInt8) (ha : a.length ≤ 1000000) (hb : b.length ≤ 1000000) (K : List UInt8 → Int → Prop) (h : yn2 K (val a + val b)) : zcg a b K := by
 rw [zcg.is]; unfold zcg.d
 refine ynW a b ha hb _ ?_
 rw [ymW]; exact h
end Go.Ev.S

/- What the document's answer reckons with natural numbers: products. -/
set_option linter.unusedVariables false
set_option linter.unusedSimpArgs false
set_option maxRecDepth 8000
namespace Go.Ev.S
open Go Go.Ev
end Go.Ev.S

/- What the document's answer reckons with natural numbers: made, measured, moved. -/
set_option linter.unusedVariables false
set_option linter.unusedSimpArgs false
set_option maxRecDepth 8000
namespace Go.Ev.S
open Go Go.Ev
theorem ypt (a s : Nat) (hs : s ≤ 63) (h : a * 2 ^ s < 9223372036854775808) : ybQ .i64 (a : Int) (s : Int) = ((a * 2 ^ s : Nat) : Int) := by
 have hb : IntKind.bits .i64 = 64 := rfl
 have h1 : min (Int.toNat (s : Int)) (IntKind.bits .i64) = s := by rw [Int.toNat_natCast, hb]; omega
 simp only [ybQ, h1]
 have e : (a : Int) * 2 ^ s = ((a * 2 ^ s : Nat) : Int) := by simp
 rw [e]
 exact ydH (by omega) (by omega)
theorem ysT (a b : Nat) (ha : a < 2 ^ 62) (hb : b < 2 ^ 62) : orI .i64 (a : Int) (b : Int) = ((a ||| b : Nat) : Int) := by
 have h3 : a ||| b < 2 ^ 62 := Nat.or_lt_two_pow ha hb
 have e62 : (2 : Nat) ^ 62 = 4611686018427387904 := rfl
 show IntKind.wrap .i64 (((BitVec.ofInt 64 (a : Int) ||| BitVec.ofInt 64 (b : Int) : BitVec 64).toNat : Nat) : Int) = _
 rw [BitVec.toNat_or, BitVec.ofInt_natCast, BitVec.ofInt_natCast, BitVec.toNat_ofNat, BitVec.toNat_ofNat, Nat.mod_eq_of_lt (by rw [B64]; omega), Nat.mod_eq_of_lt (by rw [B64]; omega)]
 exact ydH (by omega) (by omega)
theorem yqp (a : Nat) (ha : a < 2 ^ 62) : yiY .i64 (a : Int) 1 = ((a % 2 : Nat) : Int) := by
 have e62 : (2 : Nat) ^ 62 = 4611686018427387904 := rfl
 show IntKind.wrap .i64 (((BitVec.ofInt 64 (a : Int) &&& BitVec.ofInt 64 ((1 : Nat) : Int) : BitVec 64).toNat : Nat) : Int) = _
 rw [BitVec.toNat_and, BitVec.ofInt_natCast, BitVec.ofInt_natCast, BitVec.toNat_ofNat, BitVec.toNat_ofNat, Nat.mod_eq_of_lt (by rw [B64]; omega), Nat.mod_eq_of_lt (by rw [B64]; omega)]
 have : a &&& 1 = a % 2 := Nat.and_one_is_mod a
 rw [this]
 exact ydH (by omega) (by omega)
theorem yo6 (a s : Nat) (hs : s ≤ 64) : ya7 .i64 (a : Int) (s : Int) = ((a / 2 ^ s : Nat) : Int) := by
 rw [yfW (k := .i64) hs]; simp
theorem W_G (x : Nat) : W x = G 64 x := rfl
theorem ytl {i : Nat} (h : i = 48) : 2 ^ (8 * i) = Q6 := ydP (by omega)
theorem ynt (d b s w : Nat) (hd : d < 2 ^ s) (hs : s + w ≤ 64) (hb : b < 2 ^ w) : orI .u64 (d : Int) (ybQ .u64 (b : Int) (s : Int)) = ((d + b * 2 ^ s : Nat) : Int) := by
 have hb64 : IntKind.bits .u64 = 64 := rfl
 have h1 : b * 2 ^ s + 2 ^ s ≤ 2 ^ 64 := by
  have h2 : (b + 1) * 2 ^ s ≤ 2 ^ w * 2 ^ s := Nat.mul_le_mul_right _ hb
  have h3 : 2 ^ w * 2 ^ s ≤ 2 ^ 64 := by rw [← Nat.pow_add]; exact Nat.pow_le_pow_right (by omega) (by omega)
  rw [Nat.add_mul] at h2; omega
 have hP := Nat.two_pow_pos s
 rw [yn9 (k := .u64) rfl b s (by rw [hb64]; omega), hb64, Nat.mod_eq_of_lt (by omega), yrS (k := .u64) rfl _ _ (by rw [hb64]; omega) (by rw [hb64]; omega)]
 congr 1
 exact yeU hd (Nat.mul_mod_left _ _)
theorem ynN {d b s w : Nat} (hd : d < 2 ^ s) (hs : s + w ≤ 64) (hb : b < 2 ^ w) : d + b * 2 ^ s < 2 ^ 64 := by
 have h2 : (b + 1) * 2 ^ s ≤ 2 ^ w * 2 ^ s := Nat.mul_le_mul_right _ hb
 have h3 : 2 ^ w * 2 ^ s ≤ 2 ^ 64 := by rw [← Nat.pow_add]; exact Nat.pow_le_pow_right (by omega) (by omega)
 rw [Nat.add_mul] at h2; omega
theorem yhx (a : List UInt8) (hl : a.length ≤ 48) (k0 : (Nat → Int) → (Nat → Int) → Prop) (z : Nat → Int) (h : k0 z (W (val a))) : ∀ (j i : Nat), i + j = a.length → zcr.l5 k0 (j + 1) a i z (G 64 (val a % 2 ^ (8 * i))) := by
 intro j
 induction j with
 | zero =>
  intro i hi
  unfold zcr.l5 zcr.l5.step
  rw [yau (ya2 (by omega)), Nat.mod_eq_of_lt (by have := ybe a; rwa [show i = a.length from by omega])]
  exact h
 | succ j ih =>
  intro i hi
  have ih := ih (i + 1) (by omega)
  have e : ((i + 1 : Nat) : Int) = (i : Int) + 1 := by omega
  rw [e] at ih
  have hd := ya5 8 (val a) i
  have e0 : Int.toNat ((i : Int) / 8) = i / 8 := by omega
  have e1 : 8 * ((i : Int) % 8) = ((8 * (i % 8) : Nat) : Int) := by omega
  have hlow := yjt 64 (val a % 2 ^ (8 * i)) (i / 8) (8 * (i % 8)) (by rw [show 64 * (i / 8) + 8 * (i % 8) = 8 * i from by omega]; exact Nat.mod_lt _ (Nat.two_pow_pos _))
  have o := ynt _ (dg 8 (val a) i) (8 * (i % 8)) 8 hlow (by omega) hd
  have hG : upd (G 64 (val a % 2 ^ (8 * i))) (i / 8) ((dg 64 (val a % 2 ^ (8 * i)) (i / 8) + dg 8 (val a) i * 2 ^ (8 * (i % 8)) : Nat) : Int) = G 64 (val a % 2 ^ (8 * (i + 1))) := by
   refine ygF ?_ (ynN hlow (by omega) hd)
   rw [ybh 8, Nat.add_mul, Nat.mul_assoc, ← Nat.pow_add, show 8 * (i % 8) + 64 * (i / 8) = 8 * i from by omega]; omega
  rw [B8] at hd
  unfold zcr.l5 zcr.l5.step
  simp (disch := omega) only [yaZ, ya9, yaF, yba, Bool.and_self, ybH]
  rw [ybr a i (by omega) (by omega)]
  simp (disch := omega) only [yaZ, ya2, ya9, yaF, Bool.and_self, Bool.not_false, yfY, yb3, yaQ, yas, e0, e1, ybn, o, hG]
  exact ih
theorem yjJ (a : List UInt8) (K : (Nat → Int) → Bool → Prop) (h : if May a ∧ a.length ≤ 48 then K (W (val a)) true else K (W 0) false) : zcr a K := by
 rw [zcr.is]; unfold zcr.d
 rw [ych]
 by_cases hm : May a
 ·rw [yau (by simp [hm])]
  by_cases hl : a.length ≤ 48
  ·rw [if_pos ⟨hm, hl⟩] at h
   rw [yau (ya2 (by omega))]
   refine ⟨a.length + 1, ?_⟩
   have := yhx a hl (fun y0 y1 => K y1 true) (fun _ => 0) h a.length 0 (by omega)
   rw [Nat.mul_zero, Nat.pow_zero, Nat.mod_one, ycx] at this
   exact this
  ·rw [if_neg fun hc => hl hc.2, W_zero] at h
   rw [yaA (yaZ (by omega))]; exact h
 ·rw [if_neg fun hc => hm hc.1, W_zero] at h
  rw [yaA (by simp [hm])]; exact h
theorem yej (a : List UInt8) (K : Int → Prop) (h : K (if May a then (yaw (val a) : Int) else 0)) : zcl a K := by
 rw [zcl.is]; unfold zcl.d
 rw [ych]
 by_cases hm : May a
 ·rw [if_pos hm] at h
  rw [yau (by simp [hm]), ybb]
  cases a with
  | nil => rw [yaA (by simp)]; exact h
  | cons b l =>
   have hl := hm.1
   rw [List.length_cons] at hl
   have hv : val (b :: l) ≠ 0 := fun e => by have := hm.nb; rw [e, yaN] at this; cases this
   have hb := ynE 8 _ (by omega) hv
   rw [ylL hm.2, List.length_cons, Nat.add_sub_cancel, ypV] at hb
   have hbl := ypJ b
   rw [yau (by simp), ybo (yaZ (by rw [List.length_cons]; omega)), ydn, yaQ (by omega) (by omega)]
   refine yi5 _ (by omega) _ ?_
   have h8 : yaw b.toNat ≤ 8 := (yaV _ _).2 hbl
   rw [List.length_cons]
   simp (disch := omega) only [yar, yb3, yas]
   rw [show 8 * (((l.length + 1 : Nat) : Int) - 1) + (yaw b.toNat : Int) = ((yaw (val (b :: l)) : Nat) : Int) from by rw [hb]; omega]
   exact h
 ·rw [if_neg hm] at h
  rw [yaA (by simp [hm])]; exact h
theorem ykK (x : Nat) (h : x ≠ 0) : x.testBit (ybC x) = true ∧ ∀ i, i < ybC x → x.testBit i = false := by
 obtain ⟨q, hq⟩ := ydT x h
 generalize ybC x = k at *
 subst hq
 constructor
 ·rw [Nat.testBit_two_pow_mul]; simp [Nat.testBit_zero]
 ·intro i hi
  rw [Nat.testBit_two_pow_mul]; simp; omega
theorem ylt (x : Nat) (h0 : x ≠ 0) (hx : x < 18446744073709551616) (hk : ybC x < 64) (k0 : Int → Prop) (k1 : Prop) (h : k0 (ybC x)) : ∀ (j i : Nat), i + j = ybC x → zbu.l2 k0 k1 (j + 1) x i := by
 obtain ⟨b1, b2⟩ := ykK x h0
 intro j
 induction j with
 | zero =>
  intro i hi
  unfold zbu.l2 zbu.l2.step
  rw [yaA (yaZ (by omega)), ycD x i hx (by omega), show i = ybC x from by omega, b1, yba]
  exact h
 | succ j ih =>
  intro i hi
  have ih := ih (i + 1) (by omega)
  have e : ((i + 1 : Nat) : Int) = (i : Int) + 1 := by omega
  rw [e] at ih
  unfold zbu.l2 zbu.l2.step
  rw [yaA (yaZ (by omega)), ycD x i hx (by omega), b2 i (by omega), yep, yas (by omega) (by omega)]
  exact ih
theorem yka (x n : Nat) (h0 : x ≠ 0) (hx : x < 2 ^ n) : ybC x < n := by
 obtain ⟨b1, _⟩ := ykK x h0
 apply Classical.byContradiction
 intro hc
 rw [Nat.testBit_lt_two_pow (Nat.lt_of_lt_of_le hx (Nat.pow_le_pow_right (by omega) (by omega)))] at b1
 cases b1
theorem yoB (x : Nat) (h0 : x ≠ 0) (hx : x < 18446744073709551616) (K : Int → Prop) (h : K (ybC x)) : zbu x K := by
 rw [zbu.is]; unfold zbu.d
 exact ⟨ybC x + 1, ylt x h0 hx (yka x 64 h0 hx) _ _ h (ybC x) 0 (by omega)⟩
theorem ylp (a : List UInt8) (hl : a.length ≤ 100000) (k0 : Int → Prop) (k1 : Prop) (h0 : val a ≠ 0 → k0 (ybC (val a))) (h1 : val a = 0 → k1) :
  ∀ (j t : Nat), t + j = a.length → val a % 2 ^ (8 * t) = 0 → zcm.l4 k0 k1 (j + 1) a t := by
 intro j
 induction j with
 | zero =>
  intro t ht hm
  unfold zcm.l4 zcm.l4.step
  rw [yau (ya2 (by omega))]
  refine h1 ?_
  rw [Nat.mod_eq_of_lt (by have := ybe a; rwa [show t = a.length from by omega])] at hm
  exact hm
 | succ j ih =>
  intro t ht hm
  have hd := ya5 8 (val a) t
  rw [B8] at hd
  unfold zcm.l4 zcm.l4.step
  rw [yaA (yaZ (by omega)), ybr a t (by omega) (by omega)]
  by_cases hz : dg 8 (val a) t = 0
  ·rw [ykA (by omega), yau (by rfl), yas (by omega) (by omega)]
   have := ih (t + 1) (by omega) (by rw [ybh, hm, hz]; omega)
   rw [show ((t + 1 : Nat) : Int) = (t : Int) + 1 from by omega] at this
   exact this
  ·rw [yip (by omega), yaA (by rfl), ybr a t (by omega) (by omega), yaQ (by omega) (by omega)]
   refine yoB _ hz (by omega) _ ?_
   have hlow := ylV (val a) t hm hz
   have hk := yka _ 8 hz (by rw [B8]; exact hd)
   simp (disch := omega) only [yb3, yas]
   rw [show 8 * (t : Int) + (ybC (dg 8 (val a) t) : Int) = ((ybC (val a) : Nat) : Int) from by rw [hlow]; omega]
   refine h0 fun e => hz ?_
   rw [e]; exact yd0 8 0 t (Nat.two_pow_pos _)
theorem yfR (a : List UInt8) (K : Int → Prop) (h : K (if May a then (ybC (val a) : Int) else 0)) : zcm a K := by
 rw [zcm.is]; unfold zcm.d
 rw [ych]
 by_cases hm : May a
 ·rw [if_pos hm] at h
  have hl := hm.1
  rw [yau (by simp [hm])]
  exact ⟨a.length + 1, ylp a (by omega) (fun y0 => K y0) (K 0) (fun _ => h) (fun e => by rw [e, ykM] at h; exact h) a.length 0 (by omega) (by simp [Nat.mod_one])⟩
 ·rw [if_neg hm] at h
  rw [yaA (by simp [hm])]; exact h
theorem yrs (x i s t y N : Nat) (ht : t = i + s / 8) (hy : dg 8 x i * 2 ^ (s % 8) = y) (hNN : x % 2 ^ (8 * i) * 2 ^ s = N) :
  ∃ N1, upd (G 8 N) t (((dg 8 N t ||| y % 256 : Nat)) : Int) = G 8 N1 ∧ upd (G 8 N1) (t + 1) ((y / 256 : Nat) : Int) = G 8 (x % 2 ^ (8 * (i + 1)) * 2 ^ s) := by
 have hdx := ya5 8 x i
 rw [B8] at hdx
 have hr : s % 8 < 8 := Nat.mod_lt _ (by omega)
 have hx := Nat.mod_lt x (Nat.two_pow_pos (8 * i))
 have hp : 2 ^ (8 * i) * 2 ^ s = 2 ^ (8 * t + s % 8) := by rw [← Nat.pow_add]; congr 1; omega
 have hN : N < 2 ^ (8 * t + s % 8) := by
  rw [← hp, ← hNN]; exact Nat.mul_lt_mul_of_pos_right hx (Nat.two_pow_pos _)
 have hlow := yjt 8 N t (s % 8) hN
 have hN1 : N < 2 ^ (8 * (t + 1)) := Nat.lt_of_lt_of_le hN (Nat.pow_le_pow_right (by omega) (by omega))
 have hym : y % 256 % 2 ^ (s % 8) = 0 := by
  rw [show (256 : Nat) = 2 ^ 8 from rfl, Nat.mod_mod_of_dvd _ (Nat.pow_dvd_pow 2 (by omega)), ← hy]
  exact Nat.mul_mod_left _ _
 have hor : dg 8 N t ||| y % 256 = dg 8 N t + y % 256 := yeU hlow hym
 have hsum : dg 8 N t + y % 256 < 2 ^ 8 := by
  rw [← hor]; exact Nat.or_lt_two_pow (ya5 8 N t) (by rw [B8]; exact Nat.mod_lt _ (by omega))
 have hyl : y / 256 < 2 ^ 8 := by
  rw [B8, Nat.div_lt_iff_lt_mul (by omega), ← hy]
  have : dg 8 x i * 2 ^ (s % 8) < 2 ^ 8 * 2 ^ 8 := Nat.mul_lt_mul_of_lt_of_le (by rw [B8]; exact hdx) (Nat.pow_le_pow_right (by omega) (by omega)) (Nat.two_pow_pos _)
  rw [B8] at this; exact this
 have hG1 : upd (G 8 N) t (((dg 8 N t ||| y % 256 : Nat)) : Int) = G 8 (N + y % 256 * 2 ^ (8 * t)) := by
  rw [hor]
  refine ygF ?_ hsum
  rw [Nat.add_mul]; omega
 have hlt : N + y % 256 * 2 ^ (8 * t) < 2 ^ (8 * (t + 1)) := by
  have hNl : N = N % 2 ^ (8 * t) + dg 8 N t * 2 ^ (8 * t) := by
   have := ybh 8 N t
   rw [Nat.mod_eq_of_lt hN1] at this; exact this
  have h1 := yhr 8 (N % 2 ^ (8 * t)) (dg 8 N t + y % 256) t (Nat.mod_lt _ (Nat.two_pow_pos _)) hsum
  rw [Nat.add_mul] at h1
  omega
 refine ⟨N + y % 256 * 2 ^ (8 * t), hG1, ?_⟩
 rw [yk6 8 _ _ (t + 1) hlt hyl]
 refine congrArg (G 8) ?_
 have h2 := yjB y 256 (2 ^ (8 * t))
 rw [yb9, B8]
 have h3 : y * 2 ^ (8 * t) = dg 8 x i * 2 ^ (8 * i) * 2 ^ s := by
  rw [← hy, Nat.mul_assoc, ← Nat.pow_add, Nat.mul_assoc, ← Nat.pow_add]; congr 2; omega
 rw [ybh, Nat.add_mul, hNN, ← h3]
 omega
theorem yj3 (a : List UInt8) (s : Nat) (hl : a.length ≤ 100000) (hs : s ≤ 1000000) (c0 m0 : Nat) (k0 : Nat → Nat → Nat → (Nat → Int) → Prop) (h : k0 (a.length + s / 8 + 1) c0 m0 (G 8 (val a * 2 ^ s))) :
  ∀ (j i : Nat), i + j = a.length → zck.l9 k0 (j + 1) a s (a.length + s / 8 + 1) c0 i m0 (G 8 (val a % 2 ^ (8 * i) * 2 ^ s)) := by
 intro j
 induction j with
 | zero =>
  intro i hi
  unfold zck.l9 zck.l9.step
  rw [yau (ya2 (by omega)), show i = a.length from by omega, Nat.mod_eq_of_lt (ybe a)]
  exact h
 | succ j ih =>
  intro i hi
  have ih := ih (i + 1) (by omega)
  have e : ((i + 1 : Nat) : Int) = (i : Int) + 1 := by omega
  obtain ⟨N1, u1, u3⟩ := yrs (val a) i s _ _ _ rfl rfl rfl
  rw [e, ← u3] at ih
  have hd := ya5 8 (val a) i
  rw [B8] at hd
  have hy : dg 8 (val a) i * 2 ^ (s % 8) < 256 * 256 := Nat.mul_lt_mul_of_lt_of_le hd (by
   have : 2 ^ (s % 8) ≤ 2 ^ 8 := Nat.pow_le_pow_right (by omega) (by omega)
   rwa [B8] at this) (by omega)
  have q1 := ypt (dg 8 (val a) i) (s % 8) (by omega) (by omega)
  have e1 : Int.toNat ((i : Int) + (s : Int) / 8) = i + s / 8 := by omega
  have e2 : Int.toNat ((i : Int) + (s : Int) / 8 + 1) = i + s / 8 + 1 := by omega
  have e3 : (s : Int) % 8 = ((s % 8 : Nat) : Int) := by omega
  have e4 : ((dg 8 (val a) i * 2 ^ (s % 8) : Nat) : Int) % 256 = ((dg 8 (val a) i * 2 ^ (s % 8) % 256 : Nat) : Int) := by omega
  have e5 : ((dg 8 (val a) i * 2 ^ (s % 8) : Nat) : Int) / 256 % 256 = ((dg 8 (val a) i * 2 ^ (s % 8) / 256 : Nat) : Int) := by omega
  have hb : IntKind.bits .u8 = 8 := rfl
  have o1 : orI .u8 ((dg 8 (val a % 2 ^ (8 * i) * 2 ^ s) (i + s / 8) : Nat) : Int) ((dg 8 (val a) i * 2 ^ (s % 8) % 256 : Nat) : Int) = ((dg 8 (val a % 2 ^ (8 * i) * 2 ^ s) (i + s / 8) ||| dg 8 (val a) i * 2 ^ (s % 8) % 256 : Nat) : Int) :=
   yrS (k := .u8) rfl _ _ (by rw [hb]; exact ya5 8 _ _) (by rw [hb, B8]; exact Nat.mod_lt _ (by omega))
  unfold zck.l9 zck.l9.step
  rw [yaA (yaZ (by omega)), ybr a i (by omega) (by omega)]
  simp (disch := omega) only [yaZ, ya2, ya9, yaF, Bool.and_self, Bool.not_false, Int.toNat_natCast, ybH, yfY, yas, yaQ, ybn, e1, e2, e3, q1, yjc, yhS, e4, e5, o1, u1]
  exact ih
theorem ygK (x s : Nat) (h : x ≠ 0) : yaw (x * 2 ^ s) = yaw x + s := by
 have h1 : x * 2 ^ s / 2 ^ s = x := Nat.mul_div_cancel _ (Nat.two_pow_pos s)
 have := yde (x := x * 2 ^ s) (i := s) (by rw [h1]; exact h)
 rw [this, h1, Nat.add_comm]
theorem yo4 (x n : Nat) : (nb x).length ≤ n ↔ yaw x ≤ 8 * n := by
 rw [ybA, yaV, yop]
theorem ygT (x : Nat) : (nb x).length ≤ 16384 ↔ yaw x ≤ 131072 := by
 have := yo4 x 16384
 omega
theorem ymw (a : List UInt8) (n : Int) (hn : n < 9223372036854775808) (hm : May a) (K : List UInt8 → Int → Prop) (h1 : n < 0 → K [] 2) (h2 : 0 ≤ n → a = [] → K [] 0)
  (h3 : 0 ≤ n → a ≠ [] → 131072 < (yaw (val a) : Int) + n → K [] 4) (h4 : 0 ≤ n → a ≠ [] → (yaw (val a) : Int) + n ≤ 131072 → K (nb (val a * 2 ^ n.toNat)) 0) : zck a n K := by
 rw [zck.is]; unfold zck.d
 by_cases hneg : n < 0
 ·rw [yaA (yaZ hneg)]; exact h1 hneg
 rw [yau (ya2 (by omega)), ybb]
 by_cases h0 : a = []
 ·rw [yaA (by simp [h0])]; exact h2 (by omega) h0
 rw [yau (by simp [h0])]
 have hl := hm.1
 by_cases hbig : 131072 < n
 ·rw [yaA (yaZ hbig)]; exact h3 (by omega) h0 (by omega)
 rw [yau (ya2 (by omega))]
 refine yej a _ ?_
 rw [if_pos hm]
 have hbl : yaw (val a) ≤ 131072 := by
  rw [← ygT, hm.nb]; exact hl
 rw [yas (by omega) (by omega)]
 by_cases hlong : 131072 < (yaw (val a) : Int) + n
 ·rw [yaA (yaZ hlong)]; exact h3 (by omega) h0 hlong
 rw [yau (ya2 (by omega))]
 obtain ⟨s, rfl⟩ : ∃ s : Nat, n = s := ⟨n.toNat, by omega⟩
 have e1 : Int.toNat ((a.length : Int) + (s : Int) / 8 + 1) = a.length + s / 8 + 1 := by omega
 simp (disch := omega) only [ybH, yas, ya9, yaF, Bool.and_self, e1]
 have h4 := h4 (by omega) h0 (by omega)
 rw [Int.toNat_natCast] at h4
 refine ⟨a.length + 1, ?_⟩
 have := yj3 a s (by omega) (by omega) (a.length + s / 8 + 1) (a.length + s / 8 + 1) (fun y0 y1 y2 y3 => zcw y0 y3 fun y0 => K y0 0) ?_ a.length 0 (by omega)
 ·rw [Nat.mul_zero, Nat.pow_zero, Nat.mod_one, Nat.zero_mul, ycx] at this; exact this
 ·refine ycE _ _ (by omega) ?_ _ h4
  have : val a * 2 ^ s < 2 ^ (8 * a.length) * 2 ^ s := Nat.mul_lt_mul_of_pos_right (ybe a) (Nat.two_pow_pos _)
  rw [← Nat.pow_add] at this
  exact Nat.lt_of_lt_of_le this (Nat.pow_le_pow_right (by omega) (by omega))
theorem yrg (x s i : Nat) : (dg 8 x (i + s / 8) + dg 8 x (i + s / 8 + 1) * 256) / 2 ^ (s % 8) % 256 = dg 8 (x / 2 ^ s) i := by
 have hr : s % 8 < 8 := Nat.mod_lt _ (by omega)
 have h1 : dg 8 x (i + s / 8) + dg 8 x (i + s / 8 + 1) * 256 = x / 2 ^ (8 * (i + s / 8)) % 2 ^ 16 := by
  have a := ydl 8 x (i + s / 8)
  have b := ydl 8 x (i + s / 8 + 1)
  rw [B8] at a b
  rw [a, b, show (2 : Nat) ^ 16 = 65536 from rfl]
  have c := ya5 8 x (i + s / 8)
  have d := ya5 8 x (i + s / 8 + 1)
  rw [B8] at c d
  omega
 rw [h1]
 unfold dg
 rw [Nat.div_div_eq_div_mul, ← Nat.pow_add]
 have h2 : (2 : Nat) ^ 16 = 2 ^ (s % 8) * 2 ^ (16 - s % 8) := by rw [← Nat.pow_add]; congr 1; omega
 rw [h2, Nat.mod_mul_right_div_self, Nat.div_div_eq_div_mul, ← Nat.pow_add, show (256 : Nat) = 2 ^ 8 from rfl, Nat.mod_mod_of_dvd _ (Nat.pow_dvd_pow 2 (by omega))]
 congr 3; omega
theorem yiL (a : List UInt8) (s : Nat) (hl : a.length ≤ 100000) (hs : s / 8 ≤ a.length) (lost : Bool) (c0 m0 : Nat) (k0 : Bool → Nat → Nat → Nat → (Nat → Int) → Prop) (h : k0 lost (a.length - s / 8) c0 m0 (G 8 (val a / 2 ^ s % 2 ^ (8 * (a.length - s / 8))))) :
  ∀ (j i : Nat), i + j = a.length - s / 8 → zcp.l11 k0 (j + 1) a s lost ((a.length - s / 8 : Nat) : Int) (a.length - s / 8) c0 i m0 (G 8 (val a / 2 ^ s % 2 ^ (8 * i))) := by
 intro j
 induction j with
 | zero =>
  intro i hi
  unfold zcp.l11 zcp.l11.step
  rw [yau (ya2 (by omega)), show i = a.length - s / 8 from by omega]
  exact h
 | succ j ih =>
  intro i hi
  have ih := ih (i + 1) (by omega)
  have e : ((i + 1 : Nat) : Int) = (i : Int) + 1 := by omega
  have hw := yrg (val a) s i
  have hdw := ya5 8 (val a / 2 ^ s) i
  rw [e, ybh, ← yk6 8 _ _ i (Nat.mod_lt _ (Nat.two_pow_pos _)) hdw, ← hw] at ih
  have hd := ya5 8 (val a) (i + s / 8)
  have hd2 := ya5 8 (val a) (i + s / 8 + 1)
  rw [B8] at hd hd2
  have e1 : (i : Int) + (s : Int) / 8 = ((i + s / 8 : Nat) : Int) := by omega
  have e2 : ((i + s / 8 : Nat) : Int) + 1 = ((i + s / 8 + 1 : Nat) : Int) := by omega
  have e3 : (s : Int) % 8 = ((s % 8 : Nat) : Int) := by omega
  have q1 := ypt (dg 8 (val a) (i + s / 8 + 1)) 8 (by omega) (by rw [B8]; omega)
  rw [B8, show ((8 : Nat) : Int) = 8 from rfl] at q1
  have e62 : (2 : Nat) ^ 62 = 4611686018427387904 := rfl
  have o1 : orI .i64 ((dg 8 (val a) (i + s / 8) : Nat) : Int) ((dg 8 (val a) (i + s / 8 + 1) * 256 : Nat) : Int) = ((dg 8 (val a) (i + s / 8) + dg 8 (val a) (i + s / 8 + 1) * 256 : Nat) : Int) := by
   rw [ysT _ _ (by omega) (by omega)]
   congr 1
   exact yeU (r := 8) (by rw [B8]; exact hd) (by rw [B8]; exact Nat.mul_mod_left _ _)
  have sh := yo6 (dg 8 (val a) (i + s / 8) + dg 8 (val a) (i + s / 8 + 1) * 256) (s % 8) (by omega)
  have e4 : (((dg 8 (val a) (i + s / 8) + dg 8 (val a) (i + s / 8 + 1) * 256) / 2 ^ (s % 8) : Nat) : Int) % 256 = (((dg 8 (val a) (i + s / 8) + dg 8 (val a) (i + s / 8 + 1) * 256) / 2 ^ (s % 8) % 256 : Nat) : Int) := by omega
  unfold zcp.l11 zcp.l11.step
  simp (disch := omega) only [yaZ, yba, ybH, yas, e1, e2]
  rw [ybr a _ (by omega) (by omega), ybr a _ (by omega) (by omega)]
  simp (disch := omega) only [yaZ, ya2, ya9, yaF, Bool.and_self, Bool.not_false, Int.toNat_natCast, yfY, yaQ, e3, q1, o1, sh, yjc, e4]
  exact ih
theorem yrO (x n : Int) : ltI x n = decide (x < n) := by simp [ltI]
theorem yf9 (a : List UInt8) (n : Int) (hn : n < 9223372036854775808) (hm : May a) (K : List UInt8 → Bool → Int → Prop) (h1 : n < 0 → K [] false 2) (h2 : 0 ≤ n → a = [] → K [] false 0)
  (h3 : 0 ≤ n → a ≠ [] → K (nb (val a / 2 ^ n.toNat)) (decide ((ybC (val a) : Int) < n)) 0) : zcp a n K := by
 rw [zcp.is]; unfold zcp.d
 by_cases hneg : n < 0
 ·rw [yaA (yaZ hneg)]; exact h1 hneg
 rw [yau (ya2 (by omega)), ybb]
 by_cases h0 : a = []
 ·rw [yaA (by simp [h0])]; exact h2 (by omega) h0
 rw [yau (by simp [h0])]
 have hl := hm.1
 obtain ⟨s, rfl⟩ : ∃ s : Nat, n = s := ⟨n.toNat, by omega⟩
 have h3 := h3 (by omega) h0
 rw [Int.toNat_natCast] at h3
 refine yfR a _ ?_
 rw [if_pos hm, yrO, yb3 (by omega) (by omega)]
 by_cases hbig : 8 * a.length ≤ s
 ·rw [yaA (ya9 (by omega))]
  have : val a / 2 ^ s = 0 := Nat.div_eq_of_lt (Nat.lt_of_lt_of_le (ybe a) (Nat.pow_le_pow_right (by omega) hbig))
  rw [this, yaN] at h3
  exact h3
 ·rw [yau (yeu (by omega))]
  have e1 : Int.toNat ((a.length : Int) - (s : Int) / 8) = a.length - s / 8 := by omega
  have e2 : (a.length : Int) - (s : Int) / 8 = ((a.length - s / 8 : Nat) : Int) := by omega
  simp (disch := omega) only [ybH, yar, ya9, yaF, Bool.and_self, e1]
  rw [e2]
  have hlt2 : val a / 2 ^ s < 2 ^ (8 * (a.length - s / 8)) := by
   rw [Nat.div_lt_iff_lt_mul (Nat.two_pow_pos _), ← Nat.pow_add]
   exact Nat.lt_of_lt_of_le (ybe a) (Nat.pow_le_pow_right (by omega) (by omega))
  refine ⟨a.length - s / 8 + 1, ?_⟩
  have := yiL a s (by omega) (by omega) (decide ((ybC (val a) : Int) < s)) (a.length - s / 8) (a.length - s / 8) (fun y0 y1 y2 y3 y4 => zcw y1 y4 fun y0_1 => K y0_1 y0 0) ?_ (a.length - s / 8) 0 (by omega)
  ·rw [Nat.mul_zero, Nat.pow_zero, Nat.mod_one, ycx] at this; exact this
  ·rw [Nat.mod_eq_of_lt hlt2]
   exact ycE _ _ (by omega) hlt2 _ h3
end Go.Ev.S
