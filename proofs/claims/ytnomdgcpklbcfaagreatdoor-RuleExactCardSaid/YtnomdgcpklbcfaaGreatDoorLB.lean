/- Natural numbers made of words, told as words. -/
import Derived.Test.YtnomdgcpklbcfaaGreatDoorLA
import Derived.Test.YtnomdgcpklbcfaaGreatDoorDA
set_option linter.unusedVariables false
set_option linter.unusedSimpArgs false
set_option maxRecDepth 8000
namespace Go.Ev.S
open Go Go.Ev
theorem ysr (k n z w : Nat) (hz : z < 2 ^ (k * n)) : app n (G k z) (G k w) = G k (z + w * 2 ^ (k * n)) := by
 funext i
 unfold app
 cases hb : Nat.blt i n with
 | true =>
  have hi : i < n := Nat.le_of_ble_eq_true hb
  rw [cond_true, ya8, ya8]
  have h := ymL k (z + w * 2 ^ (k * n)) n i hi
  rw [Nat.add_mul_mod_self_right, Nat.mod_eq_of_lt hz] at h
  rw [h]
 | false =>
  have hi : n ≤ i := by
   apply Classical.byContradiction; intro hc
   have : Nat.blt i n = true := Nat.ble_eq_true_of_le (show i + 1 ≤ n by omega)
   rw [hb] at this; cases this
  rw [cond_false, ya8, ya8]
  have h := yk9 k (z + w * 2 ^ (k * n)) n (i - n)
  rw [Nat.add_mul_div_right _ _ (Nat.two_pow_pos _), Nat.div_eq_of_lt hz, Nat.zero_add, show n + (i - n) = i from by omega] at h
  rw [h]
theorem yrD (x : Nat) (hx : x < 18446744073709551616) : upd (upd (fun _ => 0) 0 (cvI .u32 (x : Int))) 1 (cvI .u32 (yaO .u64 (x : Int) 32)) = G 32 x := by
 have e1 : cvI .u32 (x : Int) = ((x % 2 ^ 32 : Nat) : Int) := by rw [ybw, show (2 : Nat) ^ 32 = 4294967296 from rfl]; omega
 have e2 : cvI .u32 (yaO .u64 (x : Int) 32) = ((x / 2 ^ 32 : Nat) : Int) := by
  rw [yb8, ybw, show (2 : Nat) ^ 32 = 4294967296 from rfl]; omega
 rw [e1, e2, ← ycj 32, yh5 32 0 _ 0 (by decide) (Nat.mod_lt _ (Nat.two_pow_pos _)), yh5 32 _ _ 1 (by rw [Nat.zero_add, Nat.mul_zero, Nat.pow_zero, Nat.mul_one, Nat.mul_one]; exact Nat.mod_lt _ (Nat.two_pow_pos _)) (by rw [show (2 : Nat) ^ 32 = 4294967296 from rfl]; omega)]
 refine congrArg (G 32) ?_
 rw [show (2 : Nat) ^ (32 * 0) = 1 from rfl, show (2 : Nat) ^ (32 * 1) = 4294967296 from rfl]; omega
theorem yrB {n : Nat} (h : n = 12) : 2 ^ (32 * n) = Q6 := yfn (by omega)
theorem yst (x m n : Nat) (h : n = 2 * m) : x % 2 ^ (32 * n) + wd x m * 2 ^ (32 * n) = x % 2 ^ (32 * (n + 2)) := by
 have := ybh 64 x m
 rw [show 64 * (m + 1) = 32 * (n + 2) from by omega, show 64 * m = 32 * n from by omega] at this
 exact this.symm
theorem yfd (x m n n2 : Nat) (h : n = 2 * m) (h2 : n2 = n + 2) (g : Nat → Int) (hg : g = G 32 (x % 2 ^ (32 * n))) : app n g (upd (upd (fun _ => 0) 0 (cvI .u32 (W x m))) 1 (cvI .u32 (yaO .u64 (W x m) 32))) = G 32 (x % 2 ^ (32 * n2)) := by
 rw [hg, ybg, yrD _ (yd3 x m), ysr 32 n _ _ (Nat.mod_lt _ (Nat.two_pow_pos _)), yst x m n h, h2]
theorem yov (x n : Nat) (h : n = 2) : upd (upd (fun _ => 0) 0 (cvI IntKind.u32 (W x 0))) 1 (cvI IntKind.u32 (yaO IntKind.u64 (W x 0) 32)) = G 32 (x % 2 ^ (32 * n)) := by
 subst h
 rw [ybg, yrD _ (yd3 x 0)]
 refine congrArg (G 32) ?_
 unfold wd
 rw [show (2 : Nat) ^ (64 * 0) = 1 from rfl, Nat.div_one]
theorem yin (x n2 n4 n6 n8 n10 n12 : Nat) (h2 : n2 = 2) (h4 : n4 = n2 + 2) (h6 : n6 = n4 + 2) (h8 : n8 = n6 + 2) (h10 : n10 = n8 + 2) (h12 : n12 = n10 + 2) (hx : x < Q6) :
  app n10 (app n8 (app n6 (app n4 (app n2 (upd (upd (fun _ => 0) 0 (cvI IntKind.u32 (W x 0))) 1 (cvI IntKind.u32 (yaO IntKind.u64 (W x 0) 32))) (upd (upd (fun x => 0) 0 (cvI IntKind.u32 (W x 1))) 1 (cvI IntKind.u32 (yaO IntKind.u64 (W x 1) 32)))) (upd (upd (fun x => 0) 0 (cvI IntKind.u32 (W x 2))) 1 (cvI IntKind.u32 (yaO IntKind.u64 (W x 2) 32)))) (upd (upd (fun x => 0) 0 (cvI IntKind.u32 (W x 3))) 1 (cvI IntKind.u32 (yaO IntKind.u64 (W x 3) 32)))) (upd (upd (fun x => 0) 0 (cvI IntKind.u32 (W x 4))) 1 (cvI IntKind.u32 (yaO IntKind.u64 (W x 4) 32)))) (upd (upd (fun x => 0) 0 (cvI IntKind.u32 (W x 5))) 1 (cvI IntKind.u32 (yaO IntKind.u64 (W x 5) 32))) = G 32 x := by
 have e0 := yov x n2 h2
 have e1 := yfd x 1 n2 n4 (by omega) h4 _ e0
 have e2 := yfd x 2 n4 n6 (by omega) h6 _ e1
 have e3 := yfd x 3 n6 n8 (by omega) h8 _ e2
 have e4 := yfd x 4 n8 n10 (by omega) h10 _ e3
 have e5 := yfd x 5 n10 n12 (by omega) h12 _ e4
 rw [e5, yrB (by omega), Nat.mod_eq_of_lt hx]
theorem yj4 (x : Nat) (hx : x < Q6) (K : List UInt8 → Prop) (h : K (nb x)) : zbi (W x) K := by
 rw [zbi.is]; unfold zbi.d
 rw [yin x 2 4 6 8 10 12 rfl rfl rfl rfl rfl rfl hx]
 refine ybb 12 x (by omega) ?_ _ h
 rw [yrB (n := 12) rfl]; exact hx
theorem ygY (a : List UInt8) (x : Nat) (n : Nat) (hn : n ≤ 12) (k0 : List UInt8 → (Nat → Int) → Prop) (h : k0 a (G 64 (x % 2 ^ (32 * n)))) :
  ∀ (j i : Nat), i + j = n → zbl.l4 k0 (j + 1) a n (G 32 x) n i (G 64 (x % 2 ^ (32 * i))) := by
 intro j
 induction j with
 | zero =>
  intro i hi
  unfold zbl.l4 zbl.l4.step
  rw [yat (ybj (by omega)), show i = n from by omega]
  exact h
 | succ j ih =>
  intro i hi
  have ih := ih (i + 1) (by omega)
  have e : ((i + 1 : Nat) : Int) = (i : Int) + 1 := by omega
  rw [e] at ih
  unfold zbl.l4 zbl.l4.step
  simp (disch := omega) only [ybX, yhx, yap, yb1, yaV, ya9, ybd, ybj, yaD, ya5, Bool.and_self, Bool.not_false]
  have e1 : Int.toNat ((i : Int) / 2) = i / 2 := by omega
  have e2 : Int.toNat (i : Int) = i := by omega
  have e3 : 32 * ((i : Int) % 2) = ((32 * (i % 2) : Nat) : Int) := by omega
  have hd := ya6 32 x i
  have e8 : (2 : Nat) ^ 32 = 4294967296 := rfl
  have hlow := ynp 64 (x % 2 ^ (32 * i)) (i / 2) (32 * (i % 2)) (by rw [show 64 * (i / 2) + 32 * (i % 2) = 32 * i from by omega]; exact Nat.mod_lt _ (Nat.two_pow_pos _))
  rw [e1, e2, e3, ya8, ya8, yaV (by omega) (by omega), yqL _ _ _ 32 hlow (by omega) hd]
  rw [ygv (k := 64) (N' := x % 2 ^ (32 * (i + 1)))]
  ·exact ih
  ·rw [ybh, Nat.add_mul, Nat.mul_assoc, ← Nat.pow_add, show 32 * (i % 2) + 64 * (i / 2) = 32 * i from by omega]; omega
  ·exact yqI hlow (by omega) hd
theorem yju (a : List UInt8) (K : (Nat → Int) → Bool → Prop) (h : if May a ∧ a.length ≤ 48 then K (W (val a)) true else K (W 0) false) : zbl a K := by
 rw [zbl.is]; unfold zbl.d
 rw [yaU]
 by_cases hm : May a
 ·rw [if_pos hm, yat (by rfl)]
  by_cases hl : a.length ≤ 48
  ·rw [if_pos ⟨hm, hl⟩] at h
   rw [yat (ybj (by omega))]
   refine ygh a (by omega) _ ?_
   refine ⟨(a.length + 3) / 4 + 1, ?_⟩
   have hlt : val a < 2 ^ (32 * ((a.length + 3) / 4)) := Nat.lt_of_lt_of_le (yb2 a) (Nat.pow_le_pow_right (by omega) (by omega))
   have hQ : val a < Q6 := Nat.lt_of_lt_of_le (yb2 a) (ytk (by omega))
   have := ygY a (val a) ((a.length + 3) / 4) (by omega) (fun y0 y1 => zdv y1 fun y0_1 => zbf y0 fun y0 => K y1 (eqI y0_1 y0)) ?_ ((a.length + 3) / 4) 0 (by omega)
   ·rw [show (2 : Nat) ^ (32 * 0) = 1 from rfl, Nat.mod_one, ycj] at this
    exact this
   ·rw [Nat.mod_eq_of_lt hlt, ← W_G]
    refine yhH (val a) hQ _ ?_
    refine yfI a _ ?_
    rw [if_pos hm, yj8 rfl]; exact h
  ·rw [if_neg (by omega)] at h
   rw [yaC (ya9 (by omega))]
   rw [W_zero] at h; exact h
 ·rw [if_neg (by simp [hm])] at h
  rw [if_neg hm, yaC (by rfl)]
  rw [W_zero] at h; exact h
end Go.Ev.S

/- Exact numbers: which may be; made, told. -/
set_option linter.unusedVariables false
set_option linter.unusedSimpArgs false
set_option maxRecDepth 8000
namespace Go.Ev.S
open Go Go.Ev
def fit (x : Nat) : Prop := (nb x).length ≤ 16384
instance (x : Nat) : Decidable (fit x) := by unfold fit; infer_instance
theorem yhL (K : List UInt8 → Int → Prop) (x : Nat) : ypa K x = if fit x then K (nb x) 0 else K [] 4 := by
 unfold ypa
 by_cases h : 16384 < (nb x).length
 ·rw [if_pos h, if_neg (show ¬ fit x from Nat.not_le.2 h)]
 ·rw [if_neg h, if_pos (show fit x from Nat.not_lt.1 h)]
theorem ydU {K : List UInt8 → Int → Prop} {x : Nat} (h1 : fit x → K (nb x) 0) (h2 : ¬ fit x → K [] 4) : ypa K x := by
 rw [yhL]; split
 ·exact h1 ‹_›
 ·exact h2 ‹_›
theorem ybA {x : Nat} (h : fit x) : May (nb x) := ⟨h, ylI x⟩
theorem yfF {a : List UInt8} (h : May a) : nb (val a) = a := yiV h.2
theorem yjr {a : List UInt8} (h : May a) : fit (val a) := by unfold fit; rw [yfF h]; exact h.1
theorem ytn (x N : Nat) (h : N = 16384) : fit x ↔ x < 256 ^ N := by subst h; exact ybc x _
theorem ye2 {x y : Nat} (h : fit y) (hl : x ≤ y) : fit x := (ybc x 16384).2 (Nat.lt_of_le_of_lt hl ((ybc y 16384).1 h))
theorem ykM {a : List UInt8} (h : May a) : val a ≠ 0 ↔ a ≠ [] := by
 constructor
 ·rintro h1 rfl; exact h1 yeS
 ·intro h1 h2
  have := yfF h
  rw [h2, yaH] at this
  exact h1 this.symm
theorem ynh (x : Nat) : fit x ↔ yav x ≤ 131072 := yj1 x
theorem ykK {a b : List UInt8} (ha : May a) (hb : May b) (h0 : val a ≠ 0) (h1 : val b ≠ 0) (h : 16385 < a.length + b.length) : ¬ fit (val a * val b) := by
 intro hf
 obtain ⟨N, hN⟩ : ∃ N, N = 16384 := ⟨_, rfl⟩
 have hf := (ytn _ N hN).1 hf
 have ea : ¬ val a < 256 ^ (a.length - 1) := by
  rw [← ybc, yfF ha]
  have := yiG h0
  rw [yfF ha] at this; omega
 have eb : ¬ val b < 256 ^ (b.length - 1) := by
  rw [← ybc, yfF hb]
  have := yiG h1
  rw [yfF hb] at this; omega
 have h2 : 256 ^ (a.length - 1) * 256 ^ (b.length - 1) ≤ val a * val b := Nat.mul_le_mul (by omega) (by omega)
 rw [← Nat.pow_add] at h2
 have hla := ha.1
 have hlb := hb.1
 have h3 : 256 ^ N ≤ 256 ^ (a.length - 1 + (b.length - 1)) := Nat.pow_le_pow_right (by omega) (by omega)
 omega
theorem ype {a b : List UInt8} (ha : May a) (hb : May b) {K : List UInt8 → Int → Prop} (h : ypa K (val a * val b)) : zbh a b K := by
 refine yoj a b K (fun hn => absurd ⟨ha, hb⟩ hn) ?_ (fun _ _ _ => h)
 intro _ _ hl h0 h1
 rw [yhL, if_neg (ykK ha hb h0 h1 hl)] at h
 exact h
theorem yj7 {x n : Nat} (h : x ≠ 0) : fit (x * 2 ^ n) ↔ yav x + n ≤ 131072 := by
 rw [ynh, ygV x n h]
theorem ynz {a : List UInt8} (n : Int) (h0 : 0 ≤ n) (hn : n < 9223372036854775808) (ha : May a) {K : List UInt8 → Int → Prop} (h : ypa K (val a * 2 ^ n.toNat)) : zbe a n K := by
 refine yms a n hn K (fun hh => absurd ha hh) (fun _ hh => by omega) ?_ ?_ ?_
 ·rintro _ _ rfl
  rw [yeS, Nat.zero_mul, yhL, yaH, if_pos (by unfold fit; rw [yaH]; decide)] at h
  exact h
 ·intro _ _ h1 h2
  rw [yhL, if_neg (by rw [yj7 ((ykM ha).2 h1)]; omega)] at h
  exact h
 ·intro _ _ h1 h2
  rw [yhL, if_pos (by rw [yj7 ((ykM ha).2 h1)]; omega)] at h
  exact h
theorem yhA {a : List UInt8} (n : Nat) (hn : (n : Int) < 9223372036854775808) (ha : May a) (hne : a ≠ []) {K : List UInt8 → Bool → Int → Prop} (h : K (nb (val a / 2 ^ n)) (decide (ybm (val a) < n)) 0) : zbj a n K := by
 refine yli a n hn K (fun hh => absurd ha hh) (fun _ hh => by omega) (fun _ _ hh => absurd hh hne) ?_
 intro _ _ _
 rw [show decide ((ybm (val a) : Int) < (n : Int)) = decide (ybm (val a) < n) from by rw [decide_eq_decide]; omega]
 exact h
theorem ymM {a : List UInt8} (ha : May a) (h : val a ≠ 0) : ybm (val a) < 131072 := by
 have h1 := yf6 _ _ h (yb2 a)
 have := ha.1; omega
theorem ymD (a : List UInt8) (h : a ≠ []) : eqI (yi5 .u8 (ybk a (a.length - 1)) 1) 1 = decide (val a % 2 = 1) := by
 have hl : 0 < a.length := List.length_pos_iff.2 h
 have := ye5 a 0 hl
 rw [Nat.sub_zero] at this
 rw [this]
 unfold dg
 rw [Nat.mul_zero, Nat.pow_zero, Nat.div_one]
 have hb : val a % 2 ^ 8 < 256 := Nat.mod_lt _ (by decide)
 have e : val a % 2 = (val a % 2 ^ 8) % 2 := by rw [show (2 : Nat) ^ 8 = 256 from rfl]; omega
 rw [e]
 generalize val a % 2 ^ 8 = v at hb
 revert v
 decide
theorem ygo (a : List UInt8) (K : Bool → Prop) (hl : a.length < 9223372036854775808) (h : K (decide (val a % 2 = 1))) : zal a K := by
 rw [zal.is]; unfold zal.d
 rw [ybf]
 by_cases h0 : a = []
 ·subst h0
  rw [yat (by rfl)]; exact h
 ·have hp : 0 < a.length := List.length_pos_iff.2 h0
  rw [yaC (by simp [h0]), yas (by omega) (by omega), ybd (by omega), ya9 (by omega), yby (by rfl), show Int.toNat ((a.length : Int) - 1) = a.length - 1 from by omega, ymD a h0]
  exact h
theorem yiI (a : List UInt8) (K : Bool → Prop) (hl : a.length < 9223372036854775808) (h : K (decide (val a % 2 = 1))) : zct a K := by
 rw [zct.is]; unfold zct.d
 rw [ybf]
 by_cases h0 : a = []
 ·subst h0
  rw [yat (by rfl)]; exact h
 ·have hp : 0 < a.length := List.length_pos_iff.2 h0
  rw [yaC (by simp [h0]), yas (by omega) (by omega), ybd (by omega), ya9 (by omega), yby (by rfl), show Int.toNat ((a.length : Int) - 1) = a.length - 1 from by omega, ymD a h0]
  exact h
def win (e : Int) : Prop := -1048576 ≤ e ∧ e ≤ 1048576
instance (e : Int) : Decidable (win e) := by unfold win; infer_instance
theorem yb0 (e : Int) (K : Bool → Prop) (h : K (decide (win e))) : zap e K := by
 rw [zap.is]; unfold zap.d
 by_cases h1 : -1048576 ≤ e
 ·rw [yaC (ybd h1)]
  refine cast (congrArg K ?_) h
  unfold leI
  rw [decide_eq_decide]; unfold win; omega
 ·rw [yat (yf7 (by omega))]
  refine cast (congrArg K ?_) h
  rw [decide_eq_false_iff_not]; unfold win; omega
theorem ys7 {e : Int} {p q : Prop} (h1 : ¬ win e → p) (h2 : win e → q) : br (ltI e (-1048576)) p (br (ltI 1048576 e) p q) := by
 by_cases c1 : e < -1048576
 ·rw [yaC (ya9 c1)]; exact h1 (by unfold win; omega)
 ·rw [yat (ybj (by omega))]
  by_cases c2 : 1048576 < e
  ·rw [yaC (ya9 c2)]; exact h1 (by unfold win; omega)
  ·rw [yat (ybj (by omega))]; exact h2 (by unfold win; omega)
structure MayE (n : Bool) (a b : List UInt8) (e : Int) : Prop where
 ma : May a
 mb : May b
 ob : val b % 2 = 1
 we : win e
 z : a = [] → n = false ∧ b = [1] ∧ e = 0
 r : a ≠ [] → val a % 2 = 1 ∧ Nat.gcd (val a) (val b) = 1
theorem ycw : nb 1 = [1] := by rw [ydG (by decide), yaH]; decide
theorem yje (g : Nat) : eqS (nb g) [1] = decide (g = 1) := by
 rw [yjZ, decide_eq_decide, ← ycw]
 exact ⟨fun h => yts h, fun h => by rw [h]⟩
noncomputable instance (n : Bool) (a b : List UInt8) (e : Int) : Decidable (MayE n a b e) := Classical.propDecidable _
theorem yds (K : Bool → List UInt8 → List UInt8 → Int → Prop) : zak K = K false [] [1] 0 := by rw [zak.is]; rfl
theorem yl0 (K : Bool → List UInt8 → List UInt8 → Int → Prop) : zcs K = K false [] [1] 0 := by rw [zcs.is]; rfl
theorem yoT (n : Bool) (b : List UInt8) (e : Int) : (ydg n false && (eqS [] [] && (eqS b [1] && eqI e 0))) = decide (n = false ∧ b = [1] ∧ e = 0) := by
 rw [yjZ, yjZ]
 cases n
 ·by_cases h1 : b = [1]
  ·by_cases h2 : e = 0
   ·simp [h1, h2, ydg, eqI]
   ·simp [h1, h2, ydg, eqI]
  ·simp [h1, ydg]
 ·simp [ydg]
theorem yaL (n : Bool) (a b : List UInt8) (e : Int) (K : Int → Prop) (h1 : MayE n a b e → K 0) (h2 : ¬ MayE n a b e → K 2) : zad n a b e K := by
 rw [zad.is]; unfold zad.d
 rw [yaU]
 by_cases ma : May a
 rotate_left
 ·rw [if_neg ma]; exact h2 fun h => ma h.ma
 rw [if_pos ma, yat (by rfl), yaU]
 by_cases mb : May b
 rotate_left
 ·rw [if_neg mb]; exact h2 fun h => mb h.mb
 rw [if_pos mb, yat (by rfl)]
 have la := ma.1
 have lb := mb.1
 refine ygo b _ (by omega) ?_
 by_cases ob : val b % 2 = 1
 rotate_left
 ·rw [show decide (val b % 2 = 1) = false from by simpa using ob]; exact h2 fun h => ob h.ob
 rw [show decide (val b % 2 = 1) = true from by simpa using ob, yat (by rfl)]
 refine yb0 e _ ?_
 by_cases we : win e
 rotate_left
 ·rw [show decide (win e) = false from by simpa using we]; exact h2 fun h => we h.we
 rw [show decide (win e) = true from by simpa using we, yat (by rfl), ybf]
 by_cases ha : a = []
 ·subst ha
  rw [yaC (by rfl), yds, yoT]
  by_cases hz : n = false ∧ b = [1] ∧ e = 0
  ·rw [yat (by simp [hz])]; exact h1 ⟨ma, mb, ob, we, fun _ => hz, fun h => absurd rfl h⟩
  ·rw [yaC (by simp only [hz, decide_false]; rfl)]; exact h2 fun h => hz (h.z rfl)
 ·rw [yat (by simpa using ha)]
  refine yiZ a b _ (fun h => absurd ⟨ma, mb⟩ h) fun _ _ => ?_
  refine ygo a _ (by omega) ?_
  by_cases oa : val a % 2 = 1
  rotate_left
  ·rw [show decide (val a % 2 = 1) = false from by simpa using oa]; exact h2 fun h => oa (h.r ha).1
  rw [show decide (val a % 2 = 1) = true from by simpa using oa, yat (by rfl), yje]
  by_cases hg : Nat.gcd (val a) (val b) = 1
  ·rw [yat (by simp [hg])]; exact h1 ⟨ma, mb, ob, we, fun h => absurd h ha, fun _ => ⟨oa, hg⟩⟩
  ·rw [yaC (by simp [hg])]; exact h2 fun h => hg (h.r ha).2
theorem ynW (n : Bool) (a b : List UInt8) (e : Int) (K : Bool → Prop) (h1 : MayE n a b e → K true) (h2 : ¬ MayE n a b e → K false) : zcr n a b e K := by
 rw [zcr.is]; unfold zcr.d
 rw [yex]
 by_cases ma : May a
 rotate_left
 ·rw [show decide (May a) = false from by simpa using ma]; exact h2 fun h => ma h.ma
 rw [show decide (May a) = true from by simpa using ma, yat (by rfl), yex]
 by_cases mb : May b
 rotate_left
 ·rw [show decide (May b) = false from by simpa using mb]; exact h2 fun h => mb h.mb
 rw [show decide (May b) = true from by simpa using mb, yat (by rfl)]
 have la := ma.1
 have lb := mb.1
 refine yiI b _ (by omega) ?_
 by_cases ob : val b % 2 = 1
 rotate_left
 ·rw [show decide (val b % 2 = 1) = false from by simpa using ob]; exact h2 fun h => ob h.ob
 rw [show decide (val b % 2 = 1) = true from by simpa using ob, yat (by rfl)]
 refine ys7 (fun we => h2 fun h => we h.we) fun we => ?_
 rw [ybf]
 by_cases ha : a = []
 ·subst ha
  rw [yaC (by rfl), yl0, yoT]
  by_cases hz : n = false ∧ b = [1] ∧ e = 0
  ·rw [show decide (n = false ∧ b = [1] ∧ e = 0) = true from by simpa using hz]; exact h1 ⟨ma, mb, ob, we, fun _ => hz, fun h => absurd rfl h⟩
  ·rw [show decide (n = false ∧ b = [1] ∧ e = 0) = false from decide_eq_false hz]; exact h2 fun h => hz (h.z rfl)
 ·rw [yat (by simpa using ha)]
  refine yiI a _ (by omega) ?_
  by_cases oa : val a % 2 = 1
  rotate_left
  ·rw [show decide (val a % 2 = 1) = false from by simpa using oa]; exact h2 fun h => oa (h.r ha).1
  rw [show decide (val a % 2 = 1) = true from by simpa using oa, yaC rfl]
  refine ynJ a b ma mb _ ?_
  rw [yje]
  by_cases hg : Nat.gcd (val a) (val b) = 1
  ·rw [show decide (Nat.gcd (val a) (val b) = 1) = true from by simpa using hg]; exact h1 ⟨ma, mb, ob, we, fun h => absurd h ha, fun _ => ⟨oa, hg⟩⟩
  ·rw [show decide (Nat.gcd (val a) (val b) = 1) = false from by simpa using hg]; exact h2 fun h => hg (h.r ha).2
def odp (a : Nat) : Nat := a / 2 ^ ybm a
def rdA (a b : Nat) : Nat := odp a / Nat.gcd (odp a) (odp b)
def rdB (a b : Nat) : Nat := odp b / Nat.gcd (odp a) (odp b)
def rdE (a b : Nat) (e : Int) : Int := e + ((ybm a : Int) - ybm b)
def mkE (n : Bool) (a b : Nat) (e : Int) (K : Bool → List UInt8 → List UInt8 → Int → Int → Prop) : Prop :=
 if a = 0 then K false [] [1] 0 0 else if win (rdE a b e) then K n (nb (rdA a b)) (nb (rdB a b)) (rdE a b e) 0 else K false [] [] 0 4
theorem ylT {x : Nat} (h : fit x) (d : Nat) : fit (x / d) := ye2 h (Nat.div_le_self x d)
theorem yef {a : Nat} (h : a ≠ 0) : a = 2 ^ ybm a * odp a ∧ odp a % 2 = 1 := by
 obtain ⟨q, hq⟩ := ydS a h
 have e : odp a = 2 * q + 1 := by
  unfold odp
  exact Nat.div_eq_of_eq_mul_right (Nat.two_pow_pos _) hq
 rw [e]
 exact ⟨hq, by omega⟩
theorem yni {a : Nat} (h : a ≠ 0) : odp a ≠ 0 := by have := (yef h).2; omega
theorem yjs (n : Bool) (x y : List UInt8) (e : Int) (K : Bool → List UInt8 → List UInt8 → Int → Int → Prop) (h1 : ¬ (May x ∧ May y ∧ y ≠ [] ∧ win e) → K false [] [] 0 2)
  (h2 : May x → May y → y ≠ [] → win e → mkE n (val x) (val y) e K) : zaf n x y e K := by
 rw [zaf.is]; unfold zaf.d
 rw [yaU]
 by_cases mx : May x
 rotate_left
 ·rw [if_neg mx]; exact h1 fun h => mx h.1
 rw [if_pos mx, yat (by rfl), yaU]
 by_cases my : May y
 rotate_left
 ·rw [if_neg my]; exact h1 fun h => my h.2.1
 rw [if_pos my, yat (by rfl), ybf]
 by_cases hy : y = []
 ·rw [yaC (by simpa using hy)]; exact h1 fun h => h.2.2.1 hy
 rw [yat (by simpa using hy)]
 refine yb0 e _ ?_
 by_cases we : win e
 rotate_left
 ·rw [show decide (win e) = false from by simpa using we]; exact h1 fun h => we h.2.2.2
 rw [show decide (win e) = true from by simpa using we, yat (by rfl), ybf]
 have h2 := h2 mx my hy we
 unfold mkE at h2
 by_cases hx : x = []
 ·rw [yaC (by simpa using hx), yds]
  rw [if_pos (by rw [hx]; rfl)] at h2; exact h2
 rw [yat (by simpa using hx)]
 have nx := (ykM mx).2 hx
 have ny := (ykM my).2 hy
 rw [if_neg nx] at h2
 refine yel x _ ?_
 refine yel y _ ?_
 rw [if_pos mx, if_pos my]
 have bx := ymM mx nx
 have by' := ymM my ny
 refine yhA _ (by omega) mx hx ?_
 refine yhA _ (by omega) my hy ?_
 have fx : fit (odp (val x)) := ylT (yjr mx) _
 have fy : fit (odp (val y)) := ylT (yjr my) _
 refine yiZ _ _ _ (fun h => absurd ⟨ybA fx, ybA fy⟩ h) fun _ _ => ?_
 rw [ya1, ya1]
 show br (!eqS (nb (Nat.gcd (odp (val x)) (odp (val y)))) [1]) _ _
 rw [yje]
 have we' := we
 unfold win at we'
 have ee : yak .i64 e (yan .i64 (ybm (val x) : Int) (ybm (val y) : Int)) = rdE (val x) (val y) e := by
  unfold rdE
  rw [yas (by omega) (by omega), yap (by omega) (by omega)]
 rw [ee]
 have gne : Nat.gcd (odp (val x)) (odp (val y)) ≠ 0 := by
  intro h0; exact yni nx (Nat.gcd_eq_zero_iff.1 h0).1
 have fin : ∀ p q, p = nb (rdA (val x) (val y)) → q = nb (rdB (val x) (val y)) → zap (rdE (val x) (val y) e) fun y0_7 => br (!y0_7) (K false [] [] 0 4) (K n p q (rdE (val x) (val y) e) 0) := by
  rintro p q rfl rfl
  refine yb0 _ _ ?_
  by_cases w : win (rdE (val x) (val y) e)
  ·rw [if_pos w] at h2
   rw [show decide (win (rdE (val x) (val y) e)) = true from by simpa using w]; exact h2
  ·rw [if_neg w] at h2
   rw [show decide (win (rdE (val x) (val y) e)) = false from by simpa using w]; exact h2
 by_cases hg : Nat.gcd (odp (val x)) (odp (val y)) = 1
 ·rw [yat (by simp [hg])]
  refine fin _ _ ?_ ?_
  ·unfold rdA; rw [hg, Nat.div_one]; rfl
  ·unfold rdB; rw [hg, Nat.div_one]; rfl
 ·rw [yaC (by simp [hg])]
  have fg : fit (Nat.gcd (odp (val x)) (odp (val y))) := ye2 fx (Nat.gcd_le_left _ (Nat.pos_of_ne_zero (yni nx)))
  refine yfH _ _ _ (fun h => absurd ⟨ybA fx, ybA fg⟩ h) (fun h => absurd h (yoD gne)) fun _ _ _ => ?_
  refine yfH _ _ _ (fun h => absurd ⟨ybA fy, ybA fg⟩ h) (fun h => absurd h (yoD gne)) fun _ _ _ => ?_
  refine fin _ _ ?_ ?_
  ·rw [ya1, ya1]; rfl
  ·rw [ya1, ya1]; rfl
end Go.Ev.S

/- Exact numbers as rational ones. -/
set_option linter.unusedVariables false
set_option linter.unusedSimpArgs false
set_option maxRecDepth 8000
namespace Go.Ev.S
open Go Go.Ev
def p2 (e : Int) : Rat := (2 : Rat) ^ e
theorem ys0 : (2 : Rat) ≠ 0 := by decide
theorem ycH (e : Int) : 0 < p2 e := Rat.zpow_pos (by decide)
theorem ys4 (e : Int) : p2 e ≠ 0 := by have := ycH e; grind
theorem ycx (a b : Int) : p2 (a + b) = p2 a * p2 b := Rat.zpow_add ys0 a b
theorem ydD (n : Nat) : p2 (n : Int) = ((2 ^ n : Nat) : Rat) := by
 unfold p2; rw [Rat.zpow_natCast, Rat.natCast_pow]; rfl
theorem yoS : p2 0 = 1 := Rat.zpow_zero 2
theorem ytE : p2 1 = 2 := by have := ydD 1; rw [show ((1 : Nat) : Int) = 1 from rfl] at this; rw [this]; rfl
def sR (n : Bool) : Rat := if n then -1 else 1
def V (n : Bool) (a b : Nat) (e : Int) : Rat := sR n * ((a : Rat) / (b : Rat)) * p2 e
theorem yfi {b : Nat} (h : b ≠ 0) : 0 < (b : Rat) := Rat.natCast_pos.2 (by omega)
theorem yfW {b : Nat} (h : b ≠ 0) : (b : Rat) ≠ 0 := by have := yfi h; grind
theorem ye1 (n : Bool) (b : Nat) (e : Int) : V n 0 b e = 0 := by
 unfold V; rw [show ((0 : Nat) : Rat) = 0 from rfl]; grind
theorem ysm (n : Bool) (a b : Nat) (e : Int) (hb : b ≠ 0) : V n a b e * b = sR n * a * p2 e := by
 have := yfW hb
 unfold V; grind
theorem yrL (n : Bool) (a b k : Nat) (e : Int) : V n (a * 2 ^ k) b e = V n a b (e + k) := by
 unfold V
 rw [ycx, ydD, Rat.natCast_mul]; grind
theorem yrN (n : Bool) (a b : Nat) (e : Int) : V n a b e = sR n * V false a b e := by unfold V; rw [show sR false = 1 from rfl]; grind
theorem yro (n : Bool) (a b g : Nat) (e : Int) (hg : g ≠ 0) (hb : b ≠ 0) : V n (g * a) (g * b) e = V n a b e := by
 have h1 := yfW hg
 have h2 := yfW hb
 unfold V
 rw [Rat.natCast_mul, Rat.natCast_mul]
 have : (g : Rat) * a / (g * b) = a / b := by grind
 rw [this]
theorem ys6 (n : Bool) : sR n * sR n = 1 := by
 cases n
 ·show (1 : Rat) * 1 = 1; grind
 ·show (-1 : Rat) * -1 = 1; grind
theorem ytL (n : Bool) : sR (!n) = -sR n := by cases n <;> rfl
theorem yua (n : Bool) (a b : Nat) (e : Int) : V (!n) a b e = -V n a b e := by unfold V; rw [ytL]; grind
theorem yr3 {a b : Rat} (ha : 0 < a) (hb : 0 < b) : 0 < a / b := by
 rw [Rat.div_def]; exact Rat.mul_pos ha (Rat.inv_pos.2 hb)
theorem yto {a b : Nat} (ha : a ≠ 0) (hb : b ≠ 0) (e : Int) : 0 < V false a b e := by
 unfold V; rw [show sR false = 1 from rfl, Rat.one_mul]
 exact Rat.mul_pos (yr3 (yfi ha) (yfi hb)) (ycH e)
theorem yll {n : Bool} {a b : Nat} (ha : a ≠ 0) (hb : b ≠ 0) (e : Int) : (n = false ↔ 0 < V n a b e) ∧ (n = true ↔ V n a b e < 0) := by
 have h := yto ha hb e
 cases n with
 | false => exact ⟨⟨fun _ => h, fun _ => rfl⟩, ⟨fun h => (by cases h), fun h2 => by grind⟩⟩
 | true =>
  have h2 : V true a b e = -V false a b e := yua false a b e
  rw [h2]
  exact ⟨⟨fun h => (by cases h), fun h => by grind⟩, ⟨fun _ => by grind, fun _ => rfl⟩⟩
theorem yi0 {a b : Nat} (ha : a ≠ 0) : Nat.gcd (odp a) (odp b) ≠ 0 := by
 intro h0; exact yni ha (Nat.gcd_eq_zero_iff.1 h0).1
theorem yqt {a b : Nat} (ha : a ≠ 0) (hb : b ≠ 0) : a = Nat.gcd (odp a) (odp b) * rdA a b * 2 ^ ybm a ∧ b = Nat.gcd (odp a) (odp b) * rdB a b * 2 ^ ybm b := by
 have h1 := (yef ha).1
 have h2 := (yef hb).1
 have h3 : Nat.gcd (odp a) (odp b) * rdA a b = odp a := Nat.mul_div_cancel' (Nat.gcd_dvd_left _ _)
 have h4 : Nat.gcd (odp a) (odp b) * rdB a b = odp b := Nat.mul_div_cancel' (Nat.gcd_dvd_right _ _)
 rw [h3, h4]
 exact ⟨by rw [Nat.mul_comm]; exact h1, by rw [Nat.mul_comm]; exact h2⟩
theorem yi8 {a b : Nat} (ha : a ≠ 0) (hb : b ≠ 0) : rdA a b % 2 = 1 ∧ rdB a b % 2 = 1 ∧ Nat.gcd (rdA a b) (rdB a b) = 1 := by
 have h1 := (yef ha).2
 have h2 := (yef hb).2
 have h3 : Nat.gcd (odp a) (odp b) * rdA a b = odp a := Nat.mul_div_cancel' (Nat.gcd_dvd_left _ _)
 have h4 : Nat.gcd (odp a) (odp b) * rdB a b = odp b := Nat.mul_div_cancel' (Nat.gcd_dvd_right _ _)
 refine ⟨?_, ?_, ?_⟩
 ·rcases Nat.mod_two_eq_zero_or_one (rdA a b) with h | h
  ·rw [← h3, Nat.mul_mod, h, Nat.mul_zero, Nat.zero_mod] at h1; cases h1
  ·exact h
 ·rcases Nat.mod_two_eq_zero_or_one (rdB a b) with h | h
  ·rw [← h4, Nat.mul_mod, h, Nat.mul_zero, Nat.zero_mod] at h2; cases h2
  ·exact h
 ·exact Nat.coprime_div_gcd_div_gcd (Nat.pos_of_ne_zero (yi0 ha))
theorem yuk (n : Bool) {a b : Nat} (e : Int) (ha : a ≠ 0) (hb : b ≠ 0) : V n (rdA a b) (rdB a b) (rdE a b e) = V n a b e := by
 obtain ⟨h1, h2⟩ := yqt ha hb
 have hg := yi0 (b := b) ha
 have hB : rdB a b ≠ 0 := by have := (yi8 ha hb).2.1; omega
 have h3 : V n a b e * p2 (ybm b) = V n (rdA a b) (rdB a b) (e + ybm a) := by
  rw [← yro n (rdA a b) (rdB a b) _ _ hg hB, ← yrL, ← h1]
  have h4 : (b : Rat) = ((Nat.gcd (odp a) (odp b) * rdB a b : Nat) : Rat) * p2 (ybm b) := by
   rw [ydD, ← Rat.natCast_mul, ← h2]
  have h5 : ((Nat.gcd (odp a) (odp b) * rdB a b : Nat) : Rat) ≠ 0 := yfW (Nat.mul_ne_zero hg hB)
  have h6 := ys4 (ybm b)
  unfold V
  rw [h4]
  generalize ((Nat.gcd (odp a) (odp b) * rdB a b : Nat) : Rat) = u at h5
  generalize p2 (ybm b) = v at h6
  generalize (a : Rat) = w
  have : w / (u * v) * v = w / u := by grind
  grind
 have h7 : V n (rdA a b) (rdB a b) (e + ybm a) = V n (rdA a b) (rdB a b) (rdE a b e) * p2 (ybm b) := by
  have e1 : e + (ybm a : Int) = rdE a b e + ybm b := by unfold rdE; omega
  rw [e1]
  unfold V
  rw [ycx]; grind
 have h8 := ys4 (ybm b)
 rw [h7] at h3
 grind
end Go.Ev.S

/- Exact numbers added, multiplied, compared, measured: the document's. -/
set_option linter.unusedVariables false
set_option linter.unusedSimpArgs false
set_option maxRecDepth 8000
namespace Go.Ev.S
open Go Go.Ev
structure Can (n : Bool) (a b : Nat) (e : Int) : Prop where
 fa : fit a
 fb : fit b
 ob : b % 2 = 1
 we : win e
 z : a = 0 → n = false ∧ b = 1 ∧ e = 0
 r : a ≠ 0 → a % 2 = 1 ∧ Nat.gcd a b = 1
theorem MayE.can {n : Bool} {x y : List UInt8} {e : Int} (h : MayE n x y e) : ∃ a b, x = nb a ∧ y = nb b ∧ Can n a b e := by
 refine ⟨val x, val y, (yfF h.ma).symm, (yfF h.mb).symm, yjr h.ma, yjr h.mb, h.ob, h.we, ?_, ?_⟩
 ·intro h0
  have hx : x = [] := by rw [← yfF h.ma, h0, yaH]
  obtain ⟨h1, h2, h3⟩ := h.z hx
  exact ⟨h1, by rw [h2]; decide, h3⟩
 ·intro h0; exact h.r ((ykM h.ma).1 h0)
theorem nb_nil {a : Nat} : nb a = [] ↔ a = 0 := by
 constructor
 ·intro h; rw [← ya1 a, h, yeS]
 ·rintro rfl; exact yaH
theorem Can.may {n : Bool} {a b : Nat} {e : Int} (h : Can n a b e) : MayE n (nb a) (nb b) e := by
 refine ⟨ybA h.fa, ybA h.fb, by rw [ya1]; exact h.ob, h.we, ?_, ?_⟩
 ·intro h0
  obtain ⟨h1, h2, h3⟩ := h.z (nb_nil.1 h0)
  exact ⟨h1, by rw [h2]; exact ycw, h3⟩
 ·intro h0
  rw [ya1, ya1]; exact h.r fun h1 => h0 (nb_nil.2 h1)
theorem Can.b0 {n : Bool} {a b : Nat} {e : Int} (h : Can n a b e) : b ≠ 0 := by have := h.ob; omega
theorem Can.e64 {n : Bool} {a b : Nat} {e : Int} (h : Can n a b e) : -1048576 ≤ e ∧ e ≤ 1048576 := h.we
theorem ycl (a : Nat) : eqS (nb a) [] = decide (a = 0) := by rw [ybf, decide_eq_decide]; exact nb_nil
theorem ygZ {a b : Nat} (ha : fit a) (hb : fit b) {K : List UInt8 → Int → Prop} (h : ypa K (a * b)) : zbh (nb a) (nb b) K := by
 refine ype (ybA ha) (ybA hb) ?_; rw [ya1, ya1]; exact h
theorem yeg {a : Nat} (n : Int) (h0 : 0 ≤ n) (hn : n < 9223372036854775808) (ha : fit a) {K : List UInt8 → Int → Prop} (h : ypa K (a * 2 ^ n.toNat)) : zbe (nb a) n K := by
 refine ynz n h0 hn (ybA ha) ?_; rw [ya1]; exact h
theorem yki {a b : Nat} (ha : fit a) (hb : fit b) {K : Int → Int → Prop} (h : K (sgn a b) 0) : zbb (nb a) (nb b) K := by
 refine yny _ _ K (fun hn => absurd ⟨ybA ha, ybA hb⟩ hn) fun _ _ => ?_
 rw [ya1, ya1]; exact h
theorem ypW {a b : Nat} (ha : fit a) (hb : fit b) {K : List UInt8 → Int → Prop} (h : ypa K (a + b)) : zaz (nb a) (nb b) K := by
 refine yom _ _ K (fun hn => absurd ⟨ybA ha, ybA hb⟩ hn) fun _ _ => ?_; rw [ya1, ya1]; exact h
theorem ykD {a b : Nat} (ha : fit a) (hb : fit b) (h0 : b ≠ 0) {K : List UInt8 → List UInt8 → Int → Prop} (h : K (nb (a / b)) (nb (a % b)) 0) : zbc (nb a) (nb b) K := by
 refine yfH _ _ K (fun hn => absurd ⟨ybA ha, ybA hb⟩ hn) (fun hh => absurd (nb_nil.1 hh) h0) fun _ _ _ => ?_; rw [ya1, ya1]; exact h
theorem yfb {a : Nat} (ha : fit a) {K : Int → Prop} (h : K (yav a)) : zbf (nb a) K := by
 refine yfI _ K ?_; rw [if_pos (ybA ha), ya1]; exact h
theorem ydP (n : Bool) {a b : Nat} {e : Int} (ha : fit a) (hb : fit b) (h0 : b ≠ 0) (we : win e) {K : Bool → List UInt8 → List UInt8 → Int → Int → Prop} (h : mkE n a b e K) : zaf n (nb a) (nb b) e K := by
 refine yjs n _ _ e K (fun hn => absurd ⟨ybA ha, ybA hb, yoD h0, we⟩ hn) fun _ _ _ _ => ?_; rw [ya1, ya1]; exact h
def lv (a bd : Nat) (ae n : Int) : Nat := a * bd * 2 ^ (ae - n).toNat
section
variable {n1 n2 : Bool} {a1 b1 a2 b2 : Nat} {e1 e2 : Int}
theorem yiH {c : Prop} [Decidable c] {p q : Prop} (h1 : c → p) (h2 : ¬ c → q) : br (decide c) p q := by
 by_cases h : c
 ·rw [yaC (by simpa using h)]; exact h1 h
 ·rw [yat (by simpa using h)]; exact h2 h
theorem yf2 {c : Prop} [Decidable c] {p q : Prop} (h1 : ¬ c → p) (h2 : c → q) : br (!decide c) p q := by
 by_cases h : c
 ·rw [yat (by simpa using h)]; exact h2 h
 ·rw [yaC (by simpa using h)]; exact h1 h
def sgE (n : Bool) (a : Nat) : Int := if a = 0 then 0 else if n = true then -1 else 1
def yti (n : Bool) (a b c d : Nat) (e : Int) (K : Bool → List UInt8 → List UInt8 → Int → Int → Prop) : Prop :=
 if fit (a * b) ∧ fit (c * d) ∧ win e then mkE n (a * b) (c * d) e K else K false [] [] 0 4
def ytN (n1 : Bool) (a1 b1 : Nat) (e1 : Int) (n2 : Bool) (a2 b2 : Nat) (e2 : Int) (K : Bool → List UInt8 → List UInt8 → Int → Int → Prop) : Prop :=
 if a1 = 0 ∨ a2 = 0 then K false [] [1] 0 0 else yti (decide (n1 ≠ n2)) a1 a2 b1 b2 (e1 + e2) K
theorem yun (n m : Bool) : (!ydg n m) = decide (n ≠ m) := by cases n <;> cases m <;> rfl
end
end Go.Ev.S

/- Exact numbers scaled, measured, cut: the document's. -/
set_option linter.unusedVariables false
set_option linter.unusedSimpArgs false
set_option maxRecDepth 8000
namespace Go.Ev.S
open Go Go.Ev
def tp (a b : Nat) : Int :=
 if yav b ≤ yav a then (if b * 2 ^ (yav a - yav b) ≤ a then ((yav a - yav b : Nat) : Int) else ((yav a - yav b : Nat) : Int) - 1)
 else (if b ≤ a * 2 ^ (yav b - yav a) then -((yav b - yav a : Nat) : Int) else -((yav b - yav a : Nat) : Int) - 1)
theorem yfc {a : Nat} (h : fit a) : yav a ≤ 131072 := (ynh a).1 h
theorem yrF {a b : Nat} (ha : fit a) (hb : b ≠ 0) (hl : yav b ≤ yav a) : fit (b * 2 ^ (yav a - yav b)) := by
 rw [ynh, ygV _ _ hb]; have := yfc ha; omega
theorem ypF (a b : Nat) : ltI (sgn a b) 0 = !decide (b ≤ a) := by
 unfold sgn ltI
 by_cases h : b ≤ a
 ·(repeat' split) <;> simp <;> omega
 ·rw [if_pos (by omega)]; simp; omega
theorem yjg (a n : Nat) : yav a ≤ n ↔ a < 2 ^ n := yaI a n
theorem yjp {a : Nat} (h : a ≠ 0) : 2 ^ (yav a - 1) ≤ a := by
 have h1 : ¬ yav a ≤ yav a - 1 := by
  have : 0 < yav a := by unfold yav; rw [if_neg h]; omega
  omega
 rw [yjg] at h1; omega
theorem ylG {a b : Nat} (ha : a ≠ 0) (hb : b ≠ 0) : (0 ≤ tp a b → b * 2 ^ (tp a b).toNat ≤ a ∧ a < b * 2 ^ ((tp a b).toNat + 1)) ∧ (tp a b < 0 → b ≤ a * 2 ^ (-tp a b).toNat ∧ a * 2 ^ ((-tp a b).toNat - 1) < b) := by
 have a1 := yjp ha
 have a2 := (yjg a _).1 (Nat.le_refl _)
 have b1 := yjp hb
 have b2 := (yjg b _).1 (Nat.le_refl _)
 have pa : 0 < yav a := by unfold yav; rw [if_neg ha]; omega
 have pb : 0 < yav b := by unfold yav; rw [if_neg hb]; omega
 unfold tp
 by_cases hl : yav b ≤ yav a
 ·rw [if_pos hl]
  obtain ⟨d, hd⟩ : ∃ d, d = yav a - yav b := ⟨_, rfl⟩
  rw [← hd]
  -- a < b 2^(d+1)
  have h1 : a < b * 2 ^ (d + 1) := by
   have : 2 ^ (yav b - 1) * 2 ^ (d + 1) ≤ b * 2 ^ (d + 1) := Nat.mul_le_mul_right _ b1
   rw [← Nat.pow_add, show yav b - 1 + (d + 1) = yav a from by omega] at this
   omega
  by_cases h2 : b * 2 ^ d ≤ a
  ·rw [if_pos h2]
   refine ⟨fun _ => ?_, fun h => by omega⟩
   rw [show ((d : Int)).toNat = d from by omega]
   exact ⟨h2, h1⟩
  ·rw [if_neg h2]
   rcases Nat.eq_zero_or_pos d with h0 | h0
   ·refine ⟨fun h => by omega, fun _ => ?_⟩
    rw [h0] at h2 ⊢
    rw [show (-(((0 : Nat) : Int) - 1)).toNat = 1 from by omega, Nat.sub_self]
    refine ⟨?_, by omega⟩
    have : b < a * 2 := by
     have : 2 ^ (yav a - 1) * 2 ≤ a * 2 := Nat.mul_le_mul_right _ a1
     rw [← Nat.pow_succ, show (yav a - 1).succ = yav b from by omega] at this
     omega
    omega
   ·refine ⟨fun _ => ?_, fun h => by omega⟩
    rw [show ((d : Int) - 1).toNat = d - 1 from by omega, show d - 1 + 1 = d from by omega]
    refine ⟨?_, by omega⟩
    have : b * 2 ^ (d - 1) ≤ 2 ^ yav b * 2 ^ (d - 1) := Nat.mul_le_mul_right _ (by omega)
    rw [← Nat.pow_add, show yav b + (d - 1) = yav a - 1 from by omega] at this
    omega
 ·rw [if_neg hl]
  obtain ⟨d, hd⟩ : ∃ d, d = yav b - yav a := ⟨_, rfl⟩
  rw [← hd]
  have h1 : b < a * 2 ^ (d + 1) := by
   have : 2 ^ (yav a - 1) * 2 ^ (d + 1) ≤ a * 2 ^ (d + 1) := Nat.mul_le_mul_right _ a1
   rw [← Nat.pow_add, show yav a - 1 + (d + 1) = yav b from by omega] at this
   omega
  have h3 : a * 2 ^ (d - 1) < b := by
   have : a * 2 ^ (d - 1) < 2 ^ yav a * 2 ^ (d - 1) := Nat.mul_lt_mul_of_pos_right a2 (Nat.two_pow_pos _)
   rw [← Nat.pow_add, show yav a + (d - 1) = yav b - 1 from by omega] at this
   omega
  by_cases h2 : b ≤ a * 2 ^ d
  ·rw [if_pos h2]
   refine ⟨fun h => by omega, fun _ => ?_⟩
   rw [show (- -(d : Int)).toNat = d from by omega]
   exact ⟨h2, h3⟩
  ·rw [if_neg h2]
   refine ⟨fun h => by omega, fun _ => ?_⟩
   rw [show (-(-(d : Int) - 1)).toNat = d + 1 from by omega, show d + 1 - 1 = d from by omega]
   exact ⟨by omega, by omega⟩
theorem yfh {a b : Nat} (ha : fit a) (hb : fit b) : -131073 ≤ tp a b ∧ tp a b ≤ 131072 := by
 have := yfc ha
 have := yfc hb
 unfold tp; (repeat' split) <;> omega
def ysN (a b : Nat) (e n : Int) (K : List UInt8 → Bool → Int → Prop) : Prop :=
 if n < -2097152 ∨ 2097152 < n then K [] false 2 else if a = 0 then K [] true 0 else
 if n ≤ e then (if fit (a * 2 ^ (e - n).toNat) then K (nb (a * 2 ^ (e - n).toNat / b)) (decide (a * 2 ^ (e - n).toNat % b = 0)) 0 else K [] false 4)
 else if tp a b + e < n then K [] false 0 else K (nb (a / (b * 2 ^ (n - e).toNat))) (decide (a % (b * 2 ^ (n - e).toNat) = 0)) 0
theorem ysu {a b : Nat} {e n : Int} (ha : a ≠ 0) (hb : b ≠ 0) (fa : fit a) (h1 : ¬ n ≤ e) (h2 : ¬ tp a b + e < n) : fit (b * 2 ^ (n - e).toNat) := by
 have h := (ylG ha hb).1 (by omega)
 refine ye2 fa (Nat.le_trans (Nat.mul_le_mul_left _ ?_) h.1)
 exact Nat.pow_le_pow_right (by omega) (by omega)
end Go.Ev.S

/- Differences: of words, bit by bit; of numbers of six words. -/
set_option linter.unusedVariables false
set_option linter.unusedSimpArgs false
set_option maxRecDepth 8000
namespace Go.Ev.S
open Go Go.Ev
end Go.Ev.S

/- Quiet and next encodings: the abacus and the document's answer; the law KindSigns. -/
set_option linter.unusedVariables false
set_option linter.unusedSimpArgs false
set_option maxRecDepth 8000
namespace Go.Ev.S
open Go Go.Ev
def ytT (f : Nat) : Nat := enc f false (2 * fe f + 1) (2 ^ (fp f - 2))
def quiet (f x : Nat) : Nat := if 8 ≤ cls f x then x ||| ytT f else x
theorem ynB (f x : Nat) : (f ≤ 3 ∧ x < 2 ^ fw f) ∨ (f ≤ 3 ∧ 2 ^ fw f ≤ x) ∨ 3 < f := by omega
end Go.Ev.S

/- The parts of an encoding: the abacus and the document's answer. -/
set_option linter.unusedVariables false
set_option linter.unusedSimpArgs false
set_option maxRecDepth 8000
namespace Go.Ev.S
open Go Go.Ev
def isN (c : Int) : Bool := eqI c 1 || eqI c 6
def isS (c : Int) : Bool := eqI c 2 || eqI c 5
def isQ (c : Int) : Bool := eqI c 8 || eqI c 9
def yeD (f x : Nat) : Nat := cond (isN (cls f x)) (fr f x + 2 ^ (fp f - 1)) (cond (isS (cls f x)) (fr f x) 0)
def yfT (f x : Nat) : Int := cond (isN (cls f x)) ((ex f x : Int) + 1 - fe f - fp f) (cond (isS (cls f x)) (2 - (fe f : Int) - fp f) 0)
def ufr (f x : Nat) : Nat := cond (isQ (cls f x)) (fr f x) 0
theorem yse (f x : Nat) : cls f x = 0 ∨ cls f x = 1 ∨ cls f x = 2 ∨ cls f x = 3 ∨ cls f x = 4 ∨ cls f x = 5 ∨ cls f x = 6 ∨ cls f x = 7 ∨ cls f x = 8 ∨ cls f x = 9 := by
 have := ylp f x; omega
theorem ysz (f x : Nat) (h : isS (cls f x) = true) : ex f x = 0 := by
 unfold isS at h
 apply Classical.byContradiction
 intro he
 unfold cls at h
 rw [if_pos he] at h
 revert h
 cases ng f x <;> cases (fr f x).testBit (fp f - 2) <;> simp only [cond_true, cond_false] <;> (repeat' split) <;> simp [eqI]
theorem yeG (f x : Nat) (h : f ≤ 3) (hx : x < 2 ^ fw f) (K : Int → (Nat → Int) → Int → (Nat → Int) → Int → Prop) (hK : K (cls f x) (W (yeD f x)) (yfT f x) (W (ufr f x)) 0) : zar f (Hi x) (Lo x) K := by
 have hw := ycn f h
 have hz : (fun _ : Nat => (0 : Int)) = W 0 := W_zero.symm
 have hex := ysC f x
 rw [zar.is]; unfold zar.d
 rw [ydi f x h (yum h hx), yat (by simpa using hx), yaK f h]
 refine yeB f x h hx _ ?_
 refine yj2 f x h hx _ ?_
 have q1 : yaF IntKind.i64 (yan IntKind.i64 (fp f : Int) 1) 64 = (((fp f - 1) / 64 : Nat) : Int) := by rw [ypX f h, yo5 _ (by omega)]
 have q2 : cvI IntKind.u64 (ych IntKind.i64 (yan IntKind.i64 (fp f : Int) 1) 64) = (((fp f - 1) % 64 : Nat) : Int) := by rw [ypX f h, yoF, yaV (by omega) (by omega)]
 have g1 : (leI 0 (((fp f - 1) / 64 : Nat) : Int) && ltI (((fp f - 1) / 64 : Nat) : Int) 6) = true := ybL (by omega) (by omega)
 have g2 : (!ltI (((fp f - 1) % 64 : Nat) : Int) 0) = true := yhJ (by omega)
 have e1 : yak IntKind.i64 (yan IntKind.i64 (yak IntKind.i64 (yan IntKind.i64 (ex f x : Int) 1) (1 - (fe f : Int))) (fp f : Int)) 1 = (ex f x : Int) + 1 - fe f - fp f := by
  have s1 : yan .i64 (ex f x : Int) 1 = (ex f x : Int) - 1 := yas (by omega) (by omega)
  have s2 : yak .i64 ((ex f x : Int) - 1) (1 - (fe f : Int)) = (ex f x : Int) - 1 + (1 - (fe f : Int)) := yap (by omega) (by omega)
  have s3 : yan .i64 ((ex f x : Int) - 1 + (1 - (fe f : Int))) (fp f : Int) = (ex f x : Int) - 1 + (1 - (fe f : Int)) - fp f := yas (by omega) (by omega)
  have s4 : yak .i64 ((ex f x : Int) - 1 + (1 - (fe f : Int)) - fp f) 1 = (ex f x : Int) - 1 + (1 - (fe f : Int)) - fp f + 1 := yap (by omega) (by omega)
  rw [s1, s2, s3, s4]; omega
 have e2 : isS (cls f x) = true → yak IntKind.i64 (yan IntKind.i64 (yak IntKind.i64 (ex f x : Int) (1 - (fe f : Int))) (fp f : Int)) 1 = 2 - (fe f : Int) - fp f := by
  intro hs
  have := ysz f x hs
  have s2 : yak .i64 (ex f x : Int) (1 - (fe f : Int)) = (ex f x : Int) + (1 - (fe f : Int)) := yap (by omega) (by omega)
  have s3 : yan .i64 ((ex f x : Int) + (1 - (fe f : Int))) (fp f : Int) = (ex f x : Int) + (1 - (fe f : Int)) - fp f := yas (by omega) (by omega)
  have s4 : yak .i64 ((ex f x : Int) + (1 - (fe f : Int)) - fp f) 1 = (ex f x : Int) + (1 - (fe f : Int)) - fp f + 1 := yap (by omega) (by omega)
  rw [s2, s3, s4]; omega
 have hsig : upd (W (fr f x)) ((fp f - 1) / 64) (orI .u64 (W (fr f x) ((fp f - 1) / 64)) (ybE .u64 1 (((fp f - 1) % 64 : Nat) : Int))) = W (fr f x + 2 ^ (fp f - 1)) := by
  rw [ymB, yrz _ _ (yqY f x)]
 rw [q1, q2, yby g1, yby g2, yby g1, Int.toNat_natCast, hsig, ybq f h, ybq f h, e1, hz]
 unfold yeD yfT ufr at hK
 rcases yse f x with c | c | c | c | c | c | c | c | c | c <;> rw [c] at hK ⊢ <;> rw [c] at e2 <;> first
  | exact hK
  | (rw [e2 rfl]; exact hK)
end Go.Ev.S

/- Signs put together, words and classes: the abacus and the document's answer; the laws of signs. -/
set_option linter.unusedVariables false
set_option linter.unusedSimpArgs false
set_option maxRecDepth 8000
namespace Go.Ev.S
open Go Go.Ev
end Go.Ev.S

/- The plain laws of SignWords and SignBack. -/
set_option linter.unusedVariables false
set_option linter.unusedSimpArgs false
set_option maxRecDepth 8000
namespace Go.Ev.S
open Go Go.Ev
def ext (w x : Nat) : Nat := cond (x.testBit (w - 1)) (x % 2 ^ w + (18446744073709551616 - 2 ^ w)) (x % 2 ^ w)
end Go.Ev.S

/- Encodings compared: what the functions come to. -/
set_option linter.unusedVariables false
set_option linter.unusedSimpArgs false
set_option maxRecDepth 8000
namespace Go.Ev.S
open Go Go.Ev
end Go.Ev.S

/- The order of all encodings; the lesser and the greater one. -/
set_option linter.unusedVariables false
set_option linter.unusedSimpArgs false
set_option maxRecDepth 8000
namespace Go.Ev.S
open Go Go.Ev
end Go.Ev.S

/- What encodings say: their exact values, in order. -/
set_option linter.unusedVariables false
set_option linter.unusedSimpArgs false
set_option maxRecDepth 8000
namespace Go.Ev.S
open Go Go.Ev
def mg (f x : Nat) : Nat := ex f x * 2 ^ (fp f - 1) + fr f x
theorem yup (f x : Nat) (h : f ≤ 3) (hx : x < 2 ^ fw f) : x = sg f (ng f x) + mg f x := by
 have := ys8 f x h hx
 unfold enc at this
 unfold mg; omega
theorem ymj (f x : Nat) : mg f x = 0 ↔ ex f x = 0 ∧ fr f x = 0 := by
 have hp := Nat.two_pow_pos (fp f - 1)
 unfold mg
 constructor
 ·intro h
  have h1 : ex f x * 2 ^ (fp f - 1) = 0 := by omega
  rcases Nat.mul_eq_zero.1 h1 with h2 | h2
  ·exact ⟨h2, by omega⟩
  ·omega
 ·rintro ⟨h1, h2⟩; rw [h1, h2]; omega
def fin (f x : Nat) : Prop := ex f x ≠ 2 * fe f + 1
theorem ypJ (f x : Nat) : fin f x ↔ (1 ≤ cls f x ∧ cls f x ≤ 6) := by
 unfold fin cls
 cases ng f x <;> cases (fr f x).testBit (fp f - 2) <;> simp only [cond_true, cond_false] <;> (repeat' split) <;> constructor <;> intros <;> first | omega | simp_all
theorem ypy (f x : Nat) (hf : fin f x) : yeD f x = if ex f x = 0 then fr f x else fr f x + 2 ^ (fp f - 1) := by
 unfold fin at hf
 unfold yeD cls
 rw [if_neg hf]
 by_cases h1 : ex f x = 0
 ·rw [if_neg (by simpa using h1), if_pos h1]
  by_cases h2 : fr f x = 0
  ·rw [if_neg (by simpa using h2)]
   cases ng f x <;> simp [isN, isS, eqI, h2]
  ·rw [if_pos h2]
   cases ng f x <;> simp [isN, isS, eqI]
 ·rw [if_pos h1, if_neg h1]
  cases ng f x <;> simp [isN, isS, eqI]
theorem yrU (f x : Nat) (hf : fin f x) (h0 : mg f x ≠ 0) : yfT f x = if ex f x = 0 then 2 - (fe f : Int) - fp f else (ex f x : Int) + 1 - fe f - fp f := by
 unfold fin at hf
 unfold yfT cls
 rw [if_neg hf]
 by_cases h1 : ex f x = 0
 ·have h2 : fr f x ≠ 0 := fun h2 => h0 ((ymj f x).2 ⟨h1, h2⟩)
  rw [if_neg (by simpa using h1), if_pos h1, if_pos h2]
  cases ng f x <;> simp [isN, isS, eqI]
 ·rw [if_pos h1, if_neg h1]
  cases ng f x <;> simp [isN, isS, eqI]
theorem ykp (f x : Nat) (hf : fin f x) : yeD f x = 0 ↔ mg f x = 0 := by
 rw [ypy f x hf, ymj]
 have hp := Nat.two_pow_pos (fp f - 1)
 split
 ·rename_i h; simp [h]
 ·rename_i h; constructor
  ·intro; omega
  ·rintro ⟨h1, _⟩; exact absurd h1 h
end Go.Ev.S

/- Exact numbers compared, as rational ones; encodings compared by their values. -/
set_option linter.unusedVariables false
set_option linter.unusedSimpArgs false
set_option maxRecDepth 8000
namespace Go.Ev.S
open Go Go.Ev
theorem ya2 {x y d : Rat} (hd : 0 < d) : x * d < y * d ↔ x < y := by
 constructor
 ·intro hh
  apply Classical.byContradiction; intro hn
  have h1 : y ≤ x := by grind
  have h2 := Rat.mul_le_mul_of_nonneg_right h1 (show 0 ≤ d by grind)
  grind
 ·intro hh; exact Rat.mul_lt_mul_of_pos_right hh hd
section
variable {n1 n2 : Bool} {a1 b1 a2 b2 : Nat} {e1 e2 : Int}
end
theorem yly {x : Nat} (h : x < Q6) : fit x := by
 unfold fit
 obtain ⟨N, hN⟩ : ∃ N, N = 48 := ⟨_, rfl⟩
 have : (nb x).length ≤ N := by rw [ybc, ymU, ytJ hN]; exact h
 omega
theorem ycZ : fit 1 := by unfold fit; rw [ycw]; decide
theorem ylE (f x : Nat) (h : f ≤ 3) : yeD f x < 2 ^ fp f := by
 have h1 := yqY f x
 have h2 : 2 ^ fp f = 2 ^ (fp f - 1) + 2 ^ (fp f - 1) := by
  rcases yeF h with rfl | rfl | rfl | rfl <;> decide
 have hp := Nat.two_pow_pos (fp f - 1)
 unfold yeD
 cases isN (cls f x) <;> cases isS (cls f x) <;> simp only [cond_true, cond_false] <;> omega
theorem ylK (f x : Nat) (h : f ≤ 3) : yeD f x < Q6 := ysG (by have := ycn f h; omega) (ylE f x h)
theorem yi4 (f x : Nat) (h : f ≤ 3) : -16495 ≤ yfT f x ∧ yfT f x ≤ 16272 := by
 have h1 := ysC f x
 unfold yfT
 rcases yeF h with rfl | rfl | rfl | rfl <;> simp only [fe, fp] at * <;> cases isN (cls _ x) <;> cases isS (cls _ x) <;> simp only [cond_true, cond_false] <;> omega
theorem ynP {x n : Nat} (h0 : x ≠ 0) (h : x < 2 ^ n) : ybm x < n := yf6 x n h0 h
theorem ysw (f x : Nat) (h : f ≤ 3) (h0 : yeD f x ≠ 0) : -16495 ≤ rdE (yeD f x) 1 (yfT f x) ∧ rdE (yeD f x) 1 (yfT f x) ≤ 16385 := by
 have h1 := yi4 f x h
 have h2 := ynP h0 (ylE f x h)
 have h3 : ybm 1 = 0 := by rw [ybm]; simp
 have h4 : fp f ≤ 113 := by rcases yeF h with rfl | rfl | rfl | rfl <;> decide
 unfold rdE; rw [h3]; omega
theorem yqG (f x : Nat) (h : f ≤ 3) (K : Bool → List UInt8 → List UInt8 → Int → Int → Prop)
  (hK : ∀ n a e, Can n a 1 e → V n a 1 e = V (ng f x) (yeD f x) 1 (yfT f x) → a < 2 ^ fp f → -16495 ≤ e → e ≤ 16385 → K n (nb a) [1] e 0) : mkE (ng f x) (yeD f x) 1 (yfT f x) K := by
 unfold mkE
 by_cases h0 : yeD f x = 0
 ·rw [if_pos h0]
  have := hK false 0 0 ⟨by unfold fit; rw [yaH]; decide, ycZ, rfl, by unfold win; omega, fun _ => ⟨rfl, rfl, rfl⟩, fun h => absurd rfl h⟩ (by rw [h0, ye1, ye1]) (Nat.two_pow_pos _) (by omega) (by omega)
  rwa [yaH] at this
 ·rw [if_neg h0]
  have w := ysw f x h h0
  rw [if_pos (by unfold win; omega)]
  have e1 : rdB (yeD f x) 1 = 1 := by
   have : odp 1 = 1 := by unfold odp; rw [show ybm 1 = 0 from by rw [ybm]; simp]
   unfold rdB; rw [this, Nat.gcd_one_right]
  obtain ⟨r1, r2, r3⟩ := yi8 h0 (show (1 : Nat) ≠ 0 by omega)
  have hV := yuk (ng f x) (yfT f x) h0 (show (1 : Nat) ≠ 0 by omega)
  rw [e1] at hV r3 ⊢
  rw [ycw]
  have hl : rdA (yeD f x) 1 ≤ yeD f x := Nat.le_trans (Nat.div_le_self _ _) (Nat.div_le_self _ _)
  exact hK _ _ _ ⟨ye2 (yly (ylK f x h)) hl, ycZ, rfl, by unfold win; omega, fun hh => by omega, fun _ => ⟨r1, r3⟩⟩ hV (Nat.lt_of_le_of_lt hl (ylE f x h)) w.1 w.2
end Go.Ev.S

/- Exact numbers added, multiplied, compared, measured: the abacus. -/
set_option linter.unusedVariables false
set_option linter.unusedSimpArgs false
set_option maxRecDepth 8000
namespace Go.Ev.S
open Go Go.Ev
theorem yoU (e : Int) (a : List UInt8) (f : Int) (K : List UInt8 → Int → Prop) : zaj e a f K = if e = 0 then K a f else K a e := by
 rw [zaj.is]; unfold zaj.d
 by_cases h : e = 0
 ·rw [yaC (yj8 h), if_pos h]
 ·rw [yat (ygq h), if_neg h]
theorem ynt (a : List UInt8) (f : Int) (K : List UInt8 → Int → Prop) : zaj 0 a f K = K a f := by rw [yoU]; rfl
theorem ysQ (a : List UInt8) (f : Int) (K : List UInt8 → Int → Prop) : zaj 4 a f K = K a 4 := by rw [yoU]; rfl
theorem yh9 (n1 : Bool) (x1 y1 : List UInt8) (e1 : Int) (n2 : Bool) (x2 y2 : List UInt8) (e2 : Int) (K : Bool → Prop) (h1 : MayE n1 x1 y1 e1 → MayE n2 x2 y2 e2 → K true) (h2 : ¬ (MayE n1 x1 y1 e1 ∧ MayE n2 x2 y2 e2) → K false) : zam n1 x1 y1 e1 n2 x2 y2 e2 K := by
 rw [zam.is]; unfold zam.d
 refine yaL _ _ _ _ _ (fun g1 => ?_) fun g1 => ?_
 ·rw [yaC (by rfl)]
  refine yaL _ _ _ _ _ (fun g2 => ?_) fun g2 => ?_
  ·exact h1 g1 g2
  ·exact h2 fun h => g2 h.2
 ·rw [yat (by rfl)]; exact h2 fun h => g1 h.1
theorem yjv : fit 0 := by unfold fit; rw [yaH]; decide
section
variable {n1 n2 : Bool} {a1 b1 a2 b2 : Nat} {e1 e2 : Int}
theorem yjC (s : Bool) {a b : Nat} {e : Int} (c : Can s a b e) (K : Int → Prop) (h : K (sgE s a)) : zah s (nb a) (nb b) e K := by
 rw [zah.is]; unfold zah.d
 refine yaL _ _ _ _ _ (fun _ => ?_) fun hh => absurd c.may hh
 rw [yat (by rfl), ycl]
 unfold sgE at h
 by_cases h0 : a = 0
 ·rw [yaC (by simpa using h0)]; rw [if_pos h0] at h; exact h
 ·rw [yat (by simpa using h0)]; rw [if_neg h0] at h; cases s <;> exact h
theorem yd2 (s : Bool) {a b : Nat} {e : Int} (c : Can s a b e) (K : Bool → List UInt8 → List UInt8 → Int → Prop) (h : K false (nb a) (nb b) e) : zac s (nb a) (nb b) e K := by
 rw [zac.is]; unfold zac.d
 refine yaL _ _ _ _ _ (fun _ => ?_) fun hh => absurd c.may hh
 rw [yat (by rfl)]; exact h
theorem yhZ (n : Bool) {a b c d : Nat} {e : Int} (fa : fit a) (fb : fit b) (fc : fit c) (fd : fit d) (hc : c ≠ 0) (hd : d ≠ 0) (K : Bool → List UInt8 → List UInt8 → Int → Int → Prop) (h : yti n a b c d e K) :
  zan n (nb a) (nb b) (nb c) (nb d) e K := by
 rw [zan.is]; unfold zan.d
 unfold yti at h
 refine ygZ fa fb (ydU (fun f1 => ?_) fun f1 => ?_)
 ·rw [ynt]
  refine ygZ fc fd (ydU (fun f2 => ?_) fun f2 => ?_)
  ·rw [ynt, yat (by rfl)]
   refine yb0 e _ ?_
   by_cases w : win e
   ·rw [show decide (win e) = true from by simpa using w, yat (by rfl)]
    rw [if_pos ⟨f1, f2, w⟩] at h
    exact ydP n f1 f2 (Nat.mul_ne_zero hc hd) w h
   ·rw [show decide (win e) = false from by simpa using w]
    rw [if_neg fun hh => w hh.2.2] at h; exact h
  ·rw [ynt, yaC (by rfl)]
   rw [if_neg fun hh => f2 hh.2.1] at h; exact h
 ·rw [ynt]
  rw [if_neg fun hh => f1 hh.1] at h
  refine ygZ fc fd (ydU (fun f2 => ?_) fun f2 => ?_) <;> (rw [ysQ, yaC (by rfl)]; exact h)
theorem ylt (c1 : Can n1 a1 b1 e1) (c2 : Can n2 a2 b2 e2) (K : Bool → List UInt8 → List UInt8 → Int → Int → Prop) (h : ytN n1 a1 b1 e1 n2 a2 b2 e2 K) : zag n1 (nb a1) (nb b1) e1 n2 (nb a2) (nb b2) e2 K := by
 have w1 := c1.e64
 have w2 := c2.e64
 rw [zag.is]; unfold zag.d
 refine yh9 _ _ _ _ _ _ _ _ _ (fun _ _ => ?_) fun hh => absurd ⟨c1.may, c2.may⟩ hh
 rw [yat (by rfl), ycl, ycl, yds]
 unfold ytN at h
 refine yiH (fun h0 => ?_) fun h0 => ?_
 ·rw [if_pos (.inl h0)] at h; exact h
 refine yiH (fun h1 => ?_) fun h1 => ?_
 ·rw [if_pos (.inr h1)] at h; exact h
 rw [if_neg (by omega)] at h
 rw [yun, yap (by omega) (by omega)]
 exact yhZ _ c1.fa c2.fa c1.fb c2.fb c1.b0 c2.b0 K h
end
theorem yf9 (n : Bool) {a b : Nat} {e : Int} (c : Can n a b e) (h0 : a ≠ 0) (K : Int → Prop) (h2 : K (tp a b + e)) : zao n (nb a) (nb b) e K := by
 have w := c.e64
 have la := yfc c.fa
 have lb := yfc c.fb
 rw [zao.is]; unfold zao.d
 refine yfb c.fa ?_
 refine yfb c.fb ?_
 rw [yas (by omega) (by omega)]
 unfold tp at h2
 by_cases hl : yav b ≤ yav a
 ·rw [if_pos hl] at h2
  rw [yaC (ybd (by omega))]
  have et : ((yav a : Int) - yav b).toNat = yav a - yav b := by omega
  have hf := yrF c.fa c.b0 hl
  refine yeg _ (by omega) (by omega) c.fb (ydU (fun f => ?_) fun f => absurd (by rw [et]; exact hf) f)
  refine yki c.fa f ?_
  rw [et, ypF]
  refine yf2 (fun h3 => ?_) fun h3 => ?_
  ·rw [if_neg h3] at h2
   rw [yas (by omega) (by omega), yap (by omega) (by omega), show ((yav a : Int) - yav b - 1 + e) = ((yav a - yav b : Nat) : Int) - 1 + e from by omega]; exact h2
  ·rw [if_pos h3] at h2
   rw [yap (by omega) (by omega), show ((yav a : Int) - yav b + e) = ((yav a - yav b : Nat) : Int) + e from by omega]; exact h2
 ·rw [if_neg hl] at h2
  rw [yat (yf7 (by omega))]
  have en : yru .i64 ((yav a : Int) - yav b) = (yav b : Int) - yav a := by
   show IntKind.wrap .i64 _ = _
   rw [yd5 (by omega) (by omega)]; omega
  have et : ((yav b : Int) - yav a).toNat = yav b - yav a := by omega
  have hf := yrF c.fb h0 (show yav a ≤ yav b by omega)
  rw [en]
  refine yeg _ (by omega) (by omega) c.fa (ydU (fun f => ?_) fun f => absurd (by rw [et]; exact hf) f)
  refine yki f c.fb ?_
  rw [et, ypF]
  refine yf2 (fun h3 => ?_) fun h3 => ?_
  ·rw [if_neg h3] at h2
   rw [yas (by omega) (by omega), yap (by omega) (by omega), show ((yav a : Int) - yav b - 1 + e) = -((yav b - yav a : Nat) : Int) - 1 + e from by omega]; exact h2
  ·rw [if_pos h3] at h2
   rw [yap (by omega) (by omega), show ((yav a : Int) - yav b + e) = -((yav b - yav a : Nat) : Int) + e from by omega]; exact h2
theorem ydO (n : Bool) {a b : Nat} {e : Int} (c : Can n a b e) (K : Int → Int → Prop) (h1 : a = 0 → K 0 2) (h2 : a ≠ 0 → K (tp a b + e) 0) : zai n (nb a) (nb b) e K := by
 rw [zai.is]; unfold zai.d
 refine yaL _ _ _ _ _ (fun _ => ?_) fun hh => absurd c.may hh
 rw [yat (by rfl), ycl]
 refine yiH h1 fun h0 => ?_
 exact yf9 n c h0 _ (h2 h0)
theorem yc3 (s : Bool) {a b : Nat} {e : Int} (c : Can s a b e) (n : Int) (hn : -9223372036854775808 ≤ n ∧ n < 9223372036854775808) (K : List UInt8 → Bool → Int → Prop) (h : ysN a b e n K) : zae s (nb a) (nb b) e n K := by
 have w := c.e64
 rw [zae.is]; unfold zae.d
 refine yaL _ _ _ _ _ (fun _ => ?_) fun hh => absurd c.may hh
 rw [yat (by rfl)]
 unfold ysN at h
 by_cases g1 : n < -2097152
 ·rw [yaC (ya9 g1)]; rw [if_pos (.inl g1)] at h; exact h
 rw [yat (ybj (by omega))]
 by_cases g2 : 2097152 < n
 ·rw [yaC (ya9 g2)]; rw [if_pos (.inr g2)] at h; exact h
 rw [yat (ybj (by omega)), ycl]
 rw [if_neg (by omega)] at h
 refine yiH (fun h0 => ?_) fun h0 => ?_
 ·rw [if_pos h0] at h; exact h
 rw [if_neg h0] at h
 by_cases g3 : n ≤ e
 ·rw [yaC (ybd g3)]
  rw [if_pos g3] at h
  rw [yas (by omega) (by omega)]
  refine yeg _ (by omega) (by omega) c.fa (ydU (fun f1 => ?_) fun f1 => ?_)
  ·rw [if_pos f1] at h
   rw [yat (by rfl)]
   refine ykD f1 c.fb c.b0 ?_
   rw [ycl]; exact h
  ·rw [if_neg f1] at h
   rw [yaC (by rfl)]; exact h
 ·rw [yat (yf7 (by omega))]
  rw [if_neg g3] at h
  refine yf9 s c h0 _ ?_
  by_cases g4 : tp a b + e < n
  ·rw [yaC (ya9 g4)]; rw [if_pos g4] at h; exact h
  rw [yat (ybj (by omega))]
  rw [if_neg g4] at h
  have hf := ysu h0 c.b0 c.fa g3 g4
  rw [yas (by omega) (by omega)]
  refine yeg _ (by omega) (by omega) c.fb (ydU (fun f1 => ?_) fun f1 => absurd hf f1)
  refine ykD c.fa hf (Nat.mul_ne_zero c.b0 (Nat.pos_iff_ne_zero.1 (Nat.two_pow_pos _))) ?_
  rw [ycl]; exact h
end Go.Ev.S

/- Encodings of exact numbers. -/
set_option linter.unusedVariables false
set_option linter.unusedSimpArgs false
set_option maxRecDepth 8000
namespace Go.Ev.S
open Go Go.Ev
theorem yuf (e k t : Nat) (ht : t < 2 ^ k) : (e * 2 ^ k) ||| t = e * 2 ^ k + t := by
 rw [Nat.mul_comm]; exact (Nat.two_pow_add_eq_or_of_lt ht e).symm
theorem yfw (f e t : Nat) (h : f ≤ 3) (he : e ≤ 2 * fe f + 1) (ht : t < 2 ^ (fp f - 1)) (neg : Bool) (K : Int → Int → Prop) (hK : K (Hi (enc f neg e t)) (Lo (enc f neg e t))) : zat f neg e (W t) K := by
 obtain ⟨w1, w2, w3, w4, w5, w6⟩ := ycn f h
 have hb := ypS h he ht
 have hen := ys2 h he ht neg
 have hb' : e * 2 ^ (fp f - 1) + t < Q6 := ysG (by omega) hb
 have he1 : e * 2 ^ (fp f - 1) < Q6 := by omega
 have ht1 : t < Q6 := ysG (by omega) ht
 rw [zat.is]; unfold zat.d
 rw [yaV (by omega) (by omega), ynR e (by omega), yaK f h, ypX f h]
 refine yjA e (fp f - 1) (ysG (a := 64) (by omega) (by omega)) (by omega) _ fun bb => ?_
 rw [Nat.mod_eq_of_lt he1]
 refine ynK _ _ he1 ht1 _ ?_
 rw [yuf _ _ _ ht]
 cases neg with
 | false =>
  rw [yat rfl]
  rw [yeH _ (yud (by omega) hb)]
  have : enc f false e t = e * 2 ^ (fp f - 1) + t := by simp [enc, sg]
  rw [this] at hK; exact hK
 | true =>
  have e1 : enc f true e t = e * 2 ^ (fp f - 1) + t + 2 ^ (fw f - 1) := by simp [enc, sg]; omega
  rw [e1] at hK hen
  have q1 : yaF IntKind.i64 (yan IntKind.i64 (fw f : Int) 1) 64 = (((fw f - 1) / 64 : Nat) : Int) := by rw [yr0 f h, yo5 _ (by omega)]
  have q2 : cvI IntKind.u64 (ych IntKind.i64 (yan IntKind.i64 (fw f : Int) 1) 64) = (((fw f - 1) % 64 : Nat) : Int) := by rw [yr0 f h, yoF, yaV (by omega) (by omega)]
  have g1 : (leI 0 (((fw f - 1) / 64 : Nat) : Int) && ltI (((fw f - 1) / 64 : Nat) : Int) 6) = true := ybL (by omega) (by omega)
  have g2 : (!ltI (((fw f - 1) % 64 : Nat) : Int) 0) = true := yhJ (by omega)
  rw [yaC rfl, ybt f h, q1, q2, yby g1, yby g2, yby g1, Int.toNat_natCast, ymB, yrz _ _ hb, yeH _ (yud (by omega) hen)]
  exact hK
def pl (f : Nat) (t : Int) : Int := (if t < 1 - fe f then 1 - (fe f : Int) else t) - fp f + 1
def ygF (f : Nat) (n : Bool) (at_ : Int) (w : Nat) : Nat := sg f n + ((at_ + fe f + fp f - 2).toNat * 2 ^ (fp f - 1) + w)
theorem ysf {f : Nat} (h : f ≤ 3) (n : Bool) {t : Int} {w : Nat} (h1 : 2 ^ (fp f - 1) ≤ w) (h2 : w < 2 ^ fp f) :
  ygF f n (pl f t) w = enc f n ((pl f t + fe f + fp f - 2).toNat + 1) (w % 2 ^ (fp f - 1)) := by
 have e2 : 2 ^ fp f = 2 ^ (fp f - 1) + 2 ^ (fp f - 1) := by rcases yeF h with rfl | rfl | rfl | rfl <;> decide
 have e3 : w % 2 ^ (fp f - 1) = w - 2 ^ (fp f - 1) := by
  rw [Nat.mod_eq_sub_mod h1, Nat.mod_eq_of_lt (by omega)]
 rw [e3]; unfold ygF enc
 rw [Nat.add_mul]; omega
theorem yrS {f : Nat} (n : Bool) {t : Int} {w : Nat} (ht : t < 1 - fe f) : ygF f n (pl f t) w = enc f n 0 w := by
 unfold ygF enc pl
 rw [if_pos ht, show (1 - (fe f : Int) - fp f + 1 + fe f + fp f - 2).toNat = 0 from by omega, Nat.add_assoc]
theorem ymZ {a : Nat} (h : a ≠ 0) : tp a 1 = (yav a : Int) - 1 := by
 have h1 : yav 1 = 1 := by decide
 have h2 := yjp h
 have h3 : 1 ≤ yav a := by
  rcases Nat.eq_zero_or_pos (yav a) with h0 | h0
  ·have := (yaI a 0).1 (by omega); omega
  ·exact h0
 unfold tp
 rw [h1, if_pos h3, Nat.one_mul, if_pos h2]; omega
def ofE (f : Nat) (n : Bool) (a b : Nat) (e : Int) (K : Int → Int → Bool → Prop) : Prop :=
 if a = 0 then K 0 0 true else if b ≠ 1 ∨ (fe f : Int) < tp a b + e ∨ e < pl f (tp a b + e) then K 0 0 false else
  K (Hi (ygF f n (pl f (tp a b + e)) (a * 2 ^ (e - pl f (tp a b + e)).toNat))) (Lo (ygF f n (pl f (tp a b + e)) (a * 2 ^ (e - pl f (tp a b + e)).toNat))) true
theorem ypH {a : Nat} (h : a ≠ 0) (k : Nat) : 2 ^ (yav a - 1 + k) ≤ a * 2 ^ k ∧ a * 2 ^ k < 2 ^ (yav a + k) := by
 rw [Nat.pow_add, Nat.pow_add]
 exact ⟨Nat.mul_le_mul_right _ (yjp h), Nat.mul_lt_mul_of_pos_right ((yaI a _).1 (Nat.le_refl _)) (Nat.two_pow_pos k)⟩
theorem ymY {f : Nat} (h : f ≤ 3) (t : Int) (h1 : t ≤ fe f) : -16494 ≤ pl f t ∧ pl f t ≤ 16384 ∧ 0 ≤ pl f t + fe f + fp f - 2 := by
 unfold pl
 rcases yeF h with rfl | rfl | rfl | rfl <;> simp only [fe, fp] at * <;> split <;> omega
theorem ysi {w : Nat} (h : w < Q6) : May (nb w) ∧ (nb w).length ≤ 48 := by
 refine ⟨ybA (yly h), ?_⟩
 obtain ⟨N, hN⟩ : ∃ N, N = 48 := ⟨_, rfl⟩
 have : (nb w).length ≤ N := by rw [ybc, ymU, ytJ hN]; exact h
 omega
theorem yku {w : Nat} (h : w < Q6) (K : (Nat → Int) → Bool → Prop) (hK : K (W w) true) : zbl (nb w) K := by
 refine yju _ _ ?_
 rw [if_pos (ysi h), ya1]; exact hK
theorem yrM {w p : Nat} (hp : 1 ≤ p) (hw : w < 2 ^ p) : w.testBit (p - 1) = decide (2 ^ (p - 1) ≤ w) := by
 have e2 : 2 ^ p = 2 ^ (p - 1) + 2 ^ (p - 1) := by obtain ⟨q, rfl⟩ : ∃ q, p = q + 1 := ⟨p - 1, by omega⟩; rw [Nat.pow_succ, Nat.add_sub_cancel]; omega
 by_cases h : 2 ^ (p - 1) ≤ w
 ·rw [decide_eq_true h, show w = 2 ^ (p - 1) + (w - 2 ^ (p - 1)) from by omega, Nat.testBit_two_pow_add_eq, Nat.testBit_lt_two_pow (by omega)]; rfl
 ·rw [decide_eq_false h, Nat.testBit_lt_two_pow (by omega)]
section
variable {n : Bool} {a b : Nat} {e : Int}
theorem yth {f : Nat} (h : f ≤ 3) (h0 : a ≠ 0) (h1 : ¬ (b ≠ 1 ∨ (fe f : Int) < tp a b + e ∨ e < pl f (tp a b + e))) :
  a * 2 ^ (e - pl f (tp a b + e)).toNat < 2 ^ fp f ∧ (1 - (fe f : Int) ≤ tp a b + e ↔ 2 ^ (fp f - 1) ≤ a * 2 ^ (e - pl f (tp a b + e)).toNat) := by
 obtain ⟨w1, w2, w3, w4, w5, w6⟩ := ycn f h
 have hb : b = 1 := by omega
 subst hb
 have ht := ymZ h0
 have hm := ypH h0 (e - pl f (tp a 1 + e)).toNat
 have h3 : 1 ≤ yav a := by
  rcases Nat.eq_zero_or_pos (yav a) with hh | hh
  ·have := (yaI a 0).1 (by omega); omega
  ·exact hh
 have hpl : pl f (tp a 1 + e) ≤ e := by omega
 by_cases hs : tp a 1 + e < 1 - fe f
 ·have hp1 : pl f (tp a 1 + e) = 2 - fe f - fp f := by unfold pl; rw [if_pos hs]; omega
  have l1 : yav a + (e - pl f (tp a 1 + e)).toNat ≤ fp f - 1 := by omega
  have l2 := Nat.pow_le_pow_right (show 0 < 2 by omega) l1
  have l3 := Nat.pow_lt_pow_right (show 1 < 2 by omega) (show fp f - 1 < fp f by omega)
  exact ⟨by omega, by omega, by omega⟩
 ·have hp1 : pl f (tp a 1 + e) = tp a 1 + e - fp f + 1 := by unfold pl; rw [if_neg hs]
  have l1 : yav a + (e - pl f (tp a 1 + e)).toNat = fp f := by omega
  have l2 : yav a - 1 + (e - pl f (tp a 1 + e)).toNat = fp f - 1 := by omega
  rw [l1, l2] at hm
  exact ⟨by omega, fun _ => by omega, fun _ => by omega⟩
theorem yix (f : Nat) (h : f ≤ 3) (c : Can n a b e) (K : Int → Int → Bool → Int → Prop) (hK : ofE f n a b e fun y0 y1 y2 => K y0 y1 y2 0) : zaq f n (nb a) (nb b) e K := by
 obtain ⟨w1, w2, w3, w4, w5, w6⟩ := ycn f h
 have we := c.e64
 have hr := yfh c.fa c.fb
 unfold ofE at hK
 rw [zaq.is]; unfold zaq.d
 rw [ya0 f h, yat (by rfl)]
 refine yaL _ _ _ _ _ (fun _ => ?_) (fun hn => absurd c.may hn)
 rw [yat (by rfl), ycl]
 refine yiH (fun h0 => ?_) fun h0 => ?_
 ·rw [if_pos h0] at hK; exact hK
 rw [if_neg h0] at hK
 rw [yaK f h]
 refine ydO n c _ (fun hh => absurd hh h0) fun _ => ?_
 rw [ybq f h, yje]
 refine yf2 (fun hb => ?_) fun hb => ?_
 ·rw [if_pos (.inl hb)] at hK; exact hK
 rw [ybp f h]
 by_cases h2 : (fe f : Int) < tp a b + e
 ·rw [yaC (ya9 h2)]; rw [if_pos (.inr (.inl h2))] at hK; exact hK
 rw [yat (ybj (by omega))]
 have hp := ymY h (tp a b + e) (by omega)
 have e1 : yak .i64 (yan .i64 (yhT (tp a b + e) (1 - (fe f : Int))) (fp f : Int)) 1 = pl f (tp a b + e) := by
  have : yhT (tp a b + e) (1 - (fe f : Int)) = if tp a b + e < 1 - fe f then 1 - (fe f : Int) else tp a b + e := yf5 _ _
  rw [this]
  unfold pl
  have hh : -200000 ≤ (if tp a b + e < 1 - (fe f : Int) then 1 - (fe f : Int) else tp a b + e) ∧ (if tp a b + e < 1 - (fe f : Int) then 1 - (fe f : Int) else tp a b + e) ≤ 200000 := by split <;> omega
  rw [yas (by omega) (by omega), yap (by omega) (by omega)]
 rw [e1]
 by_cases h3 : e < pl f (tp a b + e)
 ·rw [yaC (ya9 h3)]; rw [if_pos (.inr (.inr h3))] at hK; exact hK
 rw [yat (ybj (by omega))]
 have hc : ¬ (b ≠ 1 ∨ (fe f : Int) < tp a b + e ∨ e < pl f (tp a b + e)) := by omega
 rw [if_neg hc] at hK
 have hw := yth h h0 hc
 generalize hwd : a * 2 ^ (e - pl f (tp a b + e)).toNat = w at hw hK
 have hwQ : w < Q6 := ysG (by omega) hw.1
 refine yc3 n c _ (by omega) _ ?_
 unfold ysN
 rw [if_neg (by omega), if_neg h0, if_pos (show pl f (tp a b + e) ≤ e by omega), hwd, if_pos (yly hwQ), hb, Nat.div_one]
 rw [hb] at hw hK
 refine yku hwQ _ ?_
 rw [ypX f h, yeZ w (fp f - 1) (by omega), yrM (by omega) hw.1]
 refine yiH (fun hl => ?_) fun hl => ?_
 ·rw [ybq f h]
  refine yd8 _ (by omega) _ ?_
  refine yeV _ _ hwQ _ ?_
  rw [Nat.and_two_pow_sub_one_eq_mod]
  rw [hb] at hp h2
  have e2 : yak .i64 (yan .i64 (pl f (tp a 1 + e)) (1 - (fe f : Int))) (fp f : Int) = (((pl f (tp a 1 + e) + fe f + fp f - 2).toNat + 1 : Nat) : Int) := by
   rw [yas (by omega) (by omega), yap (by omega) (by omega)]; omega
  rw [e2]
  rw [ysf h n hl hw.1] at hK
  refine yfw f _ _ h ?_ (Nat.mod_lt _ (Nat.two_pow_pos _)) n _ hK
  have hs := hw.2.2 hl
  unfold pl; rw [if_neg (by omega)]; omega
 ·refine yd8 _ (by omega) _ ?_
  refine yeV _ _ hwQ _ ?_
  rw [Nat.and_two_pow_sub_one_eq_mod, Nat.mod_eq_of_lt (by omega)]
  rw [yrS n (by have := hw.2; omega)] at hK
  exact yfw f 0 w h (by omega) (by omega) n _ hK
end
end Go.Ev.S

/- Rounding: what is delivered, by a floor function; the program's packing. -/
set_option linter.unusedVariables false
set_option linter.unusedSimpArgs false
set_option maxRecDepth 8000
namespace Go.Ev.S
open Go Go.Ev
def hf (F : Int → Nat × Bool) (at_ : Int) : Int := if (F (at_ - 1)).1 % 2 = 1 then (if (F (at_ - 1)).2 = true then 0 else 1) else -1
def upB (m : Nat) (n o : Bool) (a : Int) (e : Bool) : Bool :=
 if e = true then false else if m = 0 then (decide (0 < a) || (decide (a = 0) && o)) else if m = 4 then decide (0 ≤ a) else if m = 2 then n else if m = 3 then !n else false
def tk (F : Int → Nat × Bool) (m : Nat) (n : Bool) (at_ : Int) : Nat := (F at_).1 + cond (upB m n (decide ((F at_).1 % 2 = 1)) (hf F at_) (F at_).2) 1 0
def ylo (f m : Nat) (n : Bool) (F : Int → Nat × Bool) (top : Int) : Bool :=
 if top = -(fe f : Int) then decide (yav (tk F m n (top - fp f + 1)) ≤ fp f) else decide (top < 1 - (fe f : Int))
def dlv (f m : Nat) (n : Bool) (F : Int → Nat × Bool) (top : Int) (K : Int → Int → Int → Int → Prop) : Prop :=
 if (fe f : Int) < top then K (Hi (ov f m n)) (Lo (ov f m n)) 5 0 else
 if (fe f : Int) < (yav (tk F m n (pl f top)) : Int) - 1 + pl f top then K (Hi (ov f m n)) (Lo (ov f m n)) 5 0 else
 K (Hi (ygF f n (pl f top) (tk F m n (pl f top)))) (Lo (ygF f n (pl f top) (tk F m n (pl f top)))) (if (F (pl f top)).2 = true then 0 else if ylo f m n F top = true then 3 else 1) 0
def hj (S k : Nat) : Int := if S / 2 ^ (k - 1) % 2 = 1 then (if S % 2 ^ (k - 1) = 0 then 0 else 1) else -1
theorem ysj (b : Bool) : cond b 1 0 ≤ 1 := by cases b <;> decide
theorem yr7 (F : Int → Nat × Bool) (m : Nat) (n : Bool) (at_ : Int) : tk F m n at_ ≤ (F at_).1 + 1 := by
 unfold tk; have := ysj (upB m n (decide ((F at_).1 % 2 = 1)) (hf F at_) (F at_).2); omega
theorem ytZ {f : Nat} (h : f ≤ 3) : 2 ^ fp f + 1 < Q6 := by
 have w := ycn f h
 have h1 : 2 ^ (fp f + 1) < Q6 := yt2 (by omega)
 have h2 := Nat.pow_le_pow_right (show 0 < 2 by omega) (show 1 ≤ fp f by omega)
 rw [Nat.pow_succ] at h1
 omega
end Go.Ev.S

/- Exact numbers: made, signs, products, places, sums. -/
set_option linter.unusedVariables false
set_option linter.unusedSimpArgs false
set_option maxRecDepth 8000
namespace Go.Ev.S
open Go Go.Ev
abbrev K5 := Bool → List UInt8 → List UInt8 → Int → Int → Prop
end Go.Ev.S

/- Exact numbers as rational ones: bounds, sums, products, whole parts. -/
set_option linter.unusedVariables false
set_option linter.unusedSimpArgs false
set_option maxRecDepth 8000
namespace Go.Ev.S
open Go Go.Ev
structure Bd (P E : Nat) (a b : Nat) (e : Int) : Prop where
 a : a < 2 ^ P
 b : b < 2 ^ P
 l : -(E : Int) ≤ e
 u : e ≤ E
theorem ydj {x P : Nat} (h : x < 2 ^ P) (hP : P ≤ 131072) : fit x := by
 rw [ynh]; have := (yaI x P).2 h; omega
theorem ygI {a b P P' : Nat} (ha : a < 2 ^ P) (hb : b < 2 ^ P') : a * b < 2 ^ (P + P') := by
 rw [Nat.pow_add]; exact Nat.mul_lt_mul'' ha hb
theorem yo3 {x P : Nat} (h : x < 2 ^ P) : ybm x ≤ P := by
 by_cases h0 : x = 0
 ·subst h0; rw [yhc]; omega
 ·exact Nat.le_of_lt (yf6 x P h0 h)
theorem yuc (n : Bool) {P E : Nat} {a b : Nat} {e : Int} (h : Bd P E a b e) (hb : b ≠ 0) (hP : P ≤ 131072) (hE : P + E ≤ 1048576) (K : K5)
  (h1 : ∀ n' a' b' e', Can n' a' b' e' → V n' a' b' e' = V n a b e → Bd P (P + E) a' b' e' → K n' (nb a') (nb b') e' 0) : mkE n a b e K := by
 have la := yo3 h.a
 have lb := yo3 h.b
 have hl := h.l
 have hu := h.u
 unfold mkE
 by_cases h0 : a = 0
 ·rw [if_pos h0]
  have := h1 false 0 1 0 ⟨yjv, ycZ, rfl, by unfold win; omega, fun _ => ⟨rfl, rfl, rfl⟩, fun h => absurd rfl h⟩ (by rw [h0, ye1, ye1]) ⟨Nat.two_pow_pos _, by have := h.b; omega, by omega, by omega⟩
  rwa [yaH, ycw] at this
 ·rw [if_neg h0]
  have w : win (rdE a b e) := by unfold win rdE; omega
  rw [if_pos w]
  obtain ⟨r1, r2, r3⟩ := yi8 h0 hb
  have l1 : rdA a b ≤ a := Nat.le_trans (Nat.div_le_self _ _) (Nat.div_le_self _ _)
  have l2 : rdB a b ≤ b := Nat.le_trans (Nat.div_le_self _ _) (Nat.div_le_self _ _)
  refine h1 _ _ _ _ ⟨ye2 (ydj h.a hP) l1, ye2 (ydj h.b hP) l2, r2, w, fun h => by omega, fun _ => ⟨r1, r3⟩⟩ (yuk n e h0 hb) ⟨?_, ?_, ?_, ?_⟩
  ·have := h.a; omega
  ·have := h.b; omega
  ·unfold rdE; omega
  ·unfold rdE; omega
section
variable {n1 n2 : Bool} {a1 b1 a2 b2 : Nat} {e1 e2 : Int} {P1 E1 P2 E2 : Nat}
theorem ysH (n1 n2 : Bool) (a b c d : Nat) (e1 e2 : Int) (hc : c ≠ 0) (hd : d ≠ 0) : V (decide (n1 ≠ n2)) (a * b) (c * d) (e1 + e2) = V n1 a c e1 * V n2 b d e2 := by
 have hs : sR (decide (n1 ≠ n2)) = sR n1 * sR n2 := by
  cases n1 <;> cases n2
  ·show (1 : Rat) = 1 * 1; grind
  ·show (-1 : Rat) = 1 * -1; grind
  ·show (-1 : Rat) = -1 * 1; grind
  ·show (1 : Rat) = -1 * -1; grind
 have h1 := yfW hc
 have h2 := yfW hd
 unfold V
 rw [hs, ycx, Rat.natCast_mul, Rat.natCast_mul]
 grind
theorem ys5 (n : Bool) {a b c d : Nat} {e : Int} {P P' E : Nat} (ha : a < 2 ^ P) (hb : b < 2 ^ P') (hc : c < 2 ^ P) (hd : d < 2 ^ P') (c0 : c ≠ 0) (d0 : d ≠ 0) (l : -(E : Int) ≤ e) (u : e ≤ E) (hP : P + P' ≤ 131072) (hE : P + P' + E ≤ 1048576) (K : K5)
  (h : ∀ n' a' b' e', Can n' a' b' e' → V n' a' b' e' = V n (a * b) (c * d) e → Bd (P + P') (P + P' + E) a' b' e' → K n' (nb a') (nb b') e' 0) : yti n a b c d e K := by
 unfold yti
 rw [if_pos ⟨ydj (ygI ha hb) hP, ydj (ygI hc hd) hP, by unfold win; omega⟩]
 exact yuc n ⟨ygI ha hb, ygI hc hd, l, u⟩ (Nat.mul_ne_zero c0 d0) hP hE K h
theorem ysR (c1 : Can n1 a1 b1 e1) (c2 : Can n2 a2 b2 e2) (d1 : Bd P1 E1 a1 b1 e1) (d2 : Bd P2 E2 a2 b2 e2) (hP : P1 + P2 ≤ 131072) (hE : P1 + P2 + (E1 + E2) ≤ 1048576) (K : K5)
  (h : ∀ n a b e, Can n a b e → V n a b e = V n1 a1 b1 e1 * V n2 a2 b2 e2 → Bd (P1 + P2) (P1 + P2 + (E1 + E2)) a b e → K n (nb a) (nb b) e 0) : ytN n1 a1 b1 e1 n2 a2 b2 e2 K := by
 have u1 := d1.u
 have l1 := d1.l
 have u2 := d2.u
 have l2 := d2.l
 unfold ytN
 by_cases z : a1 = 0 ∨ a2 = 0
 ·rw [if_pos z]
  have := h false 0 1 0 ⟨yjv, ycZ, rfl, by unfold win; omega, fun _ => ⟨rfl, rfl, rfl⟩, fun h => absurd rfl h⟩ (by rcases z with z | z <;> rw [z, ye1, ye1] <;> grind) ⟨Nat.two_pow_pos _, ?_, by omega, by omega⟩
  ·rwa [yaH, ycw] at this
  ·have h1 := d1.b; have h2 := c1.b0
   have h3 : 2 ^ P1 ≤ 2 ^ (P1 + P2) := Nat.pow_le_pow_right (by omega) (by omega)
   omega
 ·rw [if_neg z]
  refine ys5 _ d1.a d2.a d1.b d2.b c1.b0 c2.b0 (E := E1 + E2) (by omega) (by omega) hP hE K ?_
  intro n' a' b' e' c' v' d'
  rw [ysH n1 n2 a1 a2 b1 b2 e1 e2 c1.b0 c2.b0] at v'
  exact h _ _ _ _ c' v' d'
end
theorem yc9 {x y d : Rat} (hd : 0 < d) : x * d ≤ y * d ↔ x ≤ y := by
 have h := ya2 (x := y) (y := x) hd
 constructor
 ·intro hh; apply Classical.byContradiction; intro hc
  have := h.2 (by grind); grind
 ·intro hh; exact Rat.mul_le_mul_of_nonneg_right hh (by grind)
theorem yiP {x y d : Rat} (hd : 0 < d) : x * d = y * d ↔ x = y := by
 constructor
 ·intro hh
  have h1 := (yc9 (x := x) (y := y) hd).1 (by grind)
  have h2 := (yc9 (x := y) (y := x) hd).1 (by grind)
  grind
 ·intro hh; rw [hh]
structure Flr (X : Rat) (n : Int) (m : Nat) (is : Bool) : Prop where
 le : (m : Rat) * p2 n ≤ X
 lt : X < ((m + 1 : Nat) : Rat) * p2 n
 eq : is = true ↔ (m : Rat) * p2 n = X
theorem ym8 {X : Rat} {N D : Nat} {n : Int} (hD : D ≠ 0) (h : X * D = N * p2 n) : Flr X n (N / D) (decide (N % D = 0)) := by
 have hd := yfi hD
 have hp := ycH n
 have hdm := Nat.div_add_mod N D
 have hml := Nat.mod_lt N (Nat.pos_of_ne_zero hD)
 have e1 : ∀ m : Nat, (m : Rat) * p2 n * D = ((m * D : Nat) : Rat) * p2 n := by intro m; rw [Rat.natCast_mul]; grind
 refine ⟨?_, ?_, ?_⟩
 ·rw [← yc9 hd, h, e1, yc9 hp, Rat.natCast_le_natCast]
  exact Nat.div_mul_le_self N D
 ·rw [← ya2 hd, h, e1, ya2 hp, Rat.natCast_lt_natCast, Nat.add_mul, Nat.mul_comm]
  omega
 ·rw [decide_eq_true_iff, ← yiP hd, h, e1, yiP hp, Rat.natCast_inj, Nat.mul_comm]
  omega
theorem yuj (a b : Nat) (e n : Int) (hb : b ≠ 0) (hn : n ≤ e) : V false a b e * (b : Rat) = ((a * 2 ^ (e - n).toNat : Nat) : Rat) * p2 n := by
 rw [ysm false a b e hb, show sR false = 1 from rfl, Rat.natCast_mul, ← ydD]
 have : p2 ((e - n).toNat : Int) * p2 n = p2 e := by rw [← ycx]; congr 1; omega
 grind
theorem ytl (a b : Nat) (e n : Int) (hb : b ≠ 0) (hn : e ≤ n) : V false a b e * ((b * 2 ^ (n - e).toNat : Nat) : Rat) = (a : Rat) * p2 n := by
 have h := ysm false a b e hb
 rw [show sR false = 1 from rfl] at h
 rw [Rat.natCast_mul, ← ydD]
 have : p2 ((n - e).toNat : Int) * p2 e = p2 n := by rw [← ycx]; congr 1; omega
 grind
theorem ytb {s : Bool} {a b : Nat} {e n : Int} (c : Can s a b e) (ha : a ≠ 0) (h1 : -2097152 ≤ n) (h2 : n ≤ 2097152) (hf : n ≤ e → fit (a * 2 ^ (e - n).toNat)) (K : List UInt8 → Bool → Int → Prop)
  (h : ∀ m is, Flr (V false a b e) n m is → (n ≤ e → m ≤ a * 2 ^ (e - n).toNat) → (e < n → m ≤ a) → K (nb m) is 0) : ysN a b e n K := by
 unfold ysN
 rw [if_neg (by omega), if_neg ha]
 by_cases hn : n ≤ e
 ·rw [if_pos hn, if_pos (hf hn)]
  exact h _ _ (ym8 c.b0 (yuj a b e n c.b0 hn)) (fun _ => Nat.div_le_self _ _) (fun _ => by omega)
 ·rw [if_neg hn]
  have hB : b * 2 ^ (n - e).toNat ≠ 0 := Nat.mul_ne_zero c.b0 (Nat.pos_iff_ne_zero.1 (Nat.two_pow_pos _))
  have fl := ym8 hB (ytl a b e n c.b0 (by omega))
  by_cases ht : tp a b + e < n
  ·rw [if_pos ht]
   have hlt : a < b * 2 ^ (n - e).toNat := by
    have hs := ylG ha c.b0
    by_cases h0 : 0 ≤ tp a b
    ·refine Nat.lt_of_lt_of_le (hs.1 h0).2 (Nat.mul_le_mul_left _ (Nat.pow_le_pow_right (by omega) (by omega)))
    ·have h3 := (hs.2 (by omega)).2
     have h4 : a * 1 ≤ a * 2 ^ ((-tp a b).toNat - 1) := Nat.mul_le_mul_left _ (Nat.two_pow_pos _)
     have h5 : b * 1 ≤ b * 2 ^ (n - e).toNat := Nat.mul_le_mul_left _ (Nat.two_pow_pos _)
     omega
   rw [Nat.div_eq_of_lt hlt, Nat.mod_eq_of_lt hlt, show decide (a = 0) = false from by simpa using ha] at fl
   have := h 0 false fl (fun _ => by omega) (fun _ => by omega)
   rwa [yaH] at this
  ·rw [if_neg ht]
   exact h _ _ fl (fun _ => by omega) (fun _ => Nat.div_le_self _ _)
theorem yre {a b x y : Rat} (hx : 0 < x) (h : x * y = 1) (hh : b ≤ a * y) : x * b ≤ a := by
 have h1 := Rat.mul_le_mul_of_nonneg_right hh (show 0 ≤ x by grind)
 have h2 : a * y * x = a := by rw [show a * y * x = a * (x * y) from by grind, h]; grind
 grind
theorem yqo {a b x y : Rat} (hx : 0 < x) (h : x * y = 1) (hh : a * y < b) : a < x * b := by
 have h1 := Rat.mul_lt_mul_of_pos_right hh hx
 have h2 : a * y * x = a := by rw [show a * y * x = a * (x * y) from by grind, h]; grind
 grind
theorem ysM {a b : Nat} (e : Int) (ha : a ≠ 0) (hb : b ≠ 0) : p2 (tp a b + e) ≤ V false a b e ∧ V false a b e < p2 (tp a b + e + 1) := by
 have hs := ylG ha hb
 have hd := yfi hb
 have hv := ysm false a b e hb
 rw [show sR false = 1 from rfl] at hv
 have hp := ycH e
 have key : p2 (tp a b) * (b : Rat) ≤ a ∧ (a : Rat) < p2 (tp a b + 1) * b := by
  by_cases h0 : 0 ≤ tp a b
  ·obtain ⟨h1, h2⟩ := hs.1 h0
   have e1 : p2 (tp a b) = ((2 ^ (tp a b).toNat : Nat) : Rat) := by rw [← ydD]; congr 1; omega
   have e2 : p2 (tp a b + 1) = ((2 ^ ((tp a b).toNat + 1) : Nat) : Rat) := by rw [← ydD]; congr 1; omega
   rw [e1, e2, ← Rat.natCast_mul, ← Rat.natCast_mul, Rat.natCast_le_natCast, Rat.natCast_lt_natCast, Nat.mul_comm, Nat.mul_comm _ b]
   exact ⟨h1, h2⟩
  ·obtain ⟨h1, h2⟩ := hs.2 (by omega)
   have q1 : p2 (tp a b) * ((2 ^ (-tp a b).toNat : Nat) : Rat) = 1 := by rw [← ydD, ← ycx, show tp a b + ((-tp a b).toNat : Int) = 0 from by omega, yoS]
   have q2 : p2 (tp a b + 1) * ((2 ^ ((-tp a b).toNat - 1) : Nat) : Rat) = 1 := by rw [← ydD, ← ycx, show tp a b + 1 + (((-tp a b).toNat - 1 : Nat) : Int) = 0 from by omega, yoS]
   have r1 := Rat.natCast_le_natCast.2 h1
   have r2 := Rat.natCast_lt_natCast.2 h2
   rw [Rat.natCast_mul] at r1 r2
   have s1 := ycH (tp a b)
   have s2 := ycH (tp a b + 1)
   exact ⟨yre s1 q1 r1, yqo s2 q2 r2⟩
 constructor
 ·rw [← yc9 hd, hv, ycx]
  have := Rat.mul_le_mul_of_nonneg_right key.1 (show 0 ≤ p2 e by grind)
  grind
 ·rw [← ya2 hd, hv, show tp a b + e + 1 = (tp a b + 1) + e from by omega, ycx]
  have := Rat.mul_lt_mul_of_pos_right key.2 hp
  grind
end Go.Ev.S

/- Doubling does not change what is delivered. -/
set_option linter.unusedVariables false
set_option linter.unusedSimpArgs false
set_option maxRecDepth 8000
namespace Go.Ev.S
open Go Go.Ev
theorem ysy (f m : Nat) (n : Bool) (F : Int → Nat × Bool) (top : Int) : ∃ x y z w, ∀ K : Int → Int → Int → Int → Prop, dlv f m n F top K ↔ K x y z w := by
 unfold dlv
 by_cases h1 : (fe f : Int) < top
 ·simp only [if_pos h1]; exact ⟨_, _, _, _, fun K => Iff.rfl⟩
 ·simp only [if_neg h1]
  by_cases h2 : (fe f : Int) < (yav (tk F m n (pl f top)) : Int) - 1 + pl f top
  ·simp only [if_pos h2]; exact ⟨_, _, _, _, fun K => Iff.rfl⟩
  ·simp only [if_neg h2]; exact ⟨_, _, _, _, fun K => Iff.rfl⟩
end Go.Ev.S

/- Rounding as the document has it. -/
set_option linter.unusedVariables false
set_option linter.unusedSimpArgs false
set_option maxRecDepth 8000
namespace Go.Ev.S
open Go Go.Ev
structure FF (F : Int → Nat × Bool) (p : Nat) (top : Int) : Prop where
 lt : ∀ at_, top - p + 1 ≤ at_ → (F at_).1 < 2 ^ p
 ge : 2 ^ (p - 1) ≤ (F (top - p + 1)).1
 ex : ∀ at_, (F at_).2 = true → (F at_).1 ≠ 0
 half : ∀ at_, (F (at_ + 1)).1 = (F at_).1 / 2
theorem ysU (n : Bool) {t : Nat} (h0 : t ≠ 0) {P : Nat} (ht : t < 2 ^ P) (hP : P = 200) {at_ : Int} (hr : -100000 ≤ at_ ∧ at_ ≤ 100000) (K : Bool → List UInt8 → List UInt8 → Int → Int → Prop)
  (hK : ∀ a e, Can n a 1 e → a ≠ 0 → t = a * 2 ^ (e - at_).toNat → at_ ≤ e → e ≤ at_ + 200 → K n (nb a) [1] e 0) : mkE n t 1 at_ K := by
 unfold mkE
 have hl := yf6 t P h0 ht
 have o1 : odp 1 = 1 := by unfold odp; rw [show ybm 1 = 0 from yl4 0 0]
 have hB : rdB t 1 = 1 := by unfold rdB; rw [o1, Nat.gcd_one_right]
 have hA : rdA t 1 = odp t := by unfold rdA; rw [o1, Nat.gcd_one_right, Nat.div_one]
 have hE : rdE t 1 at_ = at_ + ybm t := by unfold rdE; rw [show ybm 1 = 0 from yl4 0 0]; omega
 rw [if_neg h0, hA, hB, hE, if_pos (by unfold win; omega), ycw]
 have ho := yef h0
 have hne := yni h0
 have hfit : fit t := ydj ht (by omega)
 refine hK _ _ ⟨ylT hfit _, ycZ, rfl, by unfold win; omega, fun hh => absurd hh hne, fun _ => ⟨ho.2, Nat.gcd_one_right _⟩⟩ hne ?_ (by omega) (by omega)
 rw [show (at_ + (ybm t : Int) - at_).toNat = ybm t from by omega, Nat.mul_comm]; exact ho.1
theorem ysS {f : Nat} (h : f ≤ 3) {n : Bool} {a t : Nat} {e at_ : Int} (c : Can n a 1 e) (h0 : a ≠ 0) (ht : t = a * 2 ^ (e - at_).toNat) (hle : at_ ≤ e) (h1 : t ≤ 2 ^ fp f)
  (hat : 2 - (fe f : Int) - fp f ≤ at_) (hs : at_ = 2 - (fe f : Int) - fp f ∨ 2 ^ (fp f - 1) ≤ t) (K : Int → Int → Bool → Prop)
  (hK : if (fe f : Int) < (yav t : Int) - 1 + at_ then K 0 0 false else K (Hi (ygF f n at_ t)) (Lo (ygF f n at_ t)) true) : ofE f n a 1 e K := by
 obtain ⟨w1, w2, w3, w4, w5, w6⟩ := ycn f h
 obtain ⟨k, hk⟩ : ∃ k : Nat, (k : Int) = e - at_ := ⟨(e - at_).toNat, by omega⟩
 rw [show (e - at_).toNat = k from by omega] at ht
 have hb : yav t = yav a + k := by rw [ht, ygV _ _ h0]
 have htp : tp a 1 + e = (yav t : Int) - 1 + at_ := by rw [ymZ h0, hb]; omega
 unfold ofE
 rw [if_neg h0, htp]
 by_cases hf : (fe f : Int) < (yav t : Int) - 1 + at_
 ·rw [if_pos (.inr (.inl hf))]; rw [if_pos hf] at hK; exact hK
 rw [if_neg hf] at hK
 by_cases hp : t < 2 ^ fp f
 ·have hbl := (yaI t (fp f)).2 hp
  have hpl : pl f ((yav t : Int) - 1 + at_) = at_ := by
   unfold pl
   rcases hs with hs | hs
   ·split <;> omega
   ·have hb2 : ¬ yav t ≤ fp f - 1 := by rw [yaI]; omega
    rw [if_neg (by omega)]; omega
  rw [hpl, if_neg (by omega), show (e - at_).toNat = k from by omega, ← ht]
  exact hK
 ·have hte : t = 2 ^ fp f := by omega
  have hb2 : yav t = fp f + 1 := by
   have h3 : ¬ yav t ≤ fp f := by rw [yaI]; omega
   have h4 : yav t ≤ fp f + 1 := by rw [yaI, hte]; exact Nat.pow_lt_pow_right (by omega) (by omega)
   omega
  have hpl : pl f ((yav t : Int) - 1 + at_) = at_ + 1 := by
   unfold pl; rw [if_neg (by omega)]; omega
  have hk1 : 1 ≤ k := by
   apply Classical.byContradiction; intro hn
   have hk0 : k = 0 := by omega
   rw [hk0, Nat.pow_zero, Nat.mul_one] at ht
   have ho := (c.r h0).1
   have : t % 2 = 0 := by
    rw [hte]
    obtain ⟨q, hq⟩ : ∃ q, fp f = q + 1 := ⟨fp f - 1, by omega⟩
    rw [hq, Nat.pow_succ]; omega
   omega
  rw [hpl, if_neg (by omega), show (e - (at_ + 1)).toNat = k - 1 from by omega]
  have e2 : 2 ^ fp f = 2 ^ (fp f - 1) + 2 ^ (fp f - 1) := by rcases yeF h with rfl | rfl | rfl | rfl <;> decide
  have hw : a * 2 ^ (k - 1) = 2 ^ (fp f - 1) := by
   have : a * 2 ^ k = a * 2 ^ (k - 1) * 2 := by rw [Nat.mul_assoc, ← Nat.pow_succ, show (k - 1).succ = k from by omega]
   omega
  have he : ygF f n (at_ + 1) (a * 2 ^ (k - 1)) = ygF f n at_ t := by
   unfold ygF
   rw [hw, hte, e2, show (at_ + 1 + (fe f : Int) + fp f - 2).toNat = (at_ + (fe f : Int) + fp f - 2).toNat + 1 from by omega, Nat.add_mul]
   omega
  rw [he]; exact hK
theorem yns {f : Nat} (h : f ≤ 3) {x : Nat} (hx : x < 2 ^ fp f) : fit (x + 1) := yly (by have := ytZ h; omega)
section
variable {f m : Nat} {n root : Bool} {x y : List UInt8} {e top : Int} {F : Int → Nat × Bool}
theorem FF.tk_facts (h : f ≤ 3) (m : Nat) (n : Bool) (H : FF F (fp f) top) : tk F m n (pl f top) ≤ 2 ^ fp f ∧ (pl f top = 2 - (fe f : Int) - fp f ∨ 2 ^ (fp f - 1) ≤ tk F m n (pl f top)) ∧ 2 - (fe f : Int) - fp f ≤ pl f top ∧ top - fp f + 1 ≤ pl f top := by
 have w := ycn f h
 have hge : top - fp f + 1 ≤ pl f top := by unfold pl; split <;> omega
 have hl := H.lt (pl f top) hge
 have ht := yr7 F m n (pl f top)
 refine ⟨by omega, ?_, by unfold pl; split <;> omega, hge⟩
 by_cases hs : top < 1 - (fe f : Int)
 ·left; unfold pl; rw [if_pos hs]; omega
 ·right
  have hp : pl f top = top - fp f + 1 := by unfold pl; rw [if_neg hs]
  have := H.ge
  rw [← hp] at this
  unfold tk; omega
theorem FF.none (h : f ≤ 3) (m : Nat) (n : Bool) (H : FF F (fp f) top) (h0 : tk F m n (pl f top) = 0) : (F (pl f top)).2 = false ∧ ylo f m n F top = true ∧ pl f top = 2 - (fe f : Int) - fp f := by
 have w := ycn f h
 have hf1 := H.tk_facts h m n
 have hpos := Nat.two_pow_pos (fp f - 1)
 have hz : (F (pl f top)).1 = 0 := by unfold tk at h0; omega
 have hpl : pl f top = 2 - (fe f : Int) - fp f := by omega
 have hex : (F (pl f top)).2 = false := by
  cases he : (F (pl f top)).2 with
  | false => rfl
  | true => exact absurd hz (H.ex _ he)
 refine ⟨hex, ?_, hpl⟩
 have hge := H.ge
 have hp2 : 2 ≤ 2 ^ (fp f - 1) := by
  have := Nat.pow_le_pow_right (show 0 < 2 by omega) (show 1 ≤ fp f - 1 by omega); omega
 have n1 : top ≠ 1 - (fe f : Int) := by
  intro hh
  rw [show top - (fp f : Int) + 1 = pl f top from by omega, hz] at hge; omega
 have n2 : top ≠ -(fe f : Int) := by
  intro hh
  have h2 := H.half (pl f top - 1)
  rw [show pl f top - 1 + 1 = pl f top from by omega, hz] at h2
  rw [show top - (fp f : Int) + 1 = pl f top - 1 from by omega] at hge
  omega
 have n3 : top < 1 - (fe f : Int) := by
  apply Classical.byContradiction; intro hh
  have : pl f top = top - fp f + 1 := by unfold pl; rw [if_neg hh]
  omega
 unfold ylo
 rw [if_neg n2, decide_eq_true (by omega)]
end
end Go.Ev.S

/- Floor functions of exact numbers. -/
set_option linter.unusedVariables false
set_option linter.unusedSimpArgs false
set_option maxRecDepth 8000
namespace Go.Ev.S
open Go Go.Ev
theorem ytY {a b : Int} (h : a < b) : p2 a < p2 b := by
 obtain ⟨k, hk⟩ : ∃ k : Nat, b = a + ((k + 1 : Nat) : Int) := ⟨(b - a - 1).toNat, by omega⟩
 rw [hk, ycx, ydD]
 have h1 := ycH a
 have h2 : (1 : Rat) < ((2 ^ (k + 1) : Nat) : Rat) := by
  have : (1 : Nat) < 2 ^ (k + 1) := Nat.one_lt_two_pow (by omega)
  exact Rat.natCast_lt_natCast.2 this
 have := Rat.mul_lt_mul_of_pos_right h2 h1
 grind
theorem ypA {a b : Int} (h : a ≤ b) : p2 a ≤ p2 b := by
 rcases Int.lt_or_eq_of_le h with h | h
 ·have := ytY h; grind
 ·rw [h]; exact Rat.le_refl
theorem yrd {X : Rat} {s t : Int} (h1 : p2 s ≤ X) (h2 : X < p2 (s + 1)) (h3 : p2 t ≤ X) (h4 : X < p2 (t + 1)) : s = t := by
 apply Classical.byContradiction; intro hn
 rcases Int.lt_or_gt_of_ne hn with h | h
 ·have := ypA (show s + 1 ≤ t by omega); grind
 ·have := ypA (show t + 1 ≤ s by omega); grind
theorem ymX {X : Rat} {at_ : Int} {m m' : Nat} {is is' : Bool} (h : Flr X at_ m is) (h' : Flr X at_ m' is') : m = m' ∧ is = is' := by
 have hp := ycH at_
 have h1 := h.le
 have h2 := h.lt
 have h3 := h'.le
 have h4 := h'.lt
 have l1 : m < m' + 1 := by
  rw [← Rat.natCast_lt_natCast, ← ya2 hp]; grind
 have l2 : m' < m + 1 := by
  rw [← Rat.natCast_lt_natCast, ← ya2 hp]; grind
 have e : m = m' := by omega
 subst e
 refine ⟨rfl, ?_⟩
 rw [Bool.eq_iff_iff, h.eq, h'.eq]
def FX (a b : Nat) (e at_ : Int) : Nat × Bool :=
 if at_ ≤ e then (a * 2 ^ (e - at_).toNat / b, decide (a * 2 ^ (e - at_).toNat % b = 0)) else (a / (b * 2 ^ (at_ - e).toNat), decide (a % (b * 2 ^ (at_ - e).toNat) = 0))
theorem yi3 {a b : Nat} (e at_ : Int) (hb : b ≠ 0) : Flr (V false a b e) at_ (FX a b e at_).1 (FX a b e at_).2 := by
 unfold FX
 by_cases h : at_ ≤ e
 ·rw [if_pos h]; exact ym8 hb (yuj a b e at_ hb h)
 ·rw [if_neg h]
  have hB : b * 2 ^ (at_ - e).toNat ≠ 0 := Nat.mul_ne_zero hb (Nat.pos_iff_ne_zero.1 (Nat.two_pow_pos _))
  exact ym8 hB (ytl a b e at_ hb (by omega))
theorem yrI {a b a' b' : Nat} {e e' : Int} (hb : b ≠ 0) (hb' : b' ≠ 0) (h : V false a b e = V false a' b' e') : FX a b e = FX a' b' e' := by
 funext at_
 have h1 := yi3 (a := a) e at_ hb
 have h2 := yi3 (a := a') e' at_ hb'
 rw [h] at h1
 obtain ⟨e1, e2⟩ := ymX h1 h2
 exact Prod.ext e1 e2
theorem ysY {X : Rat} {F : Int → Nat × Bool} {p : Nat} {top : Int} (hp : 1 ≤ p) (hF : ∀ at_, Flr X at_ (F at_).1 (F at_).2) (h1 : p2 top ≤ X) (h2 : X < p2 (top + 1)) : FF F p top := by
 have hX : 0 < X := by have := ycH top; grind
 refine ⟨fun at_ hat => ?_, ?_, fun at_ hat hz => ?_, fun at_ => ?_⟩
 ·have hq := ycH at_
  have h3 := (hF at_).le
  have h4 := ypA (show top + 1 ≤ (p : Int) + at_ by omega)
  rw [ycx (p : Int), ydD] at h4
  generalize 2 ^ p = N at h4
  rw [← Rat.natCast_lt_natCast, ← ya2 hq]; grind
 ·have hq := ycH (top - p + 1)
  have h3 := (hF (top - p + 1)).lt
  have h4 : p2 top = ((2 ^ (p - 1) : Nat) : Rat) * p2 (top - p + 1) := by rw [← ydD, ← ycx]; congr 1; omega
  have : 2 ^ (p - 1) < (F (top - p + 1)).1 + 1 := by
   generalize 2 ^ (p - 1) = N at h4
   rw [← Rat.natCast_lt_natCast, ← ya2 hq]; grind
  omega
 ·have h3 := (hF at_).eq.1 hat
  rw [hz] at h3
  have : ((0 : Nat) : Rat) = 0 := rfl
  grind
 ·have hq := ycH at_
  have hq1 : p2 (at_ + 1) = 2 * p2 at_ := by rw [ycx, ytE]; grind
  have a1 := (hF at_).le
  have a2 := (hF at_).lt
  have b1 := (hF (at_ + 1)).le
  have b2 := (hF (at_ + 1)).lt
  rw [hq1] at b1 b2
  have e0 : ((2 : Nat) : Rat) = 2 := rfl
  generalize (F at_).1 = m at a1 a2 ⊢
  generalize (F (at_ + 1)).1 = k at b1 b2 ⊢
  have l1 : k * 2 < m + 1 := by
   rw [← Rat.natCast_lt_natCast, ← ya2 hq, Rat.natCast_mul, e0]
   grind
  have l2 : m < (k + 1) * 2 := by
   rw [← Rat.natCast_lt_natCast, ← ya2 hq, Rat.natCast_mul, e0]
   grind
  omega
theorem yra {a b : Nat} {e : Int} {p : Nat} (hp : 1 ≤ p) (ha : a ≠ 0) (hb : b ≠ 0) : FF (FX a b e) p (tp a b + e) :=
 ysY hp (fun at_ => yi3 e at_ hb) (ysM e ha hb).1 (ysM e ha hb).2
theorem ysT (a b : Nat) : (yav a : Int) - yav b - 1 ≤ tp a b := by unfold tp; (repeat' split) <;> omega
theorem ypO {n : Bool} {a b : Nat} {e at_ : Int} (c : Can n a b e) (ha : a ≠ 0) (h1 : -2097152 ≤ at_) (h2 : at_ ≤ 2097152) (hb : yav b ≤ 66000) (hl : tp a b + e - 2000 ≤ at_) (K : List UInt8 → Bool → Int → Prop)
  (hK : K (nb (FX a b e at_).1) (FX a b e at_).2 0) : ysN a b e at_ K := by
 refine ytb c ha h1 h2 (fun hle => ?_) K fun m is fl _ _ => ?_
 ·rw [yj7 ha]
  have := ysT a b
  omega
 ·obtain ⟨e1, e2⟩ := ymX fl (yi3 (a := a) e at_ c.b0)
  rw [e1, e2]; exact hK
theorem ygP {b : Nat} {N : Nat} (h : (nb b).length ≤ N) : yav b ≤ 8 * N := by
 have := (ybc b N).1 h
 rw [ymU] at this
 exact (yaI _ _).2 this
theorem ygu (m : Nat) (hm : m ≤ 4) (K : Bool → Prop) : zcu m K = K true := by
 rw [zcu.is]; unfold zcu.d; rw [ybd (by omega)]
theorem ygy (m : Nat) (hm : 4 < m) (K : Bool → Prop) : zcu m K = K false := by
 rw [zcu.is]; unfold zcu.d; rw [yf7 (by omega)]
end Go.Ev.S

/- Rounding as the program has it. -/
set_option linter.unusedVariables false
set_option linter.unusedSimpArgs false
set_option maxRecDepth 8000
namespace Go.Ev.S
open Go Go.Ev
theorem yg2 {x : Nat} (hf : fit x) (K : Int → Prop) (h : K (ybm x)) : zbg (nb x) K := by
 refine yel _ _ ?_
 rw [if_pos (ybA hf), ya1]; exact h
theorem yl8 {x : Nat} (h0 : x ≠ 0) : eqI (ybm x : Int) 0 = decide (x % 2 = 1) := by
 have h1 : ybm x = 0 ↔ x % 2 = 1 := by
  constructor
  ·intro h
   obtain ⟨q, hq⟩ := ydS x h0
   rw [h, Nat.pow_zero, Nat.one_mul] at hq; omega
  ·intro h; rw [ybm]; simp [h]
 by_cases h : x % 2 = 1
 ·rw [decide_eq_true h]; exact yj8 (by have := h1.2 h; omega)
 ·rw [decide_eq_false h]; exact ygq (by intro hh; exact h (h1.1 (by omega)))
theorem ygl (f m : Nat) (n : Bool) (h : f ≤ 3) (hm : m ≤ 4) (K : Int → Int → Int → Int → Prop) (hK : K (Hi (ov f m n)) (Lo (ov f m n)) 5 0) : zcy f m n K := by
 rw [zcy.is]; unfold zcy.d
 rw [ygk f h, yfY f h]
 rcases ytA hm with rfl | rfl | rfl | rfl | rfl <;> cases n <;> exact hK
theorem ytP (n o0 o1 none : Bool) : upB 0 n o0 (if o1 = true then (if none = true then 0 else 1) else -1) false = (o1 && (!none || o0)) := by
 cases o0 <;> cases o1 <;> cases none <;> rfl
theorem ytM (n o0 o1 none : Bool) : upB 4 n o0 (if o1 = true then (if none = true then 0 else 1) else -1) false = o1 := by
 cases o0 <;> cases o1 <;> cases none <;> rfl
section
variable {f m : Nat} {n neg root : Bool} {x y : List UInt8} {e top : Int} {F : Int → Nat × Bool}
def ylb (f : Nat) (n root : Bool) (x y : List UInt8) (e top : Int) (F : Int → Nat × Bool) : Prop :=
 ∀ at_ : Int, top - fp f ≤ at_ → at_ ≤ 20000 → ∀ K : List UInt8 → Bool → Prop, K (nb (F at_).1) (F at_).2 → zda n x y e root at_ K
theorem yi2 (h : f ≤ 3) (hm : m ≤ 4) (H : FF F (fp f) top) (hfl : ylb f n root x y e top F) {at_ : Int} (hr : -3000000 ≤ top) (h1 : top - fp f + 1 ≤ at_) (h2 : at_ ≤ 20000) (K : List UInt8 → Bool → Prop)
  (hK : K (nb (tk F m neg at_)) (F at_).2) : zdb n x y e root m neg at_ K := by
 have w := ycn f h
 have l0 := H.lt at_ h1
 have f0 : fit (F at_).1 := ye2 (yns h l0) (by omega)
 have f1 : fit (F (at_ - 1)).1 := by
  have h4 := H.half (at_ - 1)
  rw [show at_ - 1 + 1 = at_ from by omega] at h4
  have h6 : (F (at_ - 1)).1 < 2 ^ (fp f + 1) := by rw [Nat.pow_succ]; omega
  obtain ⟨P, hP⟩ : ∃ P, P = fp f + 1 := ⟨_, rfl⟩
  rw [← hP] at h6
  exact ydj h6 (by omega)
 have f2 : fit ((F at_).1 + 1) := yns h l0
 rw [zdb.is]; unfold zdb.d
 refine hfl at_ (by omega) h2 _ ?_
 unfold tk at hK
 cases hx : (F at_).2 with
 | true =>
  rw [hx] at hK
  have : upB m neg (decide ((F at_).1 % 2 = 1)) (hf F at_) true = false := rfl
  rw [this] at hK
  exact hK
 | false =>
 rw [hx] at hK
 rw [yat rfl, yas (by omega) (by omega)]
 refine hfl (at_ - 1) (by omega) (by omega) _ ?_
 have hh : hf F at_ = if decide ((F (at_ - 1)).1 % 2 = 1) = true then (if (F (at_ - 1)).2 = true then 0 else 1) else -1 := by
  unfold hf
  by_cases g : (F (at_ - 1)).1 % 2 = 1
  ·rw [if_pos g, if_pos (decide_eq_true g)]
  ·rw [if_neg g, if_neg (by rw [decide_eq_false g]; decide)]
 rw [hh] at hK
 generalize (F at_).1 = n0 at hK f0 f2 ⊢
 generalize (F (at_ - 1)).1 = n1 at hK f1 ⊢
 generalize (F (at_ - 1)).2 = none at hK ⊢
 have hP1 : upB m neg (decide (n0 % 2 = 1)) (if decide (n1 % 2 = 1) = true then (if none = true then 0 else 1) else -1) false = true → zaz (nb n0) [1] fun y0 y1 => K y0 false := by
  intro hu
  rw [hu] at hK
  rw [← ycw]
  exact ypW f0 ycZ (ydU (fun _ => hK) fun g => absurd f2 g)
 have hP0 : upB m neg (decide (n0 % 2 = 1)) (if decide (n1 % 2 = 1) = true then (if none = true then 0 else 1) else -1) false = false → K (nb n0) false := by
  intro hu
  rw [hu] at hK; exact hK
 generalize hQ1 : (zaz (nb n0) [1] fun y0 y1 => K y0 false) = Q1 at hP1 ⊢
 generalize hQ0 : K (nb n0) false = Q0 at hP0 ⊢
 clear hK
 have m2 : ∀ p : Prop, (neg = true → Q1) → (neg = false → Q0) → br (ydg neg true) Q1 Q0 := by
  intro _ a b; cases neg
  ·exact b rfl
  ·exact a rfl
 have m3 : ∀ p : Prop, (neg = false → Q1) → (neg = true → Q0) → br (ydg neg false) Q1 Q0 := by
  intro _ a b; cases neg
  ·exact a rfl
  ·exact b rfl
 have d1 : m = 1 → Q0 := by rintro rfl; exact hP0 rfl
 have d2 : m = 2 → br (ydg neg true) Q1 Q0 := by rintro rfl; exact m2 True hP1 hP0
 have d3 : m = 3 → br (ydg neg false) Q1 Q0 := by
  rintro rfl
  refine m3 True (fun hn => hP1 ?_) fun hn => hP0 ?_
  ·rw [hn]; rfl
  ·rw [hn]; rfl
 rw [ycl, ycl]
 refine yf2 (fun z0 => ?_) fun z0 => ?_
 ·refine yg2 f0 _ ?_
  refine yf2 (fun z1 => ?_) fun z1 => ?_
  ·refine yg2 f1 _ ?_
   rw [yl8 z0, yl8 z1]
   generalize decide (n0 % 2 = 1) = o0 at hP1 hP0 ⊢
   generalize decide (n1 % 2 = 1) = o1 at hP1 hP0 ⊢
   rcases ytA hm with rfl | rfl | rfl | rfl | rfl
   ·rw [ytP] at hP1 hP0
    show br o1 (br (!none) Q1 (br o0 Q1 Q0)) Q0
    cases o1 <;> cases none <;> cases o0 <;> first | exact hP1 rfl | exact hP0 rfl
   ·exact d1 rfl
   ·exact d2 rfl
   ·exact d3 rfl
   ·rw [ytM] at hP1 hP0
    show br o1 Q1 Q0
    cases o1 <;> first | exact hP1 rfl | exact hP0 rfl
  ·have e1 : decide (n1 % 2 = 1) = false := by rw [z1]; rfl
   rw [e1] at hP1 hP0
   rcases ytA hm with rfl | rfl | rfl | rfl | rfl
   ·rw [ytP] at hP1 hP0; exact hP0 rfl
   ·exact d1 rfl
   ·exact d2 rfl
   ·exact d3 rfl
   ·rw [ytM] at hP1 hP0; exact hP0 rfl
 ·have e0 : decide (n0 % 2 = 1) = false := by rw [z0]; rfl
  rw [e0] at hP1 hP0
  refine yf2 (fun z1 => ?_) fun z1 => ?_
  ·refine yg2 f1 _ ?_
   rw [yl8 z1]
   generalize decide (n1 % 2 = 1) = o1 at hP1 hP0 ⊢
   rcases ytA hm with rfl | rfl | rfl | rfl | rfl
   ·rw [ytP] at hP1 hP0
    show br o1 (br (!none) Q1 Q0) Q0
    cases o1 <;> cases none <;> first | exact hP1 rfl | exact hP0 rfl
   ·exact d1 rfl
   ·exact d2 rfl
   ·exact d3 rfl
   ·rw [ytM] at hP1 hP0
    show br o1 Q1 Q0
    cases o1 <;> first | exact hP1 rfl | exact hP0 rfl
  ·have e1 : decide (n1 % 2 = 1) = false := by rw [z1]; rfl
   rw [e1] at hP1 hP0
   rcases ytA hm with rfl | rfl | rfl | rfl | rfl
   ·rw [ytP] at hP1 hP0; exact hP0 rfl
   ·exact d1 rfl
   ·exact d2 rfl
   ·exact d3 rfl
   ·rw [ytM] at hP1 hP0; exact hP0 rfl
theorem yk4 (h : f ≤ 3) (hm : m ≤ 4) (H : FF F (fp f) top) (hfl : ylb f n root x y e top F) (htop : ∀ K : Int → Prop, K top → zdd n x y e root K) (hr : -2000000 ≤ top ∧ top ≤ 3000000) (K : Bool → Prop)
  (hK : K (ylo f m neg F top)) : zdc n x y e root f m neg K := by
 have w := ycn f h
 rw [zdc.is]; unfold zdc.d
 refine htop _ ?_
 rw [yaK f h, ybq f h, yas (by omega) (by omega)]
 unfold ylo at hK
 by_cases ht : top = -(fe f : Int)
 ·rw [yat (by rw [yj8 (show top = 1 - (fe f : Int) - 1 by omega)]; rfl)]
  rw [if_pos ht] at hK
  rw [yas (by omega) (by omega), yap (by omega) (by omega)]
  refine yi2 h hm H hfl (by omega) (Int.le_refl _) (by omega) _ ?_
  have htk := yr7 F m neg (top - fp f + 1)
  have hl := H.lt (top - fp f + 1) (Int.le_refl _)
  refine yfb (ye2 (yns h hl) htk) ?_
  have e1 : leI (yav (tk F m neg (top - fp f + 1)) : Int) (fp f : Int) = decide (yav (tk F m neg (top - fp f + 1)) ≤ fp f) := by
   unfold leI; rw [decide_eq_decide]; omega
  rw [e1]; exact hK
 ·rw [yaC (by rw [ygq (show top ≠ 1 - (fe f : Int) - 1 by omega)]; rfl)]
  rw [if_neg ht] at hK
  rw [ybq f h]; exact hK
theorem yd4 (h : f ≤ 3) (hm : m ≤ 4) (H : FF F (fp f) top) (hfl : ylb f n root x y e top F) (htop : ∀ K : Int → Prop, K top → zdd n x y e root K) (hr : -2000000 ≤ top ∧ top ≤ 3000000) (K : Int → Int → Int → Int → Prop)
  (hK : dlv f m neg F top K) : zcz n x y e root f m neg K := by
 have w := ycn f h
 have hf1 := H.tk_facts h m neg
 rw [zcz.is]; unfold zcz.d
 refine htop _ ?_
 rw [ybp f h]
 unfold dlv at hK
 by_cases h1 : (fe f : Int) < top
 ·rw [yaC (ya9 h1)]; rw [if_pos h1] at hK
  exact ygl f m neg h hm _ hK
 rw [yat (ybj (by omega)), ybq f h, yaK f h]
 rw [if_neg h1] at hK
 have hp := ymY h top (by omega)
 have hat : yak .i64 (yan .i64 (yhT top (1 - (fe f : Int))) (fp f : Int)) 1 = pl f top := by
  have e0 : yhT top (1 - (fe f : Int)) = if top < 1 - fe f then 1 - (fe f : Int) else top := yf5 _ _
  rw [e0]; unfold pl
  have hh : -2000000 ≤ (if top < 1 - (fe f : Int) then 1 - (fe f : Int) else top) ∧ (if top < 1 - (fe f : Int) then 1 - (fe f : Int) else top) ≤ 2000000 := by split <;> omega
  rw [yas (by omega) (by omega), yap (by omega) (by omega)]
 rw [hat]
 refine yi2 h hm H hfl (by omega) hf1.2.2.2 (by omega) _ ?_
 have hfit : fit (tk F m neg (pl f top)) := ye2 (yns h (H.lt _ hf1.2.2.2)) (yr7 _ _ _ _)
 refine yfb hfit ?_
 have hbl : yav (tk F m neg (pl f top)) ≤ fp f + 1 := by
  rw [yaI]
  exact Nat.lt_of_le_of_lt hf1.1 (Nat.pow_lt_pow_right (by omega) (by omega))
 rw [ybp f h, yas (by omega) (by omega), yap (by omega) (by omega)]
 by_cases h2 : (fe f : Int) < (yav (tk F m neg (pl f top)) : Int) - 1 + pl f top
 ·rw [yaC (ya9 h2)]; rw [if_pos h2] at hK
  exact ygl f m neg h hm _ hK
 rw [yat (ybj (by omega))]
 rw [if_neg h2] at hK
 rw [← ycw]
 refine ydP neg hfit ycZ (by decide) (by unfold win; omega) ?_
 have tail : ∀ y0 y1 : Int, y0 = Hi (ygF f neg (pl f top) (tk F m neg (pl f top))) → y1 = Lo (ygF f neg (pl f top) (tk F m neg (pl f top))) →
   br (F (pl f top)).2 (K y0 y1 0 0) (zdc n x y e root f m neg fun y0_7 => br y0_7 (K y0 y1 3 0) (K y0 y1 1 0)) := by
  rintro y0 y1 rfl rfl
  cases hx : (F (pl f top)).2 with
  | true => rw [hx, if_pos rfl] at hK; exact hK
  | false =>
   rw [hx, if_neg (by decide)] at hK
   rw [yat rfl]
   refine yk4 h hm H hfl htop hr _ ?_
   cases ht : ylo f m neg F top with
   | true => rw [ht, if_pos rfl] at hK; exact hK
   | false => rw [ht, if_neg (by decide)] at hK; exact hK
 by_cases h0 : tk F m neg (pl f top) = 0
 ·have hn := H.none h m neg h0
  have he : ygF f neg (pl f top) 0 = enc f neg 0 0 := by
   unfold ygF enc; rw [show (pl f top + (fe f : Int) + fp f - 2).toNat = 0 from by omega, Nat.zero_mul, Nat.add_zero]
  rw [h0, he] at tail
  unfold mkE
  rw [if_pos h0]
  have c0 : Can false 0 1 0 := ⟨yjv, ycZ, rfl, by unfold win; omega, fun _ => ⟨rfl, rfl, rfl⟩, fun hh => absurd rfl hh⟩
  have hz : zaq f false [] [1] 0 = zaq f false (nb 0) (nb 1) 0 := by rw [yaH, ycw]
  show zaq f false [] [1] 0 _
  rw [hz]
  refine yix f h c0 _ ?_
  unfold ofE
  rw [if_pos rfl]
  show br (eqS (nb (tk F m neg (pl f top))) []) _ _
  rw [h0, ycl, yaC (by rfl), yjI f h]
  exact tail _ _ rfl rfl
 ·obtain ⟨P, hP⟩ : ∃ P, P = 200 := ⟨_, rfl⟩
  have hlt : tk F m neg (pl f top) < 2 ^ P := Nat.lt_of_le_of_lt hf1.1 (Nat.pow_lt_pow_right (by omega) (by omega))
  refine ysU neg h0 hlt hP (by omega) _ fun a g c ha hta hag hg => ?_
  rw [← ycw]
  refine yix f h c _ ?_
  refine ysS h c ha hta hag hf1.1 hf1.2.2.1 hf1.2.1 _ ?_
  rw [if_neg h2, ycl, yat (by simpa using h0)]
  exact tail _ _ rfl rfl
end
theorem Can.abs' {s : Bool} {a b : Nat} {e : Int} (c : Can s a b e) : Can false a b e := ⟨c.fa, c.fb, c.ob, c.we, fun h => ⟨rfl, (c.z h).2⟩, c.r⟩
theorem yoN {f : Nat} (h : f ≤ 3) {n : Bool} {a b : Nat} {e : Int} (c : Can n a b e) (ha : a ≠ 0) (hb : yav b ≤ 66000) : ylb f n false (nb a) (nb b) e (tp a b + e) (FX a b e) := by
 have w := ycn f h
 have we := c.e64
 have hr := yfh c.fa c.fb
 intro at_ h1 h2 K hK
 rw [zda.is]; unfold zda.d
 rw [yaC (show (!false) = true from rfl)]
 exact yc3 n c at_ (by omega) _ (ypO c ha (by omega) (by omega) hb (by omega) _ hK)
theorem ymv {n : Bool} {a b : Nat} {e : Int} (c : Can n a b e) (ha : a ≠ 0) (K : Int → Prop) (hK : K (tp a b + e)) : zdd n (nb a) (nb b) e false K := by
 rw [zdd.is]; unfold zdd.d
 exact ydO n c _ (fun hh => absurd hh ha) fun _ => hK
theorem ydq {f m : Nat} (h : f ≤ 3) (hm : m ≤ 4) {n : Bool} {a b : Nat} {e : Int} (c : Can n a b e) (ha : a ≠ 0) (la : (nb a).length ≤ 8192) (lb : (nb b).length ≤ 8192) (K : Int → Int → Int → Int → Prop)
  (hK : dlv f m n (FX a b e) (tp a b + e) K) : zcw f m n (nb a) (nb b) e K := by
 have w := ycn f h
 have we := c.e64
 have hr := yfh c.fa c.fb
 have hb : yav b ≤ 66000 := by have := ygP lb; omega
 rw [zcw.is]; unfold zcw.d
 rw [zcx.is]; unfold zcx.d
 rw [ya0 f h, yat (show (!eqI 0 0) = false from rfl), ycy m hm, yat (show (!eqI 0 0) = false from rfl)]
 refine yaL _ _ _ _ _ (fun _ => ?_) fun g => absurd c.may g
 rw [yat (show (!eqI 0 0) = false from rfl), yat rfl, yat (ybj (by omega)), yat (ybj (by omega))]
 show br (!eqI 0 0) _ _
 rw [yat (show (!eqI 0 0) = false from rfl), ycl, yat (by simpa using ha)]
 refine yd2 n c _ ?_
 exact yd4 h hm (yra (by omega) ha c.b0) (yoN h c.abs' ha hb) (fun K hK => ymv c.abs' ha K hK) (by omega) _ hK
end Go.Ev.S

/- The program's rounding is the document's. -/
set_option linter.unusedVariables false
set_option linter.unusedSimpArgs false
set_option maxRecDepth 8000
namespace Go.Ev.S
open Go Go.Ev
theorem ypb : Can false 1 3 0 := by
  have h3 : fit 3 := by unfold fit; have : nb 3 = [3] := by rw [ydG (by decide), show 3 / 256 = 0 from rfl, yaH]; decide
                        rw [this]; decide
  exact ⟨ycZ, h3, rfl, by unfold win; omega, fun hh => by omega, fun _ => ⟨rfl, by decide⟩⟩
theorem yrc : nb 3 = [3] := by rw [ydG (by decide), show 3 / 256 = 0 from rfl, yaH]; decide
theorem yg5 (m : Nat) (hm : m ≤ 4) (v : Nat) (hv : tk (FX 1 3 0) m false (-12) = v) (hb : yav v = 11) (K : Int → Int → Int → Int → Prop) (hK : K (Hi (ygF 2 false (-12) v)) (Lo (ygF 2 false (-12) v)) 1 0) : zcw 2 m false [1] [3] 0 K := by
  have h3 := yrc
  rw [← ycw, ← h3, show (2 : Int) = ((2 : Nat) : Int) from rfl]
  refine ydq (by omega) hm ypb (by decide) (by rw [ycw]; decide) (by rw [h3]; decide) K ?_
  have ht : tp 1 3 + 0 = -2 := by decide
  have hp : pl 2 (-2) = -12 := by decide
  have hx : (FX 1 3 0 (-12)).2 = false := by decide
  have hf : (fe 2 : Int) = 15 := rfl
  unfold dlv
  rw [ht, hp, hv, hb, hx, if_neg (by rw [hf]; decide), if_neg (by rw [hf]; decide), if_neg (by decide)]
  have htn : ylo 2 m false (FX 1 3 0) (-2) = false := by
    unfold ylo; rw [if_neg (by rw [hf]; decide), hf]; rfl
  rw [htn, if_neg (by decide)]
  exact hK
theorem yij (K : Bool → Prop) (hK : K true) : zax K := by
  rw [zax.is]; unfold zax.d
  refine yg5 0 (by omega) 1365 (by decide) (by decide) _ ?_
  refine yg5 3 (by omega) 1366 (by decide) (by decide) _ ?_
  exact hK
theorem ydM {f m : Nat} (h : f ≤ 3) (hm : m ≤ 4) {n : Bool} {b : Nat} {e : Int} (c : Can n 0 b e) (lb : (nb b).length ≤ 8192) (K : Int → Int → Int → Int → Prop) (hK : K 0 0 0 0) : zcw f m n (nb 0) (nb b) e K := by
  have l0 : (nb 0).length = 0 := by rw [yaH]; rfl
  rw [zcw.is]; unfold zcw.d
  rw [zcx.is]; unfold zcx.d
  rw [ya0 f h, yat (show (!eqI 0 0) = false from rfl), ycy m hm, yat (show (!eqI 0 0) = false from rfl)]
  refine yaL _ _ _ _ _ (fun _ => ?_) fun g => absurd c.may g
  rw [yat (show (!eqI 0 0) = false from rfl), yat rfl, yat (ybj (by omega)), yat (ybj (by omega))]
  show br (!eqI 0 0) _ _
  rw [yat (show (!eqI 0 0) = false from rfl), ycl, yaC (by rfl)]
  exact hK
end Go.Ev.S

/- The laws of natural numbers that need quotients. -/
set_option linter.unusedVariables false
set_option linter.unusedSimpArgs false
set_option maxRecDepth 8000
namespace Go.Ev.S
open Go Go.Ev
end Go.Ev.S

/- Roots of exact numbers. -/
set_option linter.unusedVariables false
set_option linter.unusedSimpArgs false
set_option maxRecDepth 8000
namespace Go.Ev.S
open Go Go.Ev
theorem ypY (x : Nat) : ∃ r, yea x r := by
 induction x with
 | zero => exact ⟨0, by unfold yea; omega⟩
 | succ x ih =>
  obtain ⟨r, h1, h2⟩ := ih
  by_cases h : x + 1 < (r + 1) * (r + 1)
  ·exact ⟨r, by omega, h⟩
  ·refine ⟨r + 1, by omega, ?_⟩
   have e : (r + 1 + 1) * (r + 1 + 1) = (r + 1) * (r + 1) + 2 * (r + 1) + 1 := by grind
   omega
noncomputable def isq (x : Nat) : Nat := Classical.choose (ypY x)
theorem ykt (x : Nat) : yea x (isq x) := Classical.choose_spec (ypY x)
theorem ypr {x r : Nat} (h : yea x r) : isq x = r := ypc (ykt x) h
theorem yq9 (x : Nat) : isq (x / 4) = isq x / 2 := by
 apply ypr
 have h := ykt x
 unfold yea at *
 generalize isq x = r at h ⊢
 obtain ⟨q, c, hc, hr⟩ : ∃ q c, c < 2 ∧ r = 2 * q + c := ⟨r / 2, r % 2, by omega, by omega⟩
 have hq : r / 2 = q := by omega
 rw [hq]
 rcases (show c = 0 ∨ c = 1 by omega) with h0 | h0
 ·subst h0; subst hr
  have e1 : (2 * q + 0) * (2 * q + 0) = 4 * (q * q) := by grind
  have e2 : (2 * q + 0 + 1) * (2 * q + 0 + 1) = 4 * (q * q) + 4 * q + 1 := by grind
  have e3 : (q + 1) * (q + 1) = q * q + 2 * q + 1 := by grind
  omega
 ·subst h0; subst hr
  have e1 : (2 * q + 1) * (2 * q + 1) = 4 * (q * q) + 4 * q + 1 := by grind
  have e2 : (2 * q + 1 + 1) * (2 * q + 1 + 1) = 4 * (q * q) + 8 * q + 4 := by grind
  have e3 : (q + 1) * (q + 1) = q * q + 2 * q + 1 := by grind
  omega
theorem yrG (p : Nat) : 2 ^ (2 * p) = 2 ^ p * 2 ^ p := by rw [← Nat.pow_add]; congr 1; omega
theorem ysZ {x p : Nat} (h : x < 2 ^ (2 * p)) : isq x < 2 ^ p := by
 have g := (ykt x).1
 apply Classical.byContradiction; intro hn
 have := Nat.mul_le_mul (show 2 ^ p ≤ isq x by omega) (show 2 ^ p ≤ isq x by omega)
 rw [yrG] at h; omega
theorem ys3 {x p : Nat} (h : 2 ^ (2 * p) ≤ x) : 2 ^ p ≤ isq x := by
 have g := (ykt x).2
 apply Classical.byContradiction; intro hn
 have := Nat.mul_le_mul (show isq x + 1 ≤ 2 ^ p by omega) (show isq x + 1 ≤ 2 ^ p by omega)
 rw [yrG] at h; omega
theorem ysE {x : Nat} (h : x ≠ 0) : isq x ≠ 0 := by
 intro hh
 have g := (ykt x).2
 rw [hh] at g; omega
noncomputable def RT (F : Int → Nat × Bool) (at_ : Int) : Nat × Bool := (isq (F (2 * at_)).1, (F (2 * at_)).2 && decide ((F (2 * at_)).1 - isq (F (2 * at_)).1 * isq (F (2 * at_)).1 = 0))
theorem yt7 {F : Int → Nat × Bool} {p : Nat} {top : Int} (hp : 1 ≤ p) (H : FF F (2 * p) top) (H' : FF F (2 * p - 1) top) : FF (RT F) p (top / 2) := by
 refine ⟨fun at_ hat => ?_, ?_, fun at_ hat => ?_, fun at_ => ?_⟩
 ·exact ysZ (H.lt (2 * at_) (by omega))
 ·refine ys3 ?_
  have hg := H'.ge
  rw [show 2 * p - 1 - 1 = 2 * (p - 1) from by omega] at hg
  rcases (show 2 * (top / 2 - p + 1) = top - ((2 * p - 1 : Nat) : Int) + 1 ∨ 2 * (top / 2 - p + 1) + 1 = top - ((2 * p - 1 : Nat) : Int) + 1 by omega) with h | h
  ·rw [h]; exact hg
  ·have hh := H'.half (2 * (top / 2 - p + 1))
   rw [h] at hh
   generalize 2 ^ (2 * (p - 1)) = P at hg ⊢
   omega
 ·have h2 : (F (2 * at_)).2 = true := by
   have : ((F (2 * at_)).2 && decide ((F (2 * at_)).1 - isq (F (2 * at_)).1 * isq (F (2 * at_)).1 = 0)) = true := hat
   cases hx : (F (2 * at_)).2 with
   | true => rfl
   | false => rw [hx] at this; cases this
  exact ysE (H.ex _ h2)
 ·have h1 := H.half (2 * at_)
  have h2 := H.half (2 * at_ + 1)
  show isq (F (2 * (at_ + 1))).1 = isq (F (2 * at_)).1 / 2
  rw [← yq9, show 2 * (at_ + 1) = 2 * at_ + 1 + 1 from by omega, h2, h1, Nat.div_div_eq_div_mul]
theorem ylc {n : Bool} {a b : Nat} {e : Int} (c : Can n a b e) (ha : a ≠ 0) (K : Int → Prop) (hK : K ((tp a b + e) / 2)) : zdd n (nb a) (nb b) e true K := by
 rw [zdd.is]; unfold zdd.d
 refine ydO n c _ (fun hh => absurd hh ha) fun _ => ?_
 rw [yaC rfl, show yaO .i64 (tp a b + e) 1 = (tp a b + e) / 2 from (yeK (k := .i64) (a := tp a b + e) (j := 1) (by decide)).trans (by rfl)]
 exact hK
section
variable {f : Nat} {n : Bool} {a b : Nat} {e : Int}
theorem ytI {p : Nat} (hp : p ≤ 3000) (H : FF (FX a b e) (p + 1) (tp a b + e)) {at_ : Int} (h : tp a b + e - p ≤ at_) : fit (FX a b e at_).1 := by
 have h1 := H.lt at_ (by omega)
 obtain ⟨P, hP⟩ : ∃ P, P = p + 1 := ⟨_, rfl⟩
 rw [← hP] at h1
 exact ydj h1 (by omega)
theorem yo2 (h : f ≤ 3) (c : Can n a b e) (ha : a ≠ 0) (hb : yav b ≤ 66000) : ylb f n true (nb a) (nb b) e ((tp a b + e) / 2) (RT (FX a b e)) := by
 have w := ycn f h
 have we := c.e64
 have hr := yfh c.fa c.fb
 have ww := c.we
 unfold win at ww
 intro at_ h1 h2 K hK
 rw [zda.is]; unfold zda.d
 rw [yat (show (!true) = false from rfl), yb1 (by omega) (by omega)]
 refine yc3 n c _ (by omega) _ (ypO c ha (by omega) (by omega) hb (by omega) _ ?_)
 have hft := ytI (p := 2000) (by omega) (yra (e := e) (p := 2001) (by omega) ha c.b0) (at_ := 2 * at_) (by omega)
 refine ylB _ _ (fun g => absurd (ybA hft) g) fun _ r hroot => ?_
 rw [ya1] at hroot ⊢
 rw [← ypr hroot, ycl]
 unfold RT at hK
 cases hx : (FX a b e (2 * at_)).2 with
 | true => rw [hx] at hK; exact hK
 | false => rw [hx] at hK; exact hK
theorem yrP (h : f ≤ 3) (ha : a ≠ 0) (hb : b ≠ 0) : FF (RT (FX a b e)) (fp f) ((tp a b + e) / 2) := by
 have w := ycn f h
 exact yt7 (by omega) (yra (by omega) ha hb) (yra (by omega) ha hb)
theorem ykI {m : Nat} (h : f ≤ 3) (hm : m ≤ 4) (c : Can false a b e) (ha : a ≠ 0) (la : (nb a).length ≤ 8192) (lb : (nb b).length ≤ 8192) (K : Int → Int → Int → Int → Prop)
  (hK : dlv f m false (RT (FX a b e)) ((tp a b + e) / 2) K) : zcv f m false (nb a) (nb b) e K := by
 have w := ycn f h
 have we := c.e64
 have hr := yfh c.fa c.fb
 have hb : yav b ≤ 66000 := by have := ygP lb; omega
 rw [zcv.is]; unfold zcv.d
 rw [zcx.is]; unfold zcx.d
 rw [ya0 f h, yat (show (!eqI 0 0) = false from rfl), ycy m hm, yat (show (!eqI 0 0) = false from rfl)]
 refine yaL _ _ _ _ _ (fun _ => ?_) fun g => absurd c.may g
 rw [yat (show (!eqI 0 0) = false from rfl), yaC rfl, yat rfl, yat (ybj (by omega)), yat (ybj (by omega))]
 show br (!eqI 0 0) _ _
 rw [yat (show (!eqI 0 0) = false from rfl), ycl, yat (by simpa using ha)]
 exact yd4 h hm (yrP h ha c.b0) (yo2 h c ha hb) (fun K hK => ylc c ha K hK) (by omega) _ hK
end
theorem yid {f m : Nat} (h : f ≤ 3) (hm : m ≤ 4) {b : Nat} {e : Int} (c : Can false 0 b e) (lb : (nb b).length ≤ 8192) (K : Int → Int → Int → Int → Prop) (hK : K 0 0 0 0) : zcv f m false (nb 0) (nb b) e K := by
 have l0 : (nb 0).length = 0 := by rw [yaH]; rfl
 rw [zcv.is]; unfold zcv.d
 rw [zcx.is]; unfold zcx.d
 rw [ya0 f h, yat (show (!eqI 0 0) = false from rfl), ycy m hm, yat (show (!eqI 0 0) = false from rfl)]
 refine yaL _ _ _ _ _ (fun _ => ?_) fun g => absurd c.may g
 rw [yat (show (!eqI 0 0) = false from rfl), yaC rfl, yat rfl, yat (ybj (by omega)), yat (ybj (by omega))]
 show br (!eqI 0 0) _ _
 rw [yat (show (!eqI 0 0) = false from rfl), ycl, yaC (by rfl)]
 exact hK
end Go.Ev.S

/- The bound of what is rounded. -/
set_option linter.unusedVariables false
set_option linter.unusedSimpArgs false
set_option maxRecDepth 8000
namespace Go.Ev.S
open Go Go.Ev
end Go.Ev.S

/- Values of encodings and back; the next encoding is next. -/
set_option linter.unusedVariables false
set_option linter.unusedSimpArgs false
set_option maxRecDepth 8000
namespace Go.Ev.S
open Go Go.Ev
theorem yr6 {f x : Nat} (hf : fin f x) : (ng f x = true → cls f x < 4 ∧ (cls f x = 3 ↔ mg f x = 0)) ∧ (ng f x = false → 4 ≤ cls f x) := by
 have z := ymj f x
 unfold fin at hf
 unfold cls
 cases ng f x <;> simp only [cond_true, cond_false] <;> refine ⟨fun hh => ?_, fun hh => ?_⟩ <;> first | exact absurd hh (by decide) | skip
 ·rw [if_neg hf]; (repeat' split) <;> omega
 ·rw [if_neg hf]
  (repeat' split) <;> omega
def sm (f x : Nat) : Int := cond (ng f x) (-(mg f x : Int)) (mg f x)
theorem yjY (f x : Nat) (h : f ≤ 3) (hx : x < 2 ^ fw f) (hf : fin f x) (K : Bool → List UInt8 → List UInt8 → Int → Int → Prop)
  (hK : mkE (ng f x) (yeD f x) 1 (yfT f x) K) : zas f (Hi x) (Lo x) K := by
 have hc := (ypJ f x).1 hf
 have hs := yr6 hf
 rw [zas.is]; unfold zas.d
 refine yeG f x h hx _ ?_
 rw [yat (by rfl), yat (ygq (by omega)), yat (yf7 (by omega))]
 refine yj4 _ (ylK f x h) _ ?_
 have we : win (yfT f x) := by have := yi4 f x h; unfold win; omega
 have en : ltI (cls f x) 4 = ng f x := by
  cases hn : ng f x
  ·exact ybj (by have := hs.2 hn; omega)
  ·exact ya9 (by have := (hs.1 hn).1; omega)
 rw [en, ← ycw]
 exact ydP (ng f x) (yly (ylK f x h)) ycZ (by decide) we hK
theorem yrQ {f x : Nat} (hf : ¬ fin f x) : cls f x = 0 ∨ 7 ≤ cls f x := by
 have h1 := ylp f x
 have h2 := ypJ f x
 have h3 : ¬ (1 ≤ cls f x ∧ cls f x ≤ 6) := fun hh => hf (h2.2 hh)
 omega
theorem yhY (f x : Nat) (h : f ≤ 3) (hx : x < 2 ^ fw f) (hf : ¬ fin f x) (K : Bool → List UInt8 → List UInt8 → Int → Int → Prop)
  (hK : K false [] [] 0 80) : zas f (Hi x) (Lo x) K := by
 rw [zas.is]; unfold zas.d
 refine yeG f x h hx _ ?_
 rw [yat (by rfl)]
 rcases yrQ hf with c | c
 ·rw [yaC (yj8 c)]; exact hK
 ·rw [yat (ygq (by omega)), yaC (ybd c)]; exact hK
end Go.Ev.S

/- The next encoding is next. -/
set_option linter.unusedVariables false
set_option linter.unusedSimpArgs false
set_option maxRecDepth 8000
namespace Go.Ev.S
open Go Go.Ev
end Go.Ev.S

/- Rounding turned about. -/
set_option linter.unusedVariables false
set_option linter.unusedSimpArgs false
set_option maxRecDepth 8000
namespace Go.Ev.S
open Go Go.Ev
def sw (m : Nat) : Nat := if m = 2 then 3 else if m = 3 then 2 else m
end Go.Ev.S

/- The neighbours and tininess. -/
set_option linter.unusedVariables false
set_option linter.unusedSimpArgs false
set_option maxRecDepth 8000
namespace Go.Ev.S
open Go Go.Ev
end Go.Ev.S

/- Parts packed: the same on both sides. -/
set_option linter.unusedVariables false
set_option linter.unusedSimpArgs false
set_option maxRecDepth 8000
namespace Go.Ev.S
open Go Go.Ev
section
variable {f : Nat} {s r : Nat → Int} {x : Int} {K : Int → Int → Int → Prop}
end
end Go.Ev.S

/- Parts: apart and together. -/
set_option linter.unusedVariables false
set_option linter.unusedSimpArgs false
set_option maxRecDepth 8000
namespace Go.Ev.S
open Go Go.Ev
end Go.Ev.S

/- What is exact is delivered as it is; the root of a square. -/
set_option linter.unusedVariables false
set_option linter.unusedSimpArgs false
set_option maxRecDepth 8000
namespace Go.Ev.S
open Go Go.Ev
theorem ypC {f m : Nat} {n : Bool} {F : Int → Nat × Bool} {top : Int} {w : Nat} (hF : F (pl f top) = (w, true)) (h1 : ¬ (fe f : Int) < top) (h2 : (yav w : Int) - 1 + pl f top = top) (K : Int → Int → Int → Int → Prop)
  (hK : K (Hi (ygF f n (pl f top) w)) (Lo (ygF f n (pl f top) w)) 0 0) : dlv f m n F top K := by
 have ht : tk F m n (pl f top) = w := by
  unfold tk; rw [hF]; rfl
 unfold dlv
 rw [ht, hF, if_neg h1, if_neg (by omega), if_pos rfl]
 exact hK
theorem yut {a b a' b' : Nat} {e e' : Int} (ha : a ≠ 0) (hb : b ≠ 0) (ha' : a' ≠ 0) (hb' : b' ≠ 0) (h : V false a b e = V false a' b' e') : tp a b + e = tp a' b' + e' := by
 have h1 := ysM e ha hb
 have h2 := ysM e' ha' hb'
 rw [h] at h1
 exact yrd h1.1 h1.2 h2.1 h2.2
theorem yoO {f x : Nat} (h : f ≤ 3) (hx : x < 2 ^ fw f) (hf : fin f x) (h0 : mg f x ≠ 0) :
  yeD f x ≠ 0 ∧ pl f (tp (yeD f x) 1 + yfT f x) = yfT f x ∧ ¬ (fe f : Int) < tp (yeD f x) 1 + yfT f x ∧ ygF f (ng f x) (yfT f x) (yeD f x) = x := by
 obtain ⟨w1, w2, w3, w4, w5, w6⟩ := ycn f h
 have u0 : yeD f x ≠ 0 := fun hh => h0 ((ykp f x hf).1 hh)
 have hu := ypy f x hf
 have he := yrU f x hf h0
 have hfr := yqY f x
 have hex := ysC f x
 have hxm := yup f x h hx
 have hfin : ex f x ≠ 2 * fe f + 1 := hf
 have htp := ymZ u0
 have e2 : 2 ^ fp f = 2 ^ (fp f - 1) + 2 ^ (fp f - 1) := by rcases yeF h with rfl | rfl | rfl | rfl <;> decide
 have hfe : 1 ≤ fe f := by rcases yeF h with rfl | rfl | rfl | rfl <;> decide
 refine ⟨u0, ?_⟩
 by_cases hz : ex f x = 0
 ·rw [if_pos hz] at hu he
  have hb : yav (yeD f x) ≤ fp f - 1 := by rw [yaI, hu]; exact hfr
  have hp : pl f (tp (yeD f x) 1 + yfT f x) = yfT f x := by
   unfold pl; rw [if_pos (by omega)]; omega
  refine ⟨hp, by omega, ?_⟩
  have : mg f x = fr f x := by unfold mg; rw [hz]; omega
  refine Eq.trans ?_ hxm.symm
  unfold ygF; rw [he, hu, this, show (2 - (fe f : Int) - fp f + fe f + fp f - 2).toNat = 0 from by omega, Nat.zero_mul, Nat.zero_add]
 ·rw [if_neg hz] at hu he
  have hb : yav (yeD f x) = fp f := by
   have l1 : yav (yeD f x) ≤ fp f := by rw [yaI]; omega
   have l2 : ¬ yav (yeD f x) ≤ fp f - 1 := by rw [yaI]; omega
   omega
  have ht : tp (yeD f x) 1 + yfT f x = (ex f x : Int) - fe f := by omega
  rw [ht]
  refine ⟨?_, by omega, ?_⟩
  ·unfold pl; rw [if_neg (by omega)]; omega
  ·refine Eq.trans ?_ hxm.symm
   unfold ygF mg
   rw [he, hu, show ((ex f x : Int) + 1 - fe f - fp f + fe f + fp f - 2).toNat = ex f x - 1 from by omega]
   obtain ⟨q, hq⟩ : ∃ q, ex f x = q + 1 := ⟨ex f x - 1, by omega⟩
   rw [hq, Nat.add_sub_cancel, Nat.add_mul]; omega
theorem yoM {f m x : Nat} (h : f ≤ 3) (hx : x < 2 ^ fw f) (hf : fin f x) {n : Bool} {a : Nat} {e : Int} (c : Can n a 1 e) (v : V n a 1 e = V (ng f x) (yeD f x) 1 (yfT f x)) (ha : a ≠ 0) (K : Int → Int → Int → Int → Prop)
  (hK : K (Hi x) (Lo x) 0 0) : dlv f m n (FX a 1 e) (tp a 1 + e) K := by
 have one : (1 : Nat) ≠ 0 := by decide
 have h0 : mg f x ≠ 0 := by
  intro hh
  have := (ykp f x hf).2 hh
  rw [this, ye1] at v
  have := (yll (n := n) ha one e)
  cases n
  ·have := this.1.1 rfl; grind
  ·have := this.2.1 rfl; grind
 obtain ⟨u0, hp, ht, he⟩ := yoO h hx hf h0
 have hn : n = ng f x := by
  have s1 := yll (n := n) ha one e
  have s2 := yll (n := ng f x) u0 one (yfT f x)
  rw [v] at s1
  cases hq : ng f x with
  | false => exact s1.1.2 (s2.1.1 hq)
  | true => exact s1.2.2 (s2.2.1 hq)
 have v' : V false a 1 e = V false (yeD f x) 1 (yfT f x) := by
  rw [yrN n, yrN (ng f x), hn] at v
  have := ys6 (ng f x)
  grind
 have ht2 := yut ha one u0 one v'
 have hF := yrI one one v'
 have hp2 : pl f (tp a 1 + e) = yfT f x := by rw [ht2]; exact hp
 refine ypC (w := yeD f x) ?_ (by rw [ht2]; exact ht) ?_ _ ?_
 ·rw [hp2, hF]
  unfold FX
  rw [if_pos (Int.le_refl _), show (yfT f x - yfT f x).toNat = 0 from by omega, Nat.pow_zero, Nat.mul_one, Nat.div_one, Nat.mod_one]; rfl
 ·rw [hp2, ht2, ymZ u0]
 ·rw [hp2, hn, he]; exact hK
theorem ypw {x y : Rat} (h0 : 0 ≤ x) (h : x ≤ y) : x * x ≤ y * y := by
 have h1 := Rat.mul_le_mul_of_nonneg_left h h0
 have h2 := Rat.mul_le_mul_of_nonneg_right h (show 0 ≤ y by grind)
 grind
theorem yja {x y : Rat} (h0 : 0 ≤ x) (h : x < y) : x * x < y * y := by
 have h1 := Rat.mul_le_mul_of_nonneg_left (show x ≤ y by grind) h0
 have h2 := Rat.mul_lt_mul_of_pos_right h (show 0 < y by grind)
 grind
theorem yrW {x y : Rat} (h0 : 0 ≤ x) (h1 : 0 ≤ y) (h : x * x = y * y) : x = y := by
 apply Classical.byContradiction; intro hn
 rcases (show x < y ∨ y < x by grind) with g | g
 ·have := yja h0 g; grind
 ·have := yja h1 g; grind
theorem yt0 {X : Rat} {F G : Int → Nat × Bool} (h0 : 0 ≤ X) (hF : ∀ at_, Flr (X * X) at_ (F at_).1 (F at_).2) (hG : ∀ at_, Flr X at_ (G at_).1 (G at_).2) : RT F = G := by
 funext at_
 have f := hF (2 * at_)
 have g := hG at_
 have hq := ycH at_
 have hqq : p2 (2 * at_) = p2 at_ * p2 at_ := by rw [← ycx]; congr 1; omega
 have hqp := ycH (2 * at_)
 have hM := Prod.eta (F (2 * at_))
 generalize hMM : (F (2 * at_)).1 = M at f
 generalize hii : (F (2 * at_)).2 = i at f
 generalize hNN : (G at_).1 = N at g
 generalize hjj : (G at_).2 = j at g
 have c0 : ∀ k : Nat, 0 ≤ (k : Rat) * p2 at_ := fun k => by
  have : (0 : Rat) ≤ (k : Rat) := Rat.natCast_nonneg
  exact Rat.mul_nonneg this (by grind)
 have sq : ∀ k : Nat, (k : Rat) * p2 at_ * ((k : Rat) * p2 at_) = ((k * k : Nat) : Rat) * p2 (2 * at_) := by
  intro k; rw [hqq, Rat.natCast_mul]; grind
 have g1 := ypw (c0 N) g.le
 have g2 := yja h0 g.lt
 rw [sq] at g1 g2
 have r1 : N * N < M + 1 := by
  rw [← Rat.natCast_lt_natCast, ← ya2 hqp]
  have := f.lt; grind
 have r2 : M < (N + 1) * (N + 1) := by
  rw [← Rat.natCast_lt_natCast, ← ya2 hqp]
  have := f.le; grind
 have hr : isq M = N := ypr ⟨by omega, r2⟩
 show (isq (F (2 * at_)).1, (F (2 * at_)).2 && decide ((F (2 * at_)).1 - isq (F (2 * at_)).1 * isq (F (2 * at_)).1 = 0)) = G at_
 rw [hMM, hii, hr]
 refine Prod.ext hNN.symm ?_
 show (i && decide (M - N * N = 0)) = (G at_).2
 rw [hjj, Bool.eq_iff_iff, Bool.and_eq_true, decide_eq_true_iff, f.eq, g.eq]
 constructor
 ·rintro ⟨a1, a2⟩
  have : M = N * N := by omega
  rw [this, ← sq] at a1
  exact yrW (c0 N) h0 a1
 ·intro a1
  have a2 : ((N * N : Nat) : Rat) * p2 (2 * at_) = X * X := by rw [← sq, a1]
  have a3 : M < N * N + 1 := by
   rw [← Rat.natCast_lt_natCast, ← ya2 hqp]
   have h3 : ((N * N : Nat) : Rat) < ((N * N + 1 : Nat) : Rat) := Rat.natCast_lt_natCast.2 (by omega)
   have h4 := (ya2 hqp).2 h3
   have := f.le; grind
  have : M = N * N := by omega
  refine ⟨?_, by omega⟩
  rw [this]; exact a2
theorem ytB {X : Rat} {T t : Int} (h1 : p2 t ≤ X) (h2 : X < p2 (t + 1)) (h3 : p2 T ≤ X * X) (h4 : X * X < p2 (T + 1)) : T / 2 = t := by
 have q := ycH t
 have e1 : p2 (2 * t) = p2 t * p2 t := by rw [← ycx]; congr 1; omega
 have e2 : p2 (2 * t + 2) = p2 (t + 1) * p2 (t + 1) := by rw [← ycx]; congr 1; omega
 have g1 := ypw (show 0 ≤ p2 t by grind) h1
 have g2 := yja (show 0 ≤ X by grind) h2
 have a : ¬ T + 1 ≤ 2 * t := fun hh => by have := ypA hh; grind
 have b : ¬ 2 * t + 2 ≤ T := fun hh => by have := ypA hh; grind
 omega
theorem ymd {f m : Nat} (h : f ≤ 3) (hm : m ≤ 4) {n : Bool} {a b : Nat} {e : Int} (c : Can n a b e) (la : (nb a).length ≤ 25) (lb : (nb b).length ≤ 25) (he : -400000 ≤ e ∧ e ≤ 400000) (P : Prop) (K : Bool → Prop) (hP : P) :
  zag n (nb a) (nb b) e n (nb a) (nb b) e fun y0 y1 y2 y3 y4 => zcv f m y0 y1 y2 y3 fun y0 y1 y2 y3 => zac n (nb a) (nb b) e fun y0_1 y1_1 y2_1 y3_1 => zcw f m y0_1 y1_1 y2_1 y3_1 fun y0_2 y1_2 y2_2 y3_2 => br (eqI y4 0) (br (eqI y3 0) (br (eqI y3_2 0) (br (eqI y0 y0_2 && eqI y1 y1_2) (br (eqI y2 y2_2) P (K false)) (K false)) (K false)) (K false)) (K false) := by
 obtain ⟨N, hN⟩ : ∃ N, N = 200 := ⟨_, rfl⟩
 have ba : yav a ≤ N := by have := ygP la; omega
 have bb : yav b ≤ N := by have := ygP lb; omega
 have d : Bd N 400000 a b e := ⟨(yaI _ _).1 ba, (yaI _ _).1 bb, by omega, by omega⟩
 refine ylt c c _ (ysR c c d d (by omega) (by omega) _ fun n' A B E c' v' d' => ?_)
 have bA := (yaI _ _).2 d'.a
 have bB := (yaI _ _).2 d'.b
 have lA : (nb A).length ≤ 8192 := (yfG _ _).2 (by omega)
 have lB : (nb B).length ≤ 8192 := (yfG _ _).2 (by omega)
 have done : ∀ p q r : Int, br (eqI 0 0) (br (eqI 0 0) (br (eqI 0 0) (br (eqI p p && eqI q q) (br (eqI r r) P (K false)) (K false)) (K false)) (K false)) (K false) := by
  intro p q r
  rw [yem, yem, yem, yem]; exact hP
 by_cases ha : a = 0
 ·have hA : A = 0 := by
   apply Classical.byContradiction; intro hh
   have := yll (n := n') hh c'.b0 E
   rw [v', ha, ye1] at this
   cases n'
   ·have := this.1.1 rfl; grind
   ·have := this.2.1 rfl; grind
  subst hA
  have hn' := (c'.z rfl).1
  subst hn'
  refine yid h hm c' lB _ ?_
  refine yd2 n c _ ?_
  subst ha
  exact ydM h hm c.abs' (by omega) _ (done 0 0 0)
 ·have hv0 := yto ha c.b0 e
  have vv : V n a b e * V n a b e = V false a b e * V false a b e := by
   rw [yrN n a b e]; have := ys6 n; grind
  rw [vv] at v'
  have hA : A ≠ 0 := by
   intro hh; rw [hh, ye1] at v'
   have := Rat.mul_pos hv0 hv0; grind
  have hn' : n' = false := by
   have := yll (n := n') hA c'.b0 E
   rw [v'] at this
   exact this.1.2 (Rat.mul_pos hv0 hv0)
  subst hn'
  have eF : RT (FX A B E) = FX a b e := yt0 (X := V false a b e) (by grind) (fun at_ => by rw [← v']; exact yi3 E at_ c'.b0) fun at_ => yi3 e at_ c.b0
  have t1 := ysM e ha c.b0
  have t2 := ysM E hA c'.b0
  rw [v'] at t2
  have et := ytB t1.1 t1.2 t2.1 t2.2
  obtain ⟨p, q, r, s, hd⟩ := ysy f m false (FX a b e) (tp a b + e)
  obtain ⟨s0, hs0⟩ : ∃ s0 : Int, s0 = 0 := ⟨0, rfl⟩
  have hz : s = 0 := by
   have := (hd fun _ _ _ w => w = 0).1
   apply this
   unfold dlv
   (repeat' split) <;> rfl
  subst hz
  refine ykI h hm c' hA lA lB _ ?_
  rw [eF, et]
  refine (hd _).2 ?_
  refine yd2 n c _ ?_
  refine ydq h hm c.abs' ha (by omega) (by omega) _ ((hd _).2 ?_)
  exact done p q r
theorem ruleExact (a0 a1 a2_0 a2_1 : Int) (a3_0 : Bool) (a3_1 a3_2 : List UInt8) (a3_3 : Int) (w0 : (Lit.int .u8 a0).wf = true) (w1 : (Lit.int .u8 a1).wf = true) (w2 : (Lit.int .u64 a2_0).wf = true) (w3 : (Lit.int .u64 a2_1).wf = true)
  (w4 : a3_1.length ≤ maxLen) (w5 : a3_2.length ≤ maxLen) (w6 : (Lit.int .i64 a3_3).wf = true) (K : Bool → Prop) (hK : K true) : zaw a0 a1 a2_0 a2_1 a3_0 a3_1 a3_2 a3_3 K := by
 obtain ⟨f, rfl, hf⟩ := yrr w0
 obtain ⟨m, rfl, hm⟩ := yrr w1
 obtain ⟨x, hx, rfl, rfl⟩ := yqh w2 w3
 have hal : zax fun y0 => K y0 := yij _ hK
 rw [zaw.is]; unfold zaw.d
 by_cases hm4 : m ≤ 4
 rotate_left
 ·rw [ygy m (by omega)]; exact hal
 rw [ygu m hm4, yat (show (!true) = false from rfl)]
 rcases ynB f x with ⟨h, hx'⟩ | hb
 rotate_left
 ·rcases hb with ⟨h, hx'⟩ | h
  ·rw [ydi f x h hx, yaC (by simpa using hx')]; exact hal
  ·rw [yjz f h]; exact hal
 rw [ydi f x h hx, decide_eq_true hx', yat (show (!true) = false from rfl), zay.is]; unfold zay.d
 have tail : br (ltI 25 ↑(List.length a3_1)) (zax fun y0 => K y0) (br (ltI 25 ↑(List.length a3_2)) (zax fun y0 => K y0) (zcr a3_0 a3_1 a3_2 a3_3 fun y0 => br (!y0) (zax fun y0 => K y0) (br (ltI 400000 a3_3) (zax fun y0 => K y0) (br (ltI a3_3 (-400000)) (zax fun y0 => K y0) (zag a3_0 a3_1 a3_2 a3_3 a3_0 a3_1 a3_2 a3_3 fun y0 y1 y2 y3 y4 => zcv f m y0 y1 y2 y3 fun y0 y1 y2 y3 => zac a3_0 a3_1 a3_2 a3_3 fun y0_1 y1_1 y2_1 y3_1 => zcw f m y0_1 y1_1 y2_1 y3_1 fun y0_2 y1_2 y2_2 y3_2 => br (eqI y4 0) (br (eqI y3 0) (br (eqI y3_2 0) (br (eqI y0 y0_2 && eqI y1 y1_2) (br (eqI y2 y2_2) (zax fun y0 => K y0) (K false)) (K false)) (K false)) (K false)) (K false)))))) := by
  by_cases l1 : 25 < (a3_1.length : Int)
  ·rw [yaC (ya9 l1)]; exact hal
  rw [yat (ybj (by omega))]
  by_cases l2 : 25 < (a3_2.length : Int)
  ·rw [yaC (ya9 l2)]; exact hal
  rw [yat (ybj (by omega))]
  refine ynW _ _ _ _ _ (fun g => ?_) fun _ => hal
  rw [yat (show (!true) = false from rfl)]
  by_cases l3 : 400000 < a3_3
  ·rw [yaC (ya9 l3)]; exact hal
  rw [yat (ybj (by omega))]
  by_cases l4 : a3_3 < -400000
  ·rw [yaC (ya9 l4)]; exact hal
  rw [yat (ybj (by omega))]
  obtain ⟨a, b, rfl, rfl, c⟩ := g.can
  exact ymd h hm4 c (by omega) (by omega) (by omega) _ K hal
 by_cases fx : fin f x
 rotate_left
 ·refine yhY f x h hx' fx _ ?_
  exact tail
 refine yjY f x h hx' fx _ (yqG f x h _ fun n a e c v l1 l2 l3 => ?_)
 show br (eqI 0 0) _ _
 rw [yaC (show eqI 0 0 = true from rfl), ← ycw]
 have lo : (nb 1).length ≤ 8192 := by rw [ycw]; decide
 by_cases ha : a = 0
 ·subst ha
  refine ydM h hm4 c lo _ ?_
  rw [yat (show (!eqI 0 0) = false from rfl), yat (show (!eqI 0 0) = false from rfl)]
  have hs : zah n (nb 0) (nb 1) e fun y0 => br (!eqI y0 0) (K false) (br (ltI 25 ↑(List.length a3_1)) (zax fun y0 => K y0) (br (ltI 25 ↑(List.length a3_2)) (zax fun y0 => K y0) (zcr a3_0 a3_1 a3_2 a3_3 fun y0 => br (!y0) (zax fun y0 => K y0) (br (ltI 400000 a3_3) (zax fun y0 => K y0) (br (ltI a3_3 (-400000)) (zax fun y0 => K y0) (zag a3_0 a3_1 a3_2 a3_3 a3_0 a3_1 a3_2 a3_3 fun y0 y1 y2 y3 y4 => zcv f m y0 y1 y2 y3 fun y0 y1 y2 y3 => zac a3_0 a3_1 a3_2 a3_3 fun y0_1 y1_1 y2_1 y3_1 => zcw f m y0_1 y1_1 y2_1 y3_1 fun y0_2 y1_2 y2_2 y3_2 => br (eqI y4 0) (br (eqI y3 0) (br (eqI y3_2 0) (br (eqI y0 y0_2 && eqI y1 y1_2) (br (eqI y2 y2_2) (zax fun y0 => K y0) (K false)) (K false)) (K false)) (K false)) (K false))))))) := by
   refine yjC n c _ ?_
   rw [show sgE n 0 = 0 from rfl, yat (show (!eqI 0 0) = false from rfl)]
   exact tail
  cases (!(eqI 0 (Hi x) && eqI 0 (Lo x))) with
  | true => exact hs
  | false => exact tail
 ·have la : (nb a).length ≤ 8192 := by
   obtain ⟨N, hN⟩ : ∃ N, N = fp f := ⟨_, rfl⟩
   rw [← hN] at l1
   have := ycn f h
   exact (yfG _ _).2 (by have := (yaI _ _).2 l1; omega)
  refine ydq h hm4 c ha la lo _ (yoM h hx' fx c v ha _ ?_)
  rw [yat (show (!eqI 0 0) = false from rfl), yat (show (!eqI 0 0) = false from rfl), yem, yem]
  exact tail
end Go.Ev.S
