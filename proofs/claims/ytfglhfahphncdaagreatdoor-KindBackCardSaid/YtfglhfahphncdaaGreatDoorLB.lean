/- Encodings, their fields and their signs: the abacus and the document's answer. -/
import Derived.Test.YtfglhfahphncdaaGreatDoorLA
import Derived.Test.YtfglhfahphncdaaGreatDoorDA
set_option linter.unusedVariables false
set_option linter.unusedSimpArgs false
set_option maxRecDepth 8000
namespace Go.Ev.S
open Go Go.Ev
def ng (f x : Nat) : Bool := x.testBit (fw f - 1)
def ex (f x : Nat) : Nat := x / 2 ^ (fp f - 1) % (2 * fe f + 2)
def fr (f x : Nat) : Nat := x % 2 ^ (fp f - 1)
def yld (f x : Nat) : Nat := x ^^^ 2 ^ (fw f - 1)
theorem ynb (f x : Nat) : ex f x ≤ 2 * fe f + 1 := by unfold ex; have := Nat.mod_lt (x / 2 ^ (fp f - 1)) (show 0 < 2 * fe f + 2 by omega); omega
theorem yhA (f x : Nat) : fr f x < 2 ^ (fp f - 1) := Nat.mod_lt _ (Nat.two_pow_pos _)
theorem ypU (f : Nat) (h : f ≤ 3) : 2 * fe f + 2 = 2 ^ (fw f - fp f) := by rcases yec h with rfl | rfl | rfl | rfl <;> decide
theorem yiG (f : Nat) (h : f ≤ 3) : fw f - 1 = (fp f - 1) + (fw f - fp f) ∧ fw f = fw f - 1 + 1 := by rcases yec h with rfl | rfl | rfl | rfl <;> decide
theorem ymq (f x : Nat) (h : f ≤ 3) (hx : x < 2 ^ fw f) : enc f (ng f x) (ex f x) (fr f x) = x := by
 have h1 : x = x / 2 ^ (fp f - 1) * 2 ^ (fp f - 1) + fr f x := by
  unfold fr; have := Nat.div_add_mod x (2 ^ (fp f - 1)); rw [Nat.mul_comm]; omega
 have h2 : x % 2 ^ (fw f - 1) = ex f x * 2 ^ (fp f - 1) + fr f x := by
  unfold ex fr
  rw [ypU f h, (yiG f h).1, Nat.pow_add, Nat.mod_mul]
  rw [Nat.mul_comm]; omega
 have h3 := yqK x (fw f - 1)
 rw [← (yiG f h).2, Nat.mod_eq_of_lt hx] at h3
 unfold enc sg
 unfold ng
 cases hb : x.testBit (fw f - 1) with
 | false => rw [hb] at h3; simp at h3; simp only [cond_false]; omega
 | true => rw [hb] at h3; simp at h3; simp only [cond_true]; omega
theorem yoL (b k : Nat) (h : b < 2 ^ k) : b ^^^ 2 ^ k = b + 2 ^ k := by
 rw [← ypn b k h]
 apply Nat.eq_of_testBit_eq; intro j
 rw [Nat.testBit_xor, Nat.testBit_or, Nat.testBit_two_pow]
 by_cases hj : k = j
 ·subst hj
  rw [Nat.testBit_lt_two_pow h]; simp
 ·simp [hj]
theorem ye4 (f x : Nat) : yld f (yld f x) = x := by unfold yld; rw [Nat.xor_assoc, Nat.xor_self, Nat.xor_zero]
theorem ysA (f x : Nat) (h : f ≤ 3) (hx : x < 2 ^ fw f) : yld f x < 2 ^ fw f :=
 Nat.xor_lt_two_pow hx (Nat.pow_lt_pow_right (by omega) (by have := (yiG f h).2; omega))
theorem yqk (f x : Nat) (h : f ≤ 3) (hx : x < 2 ^ fw f) : enc f (!ng f x) (ex f x) (fr f x) = yld f x := by
 have hb := yg8 h (ynb f x) (yhA f x)
 have e := ymq f x h hx
 unfold enc sg at e ⊢
 cases hn : ng f x with
 | false =>
  rw [hn] at e
  simp only [cond_false] at e
  simp only [Bool.not_false, cond_true]
  unfold yld
  rw [yoL x _ (by omega)]; omega
 | true =>
  rw [hn] at e
  simp only [cond_true] at e
  simp only [Bool.not_true, cond_false]
  have e2 : x = yld f (ex f x * 2 ^ (fp f - 1) + fr f x) := by
   unfold yld; rw [yoL _ _ (by omega)]; omega
  rw [e2, ye4, ← e2]; omega
theorem ysh {f x : Nat} (h : f ≤ 3) (hx : x < 2 ^ fw f) : x < 2 ^ 128 := yuf (ycr f h).2.1 hx
theorem xQ6 {f x : Nat} (h : f ≤ 3) (hx : x < 2 ^ fw f) : x < Q6 := yqu (by have := (ycr f h).2.1; omega) hx
theorem ysP (a b : Nat) (ha : a < 9223372036854775808) (hb : b < 9223372036854775808) : yhq .i64 a b = ((a &&& b : Nat) : Int) := by
 have h1 : (BitVec.ofInt 64 (a : Int)) = BitVec.ofNat 64 a := by simp
 have h2 : (BitVec.ofInt 64 (b : Int)) = BitVec.ofNat 64 b := by simp
 have h3 : a &&& b < 9223372036854775808 := Nat.lt_of_le_of_lt Nat.and_le_left ha
 show IntKind.wrap .i64 (((BitVec.ofInt 64 (a : Int) &&& BitVec.ofInt 64 (b : Int) : BitVec 64).toNat : Nat) : Int) = _
 rw [h1, h2]
 rw [BitVec.toNat_and, BitVec.toNat_ofNat, BitVec.toNat_ofNat, Nat.mod_eq_of_lt (by omega), Nat.mod_eq_of_lt (by omega)]
 exact yf5 (by omega) (by omega)
theorem yqi (f : Nat) (h : f ≤ 3) : yae .i64 (fw f : Int) 1 = ((fw f - 1 : Nat) : Int) := by rcases yec h with rfl | rfl | rfl | rfl <;> decide
theorem ynG (f : Nat) (h : f ≤ 3) : yae .i64 (fp f : Int) 1 = ((fp f - 1 : Nat) : Int) := by rcases yec h with rfl | rfl | rfl | rfl <;> decide
theorem ytX (f : Nat) (h : f ≤ 3) : yae .i64 (fp f : Int) 2 = ((fp f - 2 : Nat) : Int) := by rcases yec h with rfl | rfl | rfl | rfl <;> decide
theorem ysD (x : Nat) (h : x < 18446744073709551616) : W x 0 = (x : Int) := by
 rw [ya5]; unfold wd; rw [Nat.mul_zero, Nat.pow_zero, Nat.div_one, Nat.mod_eq_of_lt h]
theorem ysV (f x : Nat) (h : f ≤ 3) (hx : x < 2 ^ fw f) : yhq .i64 (cvI .i64 (W (x / 2 ^ (fp f - 1)) 0)) ((2 * fe f + 1 : Nat) : Int) = (ex f x : Int) := by
 have h1 : x / 2 ^ (fp f - 1) < 131072 := by
  rw [Nat.div_lt_iff_lt_mul (Nat.two_pow_pos _)]
  have h3 : 2 ^ fw f ≤ 131072 * 2 ^ (fp f - 1) := by rcases yec h with rfl | rfl | rfl | rfl <;> decide
  omega
 have h2 := (ycr f h).2.2.2.2.2
 unfold ex
 generalize x / 2 ^ (fp f - 1) = v at *
 rw [ysD _ (by omega), yie (by omega) (by omega), ysP _ _ (by omega) (by omega), show 2 * fe f + 1 = 2 ^ (fw f - fp f) - 1 from by rw [← ypU f h]; omega, Nat.and_two_pow_sub_one_eq_mod, ← ypU f h]
theorem ycT (f x : Nat) (h : f ≤ 3) (hx : x < 2 ^ fw f) (K : Bool → Int → (Nat → Int) → Prop) (hK : K (ng f x) (ex f x) (W (fr f x))) : zbd f (Hi x) (Lo x) K := by
 have hw := ycr f h
 rw [zbd.is]; unfold zbd.d
 rw [yem x (ysh h hx), yaq f h, ybh f h, ynG f h, yqi f h]
 refine ycb _ (by omega) _ ?_
 refine ycA _ _ (xQ6 h hx) _ ?_
 refine yhT _ _ (xQ6 h hx) (by omega) _ fun b => ?_
 rw [ycL x _ (by omega)]
 have e1 : yae IntKind.i64 (ybA IntKind.i64 1 (cvI IntKind.u64 (yae IntKind.i64 (fw f : Int) (fp f : Int)))) 1 = ((2 * fe f + 1 : Nat) : Int) := by rcases yec h with rfl | rfl | rfl | rfl <;> decide
 have e2 : (!ltI (cvI IntKind.u64 (yae IntKind.i64 (fw f : Int) (fp f : Int))) 0) = true := by rcases yec h with rfl | rfl | rfl | rfl <;> decide
 rw [ya2 e2, e1, ysV f x h hx, Nat.and_two_pow_sub_one_eq_mod]
 exact hK
theorem yf3 (f x : Nat) (h : f ≤ 3) (hx : x < 2 ^ fw f) (K : Bool → Prop) : zax f (Hi x) (Lo x) K = K (ng f x) := by
 rw [zax.is]; unfold zax.d
 have hw := ycr f h
 rw [ybu f x h (ysh h hx), yaD (by simpa using hx), yem x (ysh h hx), ybh f h, yqi f h, ycL x _ (by omega)]
 rfl
theorem ycd (f x : Nat) (h : f ≤ 3) (hx : x < 2 ^ fw f) (K : Int → Int → Prop) : zat f (Hi x) (Lo x) K = K (Hi (yld f x)) (Lo (yld f x)) := by
 rw [zat.is]; unfold zat.d
 have e : enc f true 0 0 = 2 ^ (fw f - 1) := by simp [enc, sg]
 have hp : 2 ^ (fw f - 1) < 2 ^ 128 := Nat.pow_lt_pow_right (by omega) (by have := ycr f h; omega)
 rw [ybu f x h (ysh h hx), yau (by simpa using hx), ydr f h, e]
 obtain ⟨h1, h2⟩ := ysR x (2 ^ (fw f - 1)) (ysh h hx) hp
 rw [h1, h2]; rfl
def cls (f x : Nat) : Int :=
 if ex f x = 2 * fe f + 1 then (if fr f x ≠ 0 then cond ((fr f x).testBit (fp f - 2)) 9 8 else cond (ng f x) 0 7)
 else if ex f x ≠ 0 then cond (ng f x) 1 6 else if fr f x ≠ 0 then cond (ng f x) 2 5 else cond (ng f x) 3 4
theorem ykW (f x : Nat) : 0 ≤ cls f x ∧ cls f x ≤ 9 := by
 unfold cls
 cases ng f x <;> cases (fr f x).testBit (fp f - 2) <;> simp only [cond_true, cond_false] <;> (repeat' split) <;> omega
theorem yqY (x : Nat) (hx : x < Q6) : eqN 6 (W x) (fun _ => 0) = decide (x = 0) := by
 rw [Bool.eq_iff_iff, ypt, decide_eq_true_iff]
 constructor
 ·intro h
  obtain ⟨n, hn⟩ : ∃ n : Nat, n = 6 := ⟨6, rfl⟩
  refine yqx (n := n) (by rw [yeh (by omega)]; exact hx) (Nat.two_pow_pos _) fun i hi => ?_
  rw [hn] at hi
  have := h i hi
  rw [ya5] at this
  rw [ycl 0 i (Nat.two_pow_pos _)]; omega
 ·intro h i hi; subst h; rw [W_zero]
theorem yfz (b : Bool) (K : Int → Prop) (x y : Int) : br b (K x) (K y) = K (cond b x y) := by cases b <;> rfl
theorem ypf (f : Nat) (h : f ≤ 3) : yai .i64 (yaR .i64 2 (fe f : Int)) 1 = ((2 * fe f + 1 : Nat) : Int) := by rcases yec h with rfl | rfl | rfl | rfl <;> decide
theorem yt6 (f x : Nat) (h : f ≤ 3) : fr f x < Q6 := yqu (by have := ycr f h; omega) (yhA f x)
theorem ydl (f x : Nat) (h : f ≤ 3) (hx : x < 2 ^ fw f) (K : Int → Prop) (hK : K (cls f x)) : zbc f (Hi x) (Lo x) K := by
 have hw := ycr f h
 rw [zbc.is]; unfold zbc.d
 refine ycT f x h hx _ ?_
 rw [ya9 f h, ya9 f h, ypf f h, yfZ, yqY _ (yt6 f x h), show (0 : Int) = ((0 : Nat) : Int) from rfl, yfZ, yaq f h, ytX f h, ycL _ _ (by omega)]
 unfold cls at hK
 by_cases h1 : ex f x = 2 * fe f + 1
 ·rw [if_pos h1] at hK
  rw [yaD (by simpa using h1)]
  by_cases h2 : fr f x = 0
  ·rw [if_neg (by simpa using h2)] at hK
   have h3 : ex f x ≠ 0 := by omega
   rw [yau (by simpa using h2), yaD (by simpa using h3), yaD (by simpa using h2), yaD (by simpa using h1), yfz]; exact hK
  ·rw [if_pos h2] at hK
   rw [yaD (by simpa using h2), yfz]; exact hK
 ·rw [if_neg h1] at hK
  rw [yau (by simpa using h1)]
  by_cases h3 : ex f x = 0
  ·rw [if_neg (by simpa using h3)] at hK
   rw [yau (by simpa using h3), yau (by simpa using h3)]
   by_cases h2 : fr f x = 0
   ·rw [if_neg (by simpa using h2)] at hK
    rw [yau (by simpa using h2), yfz]; exact hK
   ·rw [if_pos h2] at hK
    rw [yaD (by simpa using h2), yfz]; exact hK
  ·rw [if_pos h3] at hK
   rw [yaD (by simpa using h3)]
   by_cases h2 : fr f x = 0
   ·rw [yaD (by simpa using h2), yau (by simpa using h1), yaD (by simpa using h3), yfz]; exact hK
   ·rw [yau (by simpa using h2), yaD (by simpa using h3), yfz]; exact hK
theorem yjg (f x : Nat) (h : f ≤ 3) (hx : x < 2 ^ fw f) (K : Int → Int → Prop) (hK : K (cls f x) 0) : zas f (Hi x) (Lo x) K := by
 rw [zas.is]; unfold zas.d
 rw [ybu f x h (ysh h hx), yau (by simpa using hx)]
 exact ydl f x h hx _ hK
end Go.Ev.S

/- Differences: of words, bit by bit; of numbers of six words. -/
set_option linter.unusedVariables false
set_option linter.unusedSimpArgs false
set_option maxRecDepth 8000
namespace Go.Ev.S
open Go Go.Ev
end Go.Ev.S

/- Quiet and next encodings: the abacus and the document's answer; the law KindSigns. -/
set_option linter.unusedVariables false
set_option linter.unusedSimpArgs false
set_option maxRecDepth 8000
namespace Go.Ev.S
open Go Go.Ev
def yt1 (f : Nat) : Nat := enc f false (2 * fe f + 1) (2 ^ (fp f - 2))
theorem ysW (f x : Nat) (hc : 8 ≤ cls f x) : ex f x = 2 * fe f + 1 := by
 unfold cls at hc
 apply Classical.byContradiction
 intro he
 rw [if_neg he] at hc
 revert hc
 cases ng f x <;> simp only [cond_true, cond_false] <;> (repeat' split) <;> omega
def quiet (f x : Nat) : Nat := if 8 ≤ cls f x then x ||| yt1 f else x
theorem ynQ (K : Int → (Nat → Int) → Int → (Nat → Int) → Int → Prop) (hK : K 6 (upd (fun _ => 0) 0 1024) (-10) (fun _ => 0) 0) : zaz (2 : Int) 0 15360 K := by
 have e1 : zaz (2 : Int) 0 15360 = zaz ((2 : Nat) : Int) (Hi 15360) (Lo 15360) := rfl
 rw [e1, zaz.is]; unfold zaz.d
 rw [ybu 2 15360 (by omega) (by decide), yau (by decide), yaq 2 (by omega)]
 refine ycT 2 15360 (by omega) (by decide) _ ?_
 refine ydl 2 15360 (by omega) (by decide) _ ?_
 have e2 : cls 2 15360 = 6 := by decide
 have e3 : ex 2 15360 = 15 := by decide
 have e4 : fr 2 15360 = 0 := by decide
 rw [e2, e3, e4, W_zero, yau (by decide), yau (by decide), yau (by decide), yaD (by decide), ya2 (by decide), ya2 (by decide), ya2 (by decide), ybw 2 (by omega)]
 exact hK
theorem yhC (K : Bool → Prop) (hK : K true) : zbg K := by
 rw [zbg.is]; unfold zbg.d
 have e1 : zas (2 : Int) 0 32768 = zas ((2 : Nat) : Int) (Hi 32768) (Lo 32768) := rfl
 rw [e1]
 refine yjg 2 32768 (by omega) (by decide) _ ?_
 refine ynQ _ ?_
 have e2 : zas (4 : Int) 0 0 = zas ((4 : Nat) : Int) 0 0 := rfl
 rw [e2, zas.is]; unfold zas.d
 rw [yeM 4 (by omega), yaD (by decide)]
 have e3 : cls 2 32768 = 3 := by decide
 rw [e3]
 exact hK
theorem yno (f x : Nat) : (f ≤ 3 ∧ x < 2 ^ fw f) ∨ (f ≤ 3 ∧ 2 ^ fw f ≤ x) ∨ 3 < f := by omega
theorem yjN (f x : Nat) (hx : x < 2 ^ 128) (hb : (f ≤ 3 ∧ 2 ^ fw f ≤ x) ∨ 3 < f) (K : Bool → Prop) (hK : K false) : zch f (Hi x) (Lo x) K := by
 rcases hb with ⟨h, h2⟩ | h
 ·refine ylF f x h hx _ ?_
  have : decide (x < 2 ^ fw f) = false := by simpa using h2
  rw [this]; exact hK
 ·rw [ylu f h]; exact hK
end Go.Ev.S

/- The parts of an encoding: the abacus and the document's answer. -/
set_option linter.unusedVariables false
set_option linter.unusedSimpArgs false
set_option maxRecDepth 8000
namespace Go.Ev.S
open Go Go.Ev
def isN (c : Int) : Bool := eqI c 1 || eqI c 6
def isS (c : Int) : Bool := eqI c 2 || eqI c 5
def isQ (c : Int) : Bool := eqI c 8 || eqI c 9
def ycf (f x : Nat) : Nat := cond (isN (cls f x)) (fr f x + 2 ^ (fp f - 1)) (cond (isS (cls f x)) (fr f x) 0)
def ydb (f x : Nat) : Int := cond (isN (cls f x)) ((ex f x : Int) + 1 - fe f - fp f) (cond (isS (cls f x)) (2 - (fe f : Int) - fp f) 0)
def ufr (f x : Nat) : Nat := cond (isQ (cls f x)) (fr f x) 0
theorem ylc (f x : Nat) : cls f x = 0 ∨ cls f x = 1 ∨ cls f x = 2 ∨ cls f x = 3 ∨ cls f x = 4 ∨ cls f x = 5 ∨ cls f x = 6 ∨ cls f x = 7 ∨ cls f x = 8 ∨ cls f x = 9 := by
 have := ykW f x; omega
theorem yr8 (f x : Nat) (h : isS (cls f x) = true) : ex f x = 0 := by
 unfold isS at h
 apply Classical.byContradiction
 intro he
 unfold cls at h
 rw [if_pos he] at h
 revert h
 cases ng f x <;> cases (fr f x).testBit (fp f - 2) <;> simp only [cond_true, cond_false] <;> (repeat' split) <;> simp [eqI]
theorem ybE (f x : Nat) (h : f ≤ 3) (hx : x < 2 ^ fw f) (K : Int → (Nat → Int) → Int → (Nat → Int) → Int → Prop) (hK : K (cls f x) (W (ycf f x)) (ydb f x) (W (ufr f x)) 0) : zaz f (Hi x) (Lo x) K := by
 have hw := ycr f h
 have hz : (fun _ : Nat => (0 : Int)) = W 0 := W_zero.symm
 have hex := ynb f x
 rw [zaz.is]; unfold zaz.d
 rw [ybu f x h (ysh h hx), yau (by simpa using hx), yaq f h]
 refine ycT f x h hx _ ?_
 refine ydl f x h hx _ ?_
 have q1 : yaH IntKind.i64 (yae IntKind.i64 (fp f : Int) 1) 64 = (((fp f - 1) / 64 : Nat) : Int) := by rw [ynG f h, yos _ (by omega)]
 have q2 : cvI IntKind.u64 (yb6 IntKind.i64 (yae IntKind.i64 (fp f : Int) 1) 64) = (((fp f - 1) % 64 : Nat) : Int) := by rw [ynG f h, yps, yaY (by omega) (by omega)]
 have g1 : (leI 0 (((fp f - 1) / 64 : Nat) : Int) && ltI (((fp f - 1) / 64 : Nat) : Int) 6) = true := ybz (by omega) (by omega)
 have g2 : (!ltI (((fp f - 1) % 64 : Nat) : Int) 0) = true := ygA (by omega)
 have e1 : yai IntKind.i64 (yae IntKind.i64 (yai IntKind.i64 (yae IntKind.i64 (ex f x : Int) 1) (1 - (fe f : Int))) (fp f : Int)) 1 = (ex f x : Int) + 1 - fe f - fp f := by
  have s1 : yae .i64 (ex f x : Int) 1 = (ex f x : Int) - 1 := yar (by omega) (by omega)
  have s2 : yai .i64 ((ex f x : Int) - 1) (1 - (fe f : Int)) = (ex f x : Int) - 1 + (1 - (fe f : Int)) := yaw (by omega) (by omega)
  have s3 : yae .i64 ((ex f x : Int) - 1 + (1 - (fe f : Int))) (fp f : Int) = (ex f x : Int) - 1 + (1 - (fe f : Int)) - fp f := yar (by omega) (by omega)
  have s4 : yai .i64 ((ex f x : Int) - 1 + (1 - (fe f : Int)) - fp f) 1 = (ex f x : Int) - 1 + (1 - (fe f : Int)) - fp f + 1 := yaw (by omega) (by omega)
  rw [s1, s2, s3, s4]; omega
 have e2 : isS (cls f x) = true → yai IntKind.i64 (yae IntKind.i64 (yai IntKind.i64 (ex f x : Int) (1 - (fe f : Int))) (fp f : Int)) 1 = 2 - (fe f : Int) - fp f := by
  intro hs
  have := yr8 f x hs
  have s2 : yai .i64 (ex f x : Int) (1 - (fe f : Int)) = (ex f x : Int) + (1 - (fe f : Int)) := yaw (by omega) (by omega)
  have s3 : yae .i64 ((ex f x : Int) + (1 - (fe f : Int))) (fp f : Int) = (ex f x : Int) + (1 - (fe f : Int)) - fp f := yar (by omega) (by omega)
  have s4 : yai .i64 ((ex f x : Int) + (1 - (fe f : Int)) - fp f) 1 = (ex f x : Int) + (1 - (fe f : Int)) - fp f + 1 := yaw (by omega) (by omega)
  rw [s2, s3, s4]; omega
 have hsig : upd (W (fr f x)) ((fp f - 1) / 64) (orI .u64 (W (fr f x) ((fp f - 1) / 64)) (ybA .u64 1 (((fp f - 1) % 64 : Nat) : Int))) = W (fr f x + 2 ^ (fp f - 1)) := by
  rw [ymt, ypn _ _ (yhA f x)]
 rw [q1, q2, ya2 g1, ya2 g2, ya2 g1, Int.toNat_natCast, hsig, ybw f h, ybw f h, e1, hz]
 unfold ycf ydb ufr at hK
 rcases ylc f x with c | c | c | c | c | c | c | c | c | c <;> rw [c] at hK ⊢ <;> rw [c] at e2 <;> first
  | exact hK
  | (rw [e2 rfl]; exact hK)
end Go.Ev.S

/- Signs put together, words and classes: the abacus and the document's answer; the laws of signs. -/
set_option linter.unusedVariables false
set_option linter.unusedSimpArgs false
set_option maxRecDepth 8000
namespace Go.Ev.S
open Go Go.Ev
end Go.Ev.S

/- The plain laws of SignWords and SignBack. -/
set_option linter.unusedVariables false
set_option linter.unusedSimpArgs false
set_option maxRecDepth 8000
namespace Go.Ev.S
open Go Go.Ev
def ext (w x : Nat) : Nat := cond (x.testBit (w - 1)) (x % 2 ^ w + (18446744073709551616 - 2 ^ w)) (x % 2 ^ w)
end Go.Ev.S

/- Encodings compared: what the functions come to. -/
set_option linter.unusedVariables false
set_option linter.unusedSimpArgs false
set_option maxRecDepth 8000
namespace Go.Ev.S
open Go Go.Ev
end Go.Ev.S

/- The order of all encodings; the lesser and the greater one. -/
set_option linter.unusedVariables false
set_option linter.unusedSimpArgs false
set_option maxRecDepth 8000
namespace Go.Ev.S
open Go Go.Ev
end Go.Ev.S

/- What encodings say: their exact values, in order. -/
set_option linter.unusedVariables false
set_option linter.unusedSimpArgs false
set_option maxRecDepth 8000
namespace Go.Ev.S
open Go Go.Ev
theorem ytI (q t P : Nat) (h : t < P) : (q * P + t) / P = q ∧ (q * P + t) % P = t := by
 constructor
 ·rw [Nat.mul_comm, Nat.mul_add_div (by omega), Nat.div_eq_of_lt h, Nat.add_zero]
 ·rw [Nat.mul_comm, Nat.mul_add_mod, Nat.mod_eq_of_lt h]
def mg (f x : Nat) : Nat := ex f x * 2 ^ (fp f - 1) + fr f x
theorem yug (f x : Nat) (h : f ≤ 3) (hx : x < 2 ^ fw f) : x = sg f (ng f x) + mg f x := by
 have := ymq f x h hx
 unfold enc at this
 unfold mg; omega
theorem yk5 (f x : Nat) : mg f x = 0 ↔ ex f x = 0 ∧ fr f x = 0 := by
 have hp := Nat.two_pow_pos (fp f - 1)
 unfold mg
 constructor
 ·intro h
  have h1 : ex f x * 2 ^ (fp f - 1) = 0 := by omega
  rcases Nat.mul_eq_zero.1 h1 with h2 | h2
  ·exact ⟨h2, by omega⟩
  ·omega
 ·rintro ⟨h1, h2⟩; rw [h1, h2]; omega
def fin (f x : Nat) : Prop := ex f x ≠ 2 * fe f + 1
theorem yp6 (f x : Nat) : fin f x ↔ (1 ≤ cls f x ∧ cls f x ≤ 6) := by
 unfold fin cls
 cases ng f x <;> cases (fr f x).testBit (fp f - 2) <;> simp only [cond_true, cond_false] <;> (repeat' split) <;> constructor <;> intros <;> first | omega | simp_all
theorem ypz (f x : Nat) (hf : fin f x) : ycf f x = if ex f x = 0 then fr f x else fr f x + 2 ^ (fp f - 1) := by
 unfold fin at hf
 unfold ycf cls
 rw [if_neg hf]
 by_cases h1 : ex f x = 0
 ·rw [if_neg (by simpa using h1), if_pos h1]
  by_cases h2 : fr f x = 0
  ·rw [if_neg (by simpa using h2)]
   cases ng f x <;> simp [isN, isS, eqI, h2]
  ·rw [if_pos h2]
   cases ng f x <;> simp [isN, isS, eqI]
 ·rw [if_pos h1, if_neg h1]
  cases ng f x <;> simp [isN, isS, eqI]
theorem ysI (f x : Nat) (hf : fin f x) (h0 : mg f x ≠ 0) : ydb f x = if ex f x = 0 then 2 - (fe f : Int) - fp f else (ex f x : Int) + 1 - fe f - fp f := by
 unfold fin at hf
 unfold ydb cls
 rw [if_neg hf]
 by_cases h1 : ex f x = 0
 ·have h2 : fr f x ≠ 0 := fun h2 => h0 ((yk5 f x).2 ⟨h1, h2⟩)
  rw [if_neg (by simpa using h1), if_pos h1, if_pos h2]
  cases ng f x <;> simp [isN, isS, eqI]
 ·rw [if_pos h1, if_neg h1]
  cases ng f x <;> simp [isN, isS, eqI]
theorem yjV (f x : Nat) (hf : fin f x) : ycf f x = 0 ↔ mg f x = 0 := by
 rw [ypz f x hf, yk5]
 have hp := Nat.two_pow_pos (fp f - 1)
 split
 ·rename_i h; simp [h]
 ·rename_i h; constructor
  ·intro; omega
  ·rintro ⟨h1, _⟩; exact absurd h1 h
end Go.Ev.S

/- Exact numbers compared, as rational ones; encodings compared by their values. -/
set_option linter.unusedVariables false
set_option linter.unusedSimpArgs false
set_option maxRecDepth 8000
namespace Go.Ev.S
open Go Go.Ev
section
variable {n1 n2 : Bool} {a1 b1 a2 b2 : Nat} {e1 e2 : Int}
end
theorem ymZ {x : Nat} (h : x < Q6) : fit x := by
 unfold fit
 obtain ⟨N, hN⟩ : ∃ N, N = 48 := ⟨_, rfl⟩
 have : (nb x).length ≤ N := by rw [ycD, yp9, ytL hN]; exact h
 omega
theorem yi8 : fit 1 := by unfold fit; rw [yfQ]; decide
theorem yjm (f x : Nat) (h : f ≤ 3) : ycf f x < 2 ^ fp f := by
 have h1 := yhA f x
 have h2 : 2 ^ fp f = 2 ^ (fp f - 1) + 2 ^ (fp f - 1) := by
  rcases yec h with rfl | rfl | rfl | rfl <;> decide
 have hp := Nat.two_pow_pos (fp f - 1)
 unfold ycf
 cases isN (cls f x) <;> cases isS (cls f x) <;> simp only [cond_true, cond_false] <;> omega
theorem yey (f x : Nat) (h : f ≤ 3) : ycf f x < Q6 := yqu (by have := ycr f h; omega) (yjm f x h)
theorem ycy (f x : Nat) (h : f ≤ 3) : -16495 ≤ ydb f x ∧ ydb f x ≤ 16272 := by
 have h1 := ynb f x
 unfold ydb
 rcases yec h with rfl | rfl | rfl | rfl <;> simp only [fe, fp] at * <;> cases isN (cls _ x) <;> cases isS (cls _ x) <;> simp only [cond_true, cond_false] <;> omega
theorem ynO {x n : Nat} (h0 : x ≠ 0) (h : x < 2 ^ n) : ybG x < n := ylo x n h0 h
theorem ysF (f x : Nat) (h : f ≤ 3) (h0 : ycf f x ≠ 0) : -16495 ≤ rdE (ycf f x) 1 (ydb f x) ∧ rdE (ycf f x) 1 (ydb f x) ≤ 16385 := by
 have h1 := ycy f x h
 have h2 := ynO h0 (yjm f x h)
 have h3 : ybG 1 = 0 := by rw [ybG]; simp
 have h4 : fp f ≤ 113 := by rcases yec h with rfl | rfl | rfl | rfl <;> decide
 unfold rdE; rw [h3]; omega
theorem yrj (f x : Nat) (h : f ≤ 3) (K : Bool → List UInt8 → List UInt8 → Int → Int → Prop)
  (hK : ∀ n a e, Can n a 1 e → V n a 1 e = V (ng f x) (ycf f x) 1 (ydb f x) → a < 2 ^ fp f → -16495 ≤ e → e ≤ 16385 → K n (nb a) [1] e 0) : mkE (ng f x) (ycf f x) 1 (ydb f x) K := by
 unfold mkE
 by_cases h0 : ycf f x = 0
 ·rw [if_pos h0]
  have := hK false 0 0 ⟨by unfold fit; rw [ybe]; decide, yi8, rfl, by unfold win; omega, fun _ => ⟨rfl, rfl, rfl⟩, fun h => absurd rfl h⟩ (by rw [h0, yo4, yo4]) (Nat.two_pow_pos _) (by omega) (by omega)
  rwa [ybe] at this
 ·rw [if_neg h0]
  have w := ysF f x h h0
  rw [if_pos (by unfold win; omega)]
  have e1 : rdB (ycf f x) 1 = 1 := by
   have : odp 1 = 1 := by unfold odp; rw [show ybG 1 = 0 from by rw [ybG]; simp]
   unfold rdB; rw [this, Nat.gcd_one_right]
  obtain ⟨r1, r2, r3⟩ := ymk h0 (show (1 : Nat) ≠ 0 by omega)
  have hV := yuk (ng f x) (ydb f x) h0 (show (1 : Nat) ≠ 0 by omega)
  rw [e1] at hV r3 ⊢
  rw [yfQ]
  have hl : rdA (ycf f x) 1 ≤ ycf f x := Nat.le_trans (Nat.div_le_self _ _) (Nat.div_le_self _ _)
  exact hK _ _ _ ⟨ymx (ymZ (yey f x h)) hl, yi8, rfl, by unfold win; omega, fun hh => by omega, fun _ => ⟨r1, r3⟩⟩ hV (Nat.lt_of_le_of_lt hl (yjm f x h)) w.1 w.2
end Go.Ev.S

/- Exact numbers: made, signs, products, places, sums. -/
set_option linter.unusedVariables false
set_option linter.unusedSimpArgs false
set_option maxRecDepth 8000
namespace Go.Ev.S
open Go Go.Ev
end Go.Ev.S

/- Exact numbers as rational ones: bounds, sums, products, whole parts. -/
set_option linter.unusedVariables false
set_option linter.unusedSimpArgs false
set_option maxRecDepth 8000
namespace Go.Ev.S
open Go Go.Ev
theorem yrm {x P : Nat} (h : x < 2 ^ P) (hP : P ≤ 131072) : fit x := by
 rw [ymF]; have := (yaN x P).2 h; omega
section
variable {n1 n2 : Bool} {a1 b1 a2 b2 : Nat} {e1 e2 : Int} {P1 E1 P2 E2 : Nat}
end
end Go.Ev.S

/- A field's laws; a whole part and the next. -/
set_option linter.unusedVariables false
set_option linter.unusedSimpArgs false
set_option maxRecDepth 8000
namespace Go.Ev.S
open Go Go.Ev
end Go.Ev.S

/- Decimal digits. -/
set_option linter.unusedVariables false
set_option linter.unusedSimpArgs false
set_option maxRecDepth 8000
namespace Go.Ev.S
open Go Go.Ev
open Go.Lib (decDigits nDigits)
theorem yhX (k : Nat) : ∀ u, u < 10 ^ (k + 1) → nDigits u ≤ k + 1 := by
 induction k with
 | zero => intro u h; rw [Go.Lib.nDigits_small (by simpa using h)]; omega
 | succ k ih =>
  intro u h
  by_cases h1 : u < 10
  ·rw [Go.Lib.nDigits_small h1]; omega
  ·rw [Go.Lib.nDigits_big h1]
   have := ih (u / 10) (by rw [Nat.pow_succ] at h; omega)
   omega
theorem ymc {n : Int} (h1 : -9223372036854775808 ≤ n) (h2 : n ≤ 9223372036854775807) : (Go.Lib.itoa n).length ≤ 21 := by
 unfold Go.Lib.itoa
 split
 ·have := yhX 19 n.natAbs (by omega)
  rw [List.length_cons, Go.Lib.decDigits_length]; omega
 ·have := yhX 19 n.toNat (by omega)
  rw [Go.Lib.decDigits_length]; omega
end Go.Ev.S

/- Texts of numbers, read back. -/
set_option linter.unusedVariables false
set_option linter.unusedSimpArgs false
set_option maxRecDepth 8000
namespace Go.Ev.S
open Go Go.Ev
open Go.Lib (decDigits nDigits indexByte parseUint10 parseMag atoiAll)
theorem yms (d k i : Nat) (hd : d < 16) : wd (d * 2 ^ (4 * k)) i = if i = k / 16 then d * 2 ^ (4 * (k % 16)) else 0 := by
 have hk : 4 * k = 64 * (k / 16) + 4 * (k % 16) := by omega
 have hs : 4 * (k % 16) + 4 ≤ 64 := by omega
 have hb : d * 2 ^ (4 * (k % 16)) < 18446744073709551616 := by
  have h1 : d * 2 ^ (4 * (k % 16)) < 16 * 2 ^ (4 * (k % 16)) := Nat.mul_lt_mul_of_pos_right hd (Nat.two_pow_pos _)
  have h2 : 16 * 2 ^ (4 * (k % 16)) = 2 ^ (4 * (k % 16) + 4) := by rw [Nat.pow_add, Nat.mul_comm]
  have h3 : 2 ^ (4 * (k % 16) + 4) ≤ 2 ^ 64 := Nat.pow_le_pow_right (by omega) hs
  have h4 : (2 : Nat) ^ 64 = 18446744073709551616 := rfl
  omega
 have e : d * 2 ^ (4 * k) = d * 2 ^ (4 * (k % 16)) * 2 ^ (64 * (k / 16)) := by rw [Nat.mul_assoc, ← Nat.pow_add]; congr 2; omega
 rw [e]
 generalize d * 2 ^ (4 * (k % 16)) = w at hb ⊢
 generalize k / 16 = j
 unfold wd
 by_cases h : i = j
 ·subst h; rw [if_pos rfl, Nat.mul_div_cancel _ (Nat.two_pow_pos _), Nat.mod_eq_of_lt hb]
 ·rw [if_neg h]
  rcases Nat.lt_or_gt_of_ne h with g | g
  ·have e2 : 2 ^ (64 * j) = 2 ^ (64 * (j - i - 1)) * 18446744073709551616 * 2 ^ (64 * i) := by
    rw [show (18446744073709551616 : Nat) = 2 ^ 64 from rfl, ← Nat.pow_add, ← Nat.pow_add]; congr 1; omega
   rw [e2, ← Nat.mul_assoc, ← Nat.mul_assoc, Nat.mul_div_cancel _ (Nat.two_pow_pos _), Nat.mul_mod_left]
  ·rw [Nat.div_eq_of_lt, Nat.zero_mod]
   have e2 : 2 ^ (64 * i) = 2 ^ (64 * (i - j)) * 2 ^ (64 * j) := by rw [← Nat.pow_add]; congr 1; omega
   rw [e2]
   refine Nat.mul_lt_mul_of_pos_right (Nat.lt_of_lt_of_le hb ?_) (Nat.two_pow_pos _)
   rw [show (18446744073709551616 : Nat) = 2 ^ 64 from rfl]
   exact Nat.pow_le_pow_right (by omega) (by omega)
theorem ysd (x d k : Nat) (hm : x % 2 ^ (4 * (k + 1)) = 0) (hd : d < 16) : upd (W x) (k / 16) (orI .u64 (W x (k / 16)) (ybA .u64 (d : Int) ((4 * (k % 16) : Nat) : Int))) = W (x + d * 16 ^ k) := by
 have hs : 4 * (k % 16) + 4 ≤ 64 := by omega
 have hsm := yms d k (k / 16) hd
 rw [if_pos rfl] at hsm
 have hb : d * 2 ^ (4 * (k % 16)) < 18446744073709551616 := by rw [← hsm]; exact ycN _ _
 have e1 : ybA .u64 (d : Int) ((4 * (k % 16) : Nat) : Int) = ((d * 2 ^ (4 * (k % 16)) : Nat) : Int) := by
  rw [ynZ rfl _ _ (by show 4 * (k % 16) ≤ 64; omega), Nat.mod_eq_of_lt (by exact hb)]
 have e2 : x + d * 16 ^ k = d * 2 ^ (4 * k) ||| x := by
  rw [yg0 (r := 4 * (k + 1)) ?_ hm, p16]; omega
  rw [show 4 * (k + 1) = 4 * k + 4 from by omega, Nat.pow_add, Nat.mul_comm (2 ^ (4 * k))]
  exact Nat.mul_lt_mul_of_pos_right hd (Nat.two_pow_pos _)
 rw [e1, ya5, ysw rfl _ _ (ycN _ _) hb, e2]
 funext i
 rw [ya5, ytj, yms d k i hd]
 by_cases h : i = k / 16
 ·subst h; rw [ybv, if_pos rfl, Nat.or_comm]
 ·rw [yco _ _ _ _ h, if_neg h, Nat.zero_or]; rfl
def yj6 (c : UInt8) : Option Nat := if 48 ≤ c.toNat ∧ c.toNat ≤ 57 then some (c.toNat - 48) else if 97 ≤ c.toNat ∧ c.toNat ≤ 102 then some (c.toNat - 87) else none
def yes : List UInt8 → Nat → Option Nat
 | [], v => some v
 | c :: l, v => match yj6 c with
  | some d => yes l (v * 16 + d)
  | none => none
theorem ypo {c : UInt8} {d : Nat} (h : yj6 c = some d) : d < 16 := by
 unfold yj6 at h
 split at h
 ·cases h; omega
 ·split at h
  ·cases h; omega
  ·cases h
theorem yki : ∀ (l r : List UInt8) (v w : Nat), yes l v = some w → yes (l ++ r) v = yes r w
 | [], r, v, w, h => by cases h; rfl
 | c :: l, r, v, w, h => by
  simp only [yes, List.cons_append] at h ⊢
  cases hc : yj6 c with
  | none => rw [hc] at h; cases h
  | some d => rw [hc] at h; exact yki l r _ _ h
theorem ymQ : ∀ (l : List UInt8) (v w n : Nat), v < 16 ^ n → yes l v = some w → w < 16 ^ (n + l.length)
 | [], v, w, n, hv, h => by cases h; exact hv
 | c :: l, v, w, n, hv, h => by
  simp only [yes] at h
  cases hc : yj6 c with
  | none => rw [hc] at h; cases h
  | some d =>
   rw [hc] at h
   have hd := ypo hc
   have := ymQ l (v * 16 + d) w (n + 1) (by rw [Nat.pow_succ]; omega) h
   rw [List.length_cons, show n + (l.length + 1) = n + 1 + l.length from by omega]; exact this
def rdW (s : List UInt8) : Option Nat := if s.length < 1 ∨ 96 < s.length ∨ (1 < s.length ∧ (s[0]?).getD 0 = 48) then none else yes s 0
theorem ynf {s : List UInt8} {i : Nat} (h : i < s.length) : yaI s i = (((s[i]).toNat : Nat) : Int) := by
 unfold yaI; rw [List.getElem?_eq_getElem h]; rfl
theorem yhM (s : List UInt8) (hs : s.length ≤ 96) (k0 : Int → (Nat → Int) → Prop) (k1 : (Nat → Int) → (Nat → Int) → Prop) (z : Nat → Int) :
  ∀ (j i V : Nat), i + j = s.length → (∀ v, yes (s.drop i) V = some v → k1 z (W v)) → (yes (s.drop i) V = none → k0 20 (fun _ => 0)) → ∃ m, zdj.l5 k0 k1 m s (i : Int) z (W (V * 16 ^ (s.length - i))) := by
 intro j
 induction j with
 | zero =>
  intro i V hi h1 h2
  refine ⟨1, ?_⟩
  unfold zdj.l5 zdj.l5.step
  rw [yau (yb0 (by omega))]
  have hd : s.drop i = [] := List.drop_eq_nil_of_le (by omega)
  rw [show s.length - i = 0 from by omega, Nat.pow_zero, Nat.mul_one]
  exact h1 V (by rw [hd]; rfl)
 | succ j ih =>
  intro i V hi h1 h2
  have hlt : i < s.length := by omega
  have hdr : s.drop i = s[i] :: s.drop (i + 1) := List.drop_eq_getElem_cons hlt
  rw [hdr] at h1 h2
  generalize hc : s[i] = c at h1 h2
  have hb : yaI s i = ((c.toNat : Nat) : Int) := by rw [ynf hlt, hc]
  have hcl := c.toNat_lt
  have ek : yae .i64 (yae .i64 (↑s.length) 1) (i : Int) = ((s.length - 1 - i : Nat) : Int) := by
   rw [yar (a := (s.length : Int)) (by omega) (by omega), yar (by omega) (by omega)]; omega
  have e1 : yaH .i64 ((s.length - 1 - i : Nat) : Int) 16 = (((s.length - 1 - i) / 16 : Nat) : Int) := yiM _ 16 (by omega) (by omega)
  have e2 : yb6 .i64 ((s.length - 1 - i : Nat) : Int) 16 = (((s.length - 1 - i) % 16 : Nat) : Int) := ylR .i64 _ 16
  have e3 : cvI .u64 (yaR .i64 4 (((s.length - 1 - i) % 16 : Nat) : Int)) = ((4 * ((s.length - 1 - i) % 16) : Nat) : Int) := by
   rw [ycM (by omega) (by omega), yaY (by omega) (by omega)]; omega
  have ei : yai .i64 (i : Int) 1 = ((i + 1 : Nat) : Int) := by rw [yaw (by omega) (by omega)]; omega
  have g1 : (leI 0 (((s.length - 1 - i) / 16 : Nat) : Int) && ltI (((s.length - 1 - i) / 16 : Nat) : Int) 6) = true := by
   simp only [Bool.and_eq_true]; exact ⟨ya7 (by omega), ybn (by omega)⟩
  have g2 : (!ltI ((4 * ((s.length - 1 - i) % 16) : Nat) : Int) 0) = true := by rw [yb0 (by omega)]; rfl
  have go : ∀ d : Nat, yj6 c = some d → ∃ m, zdj.l5 k0 k1 m s ((i + 1 : Nat) : Int) z (upd (W (V * 16 ^ (s.length - i))) ((s.length - 1 - i) / 16) (orI .u64 (W (V * 16 ^ (s.length - i)) ((s.length - 1 - i) / 16)) (ybA .u64 (d : Int) ((4 * ((s.length - 1 - i) % 16) : Nat) : Int)))) := by
   intro d hd
   have hd16 := ypo hd
   simp only [yes, hd] at h1 h2
   have hp : s.length - i = s.length - 1 - i + 1 := by omega
   rw [ysd _ d _ (by rw [hp, ← p16]; exact Nat.mul_mod_left _ _) hd16]
   have e : V * 16 ^ (s.length - i) + d * 16 ^ (s.length - 1 - i) = (V * 16 + d) * 16 ^ (s.length - (i + 1)) := by
    rw [hp, Nat.pow_succ, show s.length - (i + 1) = s.length - 1 - i from by omega, Nat.add_mul]
    rw [Nat.mul_comm (16 ^ (s.length - 1 - i)) 16, ← Nat.mul_assoc]
   rw [e]
   exact ih (i + 1) (V * 16 + d) (by omega) h1 h2
  have fail : yj6 c = none → k0 20 (fun _ => 0) := fun hn => h2 (by simp only [yes, hn])
  by_cases c1 : 48 ≤ c.toNat ∧ c.toNat ≤ 57
  ·obtain ⟨m, hm⟩ := go (c.toNat - 48) (by unfold yj6; rw [if_pos c1])
   refine ⟨m + 1, ?_⟩
   unfold zdj.l5 zdj.l5.step
   rw [yaD (ybn (by omega)), ya2 (by simp only [Bool.and_eq_true]; exact ⟨ya7 (by omega), ybn (by omega)⟩), Int.toNat_natCast, hb, yaD (ya7 (by omega)), yaD (ya7 (by omega)), ek, e1, e2, e3, ya2 g1, ya2 g2, ya2 g1, Int.toNat_natCast, ei]
   have ed : cvI .u64 (yae .u8 ((c.toNat : Nat) : Int) 48) = ((c.toNat - 48 : Nat) : Int) := by
    have : yae .u8 ((c.toNat : Nat) : Int) 48 = ((c.toNat - 48 : Nat) : Int) := by
     show IntKind.wrap .u8 (((c.toNat : Nat) : Int) - 48) = _
     have := ysf (c.toNat - 48) (by omega)
     rw [show ((c.toNat : Nat) : Int) - 48 = ((c.toNat - 48 : Nat) : Int) from by omega]; exact this
    rw [this, yaY (by omega) (by omega)]
   rw [ed]; exact hm
  by_cases c2 : 97 ≤ c.toNat ∧ c.toNat ≤ 102
  ·obtain ⟨m, hm⟩ := go (c.toNat - 87) (by unfold yj6; rw [if_neg c1, if_pos c2])
   refine ⟨m + 1, ?_⟩
   unfold zdj.l5 zdj.l5.step
   rw [yaD (ybn (by omega)), ya2 (by simp only [Bool.and_eq_true]; exact ⟨ya7 (by omega), ybn (by omega)⟩), Int.toNat_natCast, hb, yaD (ya7 (by omega)), yau (yeC (by omega)), yaD (ya7 (by omega)), yaD (ya7 (by omega)), ek, e1, e2, e3, ya2 g1, ya2 g2, ya2 g1, Int.toNat_natCast, ei]
   have ed : yai .u64 (cvI .u64 (yae .u8 ((c.toNat : Nat) : Int) 97)) 10 = ((c.toNat - 87 : Nat) : Int) := by
    have : yae .u8 ((c.toNat : Nat) : Int) 97 = ((c.toNat - 97 : Nat) : Int) := by
     show IntKind.wrap .u8 (((c.toNat : Nat) : Int) - 97) = _
     have := ysf (c.toNat - 97) (by omega)
     rw [show ((c.toNat : Nat) : Int) - 97 = ((c.toNat - 97 : Nat) : Int) from by omega]; exact this
    rw [this, yaY (by omega) (by omega), yje (by omega) (by omega)]; omega
   rw [ed]; exact hm
  ·have hf := fail (by unfold yj6; rw [if_neg c1, if_neg c2])
   refine ⟨1, ?_⟩
   unfold zdj.l5 zdj.l5.step
   rw [yaD (ybn (by omega)), ya2 (by simp only [Bool.and_eq_true]; exact ⟨ya7 (by omega), ybn (by omega)⟩), Int.toNat_natCast, hb]
   by_cases q1 : 48 ≤ c.toNat
   ·rw [yaD (ya7 (by omega)), yau (yeC (by omega))]
    by_cases q2 : 97 ≤ c.toNat
    ·rw [yaD (ya7 (by omega)), yau (yeC (by omega))]; exact hf
    ·rw [yau (yeC (by omega))]; exact hf
   ·rw [yau (yeC (by omega)), yau (yeC (by omega))]; exact hf
theorem ykl (s : List UInt8) (K : (Nat → Int) → Int → Prop) (h1 : ∀ v, rdW s = some v → v < Q6 → K (W v) 0) (h2 : rdW s = none → K (W 0) 20) : zdj s K := by
 rw [zdj.is]; unfold zdj.d
 rw [W_zero] at h2
 by_cases l1 : s.length < 1
 ·rw [yaD (ybn (by omega))]; exact h2 (by unfold rdW; rw [if_pos (.inl l1)])
 rw [yau (yb0 (by omega))]
 by_cases l2 : 96 < s.length
 ·rw [yaD (ybn (by omega))]; exact h2 (by unfold rdW; rw [if_pos (.inr (.inl l2))])
 rw [yau (yb0 (by omega))]
 have hb0 : yaI s 0 = ((((s[0]?).getD 0).toNat : Nat) : Int) := rfl
 have run : ¬ (1 < s.length ∧ (s[0]?).getD 0 = 48) → ∃ n, zdj.l5 (fun y0 y1 => K y1 y0) (fun y0 y1 => K y1 0) n s 0 (fun x => 0) fun x => 0 := by
  intro hn
  have hr : rdW s = yes s 0 := by
   unfold rdW; rw [if_neg]
   rintro (a | a | a)
   ·omega
   ·omega
   ·exact hn a
  have := yhM s (by omega) (fun y0 y1 => K y1 y0) (fun y0 y1 => K y1 0) (fun x => 0) s.length 0 0 (by omega) (fun v hv => h1 v (by rw [hr]; exact hv) ?_) fun hv => h2 (by rw [hr]; exact hv)
  ·rw [Nat.zero_mul, W_zero] at this; exact this
  ·have hl := ymQ s 0 v 0 (by omega) hv
   rw [Nat.zero_add] at hl
   have hle : (16 : Nat) ^ s.length ≤ Q6 := by
    rw [p16]; exact ynX (by omega)
   exact Nat.lt_of_lt_of_le hl hle
 by_cases l3 : 1 < s.length
 ·rw [yaD (ybn (by omega)), ya2 (ybn (by omega))]
  by_cases l4 : (s[0]?).getD 0 = 48
  ·rw [yaD (yoi (by rw [hb0, l4]; rfl))]; exact h2 (by unfold rdW; rw [if_pos (.inr (.inr ⟨l3, l4⟩))])
  ·rw [yau (yhK (by
    rw [hb0]; intro hh
    apply l4
    have : ((s[0]?).getD 0).toNat = 48 := by omega
    exact UInt8.toNat.inj this))]
   exact run fun hh => l4 hh.2
 ·rw [yau (yb0 (by omega))]; exact run fun hh => l3 hh.1
theorem yjQ : ∀ d : Nat, d < 16 → yj6 (yph d) = some d := by decide
theorem yrd (v : Nat) : yes (hx v) 0 = some v := by
 induction v using Nat.strongRecOn with
 | _ v ih =>
  by_cases h : v = 0
  ·subst h; rw [yeu]; rfl
  ·rw [ye1 h, yki _ _ _ _ (ih (v / 16) (by omega))]
   simp only [yes, yjQ (v % 16) (Nat.mod_lt _ (by omega))]
   congr 1; omega
theorem ytf {v N : Nat} (hN : N = 96) (hv : v < 16 ^ N) : rdW (tw v) = some v := by
 unfold tw
 by_cases h : v = 0
 ·rw [if_pos h, h]; rfl
 ·rw [if_neg h]
  have hl : (hx v).length ≤ 96 := by rw [yrS, ← hN]; exact hv
  have hl0 : (hx v).length ≠ 0 := by
   rw [ye1 h]; simp
  have hh := ysB v h
  unfold rdW
  rw [if_neg]
  ·exact yrd v
  ·rintro (a | a | a)
   ·omega
   ·omega
   ·exact hh (by rw [a.2])
end Go.Ev.S

/- Pieces of texts; decimal texts read back. -/
set_option linter.unusedVariables false
set_option linter.unusedSimpArgs false
set_option maxRecDepth 8000
namespace Go.Ev.S
open Go Go.Ev
open Go.Lib (decDigits nDigits indexByte parseUint10 parseMag atoiAll)
theorem ykF : ∀ (l r : List UInt8) (c : UInt8), c ∉ l → indexByte (l ++ c :: r) c = (l.length : Int)
 | [], r, c, h => by simp [indexByte]
 | b :: l, r, c, h => by
  have hb : (b == c) = false := by rw [beq_eq_false_iff_ne]; intro hh; exact h (by rw [hh]; exact List.mem_cons_self)
  have ih := ykF l r c fun hh => h (List.mem_cons_of_mem _ hh)
  show (if b == c then 0 else if indexByte (l ++ c :: r) c == -1 then -1 else indexByte (l ++ c :: r) c + 1) = _
  rw [hb, ih, if_neg Bool.false_ne_true, if_neg (by simp only [beq_iff_eq]; omega), List.length_cons]; omega
theorem yil : ∀ (l : List UInt8) (c : UInt8), c ∉ l → indexByte l c = -1
 | [], c, h => rfl
 | b :: l, c, h => by
  have hb : (b == c) = false := by rw [beq_eq_false_iff_ne]; intro hh; exact h (by rw [hh]; exact List.mem_cons_self)
  have ih := yil l c fun hh => h (List.mem_cons_of_mem _ hh)
  show (if b == c then 0 else if indexByte l c == -1 then -1 else indexByte l c + 1) = _
  rw [hb, ih]; rfl
theorem yqW (s : List UInt8) (c : UInt8) : c ∉ s ∨ ∃ l r, s = l ++ c :: r ∧ c ∉ l := by
 induction s with
 | nil => left; simp
 | cons b s ih =>
  by_cases hb : c = b
  ·right; exact ⟨[], s, by rw [hb]; rfl, by simp⟩
  ·rcases ih with h | ⟨l, r, h1, h2⟩
   ·left; simp only [List.mem_cons, not_or]; exact ⟨hb, h⟩
   ·right; exact ⟨b :: l, r, by rw [h1]; rfl, by simp only [List.mem_cons, not_or]; exact ⟨hb, h2⟩⟩
theorem yek (s : List UInt8) (hs : s.length ≤ 9223372036854775806) (c : UInt8) (K : List UInt8 → List UInt8 → Bool → Prop) (h1 : ∀ l r, s = l ++ c :: r → c ∉ l → K l r true) (h2 : c ∉ s → K s [] false) : zcy s [c] K := by
 rw [zcy.is]; unfold zcy.d
 rw [zan.is]; unfold zan.d
 have done : ∀ i : Int, i = indexByte s c → br (leI 0 i) (gd (leI 0 i && leI i ↑s.length) (gd (leI 0 (yai .i64 i ↑([c] : List UInt8).length) && (leI (yai .i64 i ↑([c] : List UInt8).length) ↑s.length && leI ↑s.length ↑s.length)) (K (ykc s 0 i.toNat) (ykc s (yai .i64 i ↑([c] : List UInt8).length).toNat (Int.toNat ↑s.length)) true))) (K s [] false) := by
  rintro i rfl
  rcases yqW s c with h | ⟨l, r, hlr, hl⟩
  ·rw [yil s c h, yau (yeC (by omega))]; exact h2 h
  ·have hi : indexByte s c = (l.length : Int) := by rw [hlr]; exact ykF l r c hl
   have hlen : s.length = l.length + 1 + r.length := by rw [hlr, List.length_append, List.length_cons]; omega
   have e1 : yai .i64 (l.length : Int) ↑([c] : List UInt8).length = ((l.length + 1 : Nat) : Int) := by
    rw [List.length_cons, List.length_nil, yaw (by omega) (by omega)]; omega
   rw [hi, yaD (ya7 (by omega)), e1, ya2 (by rw [ya7 (by omega), ya7 (by omega)]; rfl), ya2 (by rw [ya7 (by omega), ya7 (by omega), ya7 (by omega)]; rfl), Int.toNat_natCast, Int.toNat_natCast, Int.toNat_natCast]
   have s1 : ykc s 0 l.length = l := by unfold ykc; rw [hlr, List.drop_zero, List.take_left']; rfl
   have s2 : ykc s (l.length + 1) s.length = r := by
    unfold ykc; rw [List.take_length, hlr]
    rw [show l ++ c :: r = (l ++ [c]) ++ r by simp]
    exact List.drop_left' (by simp)
   rw [s1, s2]; exact h1 l r hlr hl
 rw [zaq.is]; unfold zaq.d
 rw [yau (show eqI (↑([c] : List UInt8).length) 0 = false from rfl)]
 by_cases he : [c] = s
 ·rw [show eqS [c] s = true by rw [ydn]; exact decide_eq_true he, yaD rfl]
  exact done 0 (by rw [← he]; simp [indexByte])
 ·rw [show eqS [c] s = false by rw [ydn]; exact decide_eq_false he, yau rfl, yaD (show eqI (↑([c] : List UInt8).length) 1 = true from rfl), ya2 (by rfl), zar.is]
  unfold zar.d
  refine done _ ?_
  congr 1
  show UInt8.ofNat ((c.toNat : Int).toNat) = c
  rw [Int.toNat_natCast]; exact UInt8.ofNat_toNat
theorem ycn (s : List UInt8) (c : UInt8) (K : List UInt8 → Bool → Prop) (h1 : ∀ r, s = c :: r → K r true) (h2 : (s[0]?) ≠ some c → K s false) : zcz s [c] K := by
 rw [zcz.is]; unfold zcz.d
 rw [zao.is]; unfold zao.d
 rw [zap.is]; unfold zap.d
 cases s with
 | nil => exact h2 (by simp)
 | cons b r =>
  have hl : ((b :: r).length : Int) = (r.length : Int) + 1 := by rw [List.length_cons]; omega
  have hone : (([c] : List UInt8).length : Int) = 1 := rfl
  rw [hone, hl, yaD (ya7 (by omega)), ya2 (by rw [ya7 (by omega), ya7 (by omega)]; rfl)]
  have hsub : ykc (b :: r) 0 (Int.toNat 1) = [b] := rfl
  rw [hsub]
  by_cases hb : b = c
  ·subst hb
   rw [show eqS [b] [b] = true by rw [ydn]; exact decide_eq_true rfl]
   show br (!true) _ _
   rw [yau (show (!true) = false from rfl), ya2 (by rw [ya7 (by omega), ya7 (by omega), ya7 (by omega)]; rfl)]
   have : ykc (b :: r) (Int.toNat 1) ((r.length : Int) + 1).toNat = r := by
    rw [show ((r.length : Int) + 1).toNat = (b :: r).length from by rw [List.length_cons]; omega]
    unfold ykc; rw [List.take_length]; rfl
   rw [this]; exact h1 r rfl
  ·rw [show eqS [b] [c] = false by rw [ydn]; exact decide_eq_false (by simpa using hb)]
   exact h2 (by simpa using hb)
theorem ytK (v : Nat) : ∀ c ∈ hx v, yj6 c ≠ none := by
 induction v using Nat.strongRecOn with
 | _ v ih =>
  by_cases h : v = 0
  ·subst h; rw [yeu]; simp
  ·rw [ye1 h]
   intro c hc
   rcases List.mem_append.1 hc with g | g
   ·exact ih _ (by omega) c g
   ·rw [List.mem_singleton.1 g, yjQ _ (Nat.mod_lt _ (by omega))]; simp
theorem yoN (v : Nat) : ∀ c ∈ tw v, yj6 c ≠ none := by
 unfold tw
 by_cases h : v = 0
 ·rw [if_pos h]; decide
 ·rw [if_neg h]; exact ytK v
theorem yue (v : Nat) : tw v ≠ [] := by
 unfold tw
 by_cases h : v = 0
 ·rw [if_pos h]; simp
 ·rw [if_neg h, ye1 h]; simp
theorem ymO {v : Nat} (h : v < Q6) : (tw v).length ≤ 96 := by
 unfold tw
 by_cases h0 : v = 0
 ·rw [if_pos h0]; simp
 ·rw [if_neg h0]
  obtain ⟨N, hN⟩ : ∃ N, N = 96 := ⟨_, rfl⟩
  rw [← hN, yrS]; exact ytp hN h
theorem ylQ (u : Nat) : ∀ c ∈ decDigits u, 48 ≤ c.toNat ∧ c.toNat ≤ 57 := by
 have one : ∀ d, d < 10 → 48 ≤ (UInt8.ofNat (48 + d)).toNat ∧ (UInt8.ofNat (48 + d)).toNat ≤ 57 := by decide
 induction u using Nat.strongRecOn with
 | _ u ih =>
  by_cases h : u < 10
  ·rw [Go.Lib.decDigits_one h]
   intro c hc; rw [List.mem_singleton.1 hc]; exact one u h
  ·rw [decDigits, dif_neg h]
   intro c hc
   rcases List.mem_append.1 hc with g | g
   ·exact ih _ (by omega) c g
   ·rw [List.mem_singleton.1 g]; exact one _ (Nat.mod_lt _ (by omega))
theorem yj8 : ∀ (l r : List UInt8) (a b : Nat), parseUint10 a l = .ok b → parseUint10 a (l ++ r) = parseUint10 b r
 | [], r, a, b, h => by
  simp only [parseUint10] at h
  injection h with h; subst h; rfl
 | c :: l, r, a, b, h => by
  simp only [parseUint10, List.cons_append] at h ⊢
  split at h
  ·rename_i hc
   rw [if_pos hc]
   split at h
   ·cases h
   ·rename_i h1
    rw [if_neg h1]
    split at h
    ·cases h
    ·rename_i h2
     rw [if_neg h2]; exact yj8 l r _ _ h
  ·cases h
theorem ykv (u : Nat) (hu : u < 1000000000000000000) : parseUint10 0 (decDigits u) = .ok u := by
 have one : ∀ d, d < 10 → (UInt8.ofNat (48 + d)).toNat = 48 + d := by decide
 induction u using Nat.strongRecOn with
 | _ u ih =>
  by_cases h : u < 10
  ·rw [Go.Lib.decDigits_one h]
   simp only [parseUint10, one u h]
   rw [if_pos (by omega), if_neg (by omega), if_neg (by omega)]; congr 1; omega
  ·rw [decDigits, dif_neg h, yj8 _ _ _ _ (ih (u / 10) (by omega) (by omega))]
   simp only [parseUint10, one (u % 10) (Nat.mod_lt _ (by omega))]
   rw [if_pos (by omega), if_neg (by omega), if_neg (by omega)]; congr 1; omega
theorem yoJ (u : Nat) : decDigits u ≠ [] := by
 intro h
 have := Go.Lib.decDigits_length u
 have h2 := Go.Lib.nDigits_pos u
 rw [h] at this; simp at this; omega
theorem yoK {n : Int} (h1 : -1000000000000000000 < n) (h2 : n < 1000000000000000000) : atoiAll (Go.Lib.itoa n) = .ok n := by
 unfold Go.Lib.itoa
 by_cases hn : n < 0
 ·rw [if_pos hn]
  have hp : parseMag (decDigits n.natAbs) = .ok n.natAbs := by
   unfold parseMag; rw [if_neg (yoJ _)]; exact ykv _ (by omega)
  unfold atoiAll
  have e45 : ((45 : UInt8).toNat) = 45 := rfl
  simp only [e45, or_true, if_true, hp]
  rw [if_neg (by simp), if_neg (by omega)]
  congr 1; omega
 ·rw [if_neg hn]
  have hp : parseMag (decDigits n.toNat) = .ok n.toNat := by
   unfold parseMag; rw [if_neg (yoJ _)]; exact ykv _ (by omega)
  have hm := ylQ n.toNat
  cases hd : decDigits n.toNat with
  | nil => exact absurd hd (yoJ _)
  | cons c r =>
   rw [hd] at hp hm
   have hc := hm c List.mem_cons_self
   unfold atoiAll
   simp only
   rw [if_neg (by omega), hp]
   simp only
   rw [if_neg (by omega), if_neg (by omega), if_neg (by omega)]
   congr 1; omega
end Go.Ev.S

/- Encodings of exact numbers. -/
set_option linter.unusedVariables false
set_option linter.unusedSimpArgs false
set_option maxRecDepth 8000
namespace Go.Ev.S
open Go Go.Ev
theorem yt8 (e k t : Nat) (ht : t < 2 ^ k) : (e * 2 ^ k) ||| t = e * 2 ^ k + t := by
 rw [Nat.mul_comm]; exact (Nat.two_pow_add_eq_or_of_lt ht e).symm
theorem ybx (f e t : Nat) (h : f ≤ 3) (he : e ≤ 2 * fe f + 1) (ht : t < 2 ^ (fp f - 1)) (neg : Bool) (K : Int → Int → Prop) (hK : K (Hi (enc f neg e t)) (Lo (enc f neg e t))) : zbb f neg e (W t) K := by
 obtain ⟨w1, w2, w3, w4, w5, w6⟩ := ycr f h
 have hb := yg8 h he ht
 have hen := yfN h he ht neg
 have hb' : e * 2 ^ (fp f - 1) + t < Q6 := yqu (by omega) hb
 have he1 : e * 2 ^ (fp f - 1) < Q6 := by omega
 have ht1 : t < Q6 := yqu (by omega) ht
 rw [zbb.is]; unfold zbb.d
 rw [yaY (by omega) (by omega), ynL e (by omega), yaq f h, ynG f h]
 refine yiT e (fp f - 1) (yqu (a := 64) (by omega) (by omega)) (by omega) _ fun bb => ?_
 rw [Nat.mod_eq_of_lt he1]
 refine ynt _ _ he1 ht1 _ ?_
 rw [yt8 _ _ _ ht]
 cases neg with
 | false =>
  rw [yau rfl]
  rw [yei _ (yuf (by omega) hb)]
  have : enc f false e t = e * 2 ^ (fp f - 1) + t := by simp [enc, sg]
  rw [this] at hK; exact hK
 | true =>
  have e1 : enc f true e t = e * 2 ^ (fp f - 1) + t + 2 ^ (fw f - 1) := by simp [enc, sg]; omega
  rw [e1] at hK hen
  have q1 : yaH IntKind.i64 (yae IntKind.i64 (fw f : Int) 1) 64 = (((fw f - 1) / 64 : Nat) : Int) := by rw [yqi f h, yos _ (by omega)]
  have q2 : cvI IntKind.u64 (yb6 IntKind.i64 (yae IntKind.i64 (fw f : Int) 1) 64) = (((fw f - 1) % 64 : Nat) : Int) := by rw [yqi f h, yps, yaY (by omega) (by omega)]
  have g1 : (leI 0 (((fw f - 1) / 64 : Nat) : Int) && ltI (((fw f - 1) / 64 : Nat) : Int) 6) = true := ybz (by omega) (by omega)
  have g2 : (!ltI (((fw f - 1) % 64 : Nat) : Int) 0) = true := ygA (by omega)
  rw [yaD rfl, ybh f h, q1, q2, ya2 g1, ya2 g2, ya2 g1, Int.toNat_natCast, ymt, ypn _ _ hb, yei _ (yuf (by omega) hen)]
  exact hK
def pl (f : Nat) (t : Int) : Int := (if t < 1 - fe f then 1 - (fe f : Int) else t) - fp f + 1
def yqT (f : Nat) (n : Bool) (at_ : Int) (w : Nat) : Nat := sg f n + ((at_ + fe f + fp f - 2).toNat * 2 ^ (fp f - 1) + w)
theorem yrX {f : Nat} (h : f ≤ 3) (n : Bool) {t : Int} {w : Nat} (h1 : 2 ^ (fp f - 1) ≤ w) (h2 : w < 2 ^ fp f) :
  yqT f n (pl f t) w = enc f n ((pl f t + fe f + fp f - 2).toNat + 1) (w % 2 ^ (fp f - 1)) := by
 have e2 : 2 ^ fp f = 2 ^ (fp f - 1) + 2 ^ (fp f - 1) := by rcases yec h with rfl | rfl | rfl | rfl <;> decide
 have e3 : w % 2 ^ (fp f - 1) = w - 2 ^ (fp f - 1) := by
  rw [Nat.mod_eq_sub_mod h1, Nat.mod_eq_of_lt (by omega)]
 rw [e3]; unfold yqT enc
 rw [Nat.add_mul]; omega
theorem ysz {f : Nat} (n : Bool) {t : Int} {w : Nat} (ht : t < 1 - fe f) : yqT f n (pl f t) w = enc f n 0 w := by
 unfold yqT enc pl
 rw [if_pos ht, show (1 - (fe f : Int) - fp f + 1 + fe f + fp f - 2).toNat = 0 from by omega, Nat.add_assoc]
theorem ymM {a : Nat} (h : a ≠ 0) : tp a 1 = (yaC a : Int) - 1 := by
 have h1 : yaC 1 = 1 := by decide
 have h2 := yiH h
 have h3 : 1 ≤ yaC a := by
  rcases Nat.eq_zero_or_pos (yaC a) with h0 | h0
  ·have := (yaN a 0).1 (by omega); omega
  ·exact h0
 unfold tp
 rw [h1, if_pos h3, Nat.one_mul, if_pos h2]; omega
def ofE (f : Nat) (n : Bool) (a b : Nat) (e : Int) (K : Int → Int → Bool → Prop) : Prop :=
 if a = 0 then K 0 0 true else if b ≠ 1 ∨ (fe f : Int) < tp a b + e ∨ e < pl f (tp a b + e) then K 0 0 false else
  K (Hi (yqT f n (pl f (tp a b + e)) (a * 2 ^ (e - pl f (tp a b + e)).toNat))) (Lo (yqT f n (pl f (tp a b + e)) (a * 2 ^ (e - pl f (tp a b + e)).toNat))) true
theorem yp4 {a : Nat} (h : a ≠ 0) (k : Nat) : 2 ^ (yaC a - 1 + k) ≤ a * 2 ^ k ∧ a * 2 ^ k < 2 ^ (yaC a + k) := by
 rw [Nat.pow_add, Nat.pow_add]
 exact ⟨Nat.mul_le_mul_right _ (yiH h), Nat.mul_lt_mul_of_pos_right ((yaN a _).1 (Nat.le_refl _)) (Nat.two_pow_pos k)⟩
theorem yqd {f : Nat} (h : f ≤ 3) (t : Int) (h1 : t ≤ fe f) : -16494 ≤ pl f t ∧ pl f t ≤ 16384 ∧ 0 ≤ pl f t + fe f + fp f - 2 := by
 unfold pl
 rcases yec h with rfl | rfl | rfl | rfl <;> simp only [fe, fp] at * <;> split <;> omega
theorem yr7 {w : Nat} (h : w < Q6) : May (nb w) ∧ (nb w).length ≤ 48 := by
 refine ⟨yce (ymZ h), ?_⟩
 obtain ⟨N, hN⟩ : ∃ N, N = 48 := ⟨_, rfl⟩
 have : (nb w).length ≤ N := by rw [ycD, yp9, ytL hN]; exact h
 omega
theorem ykj {w : Nat} (h : w < Q6) (K : (Nat → Int) → Bool → Prop) (hK : K (W w) true) : zbr (nb w) K := by
 refine yi7 _ _ ?_
 rw [if_pos (yr7 h), ybB]; exact hK
theorem yo7 {w p : Nat} (hp : 1 ≤ p) (hw : w < 2 ^ p) : w.testBit (p - 1) = decide (2 ^ (p - 1) ≤ w) := by
 have e2 : 2 ^ p = 2 ^ (p - 1) + 2 ^ (p - 1) := by obtain ⟨q, rfl⟩ : ∃ q, p = q + 1 := ⟨p - 1, by omega⟩; rw [Nat.pow_succ, Nat.add_sub_cancel]; omega
 by_cases h : 2 ^ (p - 1) ≤ w
 ·rw [decide_eq_true h, show w = 2 ^ (p - 1) + (w - 2 ^ (p - 1)) from by omega, Nat.testBit_two_pow_add_eq, Nat.testBit_lt_two_pow (by omega)]; rfl
 ·rw [decide_eq_false h, Nat.testBit_lt_two_pow (by omega)]
section
variable {n : Bool} {a b : Nat} {e : Int}
theorem ytc {f : Nat} (h : f ≤ 3) (h0 : a ≠ 0) (h1 : ¬ (b ≠ 1 ∨ (fe f : Int) < tp a b + e ∨ e < pl f (tp a b + e))) :
  a * 2 ^ (e - pl f (tp a b + e)).toNat < 2 ^ fp f ∧ (1 - (fe f : Int) ≤ tp a b + e ↔ 2 ^ (fp f - 1) ≤ a * 2 ^ (e - pl f (tp a b + e)).toNat) := by
 obtain ⟨w1, w2, w3, w4, w5, w6⟩ := ycr f h
 have hb : b = 1 := by omega
 subst hb
 have ht := ymM h0
 have hm := yp4 h0 (e - pl f (tp a 1 + e)).toNat
 have h3 : 1 ≤ yaC a := by
  rcases Nat.eq_zero_or_pos (yaC a) with hh | hh
  ·have := (yaN a 0).1 (by omega); omega
  ·exact hh
 have hpl : pl f (tp a 1 + e) ≤ e := by omega
 by_cases hs : tp a 1 + e < 1 - fe f
 ·have hp1 : pl f (tp a 1 + e) = 2 - fe f - fp f := by unfold pl; rw [if_pos hs]; omega
  have l1 : yaC a + (e - pl f (tp a 1 + e)).toNat ≤ fp f - 1 := by omega
  have l2 := Nat.pow_le_pow_right (show 0 < 2 by omega) l1
  have l3 := Nat.pow_lt_pow_right (show 1 < 2 by omega) (show fp f - 1 < fp f by omega)
  exact ⟨by omega, by omega, by omega⟩
 ·have hp1 : pl f (tp a 1 + e) = tp a 1 + e - fp f + 1 := by unfold pl; rw [if_neg hs]
  have l1 : yaC a + (e - pl f (tp a 1 + e)).toNat = fp f := by omega
  have l2 : yaC a - 1 + (e - pl f (tp a 1 + e)).toNat = fp f - 1 := by omega
  rw [l1, l2] at hm
  exact ⟨by omega, fun _ => by omega, fun _ => by omega⟩
theorem yif (f : Nat) (h : f ≤ 3) (c : Can n a b e) (K : Int → Int → Bool → Int → Prop) (hK : ofE f n a b e fun y0 y1 y2 => K y0 y1 y2 0) : zau f n (nb a) (nb b) e K := by
 obtain ⟨w1, w2, w3, w4, w5, w6⟩ := ycr f h
 have we := c.e64
 have hr := yq6 c.fa c.fb
 unfold ofE at hK
 rw [zau.is]; unfold zau.d
 rw [yaV f h, yau (by rfl)]
 refine ycW _ _ _ _ _ (fun _ => ?_) (fun hn => absurd c.may hn)
 rw [yau (by rfl), yke]
 refine yl1 (fun h0 => ?_) fun h0 => ?_
 ·rw [if_pos h0] at hK; exact hK
 rw [if_neg h0] at hK
 rw [yaq f h]
 refine ykC n c _ (fun hh => absurd hh h0) fun _ => ?_
 rw [ybw f h, ylU]
 refine yi3 (fun hb => ?_) fun hb => ?_
 ·rw [if_pos (.inl hb)] at hK; exact hK
 rw [ya9 f h]
 by_cases h2 : (fe f : Int) < tp a b + e
 ·rw [yaD (ybn h2)]; rw [if_pos (.inr (.inl h2))] at hK; exact hK
 rw [yau (yb0 (by omega))]
 have hp := yqd h (tp a b + e) (by omega)
 have e1 : yai .i64 (yae .i64 (yfE (tp a b + e) (1 - (fe f : Int))) (fp f : Int)) 1 = pl f (tp a b + e) := by
  have : yfE (tp a b + e) (1 - (fe f : Int)) = if tp a b + e < 1 - fe f then 1 - (fe f : Int) else tp a b + e := yfq _ _
  rw [this]
  unfold pl
  have hh : -200000 ≤ (if tp a b + e < 1 - (fe f : Int) then 1 - (fe f : Int) else tp a b + e) ∧ (if tp a b + e < 1 - (fe f : Int) then 1 - (fe f : Int) else tp a b + e) ≤ 200000 := by split <;> omega
  rw [yar (by omega) (by omega), yaw (by omega) (by omega)]
 rw [e1]
 by_cases h3 : e < pl f (tp a b + e)
 ·rw [yaD (ybn h3)]; rw [if_pos (.inr (.inr h3))] at hK; exact hK
 rw [yau (yb0 (by omega))]
 have hc : ¬ (b ≠ 1 ∨ (fe f : Int) < tp a b + e ∨ e < pl f (tp a b + e)) := by omega
 rw [if_neg hc] at hK
 have hw := ytc h h0 hc
 generalize hwd : a * 2 ^ (e - pl f (tp a b + e)).toNat = w at hw hK
 have hwQ : w < Q6 := yqu (by omega) hw.1
 refine yhF n c _ (by omega) _ ?_
 unfold yt2
 rw [if_neg (by omega), if_neg h0, if_pos (show pl f (tp a b + e) ≤ e by omega), hwd, if_pos (ymZ hwQ), hb, Nat.div_one]
 rw [hb] at hw hK
 refine ykj hwQ _ ?_
 rw [ynG f h, ycL w (fp f - 1) (by omega), yo7 (by omega) hw.1]
 refine yl1 (fun hl => ?_) fun hl => ?_
 ·rw [ybw f h]
  refine ycb _ (by omega) _ ?_
  refine ycA _ _ hwQ _ ?_
  rw [Nat.and_two_pow_sub_one_eq_mod]
  rw [hb] at hp h2
  have e2 : yai .i64 (yae .i64 (pl f (tp a 1 + e)) (1 - (fe f : Int))) (fp f : Int) = (((pl f (tp a 1 + e) + fe f + fp f - 2).toNat + 1 : Nat) : Int) := by
   rw [yar (by omega) (by omega), yaw (by omega) (by omega)]; omega
  rw [e2]
  rw [yrX h n hl hw.1] at hK
  refine ybx f _ _ h ?_ (Nat.mod_lt _ (Nat.two_pow_pos _)) n _ hK
  have hs := hw.2.2 hl
  unfold pl; rw [if_neg (by omega)]; omega
 ·refine ycb _ (by omega) _ ?_
  refine ycA _ _ hwQ _ ?_
  rw [Nat.and_two_pow_sub_one_eq_mod, Nat.mod_eq_of_lt (by omega)]
  rw [ysz n (by have := hw.2; omega)] at hK
  exact ybx f 0 w h (by omega) (by omega) n _ hK
end
end Go.Ev.S

/- Values of encodings and back; the next encoding is next. -/
set_option linter.unusedVariables false
set_option linter.unusedSimpArgs false
set_option maxRecDepth 8000
namespace Go.Ev.S
open Go Go.Ev
theorem ytZ (f x : Nat) (h : f ≤ 3) : mg f x < 2 ^ (fw f - 1) := yg8 h (ynb f x) (yhA f x)
theorem yt3 {f : Nat} (h : f ≤ 3) (n : Bool) {m : Nat} (hm : m < 2 ^ (fw f - 1)) : sg f n + m < 2 ^ fw f := by
 have e : 2 ^ fw f = 2 ^ (fw f - 1) + 2 ^ (fw f - 1) := by rcases yec h with rfl | rfl | rfl | rfl <;> decide
 cases n
 ·have : sg f false = 0 := rfl
  omega
 ·have : sg f true = 2 ^ (fw f - 1) := rfl
  omega
theorem yqJ {f : Nat} (h : f ≤ 3) (n : Bool) {m : Nat} (hm : m < 2 ^ (fw f - 1)) : ng f (sg f n + m) = n ∧ mg f (sg f n + m) = m := by
 have e := yug f _ h (yt3 h n hm)
 have h2 := ytZ f (sg f n + m) h
 have s1 : sg f true = 2 ^ (fw f - 1) := rfl
 have s0 : sg f false = 0 := rfl
 generalize ng f (sg f n + m) = k at e
 generalize mg f (sg f n + m) = q at e h2
 cases n <;> cases k <;> simp only [s0, s1] at e <;> refine ⟨?_, ?_⟩ <;> first | rfl | omega
theorem ysG {f x : Nat} (hf : fin f x) : (ng f x = true → cls f x < 4 ∧ (cls f x = 3 ↔ mg f x = 0)) ∧ (ng f x = false → 4 ≤ cls f x) := by
 have z := yk5 f x
 unfold fin at hf
 unfold cls
 cases ng f x <;> simp only [cond_true, cond_false] <;> refine ⟨fun hh => ?_, fun hh => ?_⟩ <;> first | exact absurd hh (by decide) | skip
 ·rw [if_neg hf]; (repeat' split) <;> omega
 ·rw [if_neg hf]
  (repeat' split) <;> omega
def sm (f x : Nat) : Int := cond (ng f x) (-(mg f x : Int)) (mg f x)
theorem yi2 (f x : Nat) (h : f ≤ 3) (hx : x < 2 ^ fw f) (hf : fin f x) (K : Bool → List UInt8 → List UInt8 → Int → Int → Prop)
  (hK : mkE (ng f x) (ycf f x) 1 (ydb f x) K) : zba f (Hi x) (Lo x) K := by
 have hc := (yp6 f x).1 hf
 have hs := ysG hf
 rw [zba.is]; unfold zba.d
 refine ybE f x h hx _ ?_
 rw [yau (by rfl), yau (yhK (by omega)), yau (yeC (by omega))]
 refine yjb _ (yey f x h) _ ?_
 have we : win (ydb f x) := by have := ycy f x h; unfold win; omega
 have en : ltI (cls f x) 4 = ng f x := by
  cases hn : ng f x
  ·exact yb0 (by have := hs.2 hn; omega)
  ·exact ybn (by have := (hs.1 hn).1; omega)
 rw [en, ← yfQ]
 exact yks (ng f x) (ymZ (yey f x h)) yi8 (by decide) we hK
theorem ypy {f x : Nat} (hf : ¬ fin f x) : cls f x = 0 ∨ 7 ≤ cls f x := by
 have h1 := ykW f x
 have h2 := yp6 f x
 have h3 : ¬ (1 ≤ cls f x ∧ cls f x ≤ 6) := fun hh => hf (h2.2 hh)
 omega
theorem yhP (f x : Nat) (h : f ≤ 3) (hx : x < 2 ^ fw f) (hf : ¬ fin f x) (K : Bool → List UInt8 → List UInt8 → Int → Int → Prop)
  (hK : K false [] [] 0 80) : zba f (Hi x) (Lo x) K := by
 rw [zba.is]; unfold zba.d
 refine ybE f x h hx _ ?_
 rw [yau (by rfl)]
 rcases ypy hf with c | c
 ·rw [yaD (yoi c)]; exact hK
 ·rw [yau (yhK (by omega)), yaD (ya7 c)]; exact hK
end Go.Ev.S

/- The next encoding is next. -/
set_option linter.unusedVariables false
set_option linter.unusedSimpArgs false
set_option maxRecDepth 8000
namespace Go.Ev.S
open Go Go.Ev
end Go.Ev.S

/- Parts packed: the same on both sides. -/
set_option linter.unusedVariables false
set_option linter.unusedSimpArgs false
set_option maxRecDepth 8000
namespace Go.Ev.S
open Go Go.Ev
def tst (f : Nat) (c : Int) (s : Nat → Int) (x : Int) (r : Nat → Int) (b : Nat) (K : Int → Int → Int → Prop) : Prop :=
 br (!(eqI (cls f b) c && (eqN 6 (W (ycf f b)) s && (eqI (ydb f b) x && eqN 6 (W (ufr f b)) r)))) (K 0 0 80) (K (Hi b) (Lo b) 0)
section
variable {f : Nat} {s r : Nat → Int} {x : Int} {K : Int → Int → Int → Prop}
theorem yox (h : f ≤ 3) (c : Int) {b : Nat} (hb : b < 2 ^ fw f) (hK : tst f c s x r b K) : zaz f (Hi b) (Lo b) fun y0_1 y1_1 y2 y3 y4 => br (!(eqI y0_1 c && (eqN 6 y1_1 s && (eqI y2 x && eqN 6 y3 r)))) (K 0 0 80) (K (Hi b) (Lo b) 0) :=
 ybE f b h hb _ hK
theorem ytw (h : f ≤ 3) (c : Int) (hc : c = 0 ∨ c = 7) (hK : tst f c s x r (enc f (ltI c 4) (2 * fe f + 1) 0) K) : zav f c s x r K := by
 have key : zck f fun y0 => br (!eqI y0 0) (K 0 0 2) (zcp f fun y0 => zco f (ltI c 4) fun y0 y1 => zaz f y0 y1 fun y0_1 y1_1 y2 y3 y4 => br (!(eqI y0_1 c && (eqN 6 y1_1 s && (eqI y2 x && eqN 6 y3 r)))) (K 0 0 80) (K y0 y1 0)) := by
  rw [yaV f h, yau (by rfl), yaq f h, yfV f h]
  exact yox h c (yfN h (Nat.le_refl _) (Nat.two_pow_pos _) _) hK
 rw [zav.is]; unfold zav.d
 rcases hc with rfl | rfl <;> exact key
theorem yr5 (h : f ≤ 3) (c : Int) (hc : c = 3 ∨ c = 4) (hK : tst f c s x r (enc f (ltI c 4) 0 0) K) : zav f c s x r K := by
 have key : zck f fun y0 => br (!eqI y0 0) (K 0 0 2) (zcp f fun y0 => zcr f (ltI c 4) fun y0 y1 => zaz f y0 y1 fun y0_1 y1_1 y2 y3 y4 => br (!(eqI y0_1 c && (eqN 6 y1_1 s && (eqI y2 x && eqN 6 y3 r)))) (K 0 0 80) (K y0 y1 0)) := by
  rw [yaV f h, yau (by rfl), yaq f h, ydr f h]
  exact yox h c (yfN h (by omega) (Nat.two_pow_pos _) _) hK
 rw [zav.is]; unfold zav.d
 rcases hc with rfl | rfl <;> exact key
theorem ytx (h : f ≤ 3) (c : Int) (hc : c = 8 ∨ c = 9) {t : Nat} (ht : t < Q6) (h1 : 2 ^ (fp f - 1) ≤ t → K 0 0 80) (h2 : t < 2 ^ (fp f - 1) → tst f c s x (W t) (enc f false (2 * fe f + 1) t) K) : zav f c s x (W t) K := by
 have w := ycr f h
 have key : zck f fun y0 => br (!eqI y0 0) (K 0 0 2) (zcp f fun y0 => zdd (W t) fun y0_1 => br (leI y0 y0_1) (K 0 0 80) (zcl f fun y0 => zbb f false (yai IntKind.i64 (yaR IntKind.i64 2 y0) 1) (W t) fun y0 y1 => zaz f y0 y1 fun y0_2 y1_1 y2 y3 y4 => br (!(eqI y0_2 c && (eqN 6 y1_1 s && (eqI y2 x && eqN 6 y3 (W t))))) (K 0 0 80) (K y0 y1 0))) := by
  rw [yaV f h, yau (by rfl), yaq f h]
  refine ybq t ht _ ?_
  have hb := yaN t (fp f - 1)
  by_cases hl : t < 2 ^ (fp f - 1)
  ·rw [yau (yeC (by omega)), ya9 f h, ypf f h]
   exact ybx f _ t h (Nat.le_refl _) hl false _ (yox h c (yfN h (Nat.le_refl _) hl _) (h2 hl))
  ·rw [yaD (ya7 (by omega))]; exact h1 (by omega)
 rw [zav.is]; unfold zav.d
 rcases hc with rfl | rfl <;> exact key
theorem ynm (h : f ≤ 3) (hx : -9223372036854775808 ≤ x ∧ x < 9223372036854775808) :
  (yai .i64 (yae .i64 x (1 - (fe f : Int))) (fp f : Int) < 1 ∨ 2 * (fe f : Int) < yai .i64 (yae .i64 x (1 - (fe f : Int))) (fp f : Int)) ∧ (x - 1 + fe f + fp f < 1 ∨ 2 * (fe f : Int) < x - 1 + fe f + fp f)
  ∨ yai .i64 (yae .i64 x (1 - (fe f : Int))) (fp f : Int) = x - 1 + fe f + fp f := by
 have w := ycr f h
 have h1 : 1 ≤ fe f := by rcases yec h with rfl | rfl | rfl | rfl <;> decide
 by_cases hb : x ≤ 9223372036854700000
 ·right
  by_cases hl : -9223372036854775808 ≤ x - (1 - (fe f : Int))
  ·rw [yar (by omega) (by omega), yaw (by omega) (by omega)]; omega
  ·omega
 ·left
  refine ⟨?_, by omega⟩
  by_cases c1 : x - (1 - (fe f : Int)) < 9223372036854775808
  ·rw [yar (by omega) (by omega)]
   by_cases c2 : x - (1 - (fe f : Int)) + fp f < 9223372036854775808
   ·rw [yaw (by omega) (by omega)]; omega
   ·left
    show IntKind.wrap .i64 _ < 1
    rw [yiB]; omega
  ·left
   have : yae .i64 x (1 - (fe f : Int)) = x - (1 - (fe f : Int)) - 18446744073709551616 := by
    show IntKind.wrap .i64 _ = _
    rw [yiB]; omega
   rw [this, yaw (by omega) (by omega)]; omega
theorem ynr (h : f ≤ 3) : yaR .i64 2 (fe f : Int) = 2 * fe f := by rcases yec h with rfl | rfl | rfl | rfl <;> decide
theorem ymU (h : f ≤ 3) (c : Int) (hc : c = 2 ∨ c = 5 ∨ c = 1 ∨ c = 6) {t : Nat} (ht : t < Q6) (hx : -9223372036854775808 ≤ x ∧ x < 9223372036854775808)
  (h1 : (2 ^ fp f ≤ t ∨ x - 1 + fe f + fp f < 1 ∨ 2 * (fe f : Int) < x - 1 + fe f + fp f) → K 0 0 80)
  (h2 : t < 2 ^ (fp f - 1) → tst f c (W t) x r (enc f (ltI c 4) 0 t) K)
  (h3 : ∀ E : Nat, (E : Int) = x - 1 + fe f + fp f → 1 ≤ E → E ≤ 2 * fe f → 2 ^ (fp f - 1) ≤ t → t < 2 ^ fp f → tst f c (W t) x r (enc f (ltI c 4) E (t % 2 ^ (fp f - 1))) K) : zav f c (W t) x r K := by
 have w := ycr f h
 have hm := ynm (x := x) h hx
 have key : zck f fun y0 => br (!eqI y0 0) (K 0 0 2) (zcp f fun y0 => zcm f fun y0_1 => zdd (W t) fun y0_2 => br (ltI y0 y0_2) (K 0 0 80) (br (ltI (yai .i64 (yae .i64 x y0_1) y0) 1) (K 0 0 80) (zcl f fun y0_3 => br (ltI (yaR .i64 2 y0_3) (yai .i64 (yae .i64 x y0_1) y0)) (K 0 0 80) (zdb (W t) (yae .i64 y0 1) fun y0_4 => br (!y0_4) (zdf (yae .i64 y0 1) fun y0 => zda (W t) y0 fun y0 => zbb f (ltI c 4) 0 y0 fun y0 y1 => zaz f y0 y1 fun y0_5 y1_1 y2 y3 y4 => br (!(eqI y0_5 c && (eqN 6 y1_1 (W t) && (eqI y2 x && eqN 6 y3 r)))) (K 0 0 80) (K y0 y1 0)) (zdf (yae .i64 y0 1) fun y0_5 => zda (W t) y0_5 fun y0_6 => zbb f (ltI c 4) (yai .i64 (yae .i64 x y0_1) y0) y0_6 fun y0 y1 => zaz f y0 y1 fun y0_7 y1_1 y2 y3 y4 => br (!(eqI y0_7 c && (eqN 6 y1_1 (W t) && (eqI y2 x && eqN 6 y3 r)))) (K 0 0 80) (K y0 y1 0)))))) := by
  rw [yaV f h, yau (by rfl), yaq f h, ybw f h]
  refine ybq t ht _ ?_
  have hb := yaN t (fp f)
  by_cases hl : t < 2 ^ fp f
  rotate_left
  ·rw [yaD (ybn (by omega))]; exact h1 (.inl (by omega))
  rw [yau (yb0 (by omega))]
  generalize yai .i64 (yae .i64 x (1 - (fe f : Int))) (fp f : Int) = E at hm ⊢
  by_cases e1 : E < 1
  ·rw [yaD (ybn e1)]; exact h1 (by omega)
  rw [yau (yb0 (by omega)), ya9 f h, ynr h]
  by_cases e2 : 2 * (fe f : Int) < E
  ·rw [yaD (ybn e2)]; exact h1 (by omega)
  rw [yau (yb0 (by omega)), ynG f h, ycL t (fp f - 1) (by omega), yo7 (by omega) hl]
  refine yi3 (fun hs => ?_) fun hs => ?_
  ·refine ycb _ (by omega) _ ?_
   refine ycA _ _ ht _ ?_
   rw [Nat.and_two_pow_sub_one_eq_mod, Nat.mod_eq_of_lt (by omega)]
   exact ybx f 0 t h (by omega) (by omega) _ _ (yox h c (yfN h (by omega) (by omega) _) (h2 (by omega)))
  ·refine ycb _ (by omega) _ ?_
   refine ycA _ _ ht _ ?_
   rw [Nat.and_two_pow_sub_one_eq_mod]
   obtain ⟨e, he⟩ : ∃ e : Nat, (e : Int) = E := ⟨E.toNat, by omega⟩
   rw [← he]
   have hlt := Nat.mod_lt t (Nat.two_pow_pos (fp f - 1))
   exact ybx f e _ h (by omega) hlt _ _ (yox h c (yfN h (by omega) hlt _) (h3 e (by omega) (by omega) (by omega) hs hl))
 rw [zav.is]; unfold zav.d
 rcases hc with rfl | rfl | rfl | rfl <;> exact key
end
end Go.Ev.S

/- Parts: apart and together. -/
set_option linter.unusedVariables false
set_option linter.unusedSimpArgs false
set_option maxRecDepth 8000
namespace Go.Ev.S
open Go Go.Ev
theorem ydW {f : Nat} (h : f ≤ 3) (n : Bool) {E t : Nat} (he : E ≤ 2 * fe f + 1) (ht : t < 2 ^ (fp f - 1)) : ng f (enc f n E t) = n ∧ ex f (enc f n E t) = E ∧ fr f (enc f n E t) = t := by
 have hb := yg8 h he ht
 have p := yqJ h n hb
 have e1 : enc f n E t = sg f n + (E * 2 ^ (fp f - 1) + t) := by unfold enc; omega
 rw [← e1] at p
 have h2 := p.2
 unfold mg at h2
 have d1 := ytI (ex f (enc f n E t)) (fr f (enc f n E t)) (2 ^ (fp f - 1)) (yhA _ _)
 have d2 := ytI E t (2 ^ (fp f - 1)) ht
 rw [h2] at d1
 exact ⟨p.1, by rw [← d1.1, d2.1], by rw [← d1.2, d2.2]⟩
theorem yqL {f : Nat} (h : f ≤ 3) (n : Bool) {E t : Nat} (h1 : 1 ≤ E) (he : E ≤ 2 * fe f) (ht : t < 2 ^ (fp f - 1)) : cls f (enc f n E t) = cond n 1 6 := by
 obtain ⟨p1, p2, p3⟩ := ydW h n (show E ≤ 2 * fe f + 1 by omega) ht
 unfold cls; rw [p1, p2, if_neg (by omega), if_pos (by omega)]
end Go.Ev.S

/- The text of an encoding, and what is read of it. -/
set_option linter.unusedVariables false
set_option linter.unusedSimpArgs false
set_option maxRecDepth 8000
namespace Go.Ev.S
open Go Go.Ev
open Go.Lib (decDigits nDigits indexByte parseUint10 parseMag atoiAll)
def body (f x : Nat) : List UInt8 :=
  if cls f x = 9 then [110, 97, 110, 58] ++ tw (ufr f x) else if cls f x = 8 then [115, 110, 97, 110, 58] ++ tw (ufr f x) else
  if cls f x = 0 ∨ cls f x = 7 then [105, 110, 102] else if cls f x = 3 ∨ cls f x = 4 then [48] else tw (ycf f x) ++ [112] ++ Go.Lib.itoa (ydb f x)
def txt (f x : Nat) : List UInt8 := cond (ng f x) [45] [] ++ body f x
theorem yp3 (f x : Nat) (h : f ≤ 3) : ufr f x < Q6 := by
  have w := ycr f h
  have hf := yhA f x
  have : ufr f x ≤ fr f x := by unfold ufr; cases isQ (cls f x) <;> simp
  exact yqu (a := fp f - 1) (by omega) (by omega)
theorem yfR (f x : Nat) (h : f ≤ 3) (hx : x < 2 ^ fw f) (K : List UInt8 → Int → Prop) (hK : K (txt f x) 0) : zay f (Hi x) (Lo x) K := by
  have lq := ymO (yp3 f x h)
  have ls := ymO (yey f x h)
  have he := ycy f x h
  have li := ymc (n := ydb f x) (by omega) (by omega)
  have hI : ∀ Q : List UInt8 → Prop, Q (Go.Lib.itoa (ydb f x)) → zcx (ydb f x) Q := fun Q hQ => by
    rw [zcx.is]; exact ⟨by omega, hQ⟩
  have hT : ∀ Q : List UInt8 → Prop, Q (tw (ufr f x)) → zdl (W (ufr f x)) Q := fun Q hQ => yfK _ (yp3 f x h) Q hQ
  have hS : ∀ Q : List UInt8 → Prop, Q (tw (ycf f x)) → zdl (W (ycf f x)) Q := fun Q hQ => yfK _ (yey f x h) Q hQ
  rw [zay.is]; unfold zay.d
  refine ybE f x h hx _ ?_
  rw [yau (show (!eqI 0 0) = false from rfl), yf3 f x h hx]
  unfold txt body at hK
  cases hn : ng f x <;> rw [hn] at hK
  · rw [yau rfl]
    rcases ylc f x with c | c | c | c | c | c | c | c | c | c <;> rw [c] at hK ⊢
    all_goals first
      | exact hK
      | (refine hT _ ?_; rw [ya2 (ya7 (by omega))]; exact hK)
      | (refine hS _ ?_
         rw [ya2 (ya7 (by omega)), ya2 (ya7 (by simp only [List.length_append, List.length_cons, List.length_nil]; omega))]
         refine hI _ ?_
         rw [ya2 (ya7 (by simp only [List.length_append, List.length_cons, List.length_nil]; omega))]
         exact hK)
  · rw [yaD rfl]
    rcases ylc f x with c | c | c | c | c | c | c | c | c | c <;> rw [c] at hK ⊢
    all_goals first
      | exact hK
      | (refine hT _ ?_; rw [ya2 (ya7 (by omega))]; exact hK)
      | (refine hS _ ?_
         rw [ya2 (ya7 (by omega)), ya2 (ya7 (by simp only [List.length_append, List.length_cons, List.length_nil]; omega))]
         refine hI _ ?_
         rw [ya2 (ya7 (by simp only [List.length_append, List.length_cons, List.length_nil]; omega))]
         exact hK)
end Go.Ev.S

/- What is read of a text: the encoding back. -/
set_option linter.unusedVariables false
set_option linter.unusedSimpArgs false
set_option maxRecDepth 8000
namespace Go.Ev.S
open Go Go.Ev
open Go.Lib (decDigits nDigits indexByte parseUint10 parseMag atoiAll)
theorem ten (f x : Nat) (h : f ≤ 3) (hx : x < 2 ^ fw f) :
  (cls f x = cond (ng f x) 0 7 ∧ x = enc f (ng f x) (2 * fe f + 1) 0) ∨
  (cls f x = cond (ng f x) 3 4 ∧ x = enc f (ng f x) 0 0) ∨
  (cls f x = cond (ng f x) 2 5 ∧ x = enc f (ng f x) 0 (fr f x) ∧ fr f x ≠ 0 ∧ ycf f x = fr f x ∧ ydb f x = 2 - (fe f : Int) - fp f ∧ ufr f x = 0) ∨
  (cls f x = cond (ng f x) 1 6 ∧ x = enc f (ng f x) (ex f x) (fr f x) ∧ 1 ≤ ex f x ∧ ex f x ≤ 2 * fe f ∧ ycf f x = fr f x + 2 ^ (fp f - 1) ∧ ydb f x = (ex f x : Int) + 1 - fe f - fp f ∧ ufr f x = 0) ∨
  ((cls f x = 8 ∨ cls f x = 9) ∧ x = enc f (ng f x) (2 * fe f + 1) (fr f x) ∧ fr f x ≠ 0 ∧ ufr f x = fr f x ∧ ycf f x = 0 ∧ ydb f x = 0) := by
 have he := ymq f x h hx
 have hl := ynb f x
 unfold ycf ydb ufr
 by_cases e1 : ex f x = 2 * fe f + 1
 ·by_cases f0 : fr f x = 0
  ·left
   rw [e1, f0] at he
   refine ⟨?_, he.symm⟩
   unfold cls; rw [if_pos e1, if_neg (by simpa using f0)]
  ·right; right; right; right
   rw [e1] at he
   have c : cls f x = 8 ∨ cls f x = 9 := by
    unfold cls; rw [if_pos e1, if_pos f0]; cases (fr f x).testBit (fp f - 2) <;> simp
   refine ⟨c, he.symm, f0, ?_⟩
   rcases c with c | c <;> rw [c] <;> exact ⟨rfl, rfl, rfl⟩
 ·by_cases e0 : ex f x = 0
  ·rw [e0] at he
   by_cases f0 : fr f x = 0
   ·right; left
    rw [f0] at he
    refine ⟨?_, he.symm⟩
    unfold cls; rw [if_neg e1, if_neg (by simpa using e0), if_neg (by simpa using f0)]
   ·right; right; left
    have c : cls f x = cond (ng f x) 2 5 := by
     unfold cls; rw [if_neg e1, if_neg (by simpa using e0), if_pos f0]
    refine ⟨c, he.symm, f0, ?_⟩
    rw [c]
    cases ng f x <;> exact ⟨rfl, rfl, rfl⟩
  ·right; right; right; left
   have c : cls f x = cond (ng f x) 1 6 := by
    unfold cls; rw [if_neg e1, if_pos e0]
   refine ⟨c, he.symm, by omega, by omega, ?_⟩
   rw [c]
   cases ng f x <;> exact ⟨rfl, rfl, rfl⟩
theorem ydh {f b : Nat} {c : Int} {t : Nat} {x : Int} {r : Nat → Int} {K : Int → Int → Int → Prop} (h1 : cls f b = c) (h2 : ycf f b = t) (h3 : ydb f b = x) (h4 : W (ufr f b) = r) (hK : K (Hi b) (Lo b) 0) : tst f c (W t) x r b K := by
 subst h1 h2 h3 h4
 unfold tst
 rw [yiy, yiy, yjn, yjn, yau (by rfl)]; exact hK
theorem yir (c : UInt8) : ∀ (l l' r r' : List UInt8), l ++ c :: r = l' ++ c :: r' → c ∉ l → c ∉ l' → l = l' ∧ r = r'
 | [], [], r, r', e, _, _ => ⟨rfl, by injection e⟩
 | [], b :: l', r, r', e, _, h2 => by
  injection e with e1 e2
  exact absurd (by rw [← e1]; exact List.mem_cons_self) h2
 | a :: l, [], r, r', e, h1, _ => by
  injection e with e1 e2
  exact absurd (by rw [e1]; exact List.mem_cons_self) h1
 | a :: l, b :: l', r, r', e, h1, h2 => by
  injection e with e1 e2
  have := yir c l l' r r' e2 (fun m => h1 (List.mem_cons_of_mem _ m)) (fun m => h2 (List.mem_cons_of_mem _ m))
  exact ⟨by rw [e1, this.1], this.2⟩
theorem ypN (l r : List UInt8) (c : UInt8) (hl : (l ++ c :: r).length ≤ 9223372036854775806) (hc : c ∉ l) (K : List UInt8 → List UInt8 → Bool → Prop) (hK : K l r true) : zcy (l ++ c :: r) [c] K := by
 refine yek _ hl c K (fun l' r' e hc' => ?_) (fun hn => absurd (List.mem_append_right _ List.mem_cons_self) hn)
 obtain ⟨rfl, rfl⟩ := yir c l l' r r' e hc hc'
 exact hK
theorem ytn (s : List UInt8) (c : UInt8) (hl : s.length ≤ 9223372036854775806) (hc : c ∉ s) (K : List UInt8 → List UInt8 → Bool → Prop) (hK : K s [] false) : zcy s [c] K := by
 refine yek _ hl c K (fun l' r' e hc' => ?_) (fun _ => hK)
 exact absurd (by rw [e]; exact List.mem_append_right _ List.mem_cons_self) hc
theorem yfO {v : Nat} (hv : v < Q6) (K : (Nat → Int) → Int → Prop) (hK : K (W v) 0) : zdj (tw v) K := by
 have e := ytf (v := v) (N := 96) rfl (ytp rfl hv)
 refine ykl _ K (fun w hw _ => ?_) (fun hn => ?_)
 ·rw [e] at hw; injection hw with hw; rw [← hw]; exact hK
 ·rw [e] at hn; exact absurd hn (by simp)
theorem yoO (v : Nat) (l : List UInt8) : ∃ c r, tw v ++ l = c :: r ∧ yj6 c ≠ none ∧ c ∈ tw v := by
 have h1 := yue v
 have h2 := yoN v
 generalize tw v = t at *
 cases t with
 | nil => exact absurd rfl h1
 | cons a r => exact ⟨a, r ++ l, rfl, h2 a List.mem_cons_self, List.mem_cons_self⟩
theorem yri (n : Int) : ∀ c ∈ Go.Lib.itoa n, c = 45 ∨ (48 ≤ c.toNat ∧ c.toNat ≤ 57) := by
 intro c hc
 unfold Go.Lib.itoa at hc
 split at hc
 ·rcases List.mem_cons.1 hc with rfl | hc
  ·exact .inl rfl
  ·exact .inr (ylQ _ c hc)
 ·exact .inr (ylQ _ c hc)
theorem ys7 (v : Nat) (n : Int) (c : UInt8) (h1 : yj6 c = none) (h2 : c ≠ 112) (h3 : c ≠ 45) : c ∉ tw v ++ 112 :: Go.Lib.itoa n := by
 intro hc
 rcases List.mem_append.1 hc with hc | hc
 ·exact yoN v c hc h1
 ·rcases List.mem_cons.1 hc with hc | hc
  ·exact h2 hc
  ·rcases yri n c hc with hc | ⟨ha, hb⟩
   ·exact h3 hc
   ·unfold yj6 at h1; rw [if_pos ⟨ha, hb⟩] at h1; exact absurd h1 (by simp)
theorem ypV (f x : Nat) : (body f x)[0]? ≠ some 45 := by
 unfold body
 split
 ·simp
 split
 ·simp
 split
 ·simp
 split
 ·simp
 obtain ⟨c, r, e, hc, _⟩ := yoO (ycf f x) ([112] ++ Go.Lib.itoa (ydb f x))
 rw [List.append_assoc, e]
 intro hh
 have : c = 45 := by simpa using hh
 exact hc (by rw [this]; decide)
theorem yqg (f x : Nat) (K : List UInt8 → Bool → Prop) (hK : K (body f x) (ng f x)) : zcz (txt f x) [45] K := by
 unfold txt
 cases hn : ng f x <;> rw [hn] at hK
 ·show zcz (body f x) [45] K
  refine ycn _ 45 K (fun r e => ?_) (fun _ => hK)
  exact absurd (by rw [e]; rfl) (ypV f x)
 ·show zcz (45 :: body f x) [45] K
  refine ycn _ 45 K (fun r e => ?_) (fun hn => absurd rfl hn)
  injection e with _ e
  rw [← e]; exact hK
theorem z0 : W 0 = (fun _ => 0) := W_zero
theorem yqD {f t : Nat} (h : f ≤ 3) (ht : t < 2 ^ (fp f - 1)) (h0 : t ≠ 0) (K : Int → Int → Int → Prop) (hK : K (Hi (enc f false 0 t)) (Lo (enc f false 0 t)) 0) : zav f 5 (W t) (2 - (fe f : Int) - fp f) (fun _ => 0) K := by
 have w := ycr f h
 have hQ : t < Q6 := Nat.lt_of_lt_of_le ht (ynX (by omega))
 have p := ydW h false (show 0 ≤ 2 * fe f + 1 by omega) ht
 have c : cls f (enc f false 0 t) = 5 := by
  unfold cls; rw [p.2.1, p.2.2, p.1, if_neg (by omega), if_neg (by omega), if_pos h0]; rfl
 refine ymU h 5 (by omega) hQ (by omega) (fun hh => ?_) (fun _ => ?_) (fun E hE k1 k2 k3 k4 => by omega)
 ·exfalso
  have := Nat.pow_le_pow_right (n := 2) (by omega) (show fp f - 1 ≤ fp f by omega)
  have : 1 ≤ fe f := by rcases yec h with rfl | rfl | rfl | rfl <;> decide
  omega
 ·rw [show ltI 5 4 = false from rfl]
  refine ydh c ?_ ?_ ?_ hK
  ·unfold ycf; rw [c]; exact p.2.2
  ·unfold ydb; rw [c]; rfl
  ·unfold ufr; rw [c]; exact z0
theorem yo8 {f t E : Nat} (h : f ≤ 3) (ht : t < 2 ^ (fp f - 1)) (h1 : 1 ≤ E) (h2 : E ≤ 2 * fe f) (K : Int → Int → Int → Prop) (hK : K (Hi (enc f false E t)) (Lo (enc f false E t)) 0) : zav f 6 (W (t + 2 ^ (fp f - 1))) ((E : Int) + 1 - fe f - fp f) (fun _ => 0) K := by
 have w := ycr f h
 have hp : 2 ^ fp f = 2 * 2 ^ (fp f - 1) := by rw [← Nat.pow_succ']; congr 1; omega
 have hQ : t + 2 ^ (fp f - 1) < Q6 := Nat.lt_of_lt_of_le (show _ < 2 ^ fp f by omega) (ynX (by omega))
 have p := ydW h false (show E ≤ 2 * fe f + 1 by omega) ht
 have c : cls f (enc f false E t) = 6 := yqL h false h1 h2 ht
 refine ymU h 6 (by omega) hQ (by omega) (fun hh => ?_) (fun _ => ?_) (fun E' hE k1 k2 k3 k4 => ?_)
 ·exfalso; omega
 ·exfalso; omega
 ·have : E' = E := by omega
  subst this
  rw [Nat.add_mod_right, Nat.mod_eq_of_lt ht, show ltI 6 4 = false from rfl]
  refine ydh c ?_ ?_ ?_ hK
  ·unfold ycf; rw [c]; show fr f _ + _ = _; rw [p.2.2]
  ·unfold ydb; rw [c]; show (ex f _ : Int) + 1 - fe f - fp f = _; rw [p.2.1]
  ·unfold ufr; rw [c]; exact z0
theorem ytq (v : Nat) (c : UInt8) (h : yj6 c = none) : c ∉ tw v := fun hc => yoN v c hc h
theorem yme {v : Nat} {n : Int} (hv : v < Q6) (hn : -16495 ≤ n ∧ n ≤ 16272) (A B : Prop) (C : List UInt8 → List UInt8 → Prop) (F : Int → Int → Bool → Prop) (T : (Nat → Int) → Int → Prop)
  (hT : T (W v) n) :
  br (eqS (tw v ++ 112 :: Go.Lib.itoa n) [105, 110, 102]) A (br (eqS (tw v ++ 112 :: Go.Lib.itoa n) [48]) B (zcy (tw v ++ 112 :: Go.Lib.itoa n) [58] fun y0_1 y1_1 y2 => br y2 (C y0_1 y1_1) (zcy (tw v ++ 112 :: Go.Lib.itoa n) [112] fun y0 y1_2 y2 => zdj y0 fun y0 y1_3 => zcw y1_2 (fun y0_2 => br (!y2) (F 0 0 false) (br (!eqI y1_3 0) (F 0 0 false) (T y0 y0_2))) fun y0 => br (!y2) (F 0 0 false) (br (!eqI y1_3 0) (F 0 0 false) (F 0 0 false))))) := by
 have l1 := ymO hv
 have l2 := ymc (n := n) (by omega) (by omega)
 have hlen : (tw v ++ 112 :: Go.Lib.itoa n).length ≤ 9223372036854775806 := by
  rw [List.length_append, List.length_cons]; omega
 have n1 : eqS (tw v ++ 112 :: Go.Lib.itoa n) [105, 110, 102] = false := by
  obtain ⟨c, r, e, hc, _⟩ := yoO v (112 :: Go.Lib.itoa n)
  rw [e, ydn]
  refine decide_eq_false fun hh => ?_
  injection hh with hh _
  exact hc (by rw [hh]; decide)
 have n2 : eqS (tw v ++ 112 :: Go.Lib.itoa n) [48] = false := by
  rw [ydn]
  refine decide_eq_false fun hh => ?_
  have : (112 : UInt8) ∈ [(48 : UInt8)] := by rw [← hh]; exact List.mem_append_right _ List.mem_cons_self
  revert this; decide
 rw [yau n1, yau n2]
 refine ytn _ 58 hlen (ys7 v n 58 (by decide) (by decide) (by decide)) _ ?_
 rw [yau (by rfl)]
 refine ypN _ _ 112 hlen (ytq v 112 (by decide)) _ ?_
 refine yfO hv _ ?_
 rw [zcw.is]; unfold zcw.d
 rw [yoK (by omega) (by omega)]
 refine ⟨by omega, ?_⟩
 show br (!true) _ (br (!eqI 0 0) _ _)
 rw [yau (by rfl), yau (by rfl)]
 exact hT
theorem ygX {f E t : Nat} (h : f ≤ 3) (he : E ≤ 2 * fe f + 1) (ht : t < 2 ^ (fp f - 1)) : yld f (enc f false E t) = enc f true E t := by
 have p := ydW h false he ht
 have := yqk f (enc f false E t) h (yfN h he ht false)
 rw [p.1, p.2.1, p.2.2] at this
 exact this.symm
theorem ypP {f E t : Nat} (h : f ≤ 3) (he : E ≤ 2 * fe f + 1) (ht : t < 2 ^ (fp f - 1)) (n : Bool) (F : Int → Int → Bool → Prop) (hF : F (Hi (enc f n E t)) (Lo (enc f n E t)) true) :
  br n (zat f (Hi (enc f false E t)) (Lo (enc f false E t)) fun y0 y1 => F y0 y1 (eqI 0 0)) (F (Hi (enc f false E t)) (Lo (enc f false E t)) (eqI 0 0)) := by
 cases n
 ·exact hF
 ·show zat f _ _ _
  rw [ycd f _ h (yfN h he ht false), ygX h he ht]; exact hF
theorem yjp (f x : Nat) (h : f ≤ 3) (hx : x < 2 ^ fw f) (K : Int → Int → Bool → Prop) (hK : K (Hi x) (Lo x) true) : zbe f (txt f x) K := by
 have w := ycr f h
 have hu := yp3 f x h
 have hs := yey f x h
 have he := ycy f x h
 have hfr := yhA f x
 have hp : 2 ^ fp f = 2 * 2 ^ (fp f - 1) := by rw [← Nat.pow_succ']; congr 1; omega
 rw [zbe.is]; unfold zbe.d
 refine yqg f x _ ?_
 rcases ten f x h hx with ⟨c, e⟩ | ⟨c, e⟩ | ⟨c, e, f0, e1, e2, e3⟩ | ⟨c, e, l1, l2, e1, e2, e3⟩ | ⟨c, e, f0, e1, e2, e3⟩
 ·have hb : body f x = [105, 110, 102] := by
   unfold body; rw [c]; cases ng f x <;> rfl
  rw [hb, yaD (by rfl), yfV f h, ← e]; exact hK
 ·have hb : body f x = [48] := by
   unfold body; rw [c]; cases ng f x <;> rfl
  rw [hb, yau (by rfl), yaD (by rfl), ydr f h, ← e]; exact hK
 ·have hb : body f x = tw (ycf f x) ++ 112 :: Go.Lib.itoa (ydb f x) := by
   unfold body; rw [c]; cases ng f x <;> exact List.append_assoc _ _ _
  rw [hb]
  refine yme hs he _ _ _ K _ ?_
  refine ybq _ hs _ ?_
  rw [yaq f h]
  have hbl := yaN (ycf f x) (fp f - 1)
  rw [yau (yhK (by omega)), e1, e2]
  refine yqD h hfr f0 _ ?_
  refine ypP h (by omega) hfr _ K ?_
  rw [← e]; exact hK
 ·have hb : body f x = tw (ycf f x) ++ 112 :: Go.Lib.itoa (ydb f x) := by
   unfold body; rw [c]; cases ng f x <;> exact List.append_assoc _ _ _
  rw [hb]
  refine yme hs he _ _ _ K _ ?_
  refine ybq _ hs _ ?_
  rw [yaq f h]
  have hbl := yaN (ycf f x) (fp f - 1)
  have hbl2 := yaN (ycf f x) (fp f)
  rw [yaD (yoi (by omega)), e1, e2]
  refine yo8 h hfr l1 l2 _ ?_
  refine ypP h (by omega) hfr _ K ?_
  rw [← e]; exact hK
 ·have hQ : fr f x < Q6 := by rw [← e1]; exact hu
  have hl := ymO hQ
  have key : ∀ (A B C : Prop), zdj (tw (fr f x)) fun y0 y1_2 => br (!eqI y1_2 0) (K 0 0 false) (zdd y0 fun y0_2 => zcp f fun y0_3 => br (leI y0_3 y0_2) (K 0 0 false) (zcl f fun y0_4 => zbb f (ng f x) (yai IntKind.i64 (yaR IntKind.i64 2 y0_4) 1) y0 fun y0 y1 => K y0 y1 true)) := fun A B C => by
   refine yfO hQ _ ?_
   rw [yau (by rfl)]
   refine ybq _ hQ _ ?_
   have hbl := yaN (fr f x) (fp f - 1)
   rw [yaq f h, yau (yeC (by omega)), ya9 f h, ypf f h]
   refine ybx f _ _ h (Nat.le_refl _) hfr _ _ ?_
   rw [← e]; exact hK
  rcases c with c | c
  ·have hb : body f x = [115, 110, 97, 110] ++ 58 :: tw (fr f x) := by
    unfold body; rw [e1, c]; rfl
   rw [hb, yau (by rfl), yau (by rfl)]
   refine ypN _ _ 58 (by rw [List.length_append, List.length_cons]; simp only [List.length_cons, List.length_nil]; omega) (by decide) _ ?_
   exact key True True True
  ·have hb : body f x = [110, 97, 110] ++ 58 :: tw (fr f x) := by
    unfold body; rw [e1, c]; rfl
   rw [hb, yau (by rfl), yau (by rfl)]
   refine ypN _ _ 58 (by rw [List.length_append, List.length_cons]; simp only [List.length_cons, List.length_nil]; omega) (by decide) _ ?_
   exact key True True True
theorem yiR (f x : Nat) (h : f ≤ 3) (hx : x < 2 ^ fw f) (K : Int → Int → Int → Prop) (hK : K (Hi x) (Lo x) 0) : zaw f (txt f x) K := by
 rw [zaw.is]; unfold zaw.d
 rw [yaV f h, yau (by rfl)]
 refine yjp f x h hx _ ?_
 refine yfR f x h hx _ ?_
 rw [yau (by rfl), yau (by rfl), yau (by rw [yqe]; rfl)]
 exact hK
end Go.Ev.S

/- The law RoundOver. -/
set_option linter.unusedVariables false
set_option linter.unusedSimpArgs false
set_option maxRecDepth 8000
namespace Go.Ev.S
open Go Go.Ev
end Go.Ev.S

/- Rounding: what is delivered, by a floor function; the program's packing. -/
set_option linter.unusedVariables false
set_option linter.unusedSimpArgs false
set_option maxRecDepth 8000
namespace Go.Ev.S
open Go Go.Ev
def hf (F : Int → Nat × Bool) (at_ : Int) : Int := if (F (at_ - 1)).1 % 2 = 1 then (if (F (at_ - 1)).2 = true then 0 else 1) else -1
def hj (S k : Nat) : Int := if S / 2 ^ (k - 1) % 2 = 1 then (if S % 2 ^ (k - 1) = 0 then 0 else 1) else -1
end Go.Ev.S

/- Doubling does not change what is delivered. -/
set_option linter.unusedVariables false
set_option linter.unusedSimpArgs false
set_option maxRecDepth 8000
namespace Go.Ev.S
open Go Go.Ev
end Go.Ev.S

/- Rounding as the document has it. -/
set_option linter.unusedVariables false
set_option linter.unusedSimpArgs false
set_option maxRecDepth 8000
namespace Go.Ev.S
open Go Go.Ev
structure FF (F : Int → Nat × Bool) (p : Nat) (top : Int) : Prop where
 lt : ∀ at_, top - p + 1 ≤ at_ → (F at_).1 < 2 ^ p
 ge : 2 ^ (p - 1) ≤ (F (top - p + 1)).1
 ex : ∀ at_, (F at_).2 = true → (F at_).1 ≠ 0
 half : ∀ at_, (F (at_ + 1)).1 = (F at_).1 / 2
theorem ytd (n : Bool) {t : Nat} (h0 : t ≠ 0) {P : Nat} (ht : t < 2 ^ P) (hP : P = 200) {at_ : Int} (hr : -100000 ≤ at_ ∧ at_ ≤ 100000) (K : Bool → List UInt8 → List UInt8 → Int → Int → Prop)
  (hK : ∀ a e, Can n a 1 e → a ≠ 0 → t = a * 2 ^ (e - at_).toNat → at_ ≤ e → e ≤ at_ + 200 → K n (nb a) [1] e 0) : mkE n t 1 at_ K := by
 unfold mkE
 have hl := ylo t P h0 ht
 have o1 : odp 1 = 1 := by unfold odp; rw [show ybG 1 = 0 from ylC 0 0]
 have hB : rdB t 1 = 1 := by unfold rdB; rw [o1, Nat.gcd_one_right]
 have hA : rdA t 1 = odp t := by unfold rdA; rw [o1, Nat.gcd_one_right, Nat.div_one]
 have hE : rdE t 1 at_ = at_ + ybG t := by unfold rdE; rw [show ybG 1 = 0 from ylC 0 0]; omega
 rw [if_neg h0, hA, hB, hE, if_pos (by unfold win; omega), yfQ]
 have ho := yd0 h0
 have hne := ymr h0
 have hfit : fit t := yrm ht (by omega)
 refine hK _ _ ⟨ylO hfit _, yi8, rfl, by unfold win; omega, fun hh => absurd hh hne, fun _ => ⟨ho.2, Nat.gcd_one_right _⟩⟩ hne ?_ (by omega) (by omega)
 rw [show (at_ + (ybG t : Int) - at_).toNat = ybG t from by omega, Nat.mul_comm]; exact ho.1
section
variable {f m : Nat} {n root : Bool} {x y : List UInt8} {e top : Int} {F : Int → Nat × Bool}
end
end Go.Ev.S

/- Floor functions of exact numbers. -/
set_option linter.unusedVariables false
set_option linter.unusedSimpArgs false
set_option maxRecDepth 8000
namespace Go.Ev.S
open Go Go.Ev
end Go.Ev.S

/- Rounding as the program has it. -/
set_option linter.unusedVariables false
set_option linter.unusedSimpArgs false
set_option maxRecDepth 8000
namespace Go.Ev.S
open Go Go.Ev
section
variable {f m : Nat} {n neg root : Bool} {x y : List UInt8} {e top : Int} {F : Int → Nat × Bool}
end
end Go.Ev.S

/- The program's rounding is the document's. -/
set_option linter.unusedVariables false
set_option linter.unusedSimpArgs false
set_option maxRecDepth 8000
namespace Go.Ev.S
open Go Go.Ev
end Go.Ev.S

/- The laws of natural numbers that need quotients. -/
set_option linter.unusedVariables false
set_option linter.unusedSimpArgs false
set_option maxRecDepth 8000
namespace Go.Ev.S
open Go Go.Ev
end Go.Ev.S

/- Roots of exact numbers. -/
set_option linter.unusedVariables false
set_option linter.unusedSimpArgs false
set_option maxRecDepth 8000
namespace Go.Ev.S
open Go Go.Ev
section
variable {f : Nat} {n : Bool} {a b : Nat} {e : Int}
end
end Go.Ev.S

/- The bound of what is rounded. -/
set_option linter.unusedVariables false
set_option linter.unusedSimpArgs false
set_option maxRecDepth 8000
namespace Go.Ev.S
open Go Go.Ev
end Go.Ev.S

/- Rounding turned about. -/
set_option linter.unusedVariables false
set_option linter.unusedSimpArgs false
set_option maxRecDepth 8000
namespace Go.Ev.S
open Go Go.Ev
end Go.Ev.S

/- The neighbours and tininess. -/
set_option linter.unusedVariables false
set_option linter.unusedSimpArgs false
set_option maxRecDepth 8000
namespace Go.Ev.S
open Go Go.Ev
end Go.Ev.S

/- What is exact is delivered as it is; the root of a square. -/
set_option linter.unusedVariables false
set_option linter.unusedSimpArgs false
set_option maxRecDepth 8000
namespace Go.Ev.S
open Go Go.Ev
theorem yoX {f x : Nat} (h : f ≤ 3) (hx : x < 2 ^ fw f) (hf : fin f x) (h0 : mg f x ≠ 0) :
  ycf f x ≠ 0 ∧ pl f (tp (ycf f x) 1 + ydb f x) = ydb f x ∧ ¬ (fe f : Int) < tp (ycf f x) 1 + ydb f x ∧ yqT f (ng f x) (ydb f x) (ycf f x) = x := by
 obtain ⟨w1, w2, w3, w4, w5, w6⟩ := ycr f h
 have u0 : ycf f x ≠ 0 := fun hh => h0 ((yjV f x hf).1 hh)
 have hu := ypz f x hf
 have he := ysI f x hf h0
 have hfr := yhA f x
 have hex := ynb f x
 have hxm := yug f x h hx
 have hfin : ex f x ≠ 2 * fe f + 1 := hf
 have htp := ymM u0
 have e2 : 2 ^ fp f = 2 ^ (fp f - 1) + 2 ^ (fp f - 1) := by rcases yec h with rfl | rfl | rfl | rfl <;> decide
 have hfe : 1 ≤ fe f := by rcases yec h with rfl | rfl | rfl | rfl <;> decide
 refine ⟨u0, ?_⟩
 by_cases hz : ex f x = 0
 ·rw [if_pos hz] at hu he
  have hb : yaC (ycf f x) ≤ fp f - 1 := by rw [yaN, hu]; exact hfr
  have hp : pl f (tp (ycf f x) 1 + ydb f x) = ydb f x := by
   unfold pl; rw [if_pos (by omega)]; omega
  refine ⟨hp, by omega, ?_⟩
  have : mg f x = fr f x := by unfold mg; rw [hz]; omega
  refine Eq.trans ?_ hxm.symm
  unfold yqT; rw [he, hu, this, show (2 - (fe f : Int) - fp f + fe f + fp f - 2).toNat = 0 from by omega, Nat.zero_mul, Nat.zero_add]
 ·rw [if_neg hz] at hu he
  have hb : yaC (ycf f x) = fp f := by
   have l1 : yaC (ycf f x) ≤ fp f := by rw [yaN]; omega
   have l2 : ¬ yaC (ycf f x) ≤ fp f - 1 := by rw [yaN]; omega
   omega
  have ht : tp (ycf f x) 1 + ydb f x = (ex f x : Int) - fe f := by omega
  rw [ht]
  refine ⟨?_, by omega, ?_⟩
  ·unfold pl; rw [if_neg (by omega)]; omega
  ·refine Eq.trans ?_ hxm.symm
   unfold yqT mg
   rw [he, hu, show ((ex f x : Int) + 1 - fe f - fp f + fe f + fp f - 2).toNat = ex f x - 1 from by omega]
   obtain ⟨q, hq⟩ : ∃ q, ex f x = q + 1 := ⟨ex f x - 1, by omega⟩
   rw [hq, Nat.add_sub_cancel, Nat.add_mul]; omega
end Go.Ev.S

/- There and back: parts, texts, values. -/
set_option linter.unusedVariables false
set_option linter.unusedSimpArgs false
set_option maxRecDepth 8000
namespace Go.Ev.S
open Go Go.Ev
theorem ypp (f x : Nat) (h : f ≤ 3) (hx : x < 2 ^ fw f) (K : Int → Int → Int → Prop) (h1 : K (Hi x) (Lo x) 0) (h2 : 8 ≤ cls f x → ng f x = true → K (Hi (yld f x)) (Lo (yld f x)) 0) :
  zav f (cls f x) (W (ycf f x)) (ydb f x) (W (ufr f x)) K := by
 have w := ycr f h
 have hfr := yhA f x
 have hs := yey f x h
 have he := ycy f x h
 have h1fe : 1 ≤ fe f := by rcases yec h with rfl | rfl | rfl | rfl <;> decide
 have hp : 2 ^ fp f = 2 * 2 ^ (fp f - 1) := by rw [← Nat.pow_succ']; congr 1; omega
 rcases ten f x h hx with ⟨c, e⟩ | ⟨c, e⟩ | ⟨c, e, f0, e1, e2, e3⟩ | ⟨c, e, l1, l2, e1, e2, e3⟩ | ⟨c, e, f0, e1, e2, e3⟩
 ·refine ytw h _ (by rw [c]; cases ng f x <;> simp) ?_
  have : ltI (cls f x) 4 = ng f x := by rw [c]; cases ng f x <;> rfl
  rw [this, ← e]
  exact ydh rfl rfl rfl rfl h1
 ·refine yr5 h _ (by rw [c]; cases ng f x <;> simp) ?_
  have : ltI (cls f x) 4 = ng f x := by rw [c]; cases ng f x <;> rfl
  rw [this, ← e]
  exact ydh rfl rfl rfl rfl h1
 ·refine ymU h _ (by rw [c]; cases ng f x <;> simp) hs (by omega) (fun hh => ?_) (fun _ => ?_) (fun E hE k1 k2 k3 k4 => by omega)
  ·exfalso; omega
  ·have : ltI (cls f x) 4 = ng f x := by rw [c]; cases ng f x <;> rfl
   have q : enc f (ng f x) 0 (ycf f x) = x := by rw [e1]; exact e.symm
   rw [this, q]
   exact ydh rfl rfl rfl rfl h1
 ·refine ymU h _ (by rw [c]; cases ng f x <;> simp) hs (by omega) (fun hh => ?_) (fun _ => ?_) (fun E hE k1 k2 k3 k4 => ?_)
  ·exfalso; omega
  ·exfalso; omega
  ·have : ltI (cls f x) 4 = ng f x := by rw [c]; cases ng f x <;> rfl
   have hE' : E = ex f x := by omega
   have q : enc f (ng f x) E (ycf f x % 2 ^ (fp f - 1)) = x := by
    rw [e1, Nat.add_mod_right, Nat.mod_eq_of_lt hfr, hE']; exact e.symm
   rw [this, q]
   exact ydh rfl rfl rfl rfl h1
 ·rw [e1]
  have hQ : fr f x < Q6 := Nat.lt_of_lt_of_le hfr (ynX (by omega))
  refine ytx h _ (by omega) hQ (fun hh => by omega) (fun _ => ?_)
  have p := ydW h false (Nat.le_refl (2 * fe f + 1)) hfr
  have e' := ymq f x h hx
  have hex : ex f x = 2 * fe f + 1 := ysW f x (by omega)
  have sb : enc f false (2 * fe f + 1) (fr f x) = cond (ng f x) (yld f x) x := by
   cases hn : ng f x
   ·rw [hn] at e; exact e.symm
   ·have := ygX h (Nat.le_refl (2 * fe f + 1)) hfr
    rw [hn] at e
    rw [← e] at this
    rw [← this, ye4]; simp [this]
  have c' : cls f (enc f false (2 * fe f + 1) (fr f x)) = cls f x := by
   unfold cls; rw [p.2.1, p.2.2, if_pos rfl, if_pos f0, if_pos hex, if_pos f0]
  refine ydh c' ?_ ?_ ?_ ?_
  ·rw [e2]; unfold ycf; rw [c']; rcases c with c | c <;> rw [c] <;> rfl
  ·rw [e3]; unfold ydb; rw [c']; rcases c with c | c <;> rw [c] <;> rfl
  ·unfold ufr; rw [c', p.2.2]; rcases c with c | c <;> rw [c] <;> rfl
  ·rw [sb]
   cases hn : ng f x
   ·exact h1
   ·exact h2 (by omega) hn
theorem ytm (f x : Nat) (h : f ≤ 3) (hx : x < 2 ^ fw f) (hf : fin f x) (K : Bool → List UInt8 → List UInt8 → Int → Int → Prop)
  (hK : ∀ n a b e, (∀ Q : Int → Int → Bool → Int → Prop, (mg f x ≠ 0 → Q (Hi x) (Lo x) true 0) → (mg f x = 0 → Q 0 0 true 0) → zau f n a b e Q) → K n a b e 0) : zba f (Hi x) (Lo x) K := by
 refine yi2 f x h hx hf _ ?_
 by_cases h0 : mg f x = 0
 ·have u0 := (yjV f x hf).2 h0
  refine yrj f x h _ fun n a e c v l1 l2 l3 => ?_
  refine hK _ _ _ _ fun Q q1 q2 => ?_
  rw [← yfQ]
  refine yif f h c _ ?_
  have a0 : a = 0 := by
   apply Classical.byContradiction
   intro ha
   rw [u0, yo4] at v
   have := ytA (n := n) ha (show (1 : Nat) ≠ 0 by decide) e
   cases n
   ·have := this.1.1 rfl; grind
   ·have := this.2.1 rfl; grind
  unfold ofE
  rw [if_pos a0]; exact q2 h0
 ·obtain ⟨u0, hp, ht, he⟩ := yoX h hx hf h0
  have hr := ycy f x h
  have ht1 := yjm f x h
  have w := ycr f h
  obtain ⟨P, hP⟩ : ∃ P, P = 200 := ⟨_, rfl⟩
  refine ytd _ u0 (P := P) (Nat.lt_of_lt_of_le ht1 (Nat.pow_le_pow_right (by omega) (by omega))) hP (by omega) _ fun a e c ha g1 g2 g3 => ?_
  refine hK _ _ _ _ fun Q q1 q2 => ?_
  rw [← yfQ]
  refine yif f h c _ ?_
  have hb : yaC (ycf f x) = yaC a + (e - ydb f x).toNat := by rw [g1]; exact ygs _ _ ha
  have e1 : tp a 1 + e = tp (ycf f x) 1 + ydb f x := by rw [ymM ha, ymM u0, hb]; omega
  unfold ofE
  rw [if_neg ha, e1, hp, if_neg (by omega), ← g1, he]
  exact q1 h0
theorem ypK (f x : Nat) (h : f ≤ 3) (hx : x < 2 ^ fw f) (c : cls f x = 3) : yld f x = 0 := by
 rcases ten f x h hx with ⟨c', e⟩ | ⟨c', e⟩ | ⟨c', _⟩ | ⟨c', _⟩ | ⟨c', _⟩
 ·rw [c] at c'; revert c'; cases ng f x <;> simp
 ·have hn : ng f x = true := by rw [c] at c'; revert c'; cases ng f x <;> simp
  rw [hn] at e
  have := ygX h (show 0 ≤ 2 * fe f + 1 by omega) (Nat.two_pow_pos (fp f - 1))
  rw [← e] at this
  rw [← this, ye4]; unfold enc; rw [Nat.zero_mul]; rfl
 ·rw [c] at c'; revert c'; cases ng f x <;> simp
 ·rw [c] at c'; revert c'; cases ng f x <;> simp
 ·omega
theorem yqm {f x : Nat} (hf : fin f x) (h0 : mg f x = 0) : cls f x = cond (ng f x) 3 4 := by
 have := Nat.two_pow_pos (fp f - 1)
 unfold mg at h0
 have hx0 : ex f x = 0 := by
  rcases Nat.eq_zero_or_pos (ex f x) with h | h
  ·exact h
  ·have := Nat.mul_le_mul h this; omega
 have hf0 : fr f x = 0 := by omega
 unfold cls
 rw [if_neg hf, if_neg (by omega), if_neg (by omega)]
theorem ym4 {p q : Prop} (h : q) : br (!eqI 0 0) p q := h
theorem ysJ {x : Nat} {p q : Prop} (h : q) : br (!(eqI (Hi x) (Hi x) && eqI (Lo x) (Lo x))) p q := by rw [ypj, yau (by simp)]; exact h
theorem kindBack (a0 a1_0 a1_1 : Int) (w0 : (Lit.int .u8 a0).wf = true) (w1 : (Lit.int .u64 a1_0).wf = true) (w2 : (Lit.int .u64 a1_1).wf = true)
  (K : Bool → Prop) (hK : K true) : zbf a0 a1_0 a1_1 K := by
 obtain ⟨f, rfl, hf⟩ := ys5 w0
 obtain ⟨x, hx, rfl, rfl⟩ := yrf w1 w2
 have hal : zbg fun y0 => K y0 := yhC _ hK
 rw [zbf.is]; unfold zbf.d
 rcases yno f x with ⟨h, hx'⟩ | hb
 rotate_left
 ·have hun : ∀ Q : Int → (Nat → Int) → Int → (Nat → Int) → Int → Prop, Q 0 (fun _ => 0) 0 (fun _ => 0) 2 → zaz f (Hi x) (Lo x) Q := by
   intro Q hQ
   rw [zaz.is]; unfold zaz.d
   rcases hb with ⟨h, h2⟩ | h
   ·rw [ybu f x h hx, yaD (by simpa using h2)]; exact hQ
   ·rw [yeM f h, yaD (show (!false) = true from rfl)]; exact hQ
  refine hun _ ?_
  rw [yaD (show (!eqI 2 0) = true from rfl), zbh.is]; unfold zbh.d
  refine yjN f x hx hb _ ?_
  exact hal
 -- the rest, after the parts
 have rest : zay f (Hi x) (Lo x) fun y0_2 y1 => zaw f y0_2 fun y0_3 y1_1 y2 => br (!eqI y1 0) (K false) (br (!eqI y2 0) (K false) (br (!(eqI y0_3 (Hi x) && eqI y1_1 (Lo x))) (K false) (zat f (Hi x) (Lo x) fun y0_4 y1 => zat f y0_4 y1 fun y0_5 y1 => br (!(eqI y0_5 (Hi x) && eqI y1 (Lo x))) (K false) (zba f (Hi x) (Lo x) fun y0_6 y1 y2 y3 y4 => br (!eqI y4 0) (br (leI 8 (cls f x)) (zbg fun y0 => K y0) (br (eqI (cls f x) 0) (zbg fun y0 => K y0) (br (eqI (cls f x) 7) (zbg fun y0 => K y0) (K false)))) (zau f y0_6 y1 y2 y3 fun y0_7 y1 y2 y3 => br (eqI y3 0) (br y2 (br (eqI y0_7 (Hi x) && eqI y1 (Lo x)) (zbg fun y0 => K y0) (br (eqI (cls f x) 3) (zat f (Hi x) (Lo x) fun y0 y1_2 => br (eqI y0_7 y0 && eqI y1 y1_2) (zbg fun y0 => K y0) (K false)) (K false))) (K false)) (K false)))))) := by
  refine yfR f x h hx' _ ?_
  refine yiR f x h hx' _ ?_
  refine ym4 (ym4 (ysJ ?_))
  rw [ycd f x h hx', ycd f _ h (ysA f x h hx'), ye4]
  refine ysJ ?_
  by_cases hfi : fin f x
  ·refine ytm f x h hx' hfi _ fun n a b e ho => ?_
   refine ym4 ?_
   refine ho _ (fun _ => ?_) (fun h0 => ?_)
   ·rw [yaD (by rfl), yaD (by rfl)]
    exact ypk hal
   ·have c := yqm hfi h0
    rw [yaD (by rfl), yaD (by rfl)]
    cases hn : ng f x
    ·rw [hn] at c
     have e : x = 0 := by
      rcases ten f x h hx' with ⟨c', e⟩ | ⟨c', e⟩ | ⟨c', _⟩ | ⟨c', _⟩ | ⟨c', _⟩
      ·rw [c] at c'; revert c'; cases ng f x <;> simp
      ·rw [hn] at e; rw [e]; unfold enc; rw [Nat.zero_mul]; rfl
      ·rw [c] at c'; revert c'; cases ng f x <;> simp
      ·rw [c] at c'; revert c'; cases ng f x <;> simp
      ·simp at c; omega
     subst e
     rw [yaD (by rfl)]; exact hal
    ·rw [hn] at c
     have hz := ypK f x h hx' c
     cases eqI 0 (Hi x) && eqI 0 (Lo x)
     ·rw [yau (by rfl), c, yaD (by rfl), ycd f x h hx', hz, yaD (by rfl)]; exact hal
     ·exact hal
  ·refine yhP f x h hx' hfi _ ?_
   rw [yaD (by rfl)]
   rcases ypy hfi with c | c
   ·rw [yau (yeC (by omega)), yaD (by rw [c]; rfl)]; exact hal
   ·by_cases c8 : 8 ≤ cls f x
    ·rw [yaD (ya7 c8)]; exact hal
    ·rw [yau (yeC (by omega)), yau (yhK (by omega)), yaD (by rw [show cls f x = 7 from by omega]; rfl)]; exact hal
 refine ybE f x h hx' _ ?_
 refine ym4 ?_
 refine ypp f x h hx' _ ?_ fun c8 hn => ?_
 ·exact ym4 (ysJ rest)
 ·refine ym4 ?_
  have pairs : ∀ (b : Bool) (p q : Prop), p → q → br (!b) p q := by intro b p q hp hq; cases b <;> assumption
  refine pairs _ _ _ ?_ rest
  rw [yaD (ya7 c8), ycd f x h hx']
  refine ypk ?_
  rw [yf3 f x h hx', hn]
  exact rest
end Go.Ev.S
