/- What the document's answer reckons with natural numbers: quotients, greatest common divisors, roots. -/
import Derived.Test.YtnomdgcpklbcfaaGreatDoorLA
import Derived.Test.YtnomdgcpklbcfaaGreatDoorDA
set_option linter.unusedVariables false
set_option linter.unusedSimpArgs false
set_option maxRecDepth 8000
namespace Go.Ev.S
open Go Go.Ev
theorem ytd {x y : Nat} (h : y ≤ x) : leI 0 (sgn x y) = true := by
 unfold sgn
 rw [if_neg (by omega)]
 split
 ·exact ya9 (by omega)
 ·exact ya9 (by omega)
theorem ytb {x y : Nat} (h : x < y) : leI 0 (sgn x y) = false := by
 unfold sgn
 rw [if_pos h]
 exact yeu (by omega)
theorem ys8 (x i : Nat) : dg 8 x (i / 8) / 2 ^ (i % 8) % 2 = x / 2 ^ i % 2 := by
 unfold dg
 have h2 : (2 : Nat) ^ 8 = 2 ^ (i % 8) * 2 ^ (8 - i % 8) := by rw [← Nat.pow_add]; congr 1; omega
 have h3 : (2 : Nat) ∣ 2 ^ (8 - i % 8) := Nat.dvd_trans (by rw [Nat.pow_one]; exact Nat.dvd_refl _ : (2 : Nat) ∣ 2 ^ 1) (Nat.pow_dvd_pow 2 (by omega))
 rw [h2, Nat.mod_mul_right_div_self, Nat.mod_mod_of_dvd _ h3, Nat.div_div_eq_div_mul, ← Nat.pow_add, show 8 * (i / 8) + i % 8 = i from by omega]
theorem ynU (a : List UInt8) (i : Nat) (hi : i ≤ 1000000000) (hl : a.length ≤ 1000000000) (K : Int → Prop) : zcu a i K = K ((val a / 2 ^ i % 2 : Nat) : Int) := by
 rw [zcu.is]; unfold zcu.d
 have hd := ya5 8 (val a) (i / 8)
 rw [B8] at hd
 have e62 : (2 : Nat) ^ 62 = 4611686018427387904 := rfl
 have e0 : yaC IntKind.i64 (i : Int) 8 = ((i / 8 : Nat) : Int) := by rw [ybH (by omega) (by omega) (by omega)]; omega
 have e1 : cvI IntKind.u64 (yb8 IntKind.i64 (i : Int) 8) = ((i % 8 : Nat) : Int) := by rw [yfY (by omega), yaQ (by omega) (by omega)]; omega
 have hle := Nat.div_le_self (dg 8 (val a) (i / 8)) (2 ^ (i % 8))
 rw [e0, e1, ybr a _ (by omega) hl, ya2 (by omega), yo6 _ _ (by omega), yqp _ (by omega), ys8]
 rfl
theorem yia (a : List UInt8) (one : Nat) (h1 : one < 2) (hl : a.length ≤ 1000000) (c0 m0 : Nat) (k0 : Nat → Nat → Nat → (Nat → Int) → Prop) (h : k0 (a.length + 1) c0 m0 (G 8 (2 * val a + one))) :
  ∀ (j i Z c : Nat), i + j = a.length + 1 → Z < 2 ^ (8 * i) → c < 2 → Z + c * 2 ^ (8 * i) = 2 * (val a % 2 ^ (8 * i)) + one → zcv.l4 k0 (j + 1) a (a.length + 1) c0 c i m0 (G 8 Z) := by
 intro j
 induction j with
 | zero =>
  intro i Z c hi hZ hc hE
  have hi : i = a.length + 1 := by omega
  subst hi
  have hx := ybe a
  have hp : 2 ^ (8 * (a.length + 1)) = 2 ^ (8 * a.length) * 256 := by rw [yb9, B8]
  have hpp := Nat.two_pow_pos (8 * a.length)
  rw [Nat.mod_eq_of_lt (by omega)] at hE
  have hc0 : c = 0 := by
   rcases (by omega : c = 0 ∨ c = 1) with e | e
   ·exact e
   ·subst e; omega
  subst hc0
  unfold zcv.l4 zcv.l4.step
  rw [yau (yeu (by omega))]
  rw [← hE, Nat.zero_mul, Nat.add_zero] at h
  exact h
 | succ j ih =>
  intro i Z c hi hZ hc hE
  have hd := ya5 8 (val a) i
  rw [B8] at hd
  have e1 : ybT IntKind.i64 2 ((dg 8 (val a) i : Nat) : Int) = ((2 * dg 8 (val a) i : Nat) : Int) := by rw [yb3 (by omega) (by omega)]; omega
  have e2 : yai IntKind.i64 (c : Int) ((2 * dg 8 (val a) i : Nat) : Int) = ((c + 2 * dg 8 (val a) i : Nat) : Int) := by rw [yas (by omega) (by omega)]; omega
  have e3 : ya7 IntKind.i64 ((c + 2 * dg 8 (val a) i : Nat) : Int) 8 = (((c + 2 * dg 8 (val a) i) / 256 : Nat) : Int) := by rw [yhS]; omega
  have e4 : cvI IntKind.u8 ((c + 2 * dg 8 (val a) i : Nat) : Int) = (((c + 2 * dg 8 (val a) i) % 256 : Nat) : Int) := by rw [yjc]; omega
  have e5 : yai IntKind.i64 (i : Int) 1 = ((i + 1 : Nat) : Int) := by rw [yas (by omega) (by omega)]; omega
  have hw : (c + 2 * dg 8 (val a) i) % 256 < 2 ^ 8 := Nat.mod_lt _ (by omega)
  unfold zcv.l4 zcv.l4.step
  rw [yaA (ya9 (by omega)), ybr a i (by omega) (by omega), ybo (by rw [ya9 (by omega), yaZ (by omega)]; rfl), e1, e2, e3, e4, e5, Int.toNat_natCast, yk6 8 Z _ i hZ hw]
  refine ih (i + 1) _ _ (by omega) (yhr 8 Z _ i hZ hw) (by omega) ?_
  rw [ybh, yb9, B8]
  have := yjB (c + 2 * dg 8 (val a) i) 256 (2 ^ (8 * i))
  rw [Nat.add_mul c, Nat.mul_assoc] at this
  rw [Nat.mul_add]
  omega
theorem yj5 (a : List UInt8) (one : Nat) (h1 : one < 2) (hl : a.length ≤ 1000000) (K : List UInt8 → Prop) (h : K (nb (2 * val a + one))) : zcv a one K := by
 rw [zcv.is]; unfold zcv.d
 have e1 : Int.toNat ((a.length : Int) + 1) = a.length + 1 := by omega
 simp (disch := omega) only [ya9, yaF, Bool.and_self, yas, e1]
 refine ⟨a.length + 2, ?_⟩
 have hx := ybe a
 have := yia a one h1 hl (a.length + 1) (a.length + 1) (fun y0 y1 y2 y3 => zcw y0 y3 fun y0 => K y0) ?_ (a.length + 1) 0 0 one (by omega) (by simp) h1 (by simp [Nat.mod_one])
 ·rw [ycx] at this; exact this
 ·refine ycE _ _ (by omega) ?_ _ h
  rw [yb9, B8]; omega
theorem yrn (x t : Nat) : x / 2 ^ t = 2 * (x / 2 ^ (t + 1)) + x / 2 ^ t % 2 := by
 rw [Nat.pow_succ, ← Nat.div_div_eq_div_mul]
 omega
theorem yq8 (X y q r b : Nat) (hy : 0 < y) (hq : X / y = q) (hr : X % y = r) (hb : b < 2) :
  (y ≤ 2 * r + b → (2 * X + b) / y = 2 * q + 1 ∧ (2 * X + b) % y = 2 * r + b - y) ∧ (2 * r + b < y → (2 * X + b) / y = 2 * q ∧ (2 * X + b) % y = 2 * r + b) := by
 have h1 := Nat.div_add_mod X y
 have h2 := Nat.mod_lt X hy
 rw [hq, hr] at h1
 rw [hr] at h2
 have h3 : 2 * X + b = 2 * r + b + y * (2 * q) := by rw [← h1, Nat.mul_left_comm y 2 q]; omega
 constructor
 ·intro h
  have h4 : 2 * X + b = (2 * r + b - y) + y * (2 * q + 1) := by rw [h3, Nat.mul_add]; omega
  rw [h4, Nat.add_mul_div_left _ _ hy, Nat.add_mul_mod_self_left, Nat.div_eq_of_lt (by omega), Nat.mod_eq_of_lt (by omega)]
  omega
 ·intro h
  rw [h3, Nat.add_mul_div_left _ _ hy, Nat.add_mul_mod_self_left, Nat.div_eq_of_lt h, Nat.mod_eq_of_lt h]
  omega
theorem ysr (q t : Nat) : upd (G 8 (q * 2 ^ (t + 1))) (t / 8) (orI IntKind.u8 ((dg 8 (q * 2 ^ (t + 1)) (t / 8) : Nat) : Int) (ybQ IntKind.u8 1 ((t % 8 : Nat) : Int))) = G 8 ((2 * q + 1) * 2 ^ t) := by
 have hb : IntKind.bits .u8 = 8 := rfl
 have hd := ya5 8 (q * 2 ^ (t + 1)) (t / 8)
 have h8 : (2 : Nat) ^ 8 = 2 ^ (t % 8 + 1) * 2 ^ (8 - (t % 8 + 1)) := by rw [← Nat.pow_add]; congr 1; omega
 have hmod : dg 8 (q * 2 ^ (t + 1)) (t / 8) % 2 ^ (t % 8 + 1) = 0 := by
  unfold dg
  rw [Nat.mod_mod_of_dvd _ ⟨_, h8⟩, show t + 1 = t % 8 + 1 + 8 * (t / 8) from by omega, Nat.pow_add, ← Nat.mul_assoc, Nat.mul_div_cancel _ (Nat.two_pow_pos _)]
  exact Nat.mul_mod_left _ _
 have hlt : 2 ^ (t % 8) < 2 ^ (t % 8 + 1) := Nat.pow_lt_pow_right (by omega) (by omega)
 have h1 : ybQ IntKind.u8 1 ((t % 8 : Nat) : Int) = ((2 ^ (t % 8) : Nat) : Int) := by
  have := yn9 (k := .u8) rfl 1 (t % 8) (by rw [hb]; omega)
  rw [Nat.one_mul, hb, Nat.mod_eq_of_lt (Nat.pow_lt_pow_right (by omega) (by omega))] at this
  exact this
 have hs : dg 8 (q * 2 ^ (t + 1)) (t / 8) ||| 2 ^ (t % 8) = 2 ^ (t % 8) + dg 8 (q * 2 ^ (t + 1)) (t / 8) := by
  rw [Nat.or_comm]; exact yeU hlt hmod
 have hs2 : dg 8 (q * 2 ^ (t + 1)) (t / 8) ||| 2 ^ (t % 8) < 2 ^ 8 := Nat.or_lt_two_pow hd (Nat.pow_lt_pow_right (by omega) (by omega))
 rw [h1, yrS (k := .u8) rfl _ _ (by rw [hb]; exact hd) (by rw [hb]; exact Nat.pow_lt_pow_right (by omega) (by omega))]
 refine ygF ?_ hs2
 rw [hs, Nat.add_mul (2 ^ (t % 8)), ← Nat.pow_add, show t % 8 + 8 * (t / 8) = t from by omega, Nat.add_mul (2 * q) 1, Nat.one_mul, Nat.pow_succ, Nat.mul_comm (2 ^ t) 2, ← Nat.mul_assoc, Nat.mul_comm q 2]
 omega
theorem ynn {x n : Nat} (h : x < 2 ^ (8 * n)) : (nb x).length ≤ n := (ybA x n).2 (by rw [yop]; exact h)
theorem ylz (a b : List UInt8) (hl : a.length ≤ 100000) (hlb : b.length ≤ 100000) (hb : yjb b = true) (hy : 0 < val b) (c0 m0 : Nat) (k0 : List UInt8 → Nat → Nat → Nat → (Nat → Int) → Prop)
  (h : k0 (nb (val a % val b)) (a.length + 1) c0 m0 (G 8 (val a / val b))) :
  ∀ t, t ≤ 8 * a.length → zci.l10 k0 (t + 1) a b (nb (val a / 2 ^ t % val b)) (a.length + 1) c0 ((t : Int) - 1) m0 (G 8 (val a / 2 ^ t / val b * 2 ^ t)) := by
 intro t
 induction t with
 | zero =>
  intro ht
  unfold zci.l10 zci.l10.step
  rw [yau (yeu (by omega)), Nat.pow_zero, Nat.div_one, Nat.mul_one]
  exact h
 | succ t ih =>
  intro ht
  have ih := ih (by omega)
  have hx := yrn (val a) t
  have hb2 : val a / 2 ^ t % 2 < 2 := Nat.mod_lt _ (by omega)
  generalize hbit : val a / 2 ^ t % 2 = bit at *
  rw [hx] at ih
  generalize val a / 2 ^ (t + 1) = X at *
  obtain ⟨s1, s2⟩ := yq8 X (val b) _ _ bit hy rfl rfl hb2
  have hr := Nat.mod_lt X hy
  have hyl := ybe b
  generalize hre : X % val b = r at *
  generalize hqe : X / val b = q at *
  have lr : (nb r).length ≤ b.length := ynn (by omega)
  have e1 : ((t + 1 : Nat) : Int) - 1 = (t : Int) := by omega
  have e2 : yaC IntKind.i64 (t : Int) 8 = ((t / 8 : Nat) : Int) := by rw [ybH (by omega) (by omega) (by omega)]; omega
  have e3 : cvI IntKind.u64 (yb8 IntKind.i64 (t : Int) 8) = ((t % 8 : Nat) : Int) := by rw [yfY (by omega), yaQ (by omega) (by omega)]; omega
  have e4 : yao IntKind.i64 (t : Int) 1 = (t : Int) - 1 := by rw [yar (by omega) (by omega)]
  have w0 : (leI 0 ((t / 8 : Nat) : Int) && ltI ((t / 8 : Nat) : Int) ((a.length + 1 : Nat) : Int)) = true := by rw [ya9 (by omega), yaZ (by omega)]; rfl
  unfold zci.l10 zci.l10.step
  rw [e1, yaA (ya9 (by omega)), ynU a t (by omega) (by omega), hbit]
  refine yj5 (nb r) bit hb2 (by omega) _ ?_
  rw [yaJ, yfG _ b (yhB _) hb, yaJ]
  have l2 : (nb (2 * r + bit)).length ≤ b.length + 1 := ynn (by rw [yb9, B8]; omega)
  by_cases hc : val b ≤ 2 * r + bit
  ·obtain ⟨g1, g2⟩ := s1 hc
   rw [g1, g2] at ih
   rw [yaA (ytd hc)]
   refine yn1 _ b (by omega) (by omega) (by rw [yaJ]; exact hc) _ ?_
   rw [yaJ, e2, e3, ybo w0, ybo (by rw [ya2 (by omega)]; rfl), ybo w0, Int.toNat_natCast, ybn, ysr, e4]
   exact ih
  ·obtain ⟨g1, g2⟩ := s2 (by omega)
   rw [g1, g2, show 2 * q * 2 ^ t = q * 2 ^ (t + 1) from by rw [Nat.pow_succ, Nat.mul_comm 2 q, Nat.mul_assoc, Nat.mul_comm 2]] at ih
   rw [yau (ytb (by omega)), e4]
   exact ih
theorem yeh (a b : List UInt8) (ha : May a) (hb : May b) (K : List UInt8 → List UInt8 → Int → Prop) (h0 : b = [] → K [] [] 2) (h2 : val b ≠ 0 → K (nb (val a / val b)) (nb (val a % val b)) 0) : zci a b K := by
 rw [zci.is]; unfold zci.d
 rw [ybb]
 by_cases hz : b = []
 ·rw [yaA (by simpa using hz)]; exact h0 hz
 ·rw [yau (by simpa using hz), yfG a b ha.2 hb.2, ypj]
  have hv : val b ≠ 0 := fun e => hz ((ykn hb.2).1 e)
  have h2 := h2 hv
  have l1 := ha.1; have l2 := hb.1
  by_cases hlt : val a < val b
  ·rw [yaA (by simpa using hlt)]
   rw [Nat.div_eq_of_lt hlt, Nat.mod_eq_of_lt hlt, yaN, ha.nb] at h2
   exact h2
  ·rw [yau (by simpa using hlt)]
   have va : val a ≠ 0 := by omega
   refine yej a _ (yej b _ ?_)
   rw [if_pos ha, if_pos hb]
   have ba : yaw (val a) ≤ 8 * a.length := (yaV _ _).2 (ybe a)
   have bb : yaw (val b) ≤ 8 * b.length := (yaV _ _).2 (ybe b)
   have bp := ynv hv
   have bm : yaw (val b) ≤ yaw (val a) := (yaV _ _).2 (by have := ykx (val a); omega)
   have e1 : yao IntKind.i64 ((yaw (val a) : Nat) : Int) (yao IntKind.i64 ((yaw (val b) : Nat) : Int) 1) = ((yaw (val a) - (yaw (val b) - 1) : Nat) : Int) := by
    simp (disch := omega) only [yar]; omega
   rw [e1]
   have hT : val a / 2 ^ (yaw (val a) - (yaw (val b) - 1)) < val b := by
    rw [Nat.div_lt_iff_lt_mul (Nat.two_pow_pos _)]
    have g1 := yqn hv
    have g2 := ykx (val a)
    have g3 := Nat.mul_le_mul_right (2 ^ (yaw (val a) - (yaw (val b) - 1))) g1
    rw [← Nat.pow_add, show yaw (val b) - 1 + (yaw (val a) - (yaw (val b) - 1)) = yaw (val a) from by omega] at g3
    omega
   generalize hTe : yaw (val a) - (yaw (val b) - 1) = T at *
   refine yf9 a _ (by omega) ha _ (fun e => by omega) (fun _ e => absurd ((ykn ha.2).2 e) va) fun _ _ => ?_
   rw [Int.toNat_natCast]
   have e2 : yai IntKind.i64 ((a.length : Nat) : Int) 1 = (a.length : Int) + 1 := by rw [yas (by omega) (by omega)]
   have e3 : Int.toNat ((a.length : Int) + 1) = a.length + 1 := by omega
   rw [e2, ybo (by rw [ya9 (by omega), ya9 (by omega), ya9 (by omega)]; rfl), e3, yar (by omega) (by omega)]
   refine ⟨T + 1, ?_⟩
   have := ylz a b (by omega) (by omega) hb.2 (by omega) (a.length + 1) (a.length + 1) (fun y0 y1 y2 y3 y4 => zcw y1 y4 fun y0_3 => K y0_3 y0 0) ?_ T (by omega)
   ·rw [Nat.mod_eq_of_lt hT, Nat.div_eq_of_lt hT, Nat.zero_mul, ycx] at this
    exact this
   ·refine ycE _ _ (by omega) ?_ _ h2
    have g1 := Nat.div_le_self (val a) (val b)
    have g2 := ybe a
    have g3 : 2 ^ (8 * a.length) ≤ 2 ^ (8 * (a.length + 1)) := yb0 (by omega)
    omega
theorem yrl {x y : Nat} (h : x ≤ y) (hm : May (nb y)) : May (nb x) := by
 refine ⟨?_, yhB x⟩
 have := (ybA y _).1 hm.1
 exact (ybA x _).2 (by omega)
theorem yle (k0 : List UInt8 → Prop) : ∀ (y x : Nat), May (nb x) → May (nb y) → k0 (nb (Nat.gcd x y)) → ∃ f, zcj.l1 k0 f (nb x) (nb y) := by
 intro y
 induction y using Nat.strongRecOn with
 | _ y ih =>
  intro x hx hy hk
  by_cases h0 : y = 0
  ·subst h0
   refine ⟨1, ?_⟩
   unfold zcj.l1 zcj.l1.step
   rw [yaN, ybb, yau (by rfl)]
   rw [Nat.gcd_zero_right] at hk; exact hk
  ·have hm := Nat.mod_lt x (show 0 < y by omega)
   have hg : Nat.gcd y (x % y) = Nat.gcd x y := by rw [Nat.gcd_comm x y, Nat.gcd_rec y x, Nat.gcd_comm]
   obtain ⟨f, hf⟩ := ih (x % y) hm y hy (yrl (Nat.le_of_lt hm) hy) (by rw [hg]; exact hk)
   refine ⟨f + 1, ?_⟩
   unfold zcj.l1 zcj.l1.step
   rw [ybb, yaA (by simp [ylA h0])]
   refine yeh _ _ hx hy _ (fun e => absurd e (ylA h0)) fun _ => ?_
   rw [yaJ, yaJ]; exact hf
theorem yja (a b : List UInt8) (ha : May a) (hb : May b) (K : List UInt8 → Prop) (h : K (nb (Nat.gcd (val a) (val b)))) : zcj a b K := by
 rw [zcj.is]; unfold zcj.d
 have := yle (fun y0 => K y0) (val b) (val a) (by rw [ha.nb]; exact ha) (by rw [hb.nb]; exact hb) h
 rw [ha.nb, hb.nb] at this
 exact this
end Go.Ev.S

/- The laws of natural numbers that need no quotient: sums, products, a ring. -/
set_option linter.unusedVariables false
set_option linter.unusedSimpArgs false
set_option maxRecDepth 8000
namespace Go.Ev.S
open Go Go.Ev
theorem yqP (a : Int) : eqI a a = true := by simp [eqI]
end Go.Ev.S

/- The law of shifts. -/
set_option linter.unusedVariables false
set_option linter.unusedSimpArgs false
set_option maxRecDepth 8000
namespace Go.Ev.S
open Go Go.Ev
theorem yr1 {a : List UInt8} (hm : May a) (h : a ≠ []) : val a ≠ 0 := fun e => by have := hm.nb; rw [e, yaN] at this; exact h this.symm
theorem yrx {a : List UInt8} (hm : May a) : yaw (val a) ≤ 131072 := by rw [← ygT, hm.nb]; exact hm.1
theorem ymg (a : List UInt8) (n : Int) (hn : n < 9223372036854775808) (K : List UInt8 → Int → Prop) (h0 : ¬ May a → K [] 2) (h1 : May a → n < 0 → K [] 2) (h2 : May a → 0 ≤ n → a = [] → K [] 0)
  (h3 : May a → 0 ≤ n → a ≠ [] → 131072 < (yaw (val a) : Int) + n → K [] 4) (h4 : May a → 0 ≤ n → a ≠ [] → (yaw (val a) : Int) + n ≤ 131072 → K (nb (val a * 2 ^ n.toNat)) 0) : zav a n K := by
 rw [zav.is]; unfold zav.d
 rw [ya1]
 by_cases hm : May a
 ·rw [if_pos hm, yau (by rfl)]
  by_cases hneg : n < 0
  ·rw [yaA (yaZ hneg)]; exact h1 hm hneg
  rw [yau (ya2 (by omega)), ybb]
  by_cases hz : a = []
  ·rw [yaA (by simp [hz])]; exact h2 hm (by omega) hz
  rw [yau (by simp [hz])]
  refine yf2 a _ ?_
  have hb := yrx hm
  rw [if_pos hm, yar (by omega) (by omega)]
  by_cases hlong : 131072 < (yaw (val a) : Int) + n
  ·rw [yaA (yaZ (by omega))]; exact h3 hm (by omega) hz hlong
  rw [yau (ya2 (by omega))]
  obtain ⟨s, rfl⟩ : ∃ s : Nat, n = s := ⟨n.toNat, by omega⟩
  have h4 := h4 hm (by omega) hz (by omega)
  rw [Int.toNat_natCast] at h4
  refine hm.words _ ?_
  have hw := hm.wl
  refine yhX _ _ s (by omega) (by omega) hm.lt _ _ (fun hc => ?_) fun _ c m => ?_
  ·exfalso
   have := hm.lt
   rw [hc] at this
   have h0 := yr1 hm hz
   simp at this; omega
  ·refine yhU _ _ ?_ (yfX _) _ ?_
   ·have hl := yje (val a) _ s (by omega) (by omega) hm.lt
    have := (yet 32 (by omega) _ _).2 hl
    omega
   ·have : (nb (val a * 2 ^ s)).length ≤ 16384 := by
     rw [ygT, ygK _ _ (yr1 hm hz)]; omega
    rw [if_neg (by omega)]; exact h4
 ·rw [if_neg hm, yaA (by rfl)]; exact h0 hm
theorem ylX (a : List UInt8) (n : Int) (hn : n < 9223372036854775808) (K : List UInt8 → Bool → Int → Prop) (h0 : ¬ May a → K [] false 2) (h1 : May a → n < 0 → K [] false 2) (h2 : May a → 0 ≤ n → a = [] → K [] false 0)
  (h3 : May a → 0 ≤ n → a ≠ [] → K (nb (val a / 2 ^ n.toNat)) (decide ((ybC (val a) : Int) < n)) 0) : zay a n K := by
 rw [zay.is]; unfold zay.d
 rw [ya1]
 by_cases hm : May a
 ·rw [if_pos hm, yau (by rfl)]
  by_cases hneg : n < 0
  ·rw [yaA (yaZ hneg)]; exact h1 hm hneg
  rw [yau (ya2 (by omega)), ybb]
  by_cases hz : a = []
  ·rw [yaA (by simp [hz])]; exact h2 hm (by omega) hz
  rw [yau (by simp [hz])]
  obtain ⟨s, rfl⟩ : ∃ s : Nat, n = s := ⟨n.toNat, by omega⟩
  have h3 := h3 hm (by omega) hz
  rw [Int.toNat_natCast] at h3
  refine hm.words _ ?_
  have hw := hm.wl
  refine yhL _ _ s (by omega) (by omega) hm.lt _ ?_
  have hle : wl 32 (val a / 2 ^ s) ≤ wl 32 (val a) := yb6 (by omega) (Nat.div_le_self _ _)
  refine yb7 _ _ (by omega) (yfX _) _ ?_
  refine yeb a _ ?_
  rw [if_pos hm, yrO]; exact h3
 ·rw [if_neg hm, yaA (by rfl)]; exact h0 hm
end Go.Ev.S

/- Natural numbers made of words, told as words. -/
set_option linter.unusedVariables false
set_option linter.unusedSimpArgs false
set_option maxRecDepth 8000
namespace Go.Ev.S
open Go Go.Ev
theorem yht (a : List UInt8) (x : Nat) (n : Nat) (hn : n ≤ 12) (k0 : List UInt8 → (Nat → Int) → Prop) (h : k0 a (G 64 (x % 2 ^ (32 * n)))) :
  ∀ (j i : Nat), i + j = n → zba.l4 k0 (j + 1) a n (G 32 x) n i (G 64 (x % 2 ^ (32 * i))) := by
 intro j
 induction j with
 | zero =>
  intro i hi
  unfold zba.l4 zba.l4.step
  rw [yau (ya2 (by omega)), show i = n from by omega]
  exact h
 | succ j ih =>
  intro i hi
  have ih := ih (i + 1) (by omega)
  have e : ((i + 1 : Nat) : Int) = (i : Int) + 1 := by omega
  rw [e] at ih
  unfold zba.l4 zba.l4.step
  simp (disch := omega) only [ybH, yfY, yas, yb3, yaQ, yaZ, ya9, ya2, yaF, yba, Bool.and_self, Bool.not_false]
  have e1 : Int.toNat ((i : Int) / 2) = i / 2 := by omega
  have e2 : Int.toNat (i : Int) = i := by omega
  have e3 : 32 * ((i : Int) % 2) = ((32 * (i % 2) : Nat) : Int) := by omega
  have hd := ya5 32 x i
  have e8 : (2 : Nat) ^ 32 = 4294967296 := rfl
  have hlow := yjt 64 (x % 2 ^ (32 * i)) (i / 2) (32 * (i % 2)) (by rw [show 64 * (i / 2) + 32 * (i % 2) = 32 * i from by omega]; exact Nat.mod_lt _ (Nat.two_pow_pos _))
  rw [e1, e2, e3, ybn, ybn, yaQ (by omega) (by omega), ynt _ _ _ 32 hlow (by omega) hd]
  rw [ygF (k := 64) (N' := x % 2 ^ (32 * (i + 1)))]
  ·exact ih
  ·rw [ybh, Nat.add_mul, Nat.mul_assoc, ← Nat.pow_add, show 32 * (i % 2) + 64 * (i / 2) = 32 * i from by omega]; omega
  ·exact ynN hlow (by omega) hd
theorem yjW (a : List UInt8) (K : (Nat → Int) → Bool → Prop) (h : if May a ∧ a.length ≤ 48 then K (W (val a)) true else K (W 0) false) : zba a K := by
 rw [zba.is]; unfold zba.d
 rw [ya1]
 by_cases hm : May a
 ·rw [if_pos hm, yau (by rfl)]
  by_cases hl : a.length ≤ 48
  ·rw [if_pos ⟨hm, hl⟩] at h
   rw [yau (ya2 (by omega))]
   refine ygk a (by omega) _ ?_
   refine ⟨(a.length + 3) / 4 + 1, ?_⟩
   have hlt : val a < 2 ^ (32 * ((a.length + 3) / 4)) := Nat.lt_of_lt_of_le (ybe a) (Nat.pow_le_pow_right (by omega) (by omega))
   have hQ : val a < Q6 := Nat.lt_of_lt_of_le (ybe a) (yti (by omega))
   have := yht a (val a) ((a.length + 3) / 4) (by omega) (fun y0 y1 => zfj y1 fun y0_1 => zaw y0 fun y0 => K y1 (eqI y0_1 y0)) ?_ ((a.length + 3) / 4) 0 (by omega)
   ·rw [show (2 : Nat) ^ (32 * 0) = 1 from rfl, Nat.mod_one, ycx] at this
    exact this
   ·rw [Nat.mod_eq_of_lt hlt, ← W_G]
    refine yh0 (val a) hQ _ ?_
    refine yf2 a _ ?_
    rw [if_pos hm, ykA rfl]; exact h
  ·rw [if_neg (by omega)] at h
   rw [yaA (yaZ (by omega))]
   rw [W_zero] at h; exact h
 ·rw [if_neg (by simp [hm])] at h
  rw [if_neg hm, yaA (by rfl)]
  rw [W_zero] at h; exact h
end Go.Ev.S

/- Exact numbers: which may be; made, told. -/
set_option linter.unusedVariables false
set_option linter.unusedSimpArgs false
set_option maxRecDepth 8000
namespace Go.Ev.S
open Go Go.Ev
def fit (x : Nat) : Prop := (nb x).length ≤ 16384
instance (x : Nat) : Decidable (fit x) := by unfold fit; infer_instance
theorem yeN (K : List UInt8 → Int → Prop) (x : Nat) : yn2 K x = if fit x then K (nb x) 0 else K [] 4 := by
 unfold yn2
 by_cases h : 16384 < (nb x).length
 ·rw [if_pos h, if_neg (show ¬ fit x from Nat.not_le.2 h)]
 ·rw [if_neg h, if_pos (show fit x from Nat.not_lt.1 h)]
theorem ydx {K : List UInt8 → Int → Prop} {x : Nat} (h1 : fit x → K (nb x) 0) (h2 : ¬ fit x → K [] 4) : yn2 K x := by
 rw [yeN]; split
 ·exact h1 ‹_›
 ·exact h2 ‹_›
theorem ya8 {x : Nat} (h : fit x) : May (nb x) := ⟨h, yhB x⟩
theorem ylv {a : List UInt8} (h : May a) : nb (val a) = a := yjh h.2
theorem yf0 {a : List UInt8} (h : May a) : fit (val a) := by unfold fit; rw [ylv h]; exact h.1
theorem yex {x y : Nat} (h : fit y) (hl : x ≤ y) : fit x := (ybA x 16384).2 (Nat.lt_of_le_of_lt hl ((ybA y 16384).1 h))
theorem yfs {a : List UInt8} (h : May a) : val a ≠ 0 ↔ a ≠ [] := by
 constructor
 ·rintro h1 rfl; exact h1 yhf
 ·intro h1 h2
  have := ylv h
  rw [h2, yaN] at this
  exact h1 this.symm
theorem ynh (x : Nat) : fit x ↔ yaw x ≤ 131072 := ygT x
theorem yfa {x n : Nat} (h : x ≠ 0) : fit (x * 2 ^ n) ↔ yaw x + n ≤ 131072 := by
 rw [ynh, ygK x n h]
theorem ynY {a : List UInt8} (n : Int) (h0 : 0 ≤ n) (hn : n < 9223372036854775808) (ha : May a) {K : List UInt8 → Int → Prop} (h : yn2 K (val a * 2 ^ n.toNat)) : zav a n K := by
 refine ymg a n hn K (fun hh => absurd ha hh) (fun _ hh => by omega) ?_ ?_ ?_
 ·rintro _ _ rfl
  rw [yhf, Nat.zero_mul, yeN, yaN, if_pos (by unfold fit; rw [yaN]; decide)] at h
  exact h
 ·intro _ _ h1 h2
  rw [yeN, if_neg (by rw [yfa ((yfs ha).2 h1)]; omega)] at h
  exact h
 ·intro _ _ h1 h2
  rw [yeN, if_pos (by rw [yfa ((yfs ha).2 h1)]; omega)] at h
  exact h
theorem yoA {a : List UInt8} (n : Int) (h0 : 0 ≤ n) (hn : n < 9223372036854775808) (ha : May a) {K : List UInt8 → Int → Prop} (h : yn2 K (val a * 2 ^ n.toNat)) : zck a n K := by
 refine ymw a n hn ha K (fun hh => by omega) ?_ ?_ ?_
 ·rintro _ rfl
  rw [yhf, Nat.zero_mul, yeN, yaN, if_pos (by unfold fit; rw [yaN]; decide)] at h
  exact h
 ·intro _ h1 h2
  rw [yeN, if_neg (by rw [yfa ((yfs ha).2 h1)]; omega)] at h
  exact h
 ·intro _ h1 h2
  rw [yeN, if_pos (by rw [yfa ((yfs ha).2 h1)]; omega)] at h
  exact h
theorem yg2 {a : List UInt8} (n : Nat) (hn : (n : Int) < 9223372036854775808) (ha : May a) (hne : a ≠ []) {K : List UInt8 → Bool → Int → Prop} (h : K (nb (val a / 2 ^ n)) (decide (ybC (val a) < n)) 0) : zay a n K := by
 refine ylX a n hn K (fun hh => absurd ha hh) (fun _ hh => by omega) (fun _ _ hh => absurd hh hne) ?_
 intro _ _ _
 rw [show decide ((ybC (val a) : Int) < (n : Int)) = decide (ybC (val a) < n) from by rw [decide_eq_decide]; omega]
 exact h
theorem yhm {a : List UInt8} (n : Nat) (hn : (n : Int) < 9223372036854775808) (ha : May a) (hne : a ≠ []) {K : List UInt8 → Bool → Int → Prop} (h : K (nb (val a / 2 ^ n)) (decide (ybC (val a) < n)) 0) : zcp a n K := by
 refine yf9 a n hn ha K (fun hh => by omega) (fun _ hh => absurd hh hne) ?_
 intro _ _
 rw [show decide ((ybC (val a) : Int) < (n : Int)) = decide (ybC (val a) < n) from by rw [decide_eq_decide]; omega]
 exact h
theorem ygM {a : List UInt8} (ha : May a) (h : val a ≠ 0) : ybC (val a) < 131072 := by
 have h1 := yka _ _ h (ybe a)
 have := ha.1; omega
theorem yj0 (a : List UInt8) (h : a ≠ []) : eqI (yiY .u8 (ybg a (a.length - 1)) 1) 1 = decide (val a % 2 = 1) := by
 have hl : 0 < a.length := List.length_pos_iff.2 h
 have := yfy a 0 hl
 rw [Nat.sub_zero] at this
 rw [this]
 unfold dg
 rw [Nat.mul_zero, Nat.pow_zero, Nat.div_one]
 have hb : val a % 2 ^ 8 < 256 := Nat.mod_lt _ (by decide)
 have e : val a % 2 = (val a % 2 ^ 8) % 2 := by rw [show (2 : Nat) ^ 8 = 256 from rfl]; omega
 rw [e]
 generalize val a % 2 ^ 8 = v at hb
 revert v
 decide
theorem ygt (a : List UInt8) (K : Bool → Prop) (hl : a.length < 9223372036854775808) (h : K (decide (val a % 2 = 1))) : zai a K := by
 rw [zai.is]; unfold zai.d
 rw [ybb]
 by_cases h0 : a = []
 ·subst h0
  rw [yau (by rfl)]; exact h
 ·have hp : 0 < a.length := List.length_pos_iff.2 h0
  rw [yaA (by simp [h0]), yar (by omega) (by omega), ya9 (by omega), yaZ (by omega), ybo (by rfl), show Int.toNat ((a.length : Int) - 1) = a.length - 1 from by omega, yj0 a h0]
  exact h
theorem yi6 (a : List UInt8) (K : Bool → Prop) (hl : a.length < 9223372036854775808) (h : K (decide (val a % 2 = 1))) : zde a K := by
 rw [zde.is]; unfold zde.d
 rw [ybb]
 by_cases h0 : a = []
 ·subst h0
  rw [yau (by rfl)]; exact h
 ·have hp : 0 < a.length := List.length_pos_iff.2 h0
  rw [yaA (by simp [h0]), yar (by omega) (by omega), ya9 (by omega), yaZ (by omega), ybo (by rfl), show Int.toNat ((a.length : Int) - 1) = a.length - 1 from by omega, yj0 a h0]
  exact h
def win (e : Int) : Prop := -1048576 ≤ e ∧ e ≤ 1048576
instance (e : Int) : Decidable (win e) := by unfold win; infer_instance
theorem ycS (e : Int) (K : Bool → Prop) (h : K (decide (win e))) : zak e K := by
 rw [zak.is]; unfold zak.d
 by_cases h1 : -1048576 ≤ e
 ·rw [yaA (ya9 h1)]
  refine cast (congrArg K ?_) h
  unfold leI
  rw [decide_eq_decide]; unfold win; omega
 ·rw [yau (yeu (by omega))]
  refine cast (congrArg K ?_) h
  rw [decide_eq_false_iff_not]; unfold win; omega
theorem yp5 {e : Int} {p q : Prop} (h1 : ¬ win e → p) (h2 : win e → q) : br (ltI e (-1048576)) p (br (ltI 1048576 e) p q) := by
 by_cases c1 : e < -1048576
 ·rw [yaA (yaZ c1)]; exact h1 (by unfold win; omega)
 ·rw [yau (ya2 (by omega))]
  by_cases c2 : 1048576 < e
  ·rw [yaA (yaZ c2)]; exact h1 (by unfold win; omega)
  ·rw [yau (ya2 (by omega))]; exact h2 (by unfold win; omega)
structure MayE (n : Bool) (a b : List UInt8) (e : Int) : Prop where
 ma : May a
 mb : May b
 ob : val b % 2 = 1
 we : win e
 z : a = [] → n = false ∧ b = [1] ∧ e = 0
 r : a ≠ [] → val a % 2 = 1 ∧ Nat.gcd (val a) (val b) = 1
theorem yc9 : nb 1 = [1] := by rw [ydV (by decide), yaN]; decide
theorem yfM (g : Nat) : eqS (nb g) [1] = decide (g = 1) := by
 rw [ykq, decide_eq_decide, ← yc9]
 exact ⟨fun h => ys4 h, fun h => by rw [h]⟩
noncomputable instance (n : Bool) (a b : List UInt8) (e : Int) : Decidable (MayE n a b e) := Classical.propDecidable _
theorem yfA (K : Bool → List UInt8 → List UInt8 → Int → Prop) : zah K = K false [] [1] 0 := by rw [zah.is]; rfl
theorem yhw (K : Bool → List UInt8 → List UInt8 → Int → Prop) : zdc K = K false [] [1] 0 := by rw [zdc.is]; rfl
theorem yo2 (n : Bool) (b : List UInt8) (e : Int) : (ycZ n false && (eqS [] [] && (eqS b [1] && eqI e 0))) = decide (n = false ∧ b = [1] ∧ e = 0) := by
 rw [ykq, ykq]
 cases n
 ·by_cases h1 : b = [1]
  ·by_cases h2 : e = 0
   ·simp [h1, h2, ycZ, eqI]
   ·simp [h1, h2, ycZ, eqI]
  ·simp [h1, ycZ]
 ·simp [ycZ]
theorem ya0 (n : Bool) (a b : List UInt8) (e : Int) (K : Int → Prop) (h1 : MayE n a b e → K 0) (h2 : ¬ MayE n a b e → K 2) : zad n a b e K := by
 rw [zad.is]; unfold zad.d
 rw [ya1]
 by_cases ma : May a
 rotate_left
 ·rw [if_neg ma]; exact h2 fun h => ma h.ma
 rw [if_pos ma, yau (by rfl), ya1]
 by_cases mb : May b
 rotate_left
 ·rw [if_neg mb]; exact h2 fun h => mb h.mb
 rw [if_pos mb, yau (by rfl)]
 have la := ma.1
 have lb := mb.1
 refine ygt b _ (by omega) ?_
 by_cases ob : val b % 2 = 1
 rotate_left
 ·rw [show decide (val b % 2 = 1) = false from by simpa using ob]; exact h2 fun h => ob h.ob
 rw [show decide (val b % 2 = 1) = true from by simpa using ob, yau (by rfl)]
 refine ycS e _ ?_
 by_cases we : win e
 rotate_left
 ·rw [show decide (win e) = false from by simpa using we]; exact h2 fun h => we h.we
 rw [show decide (win e) = true from by simpa using we, yau (by rfl), ybb]
 by_cases ha : a = []
 ·subst ha
  rw [yaA (by rfl), yfA, yo2]
  by_cases hz : n = false ∧ b = [1] ∧ e = 0
  ·rw [yau (by simp [hz])]; exact h1 ⟨ma, mb, ob, we, fun _ => hz, fun h => absurd rfl h⟩
  ·rw [yaA (by simp only [hz, decide_false]; rfl)]; exact h2 fun h => hz (h.z rfl)
 ·rw [yau (by simpa using ha)]
  refine yiT a b _ (fun h => absurd ⟨ma, mb⟩ h) fun _ _ => ?_
  refine ygt a _ (by omega) ?_
  by_cases oa : val a % 2 = 1
  rotate_left
  ·rw [show decide (val a % 2 = 1) = false from by simpa using oa]; exact h2 fun h => oa (h.r ha).1
  rw [show decide (val a % 2 = 1) = true from by simpa using oa, yau (by rfl), yfM]
  by_cases hg : Nat.gcd (val a) (val b) = 1
  ·rw [yau (by simp [hg])]; exact h1 ⟨ma, mb, ob, we, fun h => absurd h ha, fun _ => ⟨oa, hg⟩⟩
  ·rw [yaA (by simp [hg])]; exact h2 fun h => hg (h.r ha).2
theorem ycG (n : Bool) (a b : List UInt8) (e : Int) (K : Bool → Prop) (h1 : MayE n a b e → K true) (h2 : ¬ MayE n a b e → K false) : zdb n a b e K := by
 rw [zdb.is]; unfold zdb.d
 rw [ych]
 by_cases ma : May a
 rotate_left
 ·rw [show decide (May a) = false from by simpa using ma]; exact h2 fun h => ma h.ma
 rw [show decide (May a) = true from by simpa using ma, yau (by rfl), ych]
 by_cases mb : May b
 rotate_left
 ·rw [show decide (May b) = false from by simpa using mb]; exact h2 fun h => mb h.mb
 rw [show decide (May b) = true from by simpa using mb, yau (by rfl)]
 have la := ma.1
 have lb := mb.1
 refine yi6 b _ (by omega) ?_
 by_cases ob : val b % 2 = 1
 rotate_left
 ·rw [show decide (val b % 2 = 1) = false from by simpa using ob]; exact h2 fun h => ob h.ob
 rw [show decide (val b % 2 = 1) = true from by simpa using ob, yau (by rfl)]
 refine yp5 (fun we => h2 fun h => we h.we) fun we => ?_
 rw [ybb]
 by_cases ha : a = []
 ·subst ha
  rw [yaA (by rfl), yhw, yo2]
  by_cases hz : n = false ∧ b = [1] ∧ e = 0
  ·rw [show decide (n = false ∧ b = [1] ∧ e = 0) = true from by simpa using hz]; exact h1 ⟨ma, mb, ob, we, fun _ => hz, fun h => absurd rfl h⟩
  ·rw [show decide (n = false ∧ b = [1] ∧ e = 0) = false from decide_eq_false hz]; exact h2 fun h => hz (h.z rfl)
 ·rw [yau (by simpa using ha)]
  refine yi6 a _ (by omega) ?_
  by_cases oa : val a % 2 = 1
  rotate_left
  ·rw [show decide (val a % 2 = 1) = false from by simpa using oa]; exact h2 fun h => oa (h.r ha).1
  rw [show decide (val a % 2 = 1) = true from by simpa using oa, yaA rfl]
  refine yja a b ma mb _ ?_
  rw [yfM]
  by_cases hg : Nat.gcd (val a) (val b) = 1
  ·rw [show decide (Nat.gcd (val a) (val b) = 1) = true from by simpa using hg]; exact h1 ⟨ma, mb, ob, we, fun h => absurd h ha, fun _ => ⟨oa, hg⟩⟩
  ·rw [show decide (Nat.gcd (val a) (val b) = 1) = false from by simpa using hg]; exact h2 fun h => hg (h.r ha).2
def odp (a : Nat) : Nat := a / 2 ^ ybC a
def rdA (a b : Nat) : Nat := odp a / Nat.gcd (odp a) (odp b)
def rdB (a b : Nat) : Nat := odp b / Nat.gcd (odp a) (odp b)
def rdE (a b : Nat) (e : Int) : Int := e + ((ybC a : Int) - ybC b)
def mkE (n : Bool) (a b : Nat) (e : Int) (K : Bool → List UInt8 → List UInt8 → Int → Int → Prop) : Prop :=
 if a = 0 then K false [] [1] 0 0 else if win (rdE a b e) then K n (nb (rdA a b)) (nb (rdB a b)) (rdE a b e) 0 else K false [] [] 0 4
theorem yhp {x : Nat} (h : fit x) (d : Nat) : fit (x / d) := yex h (Nat.div_le_self x d)
theorem ynO {a : Nat} (h : a ≠ 0) : a = 2 ^ ybC a * odp a ∧ odp a % 2 = 1 := by
 obtain ⟨q, hq⟩ := ydT a h
 have e : odp a = 2 * q + 1 := by
  unfold odp
  exact Nat.div_eq_of_eq_mul_right (Nat.two_pow_pos _) hq
 rw [e]
 exact ⟨hq, by omega⟩
theorem ykB {a : Nat} (h : a ≠ 0) : odp a ≠ 0 := by have := (ynO h).2; omega
theorem yjP (n : Bool) (x y : List UInt8) (e : Int) (K : Bool → List UInt8 → List UInt8 → Int → Int → Prop) (h1 : ¬ (May x ∧ May y ∧ y ≠ [] ∧ win e) → K false [] [] 0 2)
  (h2 : May x → May y → y ≠ [] → win e → mkE n (val x) (val y) e K) : zaf n x y e K := by
 rw [zaf.is]; unfold zaf.d
 rw [ya1]
 by_cases mx : May x
 rotate_left
 ·rw [if_neg mx]; exact h1 fun h => mx h.1
 rw [if_pos mx, yau (by rfl), ya1]
 by_cases my : May y
 rotate_left
 ·rw [if_neg my]; exact h1 fun h => my h.2.1
 rw [if_pos my, yau (by rfl), ybb]
 by_cases hy : y = []
 ·rw [yaA (by simpa using hy)]; exact h1 fun h => h.2.2.1 hy
 rw [yau (by simpa using hy)]
 refine ycS e _ ?_
 by_cases we : win e
 rotate_left
 ·rw [show decide (win e) = false from by simpa using we]; exact h1 fun h => we h.2.2.2
 rw [show decide (win e) = true from by simpa using we, yau (by rfl), ybb]
 have h2 := h2 mx my hy we
 unfold mkE at h2
 by_cases hx : x = []
 ·rw [yaA (by simpa using hx), yfA]
  rw [if_pos (by rw [hx]; rfl)] at h2; exact h2
 rw [yau (by simpa using hx)]
 have nx := (yfs mx).2 hx
 have ny := (yfs my).2 hy
 rw [if_neg nx] at h2
 refine yeb x _ ?_
 refine yeb y _ ?_
 rw [if_pos mx, if_pos my]
 have bx := ygM mx nx
 have by' := ygM my ny
 refine yg2 _ (by omega) mx hx ?_
 refine yg2 _ (by omega) my hy ?_
 have fx : fit (odp (val x)) := yhp (yf0 mx) _
 have fy : fit (odp (val y)) := yhp (yf0 my) _
 refine yiT _ _ _ (fun h => absurd ⟨ya8 fx, ya8 fy⟩ h) fun _ _ => ?_
 rw [yaJ, yaJ]
 show br (!eqS (nb (Nat.gcd (odp (val x)) (odp (val y)))) [1]) _ _
 rw [yfM]
 have we' := we
 unfold win at we'
 have ee : yai .i64 e (yao .i64 (ybC (val x) : Int) (ybC (val y) : Int)) = rdE (val x) (val y) e := by
  unfold rdE
  rw [yar (by omega) (by omega), yas (by omega) (by omega)]
 rw [ee]
 have gne : Nat.gcd (odp (val x)) (odp (val y)) ≠ 0 := by
  intro h0; exact ykB nx (Nat.gcd_eq_zero_iff.1 h0).1
 have fin : ∀ p q, p = nb (rdA (val x) (val y)) → q = nb (rdB (val x) (val y)) → zak (rdE (val x) (val y) e) fun y0_7 => br (!y0_7) (K false [] [] 0 4) (K n p q (rdE (val x) (val y) e) 0) := by
  rintro p q rfl rfl
  refine ycS _ _ ?_
  by_cases w : win (rdE (val x) (val y) e)
  ·rw [if_pos w] at h2
   rw [show decide (win (rdE (val x) (val y) e)) = true from by simpa using w]; exact h2
  ·rw [if_neg w] at h2
   rw [show decide (win (rdE (val x) (val y) e)) = false from by simpa using w]; exact h2
 by_cases hg : Nat.gcd (odp (val x)) (odp (val y)) = 1
 ·rw [yau (by simp [hg])]
  refine fin _ _ ?_ ?_
  ·unfold rdA; rw [hg, Nat.div_one]; rfl
  ·unfold rdB; rw [hg, Nat.div_one]; rfl
 ·rw [yaA (by simp [hg])]
  have fg : fit (Nat.gcd (odp (val x)) (odp (val y))) := yex fx (Nat.gcd_le_left _ (Nat.pos_of_ne_zero (ykB nx)))
  refine yfO _ _ _ (fun h => absurd ⟨ya8 fx, ya8 fg⟩ h) (fun h => absurd h (ylA gne)) fun _ _ _ => ?_
  refine yfO _ _ _ (fun h => absurd ⟨ya8 fy, ya8 fg⟩ h) (fun h => absurd h (ylA gne)) fun _ _ _ => ?_
  refine fin _ _ ?_ ?_
  ·rw [yaJ, yaJ]; rfl
  ·rw [yaJ, yaJ]; rfl
theorem ymc (n : Bool) (x y : List UInt8) (e : Int) (K : Bool → List UInt8 → List UInt8 → Int → Int → Prop) (h1 : ¬ (May x ∧ May y ∧ y ≠ [] ∧ win e) → K false [] [] 0 2)
  (h2 : May x → May y → y ≠ [] → win e → mkE n (val x) (val y) e K) : zda n x y e K := by
 rw [zda.is]; unfold zda.d
 rw [ych]
 by_cases mx : May x
 rotate_left
 ·rw [show decide (May x) = false from by simpa using mx]; exact h1 fun h => mx h.1
 rw [show decide (May x) = true from by simpa using mx, yau (by rfl), ych]
 by_cases my : May y
 rotate_left
 ·rw [show decide (May y) = false from by simpa using my]; exact h1 fun h => my h.2.1
 rw [show decide (May y) = true from by simpa using my, yau (by rfl), ybb]
 by_cases hy : y = []
 ·rw [yaA (by simpa using hy)]; exact h1 fun h => h.2.2.1 hy
 rw [yau (by simpa using hy)]
 refine yp5 (fun we => h1 fun h => we h.2.2.2) fun we => ?_
 rw [ybb]
 have h2 := h2 mx my hy we
 unfold mkE at h2
 by_cases hx : x = []
 ·rw [yaA (by simpa using hx), yhw]
  rw [if_pos (by rw [hx]; rfl)] at h2; exact h2
 rw [yau (by simpa using hx)]
 have nx := (yfs mx).2 hx
 have ny := (yfs my).2 hy
 rw [if_neg nx] at h2
 refine yfR x _ ?_
 refine yfR y _ ?_
 rw [if_pos mx, if_pos my]
 have bx := ygM mx nx
 have by' := ygM my ny
 refine yhm _ (by omega) mx hx ?_
 refine yhm _ (by omega) my hy ?_
 have fx : fit (odp (val x)) := yhp (yf0 mx) _
 have fy : fit (odp (val y)) := yhp (yf0 my) _
 refine yja _ _ (ya8 fx) (ya8 fy) _ ?_
 rw [yaJ, yaJ]
 show br (!eqS (nb (Nat.gcd (odp (val x)) (odp (val y)))) [1]) _ _
 rw [yfM]
 have we' := we
 unfold win at we'
 have ee : yao .i64 (yai .i64 e (ybC (val x) : Int)) (ybC (val y) : Int) = rdE (val x) (val y) e := by
  unfold rdE
  rw [yas (by omega) (by omega), yar (by omega) (by omega)]; omega
 rw [ee]
 have gne : Nat.gcd (odp (val x)) (odp (val y)) ≠ 0 := by
  intro h0; exact ykB nx (Nat.gcd_eq_zero_iff.1 h0).1
 have fin : ∀ p q, p = nb (rdA (val x) (val y)) → q = nb (rdB (val x) (val y)) → br (ltI (rdE (val x) (val y) e) (-1048576)) (K false [] [] 0 4) (br (ltI 1048576 (rdE (val x) (val y) e)) (K false [] [] 0 4) (K n p q (rdE (val x) (val y) e) 0)) := by
  rintro p q rfl rfl
  refine yp5 (fun w => ?_) fun w => ?_
  ·rw [if_neg w] at h2; exact h2
  ·rw [if_pos w] at h2; exact h2
 by_cases hg : Nat.gcd (odp (val x)) (odp (val y)) = 1
 ·rw [yau (by simp [hg])]
  refine fin _ _ ?_ ?_
  ·unfold rdA; rw [hg, Nat.div_one]; rfl
  ·unfold rdB; rw [hg, Nat.div_one]; rfl
 ·rw [yaA (by simp [hg])]
  have fg : fit (Nat.gcd (odp (val x)) (odp (val y))) := yex fx (Nat.gcd_le_left _ (Nat.pos_of_ne_zero (ykB nx)))
  refine yeh _ _ (ya8 fx) (ya8 fg) _ (fun h => absurd h (ylA gne)) fun _ => ?_
  refine yeh _ _ (ya8 fy) (ya8 fg) _ (fun h => absurd h (ylA gne)) fun _ => ?_
  refine fin _ _ ?_ ?_
  ·rw [yaJ, yaJ]; rfl
  ·rw [yaJ, yaJ]; rfl
end Go.Ev.S

/- Exact numbers as rational ones. -/
set_option linter.unusedVariables false
set_option linter.unusedSimpArgs false
set_option maxRecDepth 8000
namespace Go.Ev.S
open Go Go.Ev
def p2 (e : Int) : Rat := (2 : Rat) ^ e
theorem ytk : (2 : Rat) ≠ 0 := by decide
theorem yeF (e : Int) : 0 < p2 e := Rat.zpow_pos (by decide)
theorem yeC (a b : Int) : p2 (a + b) = p2 a * p2 b := Rat.zpow_add ytk a b
theorem yeD (n : Nat) : p2 (n : Int) = ((2 ^ n : Nat) : Rat) := by
 unfold p2; rw [Rat.zpow_natCast, Rat.natCast_pow]; rfl
theorem ypl : p2 0 = 1 := Rat.zpow_zero 2
theorem ys5 : p2 1 = 2 := by have := yeD 1; rw [show ((1 : Nat) : Int) = 1 from rfl] at this; rw [this]; rfl
def sR (n : Bool) : Rat := if n then -1 else 1
def V (n : Bool) (a b : Nat) (e : Int) : Rat := sR n * ((a : Rat) / (b : Rat)) * p2 e
theorem yjQ {b : Nat} (h : b ≠ 0) : 0 < (b : Rat) := Rat.natCast_pos.2 (by omega)
theorem ysG {b : Nat} (h : b ≠ 0) : (b : Rat) ≠ 0 := by have := yjQ h; grind
theorem yss (n : Bool) (a b : Nat) (e : Int) (hb : b ≠ 0) : V n a b e * b = sR n * a * p2 e := by
 have := ysG hb
 unfold V; grind
end Go.Ev.S

/- Exact numbers added, multiplied, compared, measured: the document's. -/
set_option linter.unusedVariables false
set_option linter.unusedSimpArgs false
set_option maxRecDepth 8000
namespace Go.Ev.S
open Go Go.Ev
structure Can (n : Bool) (a b : Nat) (e : Int) : Prop where
 fa : fit a
 fb : fit b
 ob : b % 2 = 1
 we : win e
 z : a = 0 → n = false ∧ b = 1 ∧ e = 0
 r : a ≠ 0 → a % 2 = 1 ∧ Nat.gcd a b = 1
theorem MayE.can {n : Bool} {x y : List UInt8} {e : Int} (h : MayE n x y e) : ∃ a b, x = nb a ∧ y = nb b ∧ Can n a b e := by
 refine ⟨val x, val y, (ylv h.ma).symm, (ylv h.mb).symm, yf0 h.ma, yf0 h.mb, h.ob, h.we, ?_, ?_⟩
 ·intro h0
  have hx : x = [] := by rw [← ylv h.ma, h0, yaN]
  obtain ⟨h1, h2, h3⟩ := h.z hx
  exact ⟨h1, by rw [h2]; decide, h3⟩
 ·intro h0; exact h.r ((yfs h.ma).1 h0)
theorem nb_nil {a : Nat} : nb a = [] ↔ a = 0 := by
 constructor
 ·intro h; rw [← yaJ a, h, yhf]
 ·rintro rfl; exact yaN
theorem Can.may {n : Bool} {a b : Nat} {e : Int} (h : Can n a b e) : MayE n (nb a) (nb b) e := by
 refine ⟨ya8 h.fa, ya8 h.fb, by rw [yaJ]; exact h.ob, h.we, ?_, ?_⟩
 ·intro h0
  obtain ⟨h1, h2, h3⟩ := h.z (nb_nil.1 h0)
  exact ⟨h1, by rw [h2]; exact yc9, h3⟩
 ·intro h0
  rw [yaJ, yaJ]; exact h.r fun h1 => h0 (nb_nil.2 h1)
theorem Can.b0 {n : Bool} {a b : Nat} {e : Int} (h : Can n a b e) : b ≠ 0 := by have := h.ob; omega
theorem Can.e64 {n : Bool} {a b : Nat} {e : Int} (h : Can n a b e) : -1048576 ≤ e ∧ e ≤ 1048576 := h.we
theorem ybJ (a : Nat) : eqS (nb a) [] = decide (a = 0) := by rw [ybb, decide_eq_decide]; exact nb_nil
theorem yfI {a : Nat} (n : Int) (h0 : 0 ≤ n) (hn : n < 9223372036854775808) (ha : fit a) {K : List UInt8 → Int → Prop} (h : yn2 K (a * 2 ^ n.toNat)) : zck (nb a) n K := by
 refine yoA n h0 hn (ya8 ha) ?_; rw [yaJ]; exact h
theorem yem {a : Nat} (n : Int) (h0 : 0 ≤ n) (hn : n < 9223372036854775808) (ha : fit a) {K : List UInt8 → Int → Prop} (h : yn2 K (a * 2 ^ n.toNat)) : zav (nb a) n K := by
 refine ynY n h0 hn (ya8 ha) ?_; rw [yaJ]; exact h
theorem ykJ (a b : Nat) (K : Int → Prop) : zch (nb a) (nb b) K = K (sgn a b) := by rw [yfG _ _ (yhB a) (yhB b), yaJ, yaJ]
theorem ykS {a b : Nat} (ha : fit a) (hb : fit b) {K : Int → Int → Prop} (h : K (sgn a b) 0) : zas (nb a) (nb b) K := by
 refine yoE _ _ K (fun hn => absurd ⟨ya8 ha, ya8 hb⟩ hn) fun _ _ => ?_
 rw [yaJ, yaJ]; exact h
theorem ymU {a : Nat} (h : fit a) : (nb a).length ≤ 16384 := h
theorem yph {a b : Nat} (ha : fit a) (hb : fit b) {K : List UInt8 → Int → Prop} (h : yn2 K (a + b)) : zcg (nb a) (nb b) K := by
 have h1 := ymU ha
 have h2 := ymU hb
 refine yof _ _ (by omega) (by omega) K ?_; rw [yaJ, yaJ]; exact h
theorem ypI {a b : Nat} (ha : fit a) (hb : fit b) {K : List UInt8 → Int → Prop} (h : yn2 K (a + b)) : zaq (nb a) (nb b) K := by
 refine yok _ _ K (fun hn => absurd ⟨ya8 ha, ya8 hb⟩ hn) fun _ _ => ?_; rw [yaJ, yaJ]; exact h
theorem yk5 {a b : Nat} (ha : fit a) (hb : fit b) (h0 : b ≠ 0) {K : List UInt8 → List UInt8 → Int → Prop} (h : K (nb (a / b)) (nb (a % b)) 0) : zci (nb a) (nb b) K := by
 refine yeh _ _ (ya8 ha) (ya8 hb) K (fun hh => absurd (nb_nil.1 hh) h0) fun _ => ?_; rw [yaJ, yaJ]; exact h
theorem ylH {a b : Nat} (ha : fit a) (hb : fit b) (h0 : b ≠ 0) {K : List UInt8 → List UInt8 → Int → Prop} (h : K (nb (a / b)) (nb (a % b)) 0) : zat (nb a) (nb b) K := by
 refine yfO _ _ K (fun hn => absurd ⟨ya8 ha, ya8 hb⟩ hn) (fun hh => absurd (nb_nil.1 hh) h0) fun _ _ _ => ?_; rw [yaJ, yaJ]; exact h
theorem yg9 {a : Nat} (ha : fit a) {K : Int → Prop} (h : K (yaw a)) : zcl (nb a) K := by
 refine yej _ K ?_; rw [if_pos (ya8 ha), yaJ]; exact h
theorem yfu {a : Nat} (ha : fit a) {K : Int → Prop} (h : K (yaw a)) : zaw (nb a) K := by
 refine yf2 _ K ?_; rw [if_pos (ya8 ha), yaJ]; exact h
theorem yn6 (n : Bool) {a b : Nat} {e : Int} (ha : fit a) (hb : fit b) (h0 : b ≠ 0) (we : win e) {K : Bool → List UInt8 → List UInt8 → Int → Int → Prop} (h : mkE n a b e K) : zda n (nb a) (nb b) e K := by
 refine ymc n _ _ e K (fun hn => absurd ⟨ya8 ha, ya8 hb, ylA h0, we⟩ hn) fun _ _ _ _ => ?_; rw [yaJ, yaJ]; exact h
theorem ykD (n : Bool) {a b : Nat} {e : Int} (ha : fit a) (hb : fit b) (h0 : b ≠ 0) (we : win e) {K : Bool → List UInt8 → List UInt8 → Int → Int → Prop} (h : mkE n a b e K) : zaf n (nb a) (nb b) e K := by
 refine yjP n _ _ e K (fun hn => absurd ⟨ya8 ha, ya8 hb, ylA h0, we⟩ hn) fun _ _ _ _ => ?_; rw [yaJ, yaJ]; exact h
def lv (a bd : Nat) (ae n : Int) : Nat := a * bd * 2 ^ (ae - n).toNat
section
variable {n1 n2 : Bool} {a1 b1 a2 b2 : Nat} {e1 e2 : Int}
theorem ysA (a b : Nat) : leI 0 (sgn a b) = decide (b ≤ a) := by
 unfold sgn leI
 rw [decide_eq_decide]
 (repeat' split) <;> omega
theorem ydU {c : Prop} [Decidable c] {p q : Prop} (h1 : c → p) (h2 : ¬ c → q) : br (decide c) p q := by
 by_cases h : c
 ·rw [yaA (by simpa using h)]; exact h1 h
 ·rw [yau (by simpa using h)]; exact h2 h
theorem ydF {c : Prop} [Decidable c] {p q : Prop} (h1 : ¬ c → p) (h2 : c → q) : br (!decide c) p q := by
 by_cases h : c
 ·rw [yau (by simpa using h)]; exact h2 h
 ·rw [yaA (by simpa using h)]; exact h1 h
end
end Go.Ev.S

/- Exact numbers scaled, measured, cut: the document's. -/
set_option linter.unusedVariables false
set_option linter.unusedSimpArgs false
set_option maxRecDepth 8000
namespace Go.Ev.S
open Go Go.Ev
def tp (a b : Nat) : Int :=
 if yaw b ≤ yaw a then (if b * 2 ^ (yaw a - yaw b) ≤ a then ((yaw a - yaw b : Nat) : Int) else ((yaw a - yaw b : Nat) : Int) - 1)
 else (if b ≤ a * 2 ^ (yaw b - yaw a) then -((yaw b - yaw a : Nat) : Int) else -((yaw b - yaw a : Nat) : Int) - 1)
theorem ydq {a : Nat} (h : fit a) : yaw a ≤ 131072 := (ynh a).1 h
theorem ym9 {a b : Nat} (ha : fit a) (hb : b ≠ 0) (hl : yaw b ≤ yaw a) : fit (b * 2 ^ (yaw a - yaw b)) := by
 rw [ynh, ygK _ _ hb]; have := ydq ha; omega
theorem yp9 (a b : Nat) : (!leI 0 (sgn a b)) = !decide (b ≤ a) := by rw [ysA]
theorem ypT (a b : Nat) : ltI (sgn a b) 0 = !decide (b ≤ a) := by
 unfold sgn ltI
 by_cases h : b ≤ a
 ·(repeat' split) <;> simp <;> omega
 ·rw [if_pos (by omega)]; simp; omega
theorem yey {a : Nat} (n : Int) (h0 : 0 ≤ n) (hn : n < 9223372036854775808) (ha : fit a) {K : List UInt8 → Prop} (hf : fit (a * 2 ^ n.toNat)) (h : K (nb (a * 2 ^ n.toNat))) : zdf (nb a) n K := by
 rw [zdf.is]; unfold zdf.d
 exact yfI n h0 hn ha (ydx (fun _ => h) fun hh => absurd hf hh)
theorem yf3 (n : Bool) {a b : Nat} {e : Int} (c : Can n a b e) (K : Int → Int → Prop) (h1 : a = 0 → K 0 2) (h2 : a ≠ 0 → K (tp a b + e) 0) : zdd n (nb a) (nb b) e K := by
 have w := c.e64
 have la := ydq c.fa
 have lb := ydq c.fb
 rw [zdd.is]; unfold zdd.d
 rw [ybJ]
 refine ydU h1 fun h0 => ?_
 have h2 := h2 h0
 refine yg9 c.fa ?_
 refine yg9 c.fb ?_
 rw [yar (by omega) (by omega)]
 unfold tp at h2
 by_cases hl : yaw b ≤ yaw a
 ·rw [if_pos hl] at h2
  rw [yaA (ya9 (by omega))]
  have et : ((yaw a : Int) - yaw b).toNat = yaw a - yaw b := by omega
  have hf := ym9 c.fa c.b0 hl
  refine yey _ (by omega) (by omega) c.fb (by rw [et]; exact hf) ?_
  rw [et, ykJ, yp9]
  refine ydF (fun h3 => ?_) fun h3 => ?_
  ·rw [if_neg h3] at h2
   rw [yar (by omega) (by omega), yas (by omega) (by omega), show ((yaw a : Int) - yaw b - 1 + e) = ((yaw a - yaw b : Nat) : Int) - 1 + e from by omega]; exact h2
  ·rw [if_pos h3] at h2
   rw [yas (by omega) (by omega), show ((yaw a : Int) - yaw b + e) = ((yaw a - yaw b : Nat) : Int) + e from by omega]; exact h2
 ·rw [if_neg hl] at h2
  rw [yau (yeu (by omega))]
  have en : yrJ .i64 ((yaw a : Int) - yaw b) = (yaw b : Int) - yaw a := by
   show IntKind.wrap .i64 _ = _
   rw [ydH (by omega) (by omega)]; omega
  have et : ((yaw b : Int) - yaw a).toNat = yaw b - yaw a := by omega
  have hf := ym9 c.fb h0 (show yaw a ≤ yaw b by omega)
  rw [en]
  refine yey _ (by omega) (by omega) c.fa (by rw [et]; exact hf) ?_
  rw [et, ykJ, yp9]
  refine ydF (fun h3 => ?_) fun h3 => ?_
  ·rw [if_neg h3] at h2
   rw [yar (by omega) (by omega), yas (by omega) (by omega), show ((yaw a : Int) - yaw b - 1 + e) = -((yaw b - yaw a : Nat) : Int) - 1 + e from by omega]; exact h2
  ·rw [if_pos h3] at h2
   rw [yas (by omega) (by omega), show ((yaw a : Int) - yaw b + e) = -((yaw b - yaw a : Nat) : Int) + e from by omega]; exact h2
theorem yjL (a n : Nat) : yaw a ≤ n ↔ a < 2 ^ n := yaV a n
theorem yko {a : Nat} (h : a ≠ 0) : 2 ^ (yaw a - 1) ≤ a := by
 have h1 : ¬ yaw a ≤ yaw a - 1 := by
  have : 0 < yaw a := by unfold yaw; rw [if_neg h]; omega
  omega
 rw [yjL] at h1; omega
theorem ymS {a b : Nat} (ha : a ≠ 0) (hb : b ≠ 0) : (0 ≤ tp a b → b * 2 ^ (tp a b).toNat ≤ a ∧ a < b * 2 ^ ((tp a b).toNat + 1)) ∧ (tp a b < 0 → b ≤ a * 2 ^ (-tp a b).toNat ∧ a * 2 ^ ((-tp a b).toNat - 1) < b) := by
 have a1 := yko ha
 have a2 := (yjL a _).1 (Nat.le_refl _)
 have b1 := yko hb
 have b2 := (yjL b _).1 (Nat.le_refl _)
 have pa : 0 < yaw a := by unfold yaw; rw [if_neg ha]; omega
 have pb : 0 < yaw b := by unfold yaw; rw [if_neg hb]; omega
 unfold tp
 by_cases hl : yaw b ≤ yaw a
 ·rw [if_pos hl]
  obtain ⟨d, hd⟩ : ∃ d, d = yaw a - yaw b := ⟨_, rfl⟩
  rw [← hd]
  -- a < b 2^(d+1)
  have h1 : a < b * 2 ^ (d + 1) := by
   have : 2 ^ (yaw b - 1) * 2 ^ (d + 1) ≤ b * 2 ^ (d + 1) := Nat.mul_le_mul_right _ b1
   rw [← Nat.pow_add, show yaw b - 1 + (d + 1) = yaw a from by omega] at this
   omega
  by_cases h2 : b * 2 ^ d ≤ a
  ·rw [if_pos h2]
   refine ⟨fun _ => ?_, fun h => by omega⟩
   rw [show ((d : Int)).toNat = d from by omega]
   exact ⟨h2, h1⟩
  ·rw [if_neg h2]
   rcases Nat.eq_zero_or_pos d with h0 | h0
   ·refine ⟨fun h => by omega, fun _ => ?_⟩
    rw [h0] at h2 ⊢
    rw [show (-(((0 : Nat) : Int) - 1)).toNat = 1 from by omega, Nat.sub_self]
    refine ⟨?_, by omega⟩
    have : b < a * 2 := by
     have : 2 ^ (yaw a - 1) * 2 ≤ a * 2 := Nat.mul_le_mul_right _ a1
     rw [← Nat.pow_succ, show (yaw a - 1).succ = yaw b from by omega] at this
     omega
    omega
   ·refine ⟨fun _ => ?_, fun h => by omega⟩
    rw [show ((d : Int) - 1).toNat = d - 1 from by omega, show d - 1 + 1 = d from by omega]
    refine ⟨?_, by omega⟩
    have : b * 2 ^ (d - 1) ≤ 2 ^ yaw b * 2 ^ (d - 1) := Nat.mul_le_mul_right _ (by omega)
    rw [← Nat.pow_add, show yaw b + (d - 1) = yaw a - 1 from by omega] at this
    omega
 ·rw [if_neg hl]
  obtain ⟨d, hd⟩ : ∃ d, d = yaw b - yaw a := ⟨_, rfl⟩
  rw [← hd]
  have h1 : b < a * 2 ^ (d + 1) := by
   have : 2 ^ (yaw a - 1) * 2 ^ (d + 1) ≤ a * 2 ^ (d + 1) := Nat.mul_le_mul_right _ a1
   rw [← Nat.pow_add, show yaw a - 1 + (d + 1) = yaw b from by omega] at this
   omega
  have h3 : a * 2 ^ (d - 1) < b := by
   have : a * 2 ^ (d - 1) < 2 ^ yaw a * 2 ^ (d - 1) := Nat.mul_lt_mul_of_pos_right a2 (Nat.two_pow_pos _)
   rw [← Nat.pow_add, show yaw a + (d - 1) = yaw b - 1 from by omega] at this
   omega
  by_cases h2 : b ≤ a * 2 ^ d
  ·rw [if_pos h2]
   refine ⟨fun h => by omega, fun _ => ?_⟩
   rw [show (- -(d : Int)).toNat = d from by omega]
   exact ⟨h2, h3⟩
  ·rw [if_neg h2]
   refine ⟨fun h => by omega, fun _ => ?_⟩
   rw [show (-(-(d : Int) - 1)).toNat = d + 1 from by omega, show d + 1 - 1 = d from by omega]
   exact ⟨by omega, by omega⟩
theorem ydB {a b : Nat} (ha : fit a) (hb : fit b) : -131073 ≤ tp a b ∧ tp a b ≤ 131072 := by
 have := ydq ha
 have := ydq hb
 unfold tp; (repeat' split) <;> omega
def yrr (a b : Nat) (e n : Int) (K : List UInt8 → Bool → Int → Prop) : Prop :=
 if n < -2097152 ∨ 2097152 < n then K [] false 2 else if a = 0 then K [] true 0 else
 if n ≤ e then (if fit (a * 2 ^ (e - n).toNat) then K (nb (a * 2 ^ (e - n).toNat / b)) (decide (a * 2 ^ (e - n).toNat % b = 0)) 0 else K [] false 4)
 else if tp a b + e < n then K [] false 0 else K (nb (a / (b * 2 ^ (n - e).toNat))) (decide (a % (b * 2 ^ (n - e).toNat) = 0)) 0
theorem ypy {a b : Nat} {e n : Int} (ha : a ≠ 0) (hb : b ≠ 0) (fa : fit a) (h1 : ¬ n ≤ e) (h2 : ¬ tp a b + e < n) : fit (b * 2 ^ (n - e).toNat) := by
 have h := (ymS ha hb).1 (by omega)
 refine yex fa (Nat.le_trans (Nat.mul_le_mul_left _ ?_) h.1)
 exact Nat.pow_le_pow_right (by omega) (by omega)
theorem ydS (s : Bool) {a b : Nat} {e : Int} (c : Can s a b e) (n : Int) (hn : -9223372036854775808 ≤ n ∧ n < 9223372036854775808) (K : List UInt8 → Bool → Int → Prop) (h : yrr a b e n K) : zcz s (nb a) (nb b) e n K := by
 have w := c.e64
 rw [zcz.is]; unfold zcz.d
 unfold yrr at h
 by_cases g1 : n < -2097152
 ·rw [yaA (yaZ g1)]; rw [if_pos (.inl g1)] at h; exact h
 rw [yau (ya2 (by omega))]
 by_cases g2 : 2097152 < n
 ·rw [yaA (yaZ g2)]; rw [if_pos (.inr g2)] at h; exact h
 rw [yau (ya2 (by omega)), ybJ]
 rw [if_neg (by omega)] at h
 refine ydU (fun h0 => ?_) fun h0 => ?_
 ·rw [if_pos h0] at h; exact h
 rw [if_neg h0] at h
 by_cases g3 : n ≤ e
 ·rw [yaA (ya9 g3)]
  rw [if_pos g3] at h
  rw [yar (by omega) (by omega)]
  refine yfI _ (by omega) (by omega) c.fa (ydx (fun f1 => ?_) fun f1 => ?_)
  ·rw [if_pos f1] at h
   rw [yau (by rfl)]
   refine yk5 f1 c.fb c.b0 ?_
   rw [ybJ]; exact h
  ·rw [if_neg f1] at h
   rw [yaA (by rfl)]; exact h
 ·rw [yau (yeu (by omega))]
  rw [if_neg g3] at h
  refine yf3 s c _ (fun hh => absurd hh h0) fun _ => ?_
  by_cases g4 : tp a b + e < n
  ·rw [yaA (yaZ g4)]; rw [if_pos g4] at h; exact h
  rw [yau (ya2 (by omega))]
  rw [if_neg g4] at h
  have hf := ypy h0 c.b0 c.fa g3 g4
  rw [yar (by omega) (by omega)]
  refine yfI _ (by omega) (by omega) c.fb (ydx (fun f1 => ?_) fun f1 => absurd hf f1)
  refine yk5 c.fa hf (Nat.mul_ne_zero c.b0 (Nat.pos_iff_ne_zero.1 (Nat.two_pow_pos _))) ?_
  rw [ybJ]; exact h
end Go.Ev.S

/- Differences: of words, bit by bit; of numbers of six words. -/
set_option linter.unusedVariables false
set_option linter.unusedSimpArgs false
set_option maxRecDepth 8000
namespace Go.Ev.S
open Go Go.Ev
end Go.Ev.S

/- Quiet and next encodings: the abacus and the document's answer; the law KindSigns. -/
set_option linter.unusedVariables false
set_option linter.unusedSimpArgs false
set_option maxRecDepth 8000
namespace Go.Ev.S
open Go Go.Ev
def ytU (f : Nat) : Nat := enc f false (2 * fe f + 1) (2 ^ (fp f - 2))
def quiet (f x : Nat) : Nat := if 8 ≤ cls f x then x ||| ytU f else x
end Go.Ev.S

/- The parts of an encoding: the abacus and the document's answer. -/
set_option linter.unusedVariables false
set_option linter.unusedSimpArgs false
set_option maxRecDepth 8000
namespace Go.Ev.S
open Go Go.Ev
end Go.Ev.S

/- Signs put together, words and classes: the abacus and the document's answer; the laws of signs. -/
set_option linter.unusedVariables false
set_option linter.unusedSimpArgs false
set_option maxRecDepth 8000
namespace Go.Ev.S
open Go Go.Ev
end Go.Ev.S

/- The plain laws of SignWords and SignBack. -/
set_option linter.unusedVariables false
set_option linter.unusedSimpArgs false
set_option maxRecDepth 8000
namespace Go.Ev.S
open Go Go.Ev
def ext (w x : Nat) : Nat := cond (x.testBit (w - 1)) (x % 2 ^ w + (18446744073709551616 - 2 ^ w)) (x % 2 ^ w)
end Go.Ev.S

/- Encodings compared: what the functions come to. -/
set_option linter.unusedVariables false
set_option linter.unusedSimpArgs false
set_option maxRecDepth 8000
namespace Go.Ev.S
open Go Go.Ev
def uz (f x : Nat) : Nat := if x = sg f true then 0 else x
end Go.Ev.S

/- The order of all encodings; the lesser and the greater one. -/
set_option linter.unusedVariables false
set_option linter.unusedSimpArgs false
set_option maxRecDepth 8000
namespace Go.Ev.S
open Go Go.Ev
end Go.Ev.S

/- What encodings say: their exact values, in order. -/
set_option linter.unusedVariables false
set_option linter.unusedSimpArgs false
set_option maxRecDepth 8000
namespace Go.Ev.S
open Go Go.Ev
def mg (f x : Nat) : Nat := ex f x * 2 ^ (fp f - 1) + fr f x
theorem yt2 (f x : Nat) (h : f ≤ 3) (hx : x < 2 ^ fw f) : x = sg f (ng f x) + mg f x := by
 have := ysU f x h hx
 unfold enc at this
 unfold mg; omega
theorem ypw (f x : Nat) : mg f x = 0 ↔ ex f x = 0 ∧ fr f x = 0 := by
 have hp := Nat.two_pow_pos (fp f - 1)
 unfold mg
 constructor
 ·intro h
  have h1 : ex f x * 2 ^ (fp f - 1) = 0 := by omega
  rcases Nat.mul_eq_zero.1 h1 with h2 | h2
  ·exact ⟨h2, by omega⟩
  ·omega
 ·rintro ⟨h1, h2⟩; rw [h1, h2]; omega
def fin (f x : Nat) : Prop := ex f x ≠ 2 * fe f + 1
theorem ysi (f x : Nat) : fin f x ↔ (1 ≤ cls f x ∧ cls f x ≤ 6) := by
 unfold fin cls
 cases ng f x <;> cases (fr f x).testBit (fp f - 2) <;> simp only [cond_true, cond_false] <;> (repeat' split) <;> constructor <;> intros <;> first | omega | simp_all
end Go.Ev.S

/- Exact numbers compared, as rational ones; encodings compared by their values. -/
set_option linter.unusedVariables false
set_option linter.unusedSimpArgs false
set_option maxRecDepth 8000
namespace Go.Ev.S
open Go Go.Ev
theorem ybs {x y d : Rat} (hd : 0 < d) : x * d < y * d ↔ x < y := by
 constructor
 ·intro hh
  apply Classical.byContradiction; intro hn
  have h1 : y ≤ x := by grind
  have h2 := Rat.mul_le_mul_of_nonneg_right h1 (show 0 ≤ d by grind)
  grind
 ·intro hh; exact Rat.mul_lt_mul_of_pos_right hh hd
section
variable {n1 n2 : Bool} {a1 b1 a2 b2 : Nat} {e1 e2 : Int}
end
theorem ym2 {x : Nat} (h : x < Q6) : fit x := by
 unfold fit
 obtain ⟨N, hN⟩ : ∃ N, N = 48 := ⟨_, rfl⟩
 have : (nb x).length ≤ N := by rw [ybA, yop, ytl hN]; exact h
 omega
theorem yeP : fit 1 := by unfold fit; rw [yc9]; decide
end Go.Ev.S

/- Exact numbers added, multiplied, compared, measured: the abacus. -/
set_option linter.unusedVariables false
set_option linter.unusedSimpArgs false
set_option maxRecDepth 8000
namespace Go.Ev.S
open Go Go.Ev
theorem yqC : fit 0 := by unfold fit; rw [yaN]; decide
section
variable {n1 n2 : Bool} {a1 b1 a2 b2 : Nat} {e1 e2 : Int}
theorem yf5 (s : Bool) {a b : Nat} {e : Int} (c : Can s a b e) (K : Bool → List UInt8 → List UInt8 → Int → Prop) (h : K false (nb a) (nb b) e) : zac s (nb a) (nb b) e K := by
 rw [zac.is]; unfold zac.d
 refine ya0 _ _ _ _ _ (fun _ => ?_) fun hh => absurd c.may hh
 rw [yau (by rfl)]; exact h
end
theorem ygb (n : Bool) {a b : Nat} {e : Int} (c : Can n a b e) (h0 : a ≠ 0) (K : Int → Prop) (h2 : K (tp a b + e)) : zaj n (nb a) (nb b) e K := by
 have w := c.e64
 have la := ydq c.fa
 have lb := ydq c.fb
 rw [zaj.is]; unfold zaj.d
 refine yfu c.fa ?_
 refine yfu c.fb ?_
 rw [yar (by omega) (by omega)]
 unfold tp at h2
 by_cases hl : yaw b ≤ yaw a
 ·rw [if_pos hl] at h2
  rw [yaA (ya9 (by omega))]
  have et : ((yaw a : Int) - yaw b).toNat = yaw a - yaw b := by omega
  have hf := ym9 c.fa c.b0 hl
  refine yem _ (by omega) (by omega) c.fb (ydx (fun f => ?_) fun f => absurd (by rw [et]; exact hf) f)
  refine ykS c.fa f ?_
  rw [et, ypT]
  refine ydF (fun h3 => ?_) fun h3 => ?_
  ·rw [if_neg h3] at h2
   rw [yar (by omega) (by omega), yas (by omega) (by omega), show ((yaw a : Int) - yaw b - 1 + e) = ((yaw a - yaw b : Nat) : Int) - 1 + e from by omega]; exact h2
  ·rw [if_pos h3] at h2
   rw [yas (by omega) (by omega), show ((yaw a : Int) - yaw b + e) = ((yaw a - yaw b : Nat) : Int) + e from by omega]; exact h2
 ·rw [if_neg hl] at h2
  rw [yau (yeu (by omega))]
  have en : yrJ .i64 ((yaw a : Int) - yaw b) = (yaw b : Int) - yaw a := by
   show IntKind.wrap .i64 _ = _
   rw [ydH (by omega) (by omega)]; omega
  have et : ((yaw b : Int) - yaw a).toNat = yaw b - yaw a := by omega
  have hf := ym9 c.fb h0 (show yaw a ≤ yaw b by omega)
  rw [en]
  refine yem _ (by omega) (by omega) c.fa (ydx (fun f => ?_) fun f => absurd (by rw [et]; exact hf) f)
  refine ykS f c.fb ?_
  rw [et, ypT]
  refine ydF (fun h3 => ?_) fun h3 => ?_
  ·rw [if_neg h3] at h2
   rw [yar (by omega) (by omega), yas (by omega) (by omega), show ((yaw a : Int) - yaw b - 1 + e) = -((yaw b - yaw a : Nat) : Int) - 1 + e from by omega]; exact h2
  ·rw [if_pos h3] at h2
   rw [yas (by omega) (by omega), show ((yaw a : Int) - yaw b + e) = -((yaw b - yaw a : Nat) : Int) + e from by omega]; exact h2
theorem yf4 (n : Bool) {a b : Nat} {e : Int} (c : Can n a b e) (K : Int → Int → Prop) (h1 : a = 0 → K 0 2) (h2 : a ≠ 0 → K (tp a b + e) 0) : zag n (nb a) (nb b) e K := by
 rw [zag.is]; unfold zag.d
 refine ya0 _ _ _ _ _ (fun _ => ?_) fun hh => absurd c.may hh
 rw [yau (by rfl), ybJ]
 refine ydU h1 fun h0 => ?_
 exact ygb n c h0 _ (h2 h0)
theorem yeA (s : Bool) {a b : Nat} {e : Int} (c : Can s a b e) (n : Int) (hn : -9223372036854775808 ≤ n ∧ n < 9223372036854775808) (K : List UInt8 → Bool → Int → Prop) (h : yrr a b e n K) : zae s (nb a) (nb b) e n K := by
 have w := c.e64
 rw [zae.is]; unfold zae.d
 refine ya0 _ _ _ _ _ (fun _ => ?_) fun hh => absurd c.may hh
 rw [yau (by rfl)]
 unfold yrr at h
 by_cases g1 : n < -2097152
 ·rw [yaA (yaZ g1)]; rw [if_pos (.inl g1)] at h; exact h
 rw [yau (ya2 (by omega))]
 by_cases g2 : 2097152 < n
 ·rw [yaA (yaZ g2)]; rw [if_pos (.inr g2)] at h; exact h
 rw [yau (ya2 (by omega)), ybJ]
 rw [if_neg (by omega)] at h
 refine ydU (fun h0 => ?_) fun h0 => ?_
 ·rw [if_pos h0] at h; exact h
 rw [if_neg h0] at h
 by_cases g3 : n ≤ e
 ·rw [yaA (ya9 g3)]
  rw [if_pos g3] at h
  rw [yar (by omega) (by omega)]
  refine yem _ (by omega) (by omega) c.fa (ydx (fun f1 => ?_) fun f1 => ?_)
  ·rw [if_pos f1] at h
   rw [yau (by rfl)]
   refine ylH f1 c.fb c.b0 ?_
   rw [ybJ]; exact h
  ·rw [if_neg f1] at h
   rw [yaA (by rfl)]; exact h
 ·rw [yau (yeu (by omega))]
  rw [if_neg g3] at h
  refine ygb s c h0 _ ?_
  by_cases g4 : tp a b + e < n
  ·rw [yaA (yaZ g4)]; rw [if_pos g4] at h; exact h
  rw [yau (ya2 (by omega))]
  rw [if_neg g4] at h
  have hf := ypy h0 c.b0 c.fa g3 g4
  rw [yar (by omega) (by omega)]
  refine yem _ (by omega) (by omega) c.fb (ydx (fun f1 => ?_) fun f1 => absurd hf f1)
  refine ylH c.fa hf (Nat.mul_ne_zero c.b0 (Nat.pos_iff_ne_zero.1 (Nat.two_pow_pos _))) ?_
  rw [ybJ]; exact h
end Go.Ev.S

/- Encodings of exact numbers. -/
set_option linter.unusedVariables false
set_option linter.unusedSimpArgs false
set_option maxRecDepth 8000
namespace Go.Ev.S
open Go Go.Ev
theorem ytx (e k t : Nat) (ht : t < 2 ^ k) : (e * 2 ^ k) ||| t = e * 2 ^ k + t := by
 rw [Nat.mul_comm]; exact (Nat.two_pow_add_eq_or_of_lt ht e).symm
theorem ye4 (f e t : Nat) (h : f ≤ 3) (he : e ≤ 2 * fe f + 1) (ht : t < 2 ^ (fp f - 1)) (neg : Bool) (K : Int → Int → Prop) (hK : K (Hi (enc f neg e t)) (Lo (enc f neg e t))) : zam f neg e (W t) K := by
 obtain ⟨w1, w2, w3, w4, w5, w6⟩ := ybY f h
 have hb := yhk h he ht
 have hen := ym5 h he ht neg
 have hb' : e * 2 ^ (fp f - 1) + t < Q6 := yoT (by omega) hb
 have he1 : e * 2 ^ (fp f - 1) < Q6 := by omega
 have ht1 : t < Q6 := yoT (by omega) ht
 rw [zam.is]; unfold zam.d
 rw [yaQ (by omega) (by omega), you e (by omega), ybd f h, ypX f h]
 refine yks e (fp f - 1) (yoT (a := 64) (by omega) (by omega)) (by omega) _ fun bb => ?_
 rw [Nat.mod_eq_of_lt he1]
 refine ynV _ _ he1 ht1 _ ?_
 rw [ytx _ _ _ ht]
 cases neg with
 | false =>
  rw [yau rfl]
  rw [yez _ (ysX (by omega) hb)]
  have : enc f false e t = e * 2 ^ (fp f - 1) + t := by simp [enc, sg]
  rw [this] at hK; exact hK
 | true =>
  have e1 : enc f true e t = e * 2 ^ (fp f - 1) + t + 2 ^ (fw f - 1) := by simp [enc, sg]; omega
  rw [e1] at hK hen
  have q1 : yaC IntKind.i64 (yao IntKind.i64 (fw f : Int) 1) 64 = (((fw f - 1) / 64 : Nat) : Int) := by rw [yr7 f h, ymO _ (by omega)]
  have q2 : cvI IntKind.u64 (yb8 IntKind.i64 (yao IntKind.i64 (fw f : Int) 1) 64) = (((fw f - 1) % 64 : Nat) : Int) := by rw [yr7 f h, yl5, yaQ (by omega) (by omega)]
  have g1 : (leI 0 (((fw f - 1) / 64 : Nat) : Int) && ltI (((fw f - 1) / 64 : Nat) : Int) 6) = true := ybz (by omega) (by omega)
  have g2 : (!ltI (((fw f - 1) % 64 : Nat) : Int) 0) = true := yit (by omega)
  rw [yaA rfl, yc5 f h, q1, q2, ybo g1, ybo g2, ybo g1, Int.toNat_natCast, ygO, yiM _ _ hb, yez _ (ysX (by omega) hen)]
  exact hK
def pl (f : Nat) (t : Int) : Int := (if t < 1 - fe f then 1 - (fe f : Int) else t) - fp f + 1
def yib (f : Nat) (n : Bool) (at_ : Int) (w : Nat) : Nat := sg f n + ((at_ + fe f + fp f - 2).toNat * 2 ^ (fp f - 1) + w)
theorem yqi {f : Nat} (h : f ≤ 3) (n : Bool) {t : Int} {w : Nat} (h1 : 2 ^ (fp f - 1) ≤ w) (h2 : w < 2 ^ fp f) :
  yib f n (pl f t) w = enc f n ((pl f t + fe f + fp f - 2).toNat + 1) (w % 2 ^ (fp f - 1)) := by
 have e2 : 2 ^ fp f = 2 ^ (fp f - 1) + 2 ^ (fp f - 1) := by rcases yeY h with rfl | rfl | rfl | rfl <;> decide
 have e3 : w % 2 ^ (fp f - 1) = w - 2 ^ (fp f - 1) := by
  rw [Nat.mod_eq_sub_mod h1, Nat.mod_eq_of_lt (by omega)]
 rw [e3]; unfold yib enc
 rw [Nat.add_mul]; omega
theorem yqd {f : Nat} (n : Bool) {t : Int} {w : Nat} (ht : t < 1 - fe f) : yib f n (pl f t) w = enc f n 0 w := by
 unfold yib enc pl
 rw [if_pos ht, show (1 - (fe f : Int) - fp f + 1 + fe f + fp f - 2).toNat = 0 from by omega, Nat.add_assoc]
theorem yrX {a : Nat} (h : a ≠ 0) : tp a 1 = (yaw a : Int) - 1 := by
 have h1 : yaw 1 = 1 := by decide
 have h2 := yko h
 have h3 : 1 ≤ yaw a := by
  rcases Nat.eq_zero_or_pos (yaw a) with h0 | h0
  ·have := (yaV a 0).1 (by omega); omega
  ·exact h0
 unfold tp
 rw [h1, if_pos h3, Nat.one_mul, if_pos h2]; omega
def ofE (f : Nat) (n : Bool) (a b : Nat) (e : Int) (K : Int → Int → Bool → Prop) : Prop :=
 if a = 0 then K 0 0 true else if b ≠ 1 ∨ (fe f : Int) < tp a b + e ∨ e < pl f (tp a b + e) then K 0 0 false else
  K (Hi (yib f n (pl f (tp a b + e)) (a * 2 ^ (e - pl f (tp a b + e)).toNat))) (Lo (yib f n (pl f (tp a b + e)) (a * 2 ^ (e - pl f (tp a b + e)).toNat))) true
theorem yqs {a : Nat} (h : a ≠ 0) (k : Nat) : 2 ^ (yaw a - 1 + k) ≤ a * 2 ^ k ∧ a * 2 ^ k < 2 ^ (yaw a + k) := by
 rw [Nat.pow_add, Nat.pow_add]
 exact ⟨Nat.mul_le_mul_right _ (yko h), Nat.mul_lt_mul_of_pos_right ((yaV a _).1 (Nat.le_refl _)) (Nat.two_pow_pos k)⟩
theorem yfq {f : Nat} (h : f ≤ 3) (t : Int) (h1 : t ≤ fe f) : -16494 ≤ pl f t ∧ pl f t ≤ 16384 ∧ 0 ≤ pl f t + fe f + fp f - 2 := by
 unfold pl
 rcases yeY h with rfl | rfl | rfl | rfl <;> simp only [fe, fp] at * <;> split <;> omega
theorem yqr {w : Nat} (h : w < Q6) : May (nb w) ∧ (nb w).length ≤ 48 := by
 refine ⟨ya8 (ym2 h), ?_⟩
 obtain ⟨N, hN⟩ : ∃ N, N = 48 := ⟨_, rfl⟩
 have : (nb w).length ≤ N := by rw [ybA, yop, ytl hN]; exact h
 omega
theorem ykY {w : Nat} (h : w < Q6) (K : (Nat → Int) → Bool → Prop) (hK : K (W w) true) : zba (nb w) K := by
 refine yjW _ _ ?_
 rw [if_pos (yqr h), yaJ]; exact hK
theorem ylE {w : Nat} (h : w < Q6) (K : (Nat → Int) → Bool → Prop) (hK : K (W w) true) : zcr (nb w) K := by
 refine yjJ _ _ ?_
 rw [if_pos (yqr h), yaJ]; exact hK
theorem ysy {w p : Nat} (hp : 1 ≤ p) (hw : w < 2 ^ p) : w.testBit (p - 1) = decide (2 ^ (p - 1) ≤ w) := by
 have e2 : 2 ^ p = 2 ^ (p - 1) + 2 ^ (p - 1) := by obtain ⟨q, rfl⟩ : ∃ q, p = q + 1 := ⟨p - 1, by omega⟩; rw [Nat.pow_succ, Nat.add_sub_cancel]; omega
 by_cases h : 2 ^ (p - 1) ≤ w
 ·rw [decide_eq_true h, show w = 2 ^ (p - 1) + (w - 2 ^ (p - 1)) from by omega, Nat.testBit_two_pow_add_eq, Nat.testBit_lt_two_pow (by omega)]; rfl
 ·rw [decide_eq_false h, Nat.testBit_lt_two_pow (by omega)]
section
variable {n : Bool} {a b : Nat} {e : Int}
theorem yrT {f : Nat} (h : f ≤ 3) (h0 : a ≠ 0) (h1 : ¬ (b ≠ 1 ∨ (fe f : Int) < tp a b + e ∨ e < pl f (tp a b + e))) :
  a * 2 ^ (e - pl f (tp a b + e)).toNat < 2 ^ fp f ∧ (1 - (fe f : Int) ≤ tp a b + e ↔ 2 ^ (fp f - 1) ≤ a * 2 ^ (e - pl f (tp a b + e)).toNat) := by
 obtain ⟨w1, w2, w3, w4, w5, w6⟩ := ybY f h
 have hb : b = 1 := by omega
 subst hb
 have ht := yrX h0
 have hm := yqs h0 (e - pl f (tp a 1 + e)).toNat
 have h3 : 1 ≤ yaw a := by
  rcases Nat.eq_zero_or_pos (yaw a) with hh | hh
  ·have := (yaV a 0).1 (by omega); omega
  ·exact hh
 have hpl : pl f (tp a 1 + e) ≤ e := by omega
 by_cases hs : tp a 1 + e < 1 - fe f
 ·have hp1 : pl f (tp a 1 + e) = 2 - fe f - fp f := by unfold pl; rw [if_pos hs]; omega
  have l1 : yaw a + (e - pl f (tp a 1 + e)).toNat ≤ fp f - 1 := by omega
  have l2 := Nat.pow_le_pow_right (show 0 < 2 by omega) l1
  have l3 := Nat.pow_lt_pow_right (show 1 < 2 by omega) (show fp f - 1 < fp f by omega)
  exact ⟨by omega, by omega, by omega⟩
 ·have hp1 : pl f (tp a 1 + e) = tp a 1 + e - fp f + 1 := by unfold pl; rw [if_neg hs]
  have l1 : yaw a + (e - pl f (tp a 1 + e)).toNat = fp f := by omega
  have l2 : yaw a - 1 + (e - pl f (tp a 1 + e)).toNat = fp f - 1 := by omega
  rw [l1, l2] at hm
  exact ⟨by omega, fun _ => by omega, fun _ => by omega⟩
theorem yi4 (f : Nat) (h : f ≤ 3) (c : Can n a b e) (K : Int → Int → Bool → Int → Prop) (hK : ofE f n a b e fun y0 y1 y2 => K y0 y1 y2 0) : zal f n (nb a) (nb b) e K := by
 obtain ⟨w1, w2, w3, w4, w5, w6⟩ := ybY f h
 have we := c.e64
 have hr := ydB c.fa c.fb
 unfold ofE at hK
 rw [zal.is]; unfold zal.d
 rw [yaR f h, yau (by rfl)]
 refine ya0 _ _ _ _ _ (fun _ => ?_) (fun hn => absurd c.may hn)
 rw [yau (by rfl), ybJ]
 refine ydU (fun h0 => ?_) fun h0 => ?_
 ·rw [if_pos h0] at hK; exact hK
 rw [if_neg h0] at hK
 rw [ybd f h]
 refine yf4 n c _ (fun hh => absurd hh h0) fun _ => ?_
 rw [ybX f h, yfM]
 refine ydF (fun hb => ?_) fun hb => ?_
 ·rw [if_pos (.inl hb)] at hK; exact hK
 rw [ybU f h]
 by_cases h2 : (fe f : Int) < tp a b + e
 ·rw [yaA (yaZ h2)]; rw [if_pos (.inr (.inl h2))] at hK; exact hK
 rw [yau (ya2 (by omega))]
 have hp := yfq h (tp a b + e) (by omega)
 have e1 : yai .i64 (yao .i64 (yik (tp a b + e) (1 - (fe f : Int))) (fp f : Int)) 1 = pl f (tp a b + e) := by
  have : yik (tp a b + e) (1 - (fe f : Int)) = if tp a b + e < 1 - fe f then 1 - (fe f : Int) else tp a b + e := yfH _ _
  rw [this]
  unfold pl
  have hh : -200000 ≤ (if tp a b + e < 1 - (fe f : Int) then 1 - (fe f : Int) else tp a b + e) ∧ (if tp a b + e < 1 - (fe f : Int) then 1 - (fe f : Int) else tp a b + e) ≤ 200000 := by split <;> omega
  rw [yar (by omega) (by omega), yas (by omega) (by omega)]
 rw [e1]
 by_cases h3 : e < pl f (tp a b + e)
 ·rw [yaA (yaZ h3)]; rw [if_pos (.inr (.inr h3))] at hK; exact hK
 rw [yau (ya2 (by omega))]
 have hc : ¬ (b ≠ 1 ∨ (fe f : Int) < tp a b + e ∨ e < pl f (tp a b + e)) := by omega
 rw [if_neg hc] at hK
 have hw := yrT h h0 hc
 generalize hwd : a * 2 ^ (e - pl f (tp a b + e)).toNat = w at hw hK
 have hwQ : w < Q6 := yoT (by omega) hw.1
 refine yeA n c _ (by omega) _ ?_
 unfold yrr
 rw [if_neg (by omega), if_neg h0, if_pos (show pl f (tp a b + e) ≤ e by omega), hwd, if_pos (ym2 hwQ), hb, Nat.div_one]
 rw [hb] at hw hK
 refine ykY hwQ _ ?_
 rw [ypX f h, yl7 w (fp f - 1) (by omega), ysy (by omega) hw.1]
 refine ydU (fun hl => ?_) fun hl => ?_
 ·rw [ybX f h]
  refine ygw _ (by omega) _ ?_
  refine yih _ _ hwQ _ ?_
  rw [Nat.and_two_pow_sub_one_eq_mod]
  rw [hb] at hp h2
  have e2 : yai .i64 (yao .i64 (pl f (tp a 1 + e)) (1 - (fe f : Int))) (fp f : Int) = (((pl f (tp a 1 + e) + fe f + fp f - 2).toNat + 1 : Nat) : Int) := by
   rw [yar (by omega) (by omega), yas (by omega) (by omega)]; omega
  rw [e2]
  rw [yqi h n hl hw.1] at hK
  refine ye4 f _ _ h ?_ (Nat.mod_lt _ (Nat.two_pow_pos _)) n _ hK
  have hs := hw.2.2 hl
  unfold pl; rw [if_neg (by omega)]; omega
 ·refine ygw _ (by omega) _ ?_
  refine yih _ _ hwQ _ ?_
  rw [Nat.and_two_pow_sub_one_eq_mod, Nat.mod_eq_of_lt (by omega)]
  rw [yqd n (by have := hw.2; omega)] at hK
  exact ye4 f 0 w h (by omega) (by omega) n _ hK
theorem yqg (f : Nat) (h : f ≤ 3) (c : Can n a b e) (K : Int → Int → Bool → Prop) (hK : ofE f n a b e K) : zdu f n (nb a) (nb b) e K := by
 obtain ⟨w1, w2, w3, w4, w5, w6⟩ := ybY f h
 have we := c.e64
 have hr := ydB c.fa c.fb
 unfold ofE at hK
 rw [zdu.is]; unfold zdu.d
 rw [ybJ]
 refine ydU (fun h0 => ?_) fun h0 => ?_
 ·rw [if_pos h0] at hK; exact hK
 rw [if_neg h0] at hK
 rw [yaM f h]
 refine yf3 n c _ (fun hh => absurd hh h0) fun _ => ?_
 rw [yfM]
 refine ydF (fun hb => ?_) fun hb => ?_
 ·rw [if_pos (.inl hb)] at hK; exact hK
 rw [ydr f h]
 by_cases h2 : (fe f : Int) < tp a b + e
 ·rw [yaA (yaZ h2)]; rw [if_pos (.inr (.inl h2))] at hK; exact hK
 rw [yau (ya2 (by omega)), ycf f h]
 have hp := yfq h (tp a b + e) (by omega)
 have key : ∀ m : Int, m = pl f (tp a b + e) → br (ltI e m) (K 0 0 false) (zcz n (nb a) (nb b) e m fun y0_4 y1 y2 => zcr y0_4 fun y0_5 y1 => zca y0_5 fun y0_6 => br (ltI y0_6 (fp f : Int)) (zdg f n 0 y0_5 fun y0 y1 => K y0 y1 true) (zcb (yao .i64 (fp f : Int) 1) fun y0_7 => zbw y0_5 y0_7 fun y0_8 => zdi f fun y0_9 => zdg f n (yai .i64 (yao .i64 m y0_9) (fp f : Int)) y0_8 fun y0 y1 => K y0 y1 true)) := by
  intro m hm
  subst hm
  by_cases h3 : e < pl f (tp a b + e)
  ·rw [yaA (yaZ h3)]; rw [if_pos (.inr (.inr h3))] at hK; exact hK
  rw [yau (ya2 (by omega))]
  have hc : ¬ (b ≠ 1 ∨ (fe f : Int) < tp a b + e ∨ e < pl f (tp a b + e)) := by omega
  rw [if_neg hc] at hK
  have hw := yrT h h0 hc
  generalize hwd : a * 2 ^ (e - pl f (tp a b + e)).toNat = w at hw hK
  have hwQ : w < Q6 := yoT (by omega) hw.1
  refine ydS n c _ (by omega) _ ?_
  unfold yrr
  rw [if_neg (by omega), if_neg h0, if_pos (show pl f (tp a b + e) ≤ e by omega), hwd, if_pos (ym2 hwQ), hb, Nat.div_one]
  rw [hb] at hw hK
  refine ylE hwQ _ ?_
  refine yon w hwQ _ ?_
  by_cases hl : 2 ^ (fp f - 1) ≤ w
  ·have hl' : ¬ yaw w ≤ fp f - 1 := by rw [yaV]; omega
   rw [yau (ya2 (by omega)), ypX f h]
   refine yeM _ (by omega) _ ?_
   refine yiN _ _ hwQ _ ?_
   rw [Nat.and_two_pow_sub_one_eq_mod, ycf f h]
   rw [hb] at hp h2
   have e2 : yai .i64 (yao .i64 (pl f (tp a 1 + e)) (1 - (fe f : Int))) (fp f : Int) = (((pl f (tp a 1 + e) + fe f + fp f - 2).toNat + 1 : Nat) : Int) := by
    rw [yar (by omega) (by omega), yas (by omega) (by omega)]; omega
   rw [e2]
   rw [yqi h n hl hw.1] at hK
   refine yco f _ _ h ?_ (Nat.mod_lt _ (Nat.two_pow_pos _)) n _ hK
   have hs := hw.2.2 hl
   unfold pl; rw [if_neg (by omega)]; omega
  ·have hl' : yaw w ≤ fp f - 1 := by rw [yaV]; omega
   rw [yaA (yaZ (by omega))]
   rw [yqd n (by have := hw.2; omega)] at hK
   exact yco f 0 w h (by omega) (by omega) n _ hK
 by_cases hs : tp a b + e < 1 - fe f
 ·rw [yaA (yaZ hs), ycf f h]
  have e1 : yai .i64 (yao .i64 (1 - (fe f : Int)) (fp f : Int)) 1 = pl f (tp a b + e) := by
   unfold pl; rw [if_pos hs, yar (by omega) (by omega), yas (by omega) (by omega)]
  rw [e1]; exact key _ rfl
 ·rw [yau (ya2 (by omega))]
  have e1 : yai .i64 (yao .i64 (tp a b + e) (fp f : Int)) 1 = pl f (tp a b + e) := by
   unfold pl; rw [if_neg hs, yar (by omega) (by omega), yas (by omega) (by omega)]
  rw [e1]; exact key _ rfl
end
end Go.Ev.S

/- Rounding: what is delivered, by a floor function; the program's packing. -/
set_option linter.unusedVariables false
set_option linter.unusedSimpArgs false
set_option maxRecDepth 8000
namespace Go.Ev.S
open Go Go.Ev
def hf (F : Int → Nat × Bool) (at_ : Int) : Int := if (F (at_ - 1)).1 % 2 = 1 then (if (F (at_ - 1)).2 = true then 0 else 1) else -1
def upB (m : Nat) (n o : Bool) (a : Int) (e : Bool) : Bool :=
 if e = true then false else if m = 0 then (decide (0 < a) || (decide (a = 0) && o)) else if m = 4 then decide (0 ≤ a) else if m = 2 then n else if m = 3 then !n else false
def tk (F : Int → Nat × Bool) (m : Nat) (n : Bool) (at_ : Int) : Nat := (F at_).1 + cond (upB m n (decide ((F at_).1 % 2 = 1)) (hf F at_) (F at_).2) 1 0
def yeT (f m : Nat) (n : Bool) (F : Int → Nat × Bool) (top : Int) : Bool :=
 if top = -(fe f : Int) then decide (yaw (tk F m n (top - fp f + 1)) ≤ fp f) else decide (top < 1 - (fe f : Int))
def dlv (f m : Nat) (n : Bool) (F : Int → Nat × Bool) (top : Int) (K : Int → Int → Int → Int → Prop) : Prop :=
 if (fe f : Int) < top then K (Hi (ov f m n)) (Lo (ov f m n)) 5 0 else
 if (fe f : Int) < (yaw (tk F m n (pl f top)) : Int) - 1 + pl f top then K (Hi (ov f m n)) (Lo (ov f m n)) 5 0 else
 K (Hi (yib f n (pl f top) (tk F m n (pl f top)))) (Lo (yib f n (pl f top) (tk F m n (pl f top)))) (if (F (pl f top)).2 = true then 0 else if yeT f m n F top = true then 3 else 1) 0
def hj (S k : Nat) : Int := if S / 2 ^ (k - 1) % 2 = 1 then (if S % 2 ^ (k - 1) = 0 then 0 else 1) else -1
theorem ysD (b : Bool) : cond b 1 0 ≤ 1 := by cases b <;> decide
theorem yqx (F : Int → Nat × Bool) (m : Nat) (n : Bool) (at_ : Int) : tk F m n at_ ≤ (F at_).1 + 1 := by
 unfold tk; have := ysD (upB m n (decide ((F at_).1 % 2 = 1)) (hf F at_) (F at_).2); omega
theorem ytv {f : Nat} (h : f ≤ 3) : 2 ^ fp f + 1 < Q6 := by
 have w := ybY f h
 have h1 : 2 ^ (fp f + 1) < Q6 := ys0 (by omega)
 have h2 := Nat.pow_le_pow_right (show 0 < 2 by omega) (show 1 ≤ fp f by omega)
 rw [Nat.pow_succ] at h1
 omega
theorem yqI {f : Nat} (h : f ≤ 3) {top : Int} (ht : top ≤ fe f) {n : Nat} (h1 : n ≤ 2 ^ fp f) (h2 : (yaw n : Int) - 1 + pl f top ≤ fe f) :
  (pl f top + fe f + fp f - 2).toNat * 2 ^ (fp f - 1) + n < (2 * fe f + 1) * 2 ^ (fp f - 1) := by
 obtain ⟨w1, w2, w3, w4, w5, w6⟩ := ybY f h
 have hp := yfq h top ht
 have e2 : 2 ^ fp f = 2 ^ (fp f - 1) + 2 ^ (fp f - 1) := by rcases yeY h with rfl | rfl | rfl | rfl <;> decide
 have hfe : 1 ≤ fe f := by rcases yeY h with rfl | rfl | rfl | rfl <;> decide
 have hpos := Nat.two_pow_pos (fp f - 1)
 obtain ⟨q, hq⟩ : ∃ q : Nat, (q : Int) = pl f top + fe f + fp f - 2 := ⟨(pl f top + fe f + fp f - 2).toNat, by omega⟩
 rw [show (pl f top + fe f + fp f - 2).toNat = q from by omega]
 have hq2 : q + 2 ≤ 2 * fe f + 1 := by
  have : pl f top ≤ fe f - fp f + 1 ∨ q = 0 := by
   by_cases hs : top < 1 - fe f
   ·right; unfold pl at hq; rw [if_pos hs] at hq; omega
   ·left; unfold pl; rw [if_neg hs]; omega
  omega
 by_cases hn : n < 2 ^ fp f
 ·have := Nat.mul_le_mul_right (2 ^ (fp f - 1)) hq2
  rw [Nat.add_mul] at this; omega
 ·have hb : ¬ yaw n ≤ fp f := by rw [yaV]; exact hn
  have hq3 : q + 2 + 1 ≤ 2 * fe f + 1 := by omega
  have := Nat.mul_le_mul_right (2 ^ (fp f - 1)) hq3
  rw [Nat.add_mul, Nat.add_mul q] at this; omega
end Go.Ev.S

/- Exact numbers: made, signs, products, places, sums. -/
set_option linter.unusedVariables false
set_option linter.unusedSimpArgs false
set_option maxRecDepth 8000
namespace Go.Ev.S
open Go Go.Ev
end Go.Ev.S

/- Exact numbers as rational ones: bounds, sums, products, whole parts. -/
set_option linter.unusedVariables false
set_option linter.unusedSimpArgs false
set_option maxRecDepth 8000
namespace Go.Ev.S
open Go Go.Ev
theorem ykp {x P : Nat} (h : x < 2 ^ P) (hP : P ≤ 131072) : fit x := by
 rw [ynh]; have := (yaV x P).2 h; omega
section
variable {n1 n2 : Bool} {a1 b1 a2 b2 : Nat} {e1 e2 : Int} {P1 E1 P2 E2 : Nat}
end
theorem ydd {x y d : Rat} (hd : 0 < d) : x * d ≤ y * d ↔ x ≤ y := by
 have h := ybs (x := y) (y := x) hd
 constructor
 ·intro hh; apply Classical.byContradiction; intro hc
  have := h.2 (by grind); grind
 ·intro hh; exact Rat.mul_le_mul_of_nonneg_right hh (by grind)
theorem yiR {x y d : Rat} (hd : 0 < d) : x * d = y * d ↔ x = y := by
 constructor
 ·intro hh
  have h1 := (ydd (x := x) (y := y) hd).1 (by grind)
  have h2 := (ydd (x := y) (y := x) hd).1 (by grind)
  grind
 ·intro hh; rw [hh]
structure Flr (X : Rat) (n : Int) (m : Nat) (is : Bool) : Prop where
 le : (m : Rat) * p2 n ≤ X
 lt : X < ((m + 1 : Nat) : Rat) * p2 n
 eq : is = true ↔ (m : Rat) * p2 n = X
theorem ynu {X : Rat} {N D : Nat} {n : Int} (hD : D ≠ 0) (h : X * D = N * p2 n) : Flr X n (N / D) (decide (N % D = 0)) := by
 have hd := yjQ hD
 have hp := yeF n
 have hdm := Nat.div_add_mod N D
 have hml := Nat.mod_lt N (Nat.pos_of_ne_zero hD)
 have e1 : ∀ m : Nat, (m : Rat) * p2 n * D = ((m * D : Nat) : Rat) * p2 n := by intro m; rw [Rat.natCast_mul]; grind
 refine ⟨?_, ?_, ?_⟩
 ·rw [← ydd hd, h, e1, ydd hp, Rat.natCast_le_natCast]
  exact Nat.div_mul_le_self N D
 ·rw [← ybs hd, h, e1, ybs hp, Rat.natCast_lt_natCast, Nat.add_mul, Nat.mul_comm]
  omega
 ·rw [decide_eq_true_iff, ← yiR hd, h, e1, yiR hp, Rat.natCast_inj, Nat.mul_comm]
  omega
theorem ytX (a b : Nat) (e n : Int) (hb : b ≠ 0) (hn : n ≤ e) : V false a b e * (b : Rat) = ((a * 2 ^ (e - n).toNat : Nat) : Rat) * p2 n := by
 rw [yss false a b e hb, show sR false = 1 from rfl, Rat.natCast_mul, ← yeD]
 have : p2 ((e - n).toNat : Int) * p2 n = p2 e := by rw [← yeC]; congr 1; omega
 grind
theorem ysY (a b : Nat) (e n : Int) (hb : b ≠ 0) (hn : e ≤ n) : V false a b e * ((b * 2 ^ (n - e).toNat : Nat) : Rat) = (a : Rat) * p2 n := by
 have h := yss false a b e hb
 rw [show sR false = 1 from rfl] at h
 rw [Rat.natCast_mul, ← yeD]
 have : p2 ((n - e).toNat : Int) * p2 e = p2 n := by rw [← yeC]; congr 1; omega
 grind
theorem ytq {s : Bool} {a b : Nat} {e n : Int} (c : Can s a b e) (ha : a ≠ 0) (h1 : -2097152 ≤ n) (h2 : n ≤ 2097152) (hf : n ≤ e → fit (a * 2 ^ (e - n).toNat)) (K : List UInt8 → Bool → Int → Prop)
  (h : ∀ m is, Flr (V false a b e) n m is → (n ≤ e → m ≤ a * 2 ^ (e - n).toNat) → (e < n → m ≤ a) → K (nb m) is 0) : yrr a b e n K := by
 unfold yrr
 rw [if_neg (by omega), if_neg ha]
 by_cases hn : n ≤ e
 ·rw [if_pos hn, if_pos (hf hn)]
  exact h _ _ (ynu c.b0 (ytX a b e n c.b0 hn)) (fun _ => Nat.div_le_self _ _) (fun _ => by omega)
 ·rw [if_neg hn]
  have hB : b * 2 ^ (n - e).toNat ≠ 0 := Nat.mul_ne_zero c.b0 (Nat.pos_iff_ne_zero.1 (Nat.two_pow_pos _))
  have fl := ynu hB (ysY a b e n c.b0 (by omega))
  by_cases ht : tp a b + e < n
  ·rw [if_pos ht]
   have hlt : a < b * 2 ^ (n - e).toNat := by
    have hs := ymS ha c.b0
    by_cases h0 : 0 ≤ tp a b
    ·refine Nat.lt_of_lt_of_le (hs.1 h0).2 (Nat.mul_le_mul_left _ (Nat.pow_le_pow_right (by omega) (by omega)))
    ·have h3 := (hs.2 (by omega)).2
     have h4 : a * 1 ≤ a * 2 ^ ((-tp a b).toNat - 1) := Nat.mul_le_mul_left _ (Nat.two_pow_pos _)
     have h5 : b * 1 ≤ b * 2 ^ (n - e).toNat := Nat.mul_le_mul_left _ (Nat.two_pow_pos _)
     omega
   rw [Nat.div_eq_of_lt hlt, Nat.mod_eq_of_lt hlt, show decide (a = 0) = false from by simpa using ha] at fl
   have := h 0 false fl (fun _ => by omega) (fun _ => by omega)
   rwa [yaN] at this
  ·rw [if_neg ht]
   exact h _ _ fl (fun _ => by omega) (fun _ => Nat.div_le_self _ _)
theorem yrG {a b x y : Rat} (hx : 0 < x) (h : x * y = 1) (hh : b ≤ a * y) : x * b ≤ a := by
 have h1 := Rat.mul_le_mul_of_nonneg_right hh (show 0 ≤ x by grind)
 have h2 : a * y * x = a := by rw [show a * y * x = a * (x * y) from by grind, h]; grind
 grind
theorem yro {a b x y : Rat} (hx : 0 < x) (h : x * y = 1) (hh : a * y < b) : a < x * b := by
 have h1 := Rat.mul_lt_mul_of_pos_right hh hx
 have h2 : a * y * x = a := by rw [show a * y * x = a * (x * y) from by grind, h]; grind
 grind
theorem ytY {a b : Nat} (e : Int) (ha : a ≠ 0) (hb : b ≠ 0) : p2 (tp a b + e) ≤ V false a b e ∧ V false a b e < p2 (tp a b + e + 1) := by
 have hs := ymS ha hb
 have hd := yjQ hb
 have hv := yss false a b e hb
 rw [show sR false = 1 from rfl] at hv
 have hp := yeF e
 have key : p2 (tp a b) * (b : Rat) ≤ a ∧ (a : Rat) < p2 (tp a b + 1) * b := by
  by_cases h0 : 0 ≤ tp a b
  ·obtain ⟨h1, h2⟩ := hs.1 h0
   have e1 : p2 (tp a b) = ((2 ^ (tp a b).toNat : Nat) : Rat) := by rw [← yeD]; congr 1; omega
   have e2 : p2 (tp a b + 1) = ((2 ^ ((tp a b).toNat + 1) : Nat) : Rat) := by rw [← yeD]; congr 1; omega
   rw [e1, e2, ← Rat.natCast_mul, ← Rat.natCast_mul, Rat.natCast_le_natCast, Rat.natCast_lt_natCast, Nat.mul_comm, Nat.mul_comm _ b]
   exact ⟨h1, h2⟩
  ·obtain ⟨h1, h2⟩ := hs.2 (by omega)
   have q1 : p2 (tp a b) * ((2 ^ (-tp a b).toNat : Nat) : Rat) = 1 := by rw [← yeD, ← yeC, show tp a b + ((-tp a b).toNat : Int) = 0 from by omega, ypl]
   have q2 : p2 (tp a b + 1) * ((2 ^ ((-tp a b).toNat - 1) : Nat) : Rat) = 1 := by rw [← yeD, ← yeC, show tp a b + 1 + (((-tp a b).toNat - 1 : Nat) : Int) = 0 from by omega, ypl]
   have r1 := Rat.natCast_le_natCast.2 h1
   have r2 := Rat.natCast_lt_natCast.2 h2
   rw [Rat.natCast_mul] at r1 r2
   have s1 := yeF (tp a b)
   have s2 := yeF (tp a b + 1)
   exact ⟨yrG s1 q1 r1, yro s2 q2 r2⟩
 constructor
 ·rw [← ydd hd, hv, yeC]
  have := Rat.mul_le_mul_of_nonneg_right key.1 (show 0 ≤ p2 e by grind)
  grind
 ·rw [← ybs hd, hv, show tp a b + e + 1 = (tp a b + 1) + e from by omega, yeC]
  have := Rat.mul_lt_mul_of_pos_right key.2 hp
  grind
end Go.Ev.S

/- Doubling does not change what is delivered. -/
set_option linter.unusedVariables false
set_option linter.unusedSimpArgs false
set_option maxRecDepth 8000
namespace Go.Ev.S
open Go Go.Ev
end Go.Ev.S

/- Rounding as the document has it. -/
set_option linter.unusedVariables false
set_option linter.unusedSimpArgs false
set_option maxRecDepth 8000
namespace Go.Ev.S
open Go Go.Ev
structure FF (F : Int → Nat × Bool) (p : Nat) (top : Int) : Prop where
 lt : ∀ at_, top - p + 1 ≤ at_ → (F at_).1 < 2 ^ p
 ge : 2 ^ (p - 1) ≤ (F (top - p + 1)).1
 ex : ∀ at_, (F at_).2 = true → (F at_).1 ≠ 0
 half : ∀ at_, (F (at_ + 1)).1 = (F at_).1 / 2
theorem yrM (n : Bool) {t : Nat} (h0 : t ≠ 0) {P : Nat} (ht : t < 2 ^ P) (hP : P = 200) {at_ : Int} (hr : -100000 ≤ at_ ∧ at_ ≤ 100000) (K : Bool → List UInt8 → List UInt8 → Int → Int → Prop)
  (hK : ∀ a e, Can n a 1 e → a ≠ 0 → t = a * 2 ^ (e - at_).toNat → at_ ≤ e → e ≤ at_ + 200 → K n (nb a) [1] e 0) : mkE n t 1 at_ K := by
 unfold mkE
 have hl := yka t P h0 ht
 have o1 : odp 1 = 1 := by unfold odp; rw [show ybC 1 = 0 from ymY 0 0]
 have hB : rdB t 1 = 1 := by unfold rdB; rw [o1, Nat.gcd_one_right]
 have hA : rdA t 1 = odp t := by unfold rdA; rw [o1, Nat.gcd_one_right, Nat.div_one]
 have hE : rdE t 1 at_ = at_ + ybC t := by unfold rdE; rw [show ybC 1 = 0 from ymY 0 0]; omega
 rw [if_neg h0, hA, hB, hE, if_pos (by unfold win; omega), yc9]
 have ho := ynO h0
 have hne := ykB h0
 have hfit : fit t := ykp ht (by omega)
 refine hK _ _ ⟨yhp hfit _, yeP, rfl, by unfold win; omega, fun hh => absurd hh hne, fun _ => ⟨ho.2, Nat.gcd_one_right _⟩⟩ hne ?_ (by omega) (by omega)
 rw [show (at_ + (ybC t : Int) - at_).toNat = ybC t from by omega, Nat.mul_comm]; exact ho.1
theorem yr3 {f : Nat} (h : f ≤ 3) {n : Bool} {a t : Nat} {e at_ : Int} (c : Can n a 1 e) (h0 : a ≠ 0) (ht : t = a * 2 ^ (e - at_).toNat) (hle : at_ ≤ e) (h1 : t ≤ 2 ^ fp f)
  (hat : 2 - (fe f : Int) - fp f ≤ at_) (hs : at_ = 2 - (fe f : Int) - fp f ∨ 2 ^ (fp f - 1) ≤ t) (K : Int → Int → Bool → Prop)
  (hK : if (fe f : Int) < (yaw t : Int) - 1 + at_ then K 0 0 false else K (Hi (yib f n at_ t)) (Lo (yib f n at_ t)) true) : ofE f n a 1 e K := by
 obtain ⟨w1, w2, w3, w4, w5, w6⟩ := ybY f h
 obtain ⟨k, hk⟩ : ∃ k : Nat, (k : Int) = e - at_ := ⟨(e - at_).toNat, by omega⟩
 rw [show (e - at_).toNat = k from by omega] at ht
 have hb : yaw t = yaw a + k := by rw [ht, ygK _ _ h0]
 have htp : tp a 1 + e = (yaw t : Int) - 1 + at_ := by rw [yrX h0, hb]; omega
 unfold ofE
 rw [if_neg h0, htp]
 by_cases hf : (fe f : Int) < (yaw t : Int) - 1 + at_
 ·rw [if_pos (.inr (.inl hf))]; rw [if_pos hf] at hK; exact hK
 rw [if_neg hf] at hK
 by_cases hp : t < 2 ^ fp f
 ·have hbl := (yaV t (fp f)).2 hp
  have hpl : pl f ((yaw t : Int) - 1 + at_) = at_ := by
   unfold pl
   rcases hs with hs | hs
   ·split <;> omega
   ·have hb2 : ¬ yaw t ≤ fp f - 1 := by rw [yaV]; omega
    rw [if_neg (by omega)]; omega
  rw [hpl, if_neg (by omega), show (e - at_).toNat = k from by omega, ← ht]
  exact hK
 ·have hte : t = 2 ^ fp f := by omega
  have hb2 : yaw t = fp f + 1 := by
   have h3 : ¬ yaw t ≤ fp f := by rw [yaV]; omega
   have h4 : yaw t ≤ fp f + 1 := by rw [yaV, hte]; exact Nat.pow_lt_pow_right (by omega) (by omega)
   omega
  have hpl : pl f ((yaw t : Int) - 1 + at_) = at_ + 1 := by
   unfold pl; rw [if_neg (by omega)]; omega
  have hk1 : 1 ≤ k := by
   apply Classical.byContradiction; intro hn
   have hk0 : k = 0 := by omega
   rw [hk0, Nat.pow_zero, Nat.mul_one] at ht
   have ho := (c.r h0).1
   have : t % 2 = 0 := by
    rw [hte]
    obtain ⟨q, hq⟩ : ∃ q, fp f = q + 1 := ⟨fp f - 1, by omega⟩
    rw [hq, Nat.pow_succ]; omega
   omega
  rw [hpl, if_neg (by omega), show (e - (at_ + 1)).toNat = k - 1 from by omega]
  have e2 : 2 ^ fp f = 2 ^ (fp f - 1) + 2 ^ (fp f - 1) := by rcases yeY h with rfl | rfl | rfl | rfl <;> decide
  have hw : a * 2 ^ (k - 1) = 2 ^ (fp f - 1) := by
   have : a * 2 ^ k = a * 2 ^ (k - 1) * 2 := by rw [Nat.mul_assoc, ← Nat.pow_succ, show (k - 1).succ = k from by omega]
   omega
  have he : yib f n (at_ + 1) (a * 2 ^ (k - 1)) = yib f n at_ t := by
   unfold yib
   rw [hw, hte, e2, show (at_ + 1 + (fe f : Int) + fp f - 2).toNat = (at_ + (fe f : Int) + fp f - 2).toNat + 1 from by omega, Nat.add_mul]
   omega
  rw [he]; exact hK
theorem yhI (x : Nat) (hf : fit x) (K : Bool → Prop) (h : K (decide (x % 2 = 1))) : zec (nb x) K := by
 have hl := ymU hf
 have hv : val (nb x) = x := yaJ x
 rw [← hv] at h
 generalize nb x = a at h hl
 rw [zec.is]; unfold zec.d
 rw [ybb]
 by_cases h0 : a = []
 ·subst h0
  rw [yau (by rfl)]; exact h
 ·have hp : 0 < a.length := List.length_pos_iff.2 h0
  rw [yaA (by simp [h0]), yar (by omega) (by omega), ya9 (by omega), yaZ (by omega), ybo (by rfl), show Int.toNat ((a.length : Int) - 1) = a.length - 1 from by omega, yj0 a h0]
  exact h
theorem yqj (m : Nat) (hm : m ≤ 4) (n : Bool) {x : Nat} (hf : fit x) (at_ hh : Int) (e : Bool) (K : Bool → Prop) (hK : K (upB m n (decide (x % 2 = 1)) hh e)) : zeh m n (nb x) at_ hh e K := by
 rw [zeh.is]; unfold zeh.d
 unfold upB at hK
 cases e with
 | true => exact hK
 | false =>
  rw [yau rfl]
  rcases yra hm with rfl | rfl | rfl | rfl | rfl
  ·show br (ltI 0 hh) (K true) (br (eqI hh 0) (zec (nb x) fun y0 => K y0) (K false))
   have hK' : K (decide (0 < hh) || (decide (hh = 0) && decide (x % 2 = 1))) := hK
   by_cases h1 : 0 < hh
   ·rw [yaA (yaZ h1)]; rw [decide_eq_true h1] at hK'; exact hK'
   ·rw [yau (ya2 (by omega))]; rw [decide_eq_false h1] at hK'
    by_cases h2 : hh = 0
    ·rw [yaA (ykA h2)]; rw [decide_eq_true h2] at hK'
     exact yhI x hf _ (by simpa using hK')
    ·rw [yau (yip h2)]; rw [decide_eq_false h2] at hK'; exact hK'
  ·exact hK
  ·exact hK
  ·exact hK
  ·exact hK
theorem yll (m : Nat) (hm : m ≤ 4) (n : Bool) {x : Nat} (hf : fit (x + 1)) (at_ hh : Int) (e : Bool) (K : List UInt8 → Prop) (hK : K (nb (x + cond (upB m n (decide (x % 2 = 1)) hh e) 1 0))) : zee m n (nb x) at_ hh e K := by
 have hx : fit x := yex hf (by omega)
 rw [zee.is]; unfold zee.d
 refine yqj m hm n hx at_ hh e _ ?_
 cases hu : upB m n (decide (x % 2 = 1)) hh e with
 | false => rw [hu] at hK; rw [yaA (show (!false) = true from rfl)]; exact hK
 | true =>
  rw [hu] at hK
  rw [yau (show (!true) = false from rfl), ← yc9]
  exact yph hx yeP (ydx (fun _ => hK) fun hh => absurd hf hh)
theorem yg5 {f : Nat} (h : f ≤ 3) {x : Nat} (hx : x < 2 ^ fp f) : fit (x + 1) := ym2 (by have := ytv h; omega)
section
variable {f m : Nat} {n root : Bool} {x y : List UInt8} {e top : Int} {F : Int → Nat × Bool}
def yqH (f : Nat) (n root : Bool) (x y : List UInt8) (e top : Int) (F : Int → Nat × Bool) : Prop :=
 ∀ at_ : Int, top - fp f + 1 ≤ at_ → at_ ≤ 20000 → ∀ K : List UInt8 → Int → Int → Bool → Prop, (∀ hh : Int, ((F at_).2 = false → hh = hf F at_) → K (nb (F at_).1) at_ hh (F at_).2) → zeb n x y e root at_ K
theorem yhD (h : f ≤ 3) (hm : m ≤ 4) (H : FF F (fp f) top) (hfd : yqH f n root x y e top F) {at_ : Int} (h1 : top - fp f + 1 ≤ at_) (h2 : at_ ≤ 20000) (K : List UInt8 → Int → Bool → Prop)
  (hK : K (nb (tk F m n at_)) at_ (F at_).2) : zeb n x y e root at_ fun y0 y1 y2 y3 => zee m n y0 y1 y2 y3 fun y0 => K y0 y1 y3 := by
 refine hfd at_ h1 h2 _ fun hh hq => ?_
 refine yll m hm n (yg5 h (H.lt at_ h1)) _ _ _ _ ?_
 have : upB m n (decide ((F at_).1 % 2 = 1)) hh (F at_).2 = upB m n (decide ((F at_).1 % 2 = 1)) (hf F at_) (F at_).2 := by
  cases he : (F at_).2 with
  | true => rfl
  | false => rw [hq he]
 rw [this]; exact hK
theorem yhT (h : f ≤ 3) (hm : m ≤ 4) (H : FF F (fp f) top) (hfd : yqH f n root x y e top F) (htop : ∀ K : Int → Prop, K top → zeg n x y e root K) (hr : -3000000 ≤ top ∧ top ≤ 3000000) (K : Bool → Prop)
  (hK : K (yeT f m n F top)) : zef f m n x y e root K := by
 have w := ybY f h
 rw [zef.is]; unfold zef.d
 refine htop _ ?_
 rw [ycf f h, yar (by omega) (by omega), yaM f h]
 unfold yeT at hK
 by_cases h1 : 1 - (fe f : Int) ≤ top
 ·rw [yaA (ya9 h1)]
  rw [if_neg (by omega), decide_eq_false (by omega)] at hK; exact hK
 rw [yau (yeu (by omega))]
 by_cases h2 : top < 1 - (fe f : Int) - 1
 ·rw [yaA (yaZ h2)]
  rw [if_neg (by omega), decide_eq_true (by omega)] at hK; exact hK
 rw [yau (ya2 (by omega)), yar (by omega) (by omega), yas (by omega) (by omega)]
 rw [if_pos (by omega)] at hK
 refine yhD h hm H hfd (Int.le_refl _) (by omega) (fun y0 _ _ => zcl y0 fun y0 => zdn f fun y0_3 => K (leI y0 y0_3)) ?_
 have ht := yqx F m n (top - fp f + 1)
 have hl := H.lt (top - fp f + 1) (Int.le_refl _)
 refine yg9 (yex (yg5 h hl) ht) ?_
 rw [yaM f h]
 have e1 : leI (yaw (tk F m n (top - fp f + 1)) : Int) (fp f : Int) = decide (yaw (tk F m n (top - fp f + 1)) ≤ fp f) := by
  unfold leI; rw [decide_eq_decide]; omega
 rw [e1]; exact hK
theorem FF.tk_facts (h : f ≤ 3) (m : Nat) (n : Bool) (H : FF F (fp f) top) : tk F m n (pl f top) ≤ 2 ^ fp f ∧ (pl f top = 2 - (fe f : Int) - fp f ∨ 2 ^ (fp f - 1) ≤ tk F m n (pl f top)) ∧ 2 - (fe f : Int) - fp f ≤ pl f top ∧ top - fp f + 1 ≤ pl f top := by
 have w := ybY f h
 have hge : top - fp f + 1 ≤ pl f top := by unfold pl; split <;> omega
 have hl := H.lt (pl f top) hge
 have ht := yqx F m n (pl f top)
 refine ⟨by omega, ?_, by unfold pl; split <;> omega, hge⟩
 by_cases hs : top < 1 - (fe f : Int)
 ·left; unfold pl; rw [if_pos hs]; omega
 ·right
  have hp : pl f top = top - fp f + 1 := by unfold pl; rw [if_neg hs]
  have := H.ge
  rw [← hp] at this
  unfold tk; omega
theorem FF.none (h : f ≤ 3) (m : Nat) (n : Bool) (H : FF F (fp f) top) (h0 : tk F m n (pl f top) = 0) : (F (pl f top)).2 = false ∧ yeT f m n F top = true ∧ pl f top = 2 - (fe f : Int) - fp f := by
 have w := ybY f h
 have hf1 := H.tk_facts h m n
 have hpos := Nat.two_pow_pos (fp f - 1)
 have hz : (F (pl f top)).1 = 0 := by unfold tk at h0; omega
 have hpl : pl f top = 2 - (fe f : Int) - fp f := by omega
 have hex : (F (pl f top)).2 = false := by
  cases he : (F (pl f top)).2 with
  | false => rfl
  | true => exact absurd hz (H.ex _ he)
 refine ⟨hex, ?_, hpl⟩
 have hge := H.ge
 have hp2 : 2 ≤ 2 ^ (fp f - 1) := by
  have := Nat.pow_le_pow_right (show 0 < 2 by omega) (show 1 ≤ fp f - 1 by omega); omega
 have n1 : top ≠ 1 - (fe f : Int) := by
  intro hh
  rw [show top - (fp f : Int) + 1 = pl f top from by omega, hz] at hge; omega
 have n2 : top ≠ -(fe f : Int) := by
  intro hh
  have h2 := H.half (pl f top - 1)
  rw [show pl f top - 1 + 1 = pl f top from by omega, hz] at h2
  rw [show top - (fp f : Int) + 1 = pl f top - 1 from by omega] at hge
  omega
 have n3 : top < 1 - (fe f : Int) := by
  apply Classical.byContradiction; intro hh
  have : pl f top = top - fp f + 1 := by unfold pl; rw [if_neg hh]
  omega
 unfold yeT
 rw [if_neg n2, decide_eq_true (by omega)]
theorem yiA (h : f ≤ 3) (hm : m ≤ 4) (H : FF F (fp f) top) (hfd : yqH f n root x y e top F) (htop : ∀ K : Int → Prop, K top → zeg n x y e root K) (hr : -3000000 ≤ top ∧ top ≤ 3000000) (K : Int → Int → Int → Prop)
  (hK : dlv f m n F top fun a b c _ => K a b c) : zea f m n x y e root K := by
 have w := ybY f h
 have hf1 := H.tk_facts h m n
 rw [zea.is]; unfold zea.d
 refine htop _ ?_
 rw [yaM f h, ydr f h]
 unfold dlv at hK
 by_cases h1 : (fe f : Int) < top
 ·rw [yaA (yaZ h1)]; rw [if_pos h1] at hK
  exact yhu f m n h hm _ hK
 rw [yau (ya2 (by omega)), ycf f h]
 rw [if_neg h1] at hK
 have hp := yfq h top (by omega)
 have key : ∀ at_ : Int, at_ = pl f top → zeb n x y e root at_ fun y0 y1 y2 y3 => zee m n y0 y1 y2 y3 fun y0 => zda n y0 [1] y1 fun y0 y1 y2 y3_1 y4 => br (eqS y1 []) (zdr f n fun y0 y1 => K y0 y1 3) (zdu f y0 y1 y2 y3_1 fun y0 y1 y2 => br (!y2) (zdx f m n fun y0 y1 => K y0 y1 5) (br y3 (K y0 y1 0) (zef f m n x y e root fun y0_4 => br y0_4 (K y0 y1 3) (K y0 y1 1)))) := by
  intro at_ hat
  subst hat
  refine yhD h hm H hfd hf1.2.2.2 (by omega) (fun y0 y1 y3 => zda n y0 [1] y1 fun y0 y1 y2 y3_1 y4 => br (eqS y1 []) (zdr f n fun y0 y1 => K y0 y1 3) (zdu f y0 y1 y2 y3_1 fun y0 y1 y2 => br (!y2) (zdx f m n fun y0 y1 => K y0 y1 5) (br y3 (K y0 y1 0) (zef f m n x y e root fun y0_4 => br y0_4 (K y0 y1 3) (K y0 y1 1))))) ?_
  have hfit : fit (tk F m n (pl f top)) := yex (yg5 h (H.lt _ hf1.2.2.2)) (yqx _ _ _ _)
  rw [← yc9]
  refine yn6 n hfit yeP (by decide) (by unfold win; omega) ?_
  by_cases h0 : tk F m n (pl f top) = 0
  ·unfold mkE
   rw [if_pos h0]
   have hn := H.none h m n h0
   show br (eqS [] []) _ _
   rw [yaA (show eqS [] [] = true from rfl)]
   refine ymq f h n _ ?_
   have hb0 : yaw 0 = 0 := by decide
   rw [h0, hb0, if_neg (by omega), hn.1, if_neg (by decide), hn.2.1, if_pos rfl] at hK
   have he : yib f n (pl f top) 0 = enc f n 0 0 := by
    unfold yib enc; rw [show (pl f top + (fe f : Int) + fp f - 2).toNat = 0 from by omega, Nat.zero_mul, Nat.add_zero]
   rw [he] at hK; exact hK
  ·obtain ⟨P, hP⟩ : ∃ P, P = 200 := ⟨_, rfl⟩
   have hlt : tk F m n (pl f top) < 2 ^ P := Nat.lt_of_le_of_lt hf1.1 (Nat.pow_lt_pow_right (by omega) (by omega))
   refine yrM n h0 hlt hP (by omega) _ fun a g c ha hta hag hg => ?_
   rw [ybJ, yau (by simpa using ha), ← yc9]
   refine yqg f h c _ ?_
   refine yr3 h c ha hta hag hf1.1 hf1.2.2.1 hf1.2.1 _ ?_
   by_cases h2 : (fe f : Int) < (yaw (tk F m n (pl f top)) : Int) - 1 + pl f top
   ·rw [if_pos h2] at hK ⊢
    rw [yaA (show (!false) = true from rfl)]
    exact yhu f m n h hm _ hK
   ·rw [if_neg h2] at hK ⊢
    rw [yau (show (!true) = false from rfl)]
    cases hx : (F (pl f top)).2 with
    | true => rw [hx, if_pos rfl] at hK; exact hK
    | false =>
     rw [hx, if_neg (by decide)] at hK
     rw [yau rfl]
     refine yhT h hm H hfd htop hr _ ?_
     cases ht : yeT f m n F top with
     | true => rw [ht, if_pos rfl] at hK; exact hK
     | false => rw [ht, if_neg (by decide)] at hK; exact hK
 by_cases hs : top < 1 - (fe f : Int)
 ·rw [yaA (yaZ hs), ycf f h]
  exact key _ (by rw [yar (by omega) (by omega), yas (by omega) (by omega)]; unfold pl; rw [if_pos hs])
 ·rw [yau (ya2 (by omega))]
  exact key _ (by rw [yar (by omega) (by omega), yas (by omega) (by omega)]; unfold pl; rw [if_neg hs])
end
end Go.Ev.S

/- Floor functions of exact numbers. -/
set_option linter.unusedVariables false
set_option linter.unusedSimpArgs false
set_option maxRecDepth 8000
namespace Go.Ev.S
open Go Go.Ev
theorem ytS {a b : Int} (h : a < b) : p2 a < p2 b := by
 obtain ⟨k, hk⟩ : ∃ k : Nat, b = a + ((k + 1 : Nat) : Int) := ⟨(b - a - 1).toNat, by omega⟩
 rw [hk, yeC, yeD]
 have h1 := yeF a
 have h2 : (1 : Rat) < ((2 ^ (k + 1) : Nat) : Rat) := by
  have : (1 : Nat) < 2 ^ (k + 1) := Nat.one_lt_two_pow (by omega)
  exact Rat.natCast_lt_natCast.2 this
 have := Rat.mul_lt_mul_of_pos_right h2 h1
 grind
theorem ytT {a b : Int} (h : a ≤ b) : p2 a ≤ p2 b := by
 rcases Int.lt_or_eq_of_le h with h | h
 ·have := ytS h; grind
 ·rw [h]; exact Rat.le_refl
theorem yqU {X : Rat} {at_ : Int} {m m' : Nat} {is is' : Bool} (h : Flr X at_ m is) (h' : Flr X at_ m' is') : m = m' ∧ is = is' := by
 have hp := yeF at_
 have h1 := h.le
 have h2 := h.lt
 have h3 := h'.le
 have h4 := h'.lt
 have l1 : m < m' + 1 := by
  rw [← Rat.natCast_lt_natCast, ← ybs hp]; grind
 have l2 : m' < m + 1 := by
  rw [← Rat.natCast_lt_natCast, ← ybs hp]; grind
 have e : m = m' := by omega
 subst e
 refine ⟨rfl, ?_⟩
 rw [Bool.eq_iff_iff, h.eq, h'.eq]
def FX (a b : Nat) (e at_ : Int) : Nat × Bool :=
 if at_ ≤ e then (a * 2 ^ (e - at_).toNat / b, decide (a * 2 ^ (e - at_).toNat % b = 0)) else (a / (b * 2 ^ (at_ - e).toNat), decide (a % (b * 2 ^ (at_ - e).toNat) = 0))
theorem yr2 {a b : Nat} (e at_ : Int) (hb : b ≠ 0) : Flr (V false a b e) at_ (FX a b e at_).1 (FX a b e at_).2 := by
 unfold FX
 by_cases h : at_ ≤ e
 ·rw [if_pos h]; exact ynu hb (ytX a b e at_ hb h)
 ·rw [if_neg h]
  have hB : b * 2 ^ (at_ - e).toNat ≠ 0 := Nat.mul_ne_zero hb (Nat.pos_iff_ne_zero.1 (Nat.two_pow_pos _))
  exact ynu hB (ysY a b e at_ hb (by omega))
theorem ytm {X : Rat} {F : Int → Nat × Bool} {p : Nat} {top : Int} (hp : 1 ≤ p) (hF : ∀ at_, Flr X at_ (F at_).1 (F at_).2) (h1 : p2 top ≤ X) (h2 : X < p2 (top + 1)) : FF F p top := by
 have hX : 0 < X := by have := yeF top; grind
 refine ⟨fun at_ hat => ?_, ?_, fun at_ hat hz => ?_, fun at_ => ?_⟩
 ·have hq := yeF at_
  have h3 := (hF at_).le
  have h4 := ytT (show top + 1 ≤ (p : Int) + at_ by omega)
  rw [yeC (p : Int), yeD] at h4
  generalize 2 ^ p = N at h4
  rw [← Rat.natCast_lt_natCast, ← ybs hq]; grind
 ·have hq := yeF (top - p + 1)
  have h3 := (hF (top - p + 1)).lt
  have h4 : p2 top = ((2 ^ (p - 1) : Nat) : Rat) * p2 (top - p + 1) := by rw [← yeD, ← yeC]; congr 1; omega
  have : 2 ^ (p - 1) < (F (top - p + 1)).1 + 1 := by
   generalize 2 ^ (p - 1) = N at h4
   rw [← Rat.natCast_lt_natCast, ← ybs hq]; grind
  omega
 ·have h3 := (hF at_).eq.1 hat
  rw [hz] at h3
  have : ((0 : Nat) : Rat) = 0 := rfl
  grind
 ·have hq := yeF at_
  have hq1 : p2 (at_ + 1) = 2 * p2 at_ := by rw [yeC, ys5]; grind
  have a1 := (hF at_).le
  have a2 := (hF at_).lt
  have b1 := (hF (at_ + 1)).le
  have b2 := (hF (at_ + 1)).lt
  rw [hq1] at b1 b2
  have e0 : ((2 : Nat) : Rat) = 2 := rfl
  generalize (F at_).1 = m at a1 a2 ⊢
  generalize (F (at_ + 1)).1 = k at b1 b2 ⊢
  have l1 : k * 2 < m + 1 := by
   rw [← Rat.natCast_lt_natCast, ← ybs hq, Rat.natCast_mul, e0]
   grind
  have l2 : m < (k + 1) * 2 := by
   rw [← Rat.natCast_lt_natCast, ← ybs hq, Rat.natCast_mul, e0]
   grind
  omega
theorem yos {a b : Nat} {e : Int} {p : Nat} (hp : 1 ≤ p) (ha : a ≠ 0) (hb : b ≠ 0) : FF (FX a b e) p (tp a b + e) :=
 ytm hp (fun at_ => yr2 e at_ hb) (ytY e ha hb).1 (ytY e ha hb).2
theorem ysQ (a b : Nat) : (yaw a : Int) - yaw b - 1 ≤ tp a b := by unfold tp; (repeat' split) <;> omega
theorem ymX {n : Bool} {a b : Nat} {e at_ : Int} (c : Can n a b e) (ha : a ≠ 0) (h1 : -2097152 ≤ at_) (h2 : at_ ≤ 2097152) (hb : yaw b ≤ 66000) (hl : tp a b + e - 2000 ≤ at_) (K : List UInt8 → Bool → Int → Prop)
  (hK : K (nb (FX a b e at_).1) (FX a b e at_).2 0) : yrr a b e at_ K := by
 refine ytq c ha h1 h2 (fun hle => ?_) K fun m is fl _ _ => ?_
 ·rw [yfa ha]
  have := ysQ a b
  omega
 ·obtain ⟨e1, e2⟩ := yqU fl (yr2 (a := a) e at_ c.b0)
  rw [e1, e2]; exact hK
theorem ygP {b : Nat} {N : Nat} (h : (nb b).length ≤ N) : yaw b ≤ 8 * N := by
 have := (ybA b N).1 h
 rw [yop] at this
 exact (yaV _ _).2 this
theorem ynj {f : Nat} (h : f ≤ 3) {n : Bool} {a b : Nat} {e : Int} (c : Can n a b e) (ha : a ≠ 0) (hb : yaw b ≤ 66000) : yqH f n false (nb a) (nb b) e (tp a b + e) (FX a b e) := by
 have w := ybY f h
 have we := c.e64
 have hr := ydB c.fa c.fb
 have H := yos (e := e) (p := fp f) (by omega) ha c.b0
 intro at_ h1 h2 K hK
 rw [zeb.is]; unfold zeb.d
 rw [yaA (show (!false) = true from rfl)]
 refine ydS n c at_ (by omega) _ (ymX c ha (by omega) (by omega) hb (by omega) _ ?_)
 cases hx : (FX a b e at_).2 with
 | true => rw [hx] at hK; exact hK _ (fun hh => by cases hh)
 | false =>
  rw [hx] at hK
  rw [yau rfl, yar (by omega) (by omega)]
  refine ydS n c _ (by omega) _ (ymX c ha (by omega) (by omega) hb (by omega) _ ?_)
  have hfit : fit (FX a b e (at_ - 1)).1 := by
   have h4 := H.half (at_ - 1)
   have h5 := H.lt at_ h1
   rw [show at_ - 1 + 1 = at_ from by omega] at h4
   have h6 : (FX a b e (at_ - 1)).1 < 2 ^ (fp f + 1) := by rw [Nat.pow_succ]; omega
   obtain ⟨P, hP⟩ : ∃ P, P = fp f + 1 := ⟨_, rfl⟩
   rw [← hP] at h6
   exact ykp h6 (by omega)
  refine yhI _ hfit _ ?_
  have hhf : hf (FX a b e) at_ = if (FX a b e (at_ - 1)).1 % 2 = 1 then (if (FX a b e (at_ - 1)).2 = true then 0 else 1) else -1 := rfl
  refine ydU (fun ho => ?_) fun ho => ?_
  ·rw [if_pos ho] at hhf
   cases hy : (FX a b e (at_ - 1)).2 with
   | true => rw [hy, if_pos rfl] at hhf; exact hK _ fun _ => hhf.symm
   | false => rw [hy, if_neg (by decide)] at hhf; exact hK _ fun _ => hhf.symm
  ·rw [if_neg ho] at hhf; exact hK _ fun _ => hhf.symm
theorem yjs {n : Bool} {a b : Nat} {e : Int} (c : Can n a b e) (ha : a ≠ 0) (K : Int → Prop) (hK : K (tp a b + e)) : zeg n (nb a) (nb b) e false K := by
 rw [zeg.is]; unfold zeg.d
 exact yf3 n c _ (fun hh => absurd hh ha) fun _ => hK
theorem yqR {f m : Nat} {n : Bool} {F : Int → Nat × Bool} {top : Int} {K : Int → Int → Int → Int → Prop} (h : dlv f m n F top K) : dlv f m n F top fun a b c _ => K a b c 0 := by
 unfold dlv at *
 by_cases h1 : (fe f : Int) < top
 ·rw [if_pos h1] at *; exact h
 ·rw [if_neg h1] at *
  by_cases h2 : (fe f : Int) < (yaw (tk F m n (pl f top)) : Int) - 1 + pl f top
  ·rw [if_pos h2] at *; exact h
  ·rw [if_neg h2] at *; exact h
theorem ybL (m : Nat) (hm : m ≤ 4) (K : Bool → Prop) : zdp m K = K true := by
 rw [zdp.is]; unfold zdp.d; rw [ya9 (by omega)]
theorem ygy (m : Nat) (hm : 4 < m) (K : Bool → Prop) : zdp m K = K false := by
 rw [zdp.is]; unfold zdp.d; rw [yeu (by omega)]
theorem ykX {f m : Nat} (h : f ≤ 3) (hm : m ≤ 4) {n : Bool} {a b : Nat} {e : Int} (c : Can n a b e) (ha : a ≠ 0) (la : (nb a).length ≤ 8192) (lb : (nb b).length ≤ 8192) (K : Int → Int → Int → Int → Prop)
  (hK : dlv f m n (FX a b e) (tp a b + e) K) : zdy f m n (nb a) (nb b) e K := by
 have w := ybY f h
 have we := c.e64
 have hr := ydB c.fa c.fb
 have hb : yaw b ≤ 66000 := by have := ygP lb; omega
 rw [zdy.is]; unfold zdy.d
 rw [zdv.is]; unfold zdv.d
 rw [ybm f h, yau (show (!true) = false from rfl), ybL m hm, yau (show (!true) = false from rfl)]
 refine ycG _ _ _ _ _ (fun _ => ?_) fun g => absurd c.may g
 rw [yau (show (!true) = false from rfl), yau (ya2 (by omega)), yau (ya2 (by omega))]
 show br (!eqI 0 0) _ _
 rw [yau (show (!eqI 0 0) = false from rfl), ybJ, yau (by simpa using ha)]
 exact yiA h hm (yos (by omega) ha c.b0) (ynj h c ha hb) (fun K hK => yjs c ha K hK) (by omega) _ (yqR hK)
end Go.Ev.S

/- Rounding as the program has it. -/
set_option linter.unusedVariables false
set_option linter.unusedSimpArgs false
set_option maxRecDepth 8000
namespace Go.Ev.S
open Go Go.Ev
theorem yhV {x : Nat} (hf : fit x) (K : Int → Prop) (h : K (ybC x)) : zax (nb x) K := by
 refine yeb _ _ ?_
 rw [if_pos (ya8 hf), yaJ]; exact h
theorem ymu {x : Nat} (h0 : x ≠ 0) : eqI (ybC x : Int) 0 = decide (x % 2 = 1) := by
 have h1 : ybC x = 0 ↔ x % 2 = 1 := by
  constructor
  ·intro h
   obtain ⟨q, hq⟩ := ydT x h0
   rw [h, Nat.pow_zero, Nat.one_mul] at hq; omega
  ·intro h; rw [ybC]; simp [h]
 by_cases h : x % 2 = 1
 ·rw [decide_eq_true h]; exact ykA (by have := h1.2 h; omega)
 ·rw [decide_eq_false h]; exact yip (by intro hh; exact h (h1.1 (by omega)))
theorem ygf (f m : Nat) (n : Bool) (h : f ≤ 3) (hm : m ≤ 4) (K : Int → Int → Int → Int → Prop) (hK : K (Hi (ov f m n)) (Lo (ov f m n)) 5 0) : zem f m n K := by
 rw [zem.is]; unfold zem.d
 rw [ygn f h, yfP f h]
 rcases yra hm with rfl | rfl | rfl | rfl | rfl <;> cases n <;> exact hK
theorem yts (n o0 o1 none : Bool) : upB 0 n o0 (if o1 = true then (if none = true then 0 else 1) else -1) false = (o1 && (!none || o0)) := by
 cases o0 <;> cases o1 <;> cases none <;> rfl
theorem ytt (n o0 o1 none : Bool) : upB 4 n o0 (if o1 = true then (if none = true then 0 else 1) else -1) false = o1 := by
 cases o0 <;> cases o1 <;> cases none <;> rfl
section
variable {f m : Nat} {n neg root : Bool} {x y : List UInt8} {e top : Int} {F : Int → Nat × Bool}
def ym1 (f : Nat) (n root : Bool) (x y : List UInt8) (e top : Int) (F : Int → Nat × Bool) : Prop :=
 ∀ at_ : Int, top - fp f ≤ at_ → at_ ≤ 20000 → ∀ K : List UInt8 → Bool → Prop, K (nb (F at_).1) (F at_).2 → zep n x y e root at_ K
theorem yiS (h : f ≤ 3) (hm : m ≤ 4) (H : FF F (fp f) top) (hfl : ym1 f n root x y e top F) {at_ : Int} (hr : -3000000 ≤ top) (h1 : top - fp f + 1 ≤ at_) (h2 : at_ ≤ 20000) (K : List UInt8 → Bool → Prop)
  (hK : K (nb (tk F m neg at_)) (F at_).2) : zeq n x y e root m neg at_ K := by
 have w := ybY f h
 have l0 := H.lt at_ h1
 have f0 : fit (F at_).1 := yex (yg5 h l0) (by omega)
 have f1 : fit (F (at_ - 1)).1 := by
  have h4 := H.half (at_ - 1)
  rw [show at_ - 1 + 1 = at_ from by omega] at h4
  have h6 : (F (at_ - 1)).1 < 2 ^ (fp f + 1) := by rw [Nat.pow_succ]; omega
  obtain ⟨P, hP⟩ : ∃ P, P = fp f + 1 := ⟨_, rfl⟩
  rw [← hP] at h6
  exact ykp h6 (by omega)
 have f2 : fit ((F at_).1 + 1) := yg5 h l0
 rw [zeq.is]; unfold zeq.d
 refine hfl at_ (by omega) h2 _ ?_
 unfold tk at hK
 cases hx : (F at_).2 with
 | true =>
  rw [hx] at hK
  have : upB m neg (decide ((F at_).1 % 2 = 1)) (hf F at_) true = false := rfl
  rw [this] at hK
  exact hK
 | false =>
 rw [hx] at hK
 rw [yau rfl, yar (by omega) (by omega)]
 refine hfl (at_ - 1) (by omega) (by omega) _ ?_
 have hh : hf F at_ = if decide ((F (at_ - 1)).1 % 2 = 1) = true then (if (F (at_ - 1)).2 = true then 0 else 1) else -1 := by
  unfold hf
  by_cases g : (F (at_ - 1)).1 % 2 = 1
  ·rw [if_pos g, if_pos (decide_eq_true g)]
  ·rw [if_neg g, if_neg (by rw [decide_eq_false g]; decide)]
 rw [hh] at hK
 generalize (F at_).1 = n0 at hK f0 f2 ⊢
 generalize (F (at_ - 1)).1 = n1 at hK f1 ⊢
 generalize (F (at_ - 1)).2 = none at hK ⊢
 have hP1 : upB m neg (decide (n0 % 2 = 1)) (if decide (n1 % 2 = 1) = true then (if none = true then 0 else 1) else -1) false = true → zaq (nb n0) [1] fun y0 y1 => K y0 false := by
  intro hu
  rw [hu] at hK
  rw [← yc9]
  exact ypI f0 yeP (ydx (fun _ => hK) fun g => absurd f2 g)
 have hP0 : upB m neg (decide (n0 % 2 = 1)) (if decide (n1 % 2 = 1) = true then (if none = true then 0 else 1) else -1) false = false → K (nb n0) false := by
  intro hu
  rw [hu] at hK; exact hK
 generalize hQ1 : (zaq (nb n0) [1] fun y0 y1 => K y0 false) = Q1 at hP1 ⊢
 generalize hQ0 : K (nb n0) false = Q0 at hP0 ⊢
 clear hK
 have m2 : ∀ p : Prop, (neg = true → Q1) → (neg = false → Q0) → br (ycZ neg true) Q1 Q0 := by
  intro _ a b; cases neg
  ·exact b rfl
  ·exact a rfl
 have m3 : ∀ p : Prop, (neg = false → Q1) → (neg = true → Q0) → br (ycZ neg false) Q1 Q0 := by
  intro _ a b; cases neg
  ·exact a rfl
  ·exact b rfl
 have d1 : m = 1 → Q0 := by rintro rfl; exact hP0 rfl
 have d2 : m = 2 → br (ycZ neg true) Q1 Q0 := by rintro rfl; exact m2 True hP1 hP0
 have d3 : m = 3 → br (ycZ neg false) Q1 Q0 := by
  rintro rfl
  refine m3 True (fun hn => hP1 ?_) fun hn => hP0 ?_
  ·rw [hn]; rfl
  ·rw [hn]; rfl
 rw [ybJ, ybJ]
 refine ydF (fun z0 => ?_) fun z0 => ?_
 ·refine yhV f0 _ ?_
  refine ydF (fun z1 => ?_) fun z1 => ?_
  ·refine yhV f1 _ ?_
   rw [ymu z0, ymu z1]
   generalize decide (n0 % 2 = 1) = o0 at hP1 hP0 ⊢
   generalize decide (n1 % 2 = 1) = o1 at hP1 hP0 ⊢
   rcases yra hm with rfl | rfl | rfl | rfl | rfl
   ·rw [yts] at hP1 hP0
    show br o1 (br (!none) Q1 (br o0 Q1 Q0)) Q0
    cases o1 <;> cases none <;> cases o0 <;> first | exact hP1 rfl | exact hP0 rfl
   ·exact d1 rfl
   ·exact d2 rfl
   ·exact d3 rfl
   ·rw [ytt] at hP1 hP0
    show br o1 Q1 Q0
    cases o1 <;> first | exact hP1 rfl | exact hP0 rfl
  ·have e1 : decide (n1 % 2 = 1) = false := by rw [z1]; rfl
   rw [e1] at hP1 hP0
   rcases yra hm with rfl | rfl | rfl | rfl | rfl
   ·rw [yts] at hP1 hP0; exact hP0 rfl
   ·exact d1 rfl
   ·exact d2 rfl
   ·exact d3 rfl
   ·rw [ytt] at hP1 hP0; exact hP0 rfl
 ·have e0 : decide (n0 % 2 = 1) = false := by rw [z0]; rfl
  rw [e0] at hP1 hP0
  refine ydF (fun z1 => ?_) fun z1 => ?_
  ·refine yhV f1 _ ?_
   rw [ymu z1]
   generalize decide (n1 % 2 = 1) = o1 at hP1 hP0 ⊢
   rcases yra hm with rfl | rfl | rfl | rfl | rfl
   ·rw [yts] at hP1 hP0
    show br o1 (br (!none) Q1 Q0) Q0
    cases o1 <;> cases none <;> first | exact hP1 rfl | exact hP0 rfl
   ·exact d1 rfl
   ·exact d2 rfl
   ·exact d3 rfl
   ·rw [ytt] at hP1 hP0
    show br o1 Q1 Q0
    cases o1 <;> first | exact hP1 rfl | exact hP0 rfl
  ·have e1 : decide (n1 % 2 = 1) = false := by rw [z1]; rfl
   rw [e1] at hP1 hP0
   rcases yra hm with rfl | rfl | rfl | rfl | rfl
   ·rw [yts] at hP1 hP0; exact hP0 rfl
   ·exact d1 rfl
   ·exact d2 rfl
   ·exact d3 rfl
   ·rw [ytt] at hP1 hP0; exact hP0 rfl
theorem ygr (h : f ≤ 3) (hm : m ≤ 4) (H : FF F (fp f) top) (hfl : ym1 f n root x y e top F) (htop : ∀ K : Int → Prop, K top → zes n x y e root K) (hr : -2000000 ≤ top ∧ top ≤ 3000000) (K : Bool → Prop)
  (hK : K (yeT f m neg F top)) : zer n x y e root f m neg K := by
 have w := ybY f h
 rw [zer.is]; unfold zer.d
 refine htop _ ?_
 rw [ybd f h, ybX f h, yar (by omega) (by omega)]
 unfold yeT at hK
 by_cases ht : top = -(fe f : Int)
 ·rw [yau (by rw [ykA (show top = 1 - (fe f : Int) - 1 by omega)]; rfl)]
  rw [if_pos ht] at hK
  rw [yar (by omega) (by omega), yas (by omega) (by omega)]
  refine yiS h hm H hfl (by omega) (Int.le_refl _) (by omega) _ ?_
  have htk := yqx F m neg (top - fp f + 1)
  have hl := H.lt (top - fp f + 1) (Int.le_refl _)
  refine yfu (yex (yg5 h hl) htk) ?_
  have e1 : leI (yaw (tk F m neg (top - fp f + 1)) : Int) (fp f : Int) = decide (yaw (tk F m neg (top - fp f + 1)) ≤ fp f) := by
   unfold leI; rw [decide_eq_decide]; omega
  rw [e1]; exact hK
 ·rw [yaA (by rw [yip (show top ≠ 1 - (fe f : Int) - 1 by omega)]; rfl)]
  rw [if_neg ht] at hK
  rw [ybX f h]; exact hK
theorem yhZ (h : f ≤ 3) (hm : m ≤ 4) (H : FF F (fp f) top) (hfl : ym1 f n root x y e top F) (htop : ∀ K : Int → Prop, K top → zes n x y e root K) (hr : -2000000 ≤ top ∧ top ≤ 3000000) (K : Int → Int → Int → Int → Prop)
  (hK : dlv f m neg F top K) : zeo n x y e root f m neg K := by
 have w := ybY f h
 have hf1 := H.tk_facts h m neg
 rw [zeo.is]; unfold zeo.d
 refine htop _ ?_
 rw [ybU f h]
 unfold dlv at hK
 by_cases h1 : (fe f : Int) < top
 ·rw [yaA (yaZ h1)]; rw [if_pos h1] at hK
  exact ygf f m neg h hm _ hK
 rw [yau (ya2 (by omega)), ybX f h, ybd f h]
 rw [if_neg h1] at hK
 have hp := yfq h top (by omega)
 have hat : yai .i64 (yao .i64 (yik top (1 - (fe f : Int))) (fp f : Int)) 1 = pl f top := by
  have e0 : yik top (1 - (fe f : Int)) = if top < 1 - fe f then 1 - (fe f : Int) else top := yfH _ _
  rw [e0]; unfold pl
  have hh : -2000000 ≤ (if top < 1 - (fe f : Int) then 1 - (fe f : Int) else top) ∧ (if top < 1 - (fe f : Int) then 1 - (fe f : Int) else top) ≤ 2000000 := by split <;> omega
  rw [yar (by omega) (by omega), yas (by omega) (by omega)]
 rw [hat]
 refine yiS h hm H hfl (by omega) hf1.2.2.2 (by omega) _ ?_
 have hfit : fit (tk F m neg (pl f top)) := yex (yg5 h (H.lt _ hf1.2.2.2)) (yqx _ _ _ _)
 refine yfu hfit ?_
 have hbl : yaw (tk F m neg (pl f top)) ≤ fp f + 1 := by
  rw [yaV]
  exact Nat.lt_of_le_of_lt hf1.1 (Nat.pow_lt_pow_right (by omega) (by omega))
 rw [ybU f h, yar (by omega) (by omega), yas (by omega) (by omega)]
 by_cases h2 : (fe f : Int) < (yaw (tk F m neg (pl f top)) : Int) - 1 + pl f top
 ·rw [yaA (yaZ h2)]; rw [if_pos h2] at hK
  exact ygf f m neg h hm _ hK
 rw [yau (ya2 (by omega))]
 rw [if_neg h2] at hK
 rw [← yc9]
 refine ykD neg hfit yeP (by decide) (by unfold win; omega) ?_
 have tail : ∀ y0 y1 : Int, y0 = Hi (yib f neg (pl f top) (tk F m neg (pl f top))) → y1 = Lo (yib f neg (pl f top) (tk F m neg (pl f top))) →
   br (F (pl f top)).2 (K y0 y1 0 0) (zer n x y e root f m neg fun y0_7 => br y0_7 (K y0 y1 3 0) (K y0 y1 1 0)) := by
  rintro y0 y1 rfl rfl
  cases hx : (F (pl f top)).2 with
  | true => rw [hx, if_pos rfl] at hK; exact hK
  | false =>
   rw [hx, if_neg (by decide)] at hK
   rw [yau rfl]
   refine ygr h hm H hfl htop hr _ ?_
   cases ht : yeT f m neg F top with
   | true => rw [ht, if_pos rfl] at hK; exact hK
   | false => rw [ht, if_neg (by decide)] at hK; exact hK
 by_cases h0 : tk F m neg (pl f top) = 0
 ·have hn := H.none h m neg h0
  have he : yib f neg (pl f top) 0 = enc f neg 0 0 := by
   unfold yib enc; rw [show (pl f top + (fe f : Int) + fp f - 2).toNat = 0 from by omega, Nat.zero_mul, Nat.add_zero]
  rw [h0, he] at tail
  unfold mkE
  rw [if_pos h0]
  have c0 : Can false 0 1 0 := ⟨yqC, yeP, rfl, by unfold win; omega, fun _ => ⟨rfl, rfl, rfl⟩, fun hh => absurd rfl hh⟩
  have hz : zal f false [] [1] 0 = zal f false (nb 0) (nb 1) 0 := by rw [yaN, yc9]
  show zal f false [] [1] 0 _
  rw [hz]
  refine yi4 f h c0 _ ?_
  unfold ofE
  rw [if_pos rfl]
  show br (eqS (nb (tk F m neg (pl f top))) []) _ _
  rw [h0, ybJ, yaA (by rfl), yft f h]
  exact tail _ _ rfl rfl
 ·obtain ⟨P, hP⟩ : ∃ P, P = 200 := ⟨_, rfl⟩
  have hlt : tk F m neg (pl f top) < 2 ^ P := Nat.lt_of_le_of_lt hf1.1 (Nat.pow_lt_pow_right (by omega) (by omega))
  refine yrM neg h0 hlt hP (by omega) _ fun a g c ha hta hag hg => ?_
  rw [← yc9]
  refine yi4 f h c _ ?_
  refine yr3 h c ha hta hag hf1.1 hf1.2.2.1 hf1.2.1 _ ?_
  rw [if_neg h2, ybJ, yau (by simpa using h0)]
  exact tail _ _ rfl rfl
end
theorem Can.abs' {s : Bool} {a b : Nat} {e : Int} (c : Can s a b e) : Can false a b e := ⟨c.fa, c.fb, c.ob, c.we, fun h => ⟨rfl, (c.z h).2⟩, c.r⟩
theorem ylN {f : Nat} (h : f ≤ 3) {n : Bool} {a b : Nat} {e : Int} (c : Can n a b e) (ha : a ≠ 0) (hb : yaw b ≤ 66000) : ym1 f n false (nb a) (nb b) e (tp a b + e) (FX a b e) := by
 have w := ybY f h
 have we := c.e64
 have hr := ydB c.fa c.fb
 intro at_ h1 h2 K hK
 rw [zep.is]; unfold zep.d
 rw [yaA (show (!false) = true from rfl)]
 exact yeA n c at_ (by omega) _ (ymX c ha (by omega) (by omega) hb (by omega) _ hK)
theorem yhv {n : Bool} {a b : Nat} {e : Int} (c : Can n a b e) (ha : a ≠ 0) (K : Int → Prop) (hK : K (tp a b + e)) : zes n (nb a) (nb b) e false K := by
 rw [zes.is]; unfold zes.d
 exact yf4 n c _ (fun hh => absurd hh ha) fun _ => hK
theorem yfi {f m : Nat} (h : f ≤ 3) (hm : m ≤ 4) {n : Bool} {a b : Nat} {e : Int} (c : Can n a b e) (ha : a ≠ 0) (la : (nb a).length ≤ 8192) (lb : (nb b).length ≤ 8192) (K : Int → Int → Int → Int → Prop)
  (hK : dlv f m n (FX a b e) (tp a b + e) K) : zej f m n (nb a) (nb b) e K := by
 have w := ybY f h
 have we := c.e64
 have hr := ydB c.fa c.fb
 have hb : yaw b ≤ 66000 := by have := ygP lb; omega
 rw [zej.is]; unfold zej.d
 rw [zel.is]; unfold zel.d
 rw [yaR f h, yau (show (!eqI 0 0) = false from rfl), yb2 m hm, yau (show (!eqI 0 0) = false from rfl)]
 refine ya0 _ _ _ _ _ (fun _ => ?_) fun g => absurd c.may g
 rw [yau (show (!eqI 0 0) = false from rfl), yau rfl, yau (ya2 (by omega)), yau (ya2 (by omega))]
 show br (!eqI 0 0) _ _
 rw [yau (show (!eqI 0 0) = false from rfl), ybJ, yau (by simpa using ha)]
 refine yf5 n c _ ?_
 exact yhZ h hm (yos (by omega) ha c.b0) (ylN h c.abs' ha hb) (fun K hK => yhv c.abs' ha K hK) (by omega) _ hK
end Go.Ev.S

/- The program's rounding is the document's. -/
set_option linter.unusedVariables false
set_option linter.unusedSimpArgs false
set_option maxRecDepth 8000
namespace Go.Ev.S
open Go Go.Ev
theorem ypD : Can false 1 3 0 := by
  have h3 : fit 3 := by
      unfold fit; have : nb 3 = [3] := by rw [ydV (by decide), show 3 / 256 = 0 from rfl, yaN]; decide
      rw [this]; decide
  exact ⟨yeP, h3, rfl, by unfold win; omega, fun hh => by omega, fun _ => ⟨rfl, by decide⟩⟩
theorem yrH : nb 3 = [3] := by rw [ydV (by decide), show 3 / 256 = 0 from rfl, yaN]; decide
theorem yhi (m : Nat) (hm : m ≤ 4) (v : Nat) (hv : tk (FX 1 3 0) m false (-12) = v) (hb : yaw v = 11) (K : Int → Int → Int → Int → Prop) (hK : K (Hi (yib 2 false (-12) v)) (Lo (yib 2 false (-12) v)) 1 0) : zej 2 m false [1] [3] 0 K := by
  have h3 := yrH
  rw [← yc9, ← h3, show (2 : Int) = ((2 : Nat) : Int) from rfl]
  refine yfi (by omega) hm ypD (by decide) (by rw [yc9]; decide) (by rw [h3]; decide) K ?_
  have ht : tp 1 3 + 0 = -2 := by decide
  have hp : pl 2 (-2) = -12 := by decide
  have hx : (FX 1 3 0 (-12)).2 = false := by decide
  have hf : (fe 2 : Int) = 15 := rfl
  unfold dlv
  rw [ht, hp, hv, hb, hx, if_neg (by rw [hf]; decide), if_neg (by rw [hf]; decide), if_neg (by decide)]
  have htn : yeT 2 m false (FX 1 3 0) (-2) = false := by
    unfold yeT; rw [if_neg (by rw [hf]; decide), hf]; rfl
  rw [htn, if_neg (by decide)]
  exact hK
theorem yiw (K : Bool → Prop) (hK : K true) : zao K := by
  rw [zao.is]; unfold zao.d
  refine yhi 0 (by omega) 1365 (by decide) (by decide) _ ?_
  refine yhi 3 (by omega) 1366 (by decide) (by decide) _ ?_
  exact hK
theorem ykz {f m : Nat} {n : Bool} {x y : List UInt8} {e : Int} (hb : 3 < f ∨ 4 < m ∨ ¬ MayE n x y e) (K : Int → Int → Int → Int → Prop) (hK : K 0 0 0 2) : zej f m n x y e K := by
  rw [zej.is]; unfold zej.d
  rw [zel.is]; unfold zel.d
  by_cases h : f ≤ 3
  · rw [yaR f h, yau (show (!eqI 0 0) = false from rfl)]
    by_cases hm : m ≤ 4
    · rw [yb2 m hm, yau (show (!eqI 0 0) = false from rfl)]
      refine ya0 _ _ _ _ _ (fun g => ?_) fun _ => hK
      rcases hb with hb | hb | hb
      · omega
      · omega
      · exact absurd g hb
    · rw [yfe m (by omega)]; exact hK
  · rw [yeB f (by omega)]; exact hK
theorem yhJ {f m : Nat} (h : f ≤ 3) (hm : m ≤ 4) {n : Bool} {b : Nat} {e : Int} (c : Can n 0 b e) (lb : (nb b).length ≤ 8192) (K : Int → Int → Int → Int → Prop) (hK : K 0 0 0 0) : zej f m n (nb 0) (nb b) e K := by
  have l0 : (nb 0).length = 0 := by rw [yaN]; rfl
  rw [zej.is]; unfold zej.d
  rw [zel.is]; unfold zel.d
  rw [yaR f h, yau (show (!eqI 0 0) = false from rfl), yb2 m hm, yau (show (!eqI 0 0) = false from rfl)]
  refine ya0 _ _ _ _ _ (fun _ => ?_) fun g => absurd c.may g
  rw [yau (show (!eqI 0 0) = false from rfl), yau rfl, yau (ya2 (by omega)), yau (ya2 (by omega))]
  show br (!eqI 0 0) _ _
  rw [yau (show (!eqI 0 0) = false from rfl), ybJ, yaA (by rfl)]
  exact hK
theorem yix {f m : Nat} (h : f ≤ 3) (hm : m ≤ 4) {n : Bool} {b : Nat} {e : Int} (c : Can n 0 b e) (lb : (nb b).length ≤ 8192) (K : Int → Int → Int → Int → Prop) (hK : K 0 0 0 0) : zdy f m n (nb 0) (nb b) e K := by
  have l0 : (nb 0).length = 0 := by rw [yaN]; rfl
  rw [zdy.is]; unfold zdy.d
  rw [zdv.is]; unfold zdv.d
  rw [ybm f h, yau (show (!true) = false from rfl), ybL m hm, yau (show (!true) = false from rfl)]
  refine ycG _ _ _ _ _ (fun _ => ?_) fun g => absurd c.may g
  rw [yau (show (!true) = false from rfl), yau (ya2 (by omega)), yau (ya2 (by omega))]
  show br (!eqI 0 0) _ _
  rw [yau (show (!eqI 0 0) = false from rfl), ybJ, yaA (by rfl)]
  exact hK
theorem yqc (s : Bool) (x y : List UInt8) (e : Int) (K : Bool → Prop) (h1 : x.length ≤ 60 → y.length ≤ 60 → K true) (h2 : K false) : zap s x y e K := by
  rw [zap.is]; unfold zap.d
  by_cases g1 : x.length ≤ 60
  · by_cases g2 : y.length ≤ 60
    · rw [yaA (ya9 (by omega)), ya9 (by omega)]; exact h1 g1 g2
    · rw [yaA (ya9 (by omega)), yeu (by omega)]; exact h2
  · rw [yau (yeu (by omega))]; exact h2
end Go.Ev.S

/- Values of encodings and back; the next encoding is next. -/
set_option linter.unusedVariables false
set_option linter.unusedSimpArgs false
set_option maxRecDepth 8000
namespace Go.Ev.S
open Go Go.Ev
theorem ytA (f x : Nat) (h : f ≤ 3) : mg f x < 2 ^ (fw f - 1) := yhk h (ytJ f x) (ys7 f x)
theorem ytw {f : Nat} (h : f ≤ 3) (n : Bool) {m : Nat} (hm : m < 2 ^ (fw f - 1)) : sg f n + m < 2 ^ fw f := by
 have e : 2 ^ fw f = 2 ^ (fw f - 1) + 2 ^ (fw f - 1) := by rcases yeY h with rfl | rfl | rfl | rfl <;> decide
 cases n
 ·have : sg f false = 0 := rfl
  omega
 ·have : sg f true = 2 ^ (fw f - 1) := rfl
  omega
theorem ypK {f x : Nat} (hf : fin f x) : (ng f x = true → cls f x < 4 ∧ (cls f x = 3 ↔ mg f x = 0)) ∧ (ng f x = false → 4 ≤ cls f x) := by
 have z := ypw f x
 unfold fin at hf
 unfold cls
 cases ng f x <;> simp only [cond_true, cond_false] <;> refine ⟨fun hh => ?_, fun hh => ?_⟩ <;> first | exact absurd hh (by decide) | skip
 ·rw [if_neg hf]; (repeat' split) <;> omega
 ·rw [if_neg hf]
  (repeat' split) <;> omega
def sm (f x : Nat) : Int := cond (ng f x) (-(mg f x : Int)) (mg f x)
end Go.Ev.S

/- The next encoding is next. -/
set_option linter.unusedVariables false
set_option linter.unusedSimpArgs false
set_option maxRecDepth 8000
namespace Go.Ev.S
open Go Go.Ev
end Go.Ev.S

/- Rounding turned about. -/
set_option linter.unusedVariables false
set_option linter.unusedSimpArgs false
set_option maxRecDepth 8000
namespace Go.Ev.S
open Go Go.Ev
def sw (m : Nat) : Nat := if m = 2 then 3 else if m = 3 then 2 else m
theorem ytH {m : Nat} (hm : m ≤ 4) (n o e : Bool) (a : Int) : upB (sw m) (!n) o a e = upB m n o a e := by
 rcases yra hm with rfl | rfl | rfl | rfl | rfl <;> cases n <;> cases e <;> rfl
theorem ypH {f : Nat} (n : Bool) {M : Nat} (hM : M < 2 ^ (fw f - 1)) : ysK f (sg f n + M) = sg f (!n) + M := by
 have e1 : M ^^^ 2 ^ (fw f - 1) = M + 2 ^ (fw f - 1) := ysg _ _ hM
 cases n with
 | false => show (0 + M) ^^^ 2 ^ (fw f - 1) = 2 ^ (fw f - 1) + M; rw [Nat.zero_add, e1]; omega
 | true =>
  show (2 ^ (fw f - 1) + M) ^^^ 2 ^ (fw f - 1) = 0 + M
  rw [Nat.add_comm, ← e1, Nat.xor_assoc, Nat.xor_self, Nat.xor_zero, Nat.zero_add]
theorem ynq {f : Nat} (h : f ≤ 3) (n : Bool) {E t : Nat} (he : E ≤ 2 * fe f + 1) (ht : t < 2 ^ (fp f - 1)) : ysK f (enc f n E t) = enc f (!n) E t := by
 have hb := yhk h he ht
 have e1 : ∀ n, enc f n E t = sg f n + (E * 2 ^ (fp f - 1) + t) := by intro n; unfold enc; omega
 rw [e1, e1, ypH n hb]
theorem yth {f : Nat} (h : f ≤ 3) (m : Nat) (n : Bool) : ov f m n < 2 ^ fw f := by
 have hp := Nat.two_pow_pos (fp f - 1)
 unfold ov
 cases gr m n
 ·exact ym5 h (Nat.le_refl _) hp n
 ·exact ym5 h (by omega) (by omega) n
theorem ytE {f m : Nat} (h : f ≤ 3) (hm : m ≤ 4) (n : Bool) : ov f (sw m) (!n) = ysK f (ov f m n) := by
 have hp := Nat.two_pow_pos (fp f - 1)
 have hg : gr (sw m) (!n) = gr m n := by rcases yra hm with rfl | rfl | rfl | rfl | rfl <;> cases n <;> rfl
 unfold ov
 rw [hg]
 cases gr m n
 ·exact (ynq h n (Nat.le_refl _) hp).symm
 ·exact (ynq h n (by omega) (by omega)).symm
theorem ytf {m : Nat} (hm : m ≤ 4) (F : Int → Nat × Bool) (n : Bool) (at_ : Int) : tk F (sw m) (!n) at_ = tk F m n at_ := by
 unfold tk; rw [ytH hm]
theorem yqK {f m : Nat} (h : f ≤ 3) (hm : m ≤ 4) (n : Bool) {F : Int → Nat × Bool} {top : Int} (H : FF F (fp f) top) :
  ∃ z fl, z < 2 ^ fw f ∧ (∀ K, dlv f m n F top K ↔ K (Hi z) (Lo z) fl 0) ∧ (∀ K, dlv f (sw m) (!n) F top K ↔ K (Hi (ysK f z)) (Lo (ysK f z)) fl 0) := by
 have ht : yeT f (sw m) (!n) F top = yeT f m n F top := by unfold yeT; rw [ytf hm]
 unfold dlv
 rw [ytf hm, ht, ytE h hm]
 by_cases h1 : (fe f : Int) < top
 ·simp only [if_pos h1]
  exact ⟨_, _, yth h m n, fun K => Iff.rfl, fun K => Iff.rfl⟩
 ·simp only [if_neg h1]
  by_cases h2 : (fe f : Int) < (yaw (tk F m n (pl f top)) : Int) - 1 + pl f top
  ·simp only [if_pos h2]
   exact ⟨_, _, yth h m n, fun K => Iff.rfl, fun K => Iff.rfl⟩
  ·simp only [if_neg h2]
   have hbd := yqI h (show top ≤ fe f by omega) (H.tk_facts h m n).1 (by omega)
   have hM : (pl f top + fe f + fp f - 2).toNat * 2 ^ (fp f - 1) + tk F m n (pl f top) < 2 ^ (fw f - 1) := by
    rw [ytc f h]; exact Nat.lt_of_lt_of_le hbd (Nat.mul_le_mul_right _ (by omega))
   have e1 : yib f (!n) (pl f top) (tk F m n (pl f top)) = ysK f (yib f n (pl f top) (tk F m n (pl f top))) := (ypH n hM).symm
   rw [e1]
   exact ⟨_, _, ytw h n hM, fun K => Iff.rfl, fun K => Iff.rfl⟩
end Go.Ev.S

/- The neighbours and tininess. -/
set_option linter.unusedVariables false
set_option linter.unusedSimpArgs false
set_option maxRecDepth 8000
namespace Go.Ev.S
open Go Go.Ev
theorem ygl {f z : Nat} (h : f ≤ 3) (K : Int → Int → Prop) (hK : K (Hi (uz f z)) (Lo (uz f z))) : zen f (Hi z) (Lo z) K := by
 rw [zen.is]; unfold zen.d
 have e1 : enc f true 0 0 = sg f true := by unfold enc; omega
 rw [yft f h, e1, ypN]
 unfold uz at hK
 refine ydU (fun hz => ?_) fun hz => ?_
 ·rw [if_pos hz] at hK; exact hK
 ·rw [if_neg hz] at hK; exact hK
theorem ysZ {f z : Nat} (h : f ≤ 3) (hz : z < 2 ^ fw f) : (cls f z = 3 ↔ z = sg f true) ∧ (cls f z = 4 ↔ z = 0) := by
 have hp := Nat.two_pow_pos (fw f - 1)
 have hx := yt2 f z h hz
 have s1 : sg f true = 2 ^ (fw f - 1) := rfl
 have s0 : sg f false = 0 := rfl
 have hm := ytA f z h
 have hzr := ypw f z
 have hfi := ysi f z
 have c3 : cls f z = 3 → ng f z = true := by
  intro hc
  have hf := hfi.2 (by omega)
  cases hn : ng f z with
  | true => rfl
  | false => have := (ypK hf).2 hn; omega
 have c4 : cls f z = 4 → ng f z = false := by
  intro hc
  have hf := hfi.2 (by omega)
  cases hn : ng f z with
  | false => rfl
  | true => have := (ypK hf).1 hn; omega
 have c34 : (cls f z = 3 ∨ cls f z = 4) ↔ mg f z = 0 := by
  rw [hzr]
  constructor
  ·intro hc
   have hf := hfi.2 (by omega)
   unfold fin at hf
   unfold cls at hc
   rw [if_neg hf] at hc
   by_cases h1 : ex f z = 0
   ·rw [if_neg (by omega)] at hc
    by_cases h2 : fr f z = 0
    ·exact ⟨h1, h2⟩
    ·rw [if_pos h2] at hc
     revert hc; cases ng f z <;> intro hc <;> simp at hc
   ·rw [if_pos h1] at hc
    revert hc; cases ng f z <;> intro hc <;> simp at hc
  ·rintro ⟨h1, h2⟩
   unfold cls
   rw [if_neg (by omega), if_neg (by omega), if_neg (by omega)]
   cases ng f z
   ·right; rfl
   ·left; rfl
 refine ⟨⟨fun hc => ?_, fun hh => ?_⟩, ⟨fun hc => ?_, fun hh => ?_⟩⟩
 ·rw [c3 hc] at hx; have := c34.1 (.inl hc); omega
 ·have hn : ng f z = true := by
   cases hn : ng f z with
   | true => rfl
   | false => rw [hn] at hx; omega
  rw [hn] at hx
  rcases c34.2 (by omega) with g | g
  ·exact g
  ·rw [c4 g] at hn; cases hn
 ·rw [c4 hc] at hx; have := c34.1 (.inr hc); omega
 ·have hn : ng f z = false := by
   cases hn : ng f z with
   | false => rfl
   | true => rw [hn] at hx; omega
  rw [hn] at hx
  rcases c34.2 (by omega) with g | g
  ·rw [c3 g] at hn; cases hn
  ·exact g
theorem yid {f z : Nat} (h : f ≤ 3) (hz : z < 2 ^ fw f) (K : Int → Int → Prop) (hK : K (Hi (uz f z)) (Lo (uz f z))) : zed f (Hi z) (Lo z) K := by
 have hc := ysZ h hz
 have hp := Nat.two_pow_pos (fw f - 1)
 have s1 : sg f true = 2 ^ (fw f - 1) := rfl
 rw [zed.is]; unfold zed.d
 rw [zdt.is]; unfold zdt.d
 refine ylk f z h hz _ ?_
 unfold uz at hK
 by_cases g3 : cls f z = 3
 ·rw [yaA (ykA g3)]
  rw [if_pos (hc.1.1 g3)] at hK; exact hK
 rw [yau (yip g3)]
 have hn : ¬ z = sg f true := fun hh => g3 (hc.1.2 hh)
 rw [if_neg hn] at hK
 by_cases g4 : cls f z = 4
 ·rw [ykA g4]
  rw [hc.2.1 g4] at hK; exact hK
 ·rw [yip g4]; exact hK
theorem yqE {f m : Nat} (h : f ≤ 3) (hm : m ≤ 4) (n : Bool) {F : Int → Nat × Bool} {top : Int} (H : FF F (fp f) top) : ∃ z fl, z < 2 ^ fw f ∧ ∀ K, dlv f m n F top K ↔ K (Hi z) (Lo z) fl 0 := by
 obtain ⟨z, fl, hz, d1, _⟩ := yqK h hm n H
 exact ⟨z, fl, hz, d1⟩
theorem yi8 {f m : Nat} (h : f ≤ 3) (hm : m ≤ 4) {n : Bool} {x y : List UInt8} {e : Int} (hM : MayE n x y e) (lx : x.length ≤ 8192) (ly : y.length ≤ 8192) :
  ∃ z fl, z < 2 ^ fw f ∧ (∀ Q : Int → Int → Int → Int → Prop, Q (Hi z) (Lo z) fl 0 → zej f m n x y e Q) ∧ (∀ Q : Int → Int → Int → Int → Prop, Q (Hi z) (Lo z) fl 0 → zdy f m n x y e Q) := by
 have w := ybY f h
 obtain ⟨a, b, rfl, rfl, c⟩ := hM.can
 by_cases ha : a = 0
 ·subst ha
  exact ⟨0, 0, Nat.two_pow_pos _, fun Q hQ => yhJ h hm c ly Q hQ, fun Q hQ => yix h hm c ly Q hQ⟩
 ·obtain ⟨z, fl, hz, hd⟩ := yqE h hm n (yos (e := e) (p := fp f) (by omega) ha c.b0)
  exact ⟨z, fl, hz, fun Q hQ => yfi h hm c ha lx ly Q ((hd Q).2 hQ), fun Q hQ => ykX h hm c ha lx ly Q ((hd Q).2 hQ)⟩
theorem yp7 (f m : Nat) (n : Bool) (x y : List UInt8) (e : Int) (lx : x.length ≤ 8192) (ly : y.length ≤ 8192) : ∃ p q, (∀ Q : Bool → Int → Prop, Q p q → zek f m n x y e Q) ∧ (∀ Q : Bool → Int → Prop, Q p q → zdz f m n x y e Q) := by
 have key : ∀ (Q : Bool → Int → Prop), (3 < f ∨ 4 < m ∨ ¬ MayE n x y e) → Q false 2 → zek f m n x y e Q ∧ zdz f m n x y e Q := by
  intro Q hb hQ
  rw [zek.is, zdz.is]; unfold zek.d zdz.d
  rw [zel.is, zdv.is]; unfold zel.d zdv.d
  by_cases h : f ≤ 3
  ·rw [yaR f h, yau (show (!eqI 0 0) = false from rfl), ybm f h, yau (show (!true) = false from rfl)]
   by_cases hm : m ≤ 4
   ·rw [yb2 m hm, yau (show (!eqI 0 0) = false from rfl), ybL m hm, yau (show (!true) = false from rfl)]
    have hn : ¬ MayE n x y e := by
     rcases hb with hb | hb | hb
     ·omega
     ·omega
     ·exact hb
    exact ⟨ya0 _ _ _ _ _ (fun g => absurd g hn) fun _ => hQ, ycG _ _ _ _ _ (fun g => absurd g hn) fun _ => hQ⟩
   ·rw [yfe m (by omega), ygy m (by omega)]; exact ⟨hQ, hQ⟩
  ·rw [yeB f (by omega), yge f (by omega)]; exact ⟨hQ, hQ⟩
 by_cases hb : 3 < f ∨ 4 < m ∨ ¬ MayE n x y e
 ·exact ⟨false, 2, fun Q hQ => (key Q hb hQ).1, fun Q hQ => (key Q hb hQ).2⟩
 have h : f ≤ 3 := by omega
 have hm : m ≤ 4 := by omega
 have hM : MayE n x y e := Classical.byContradiction fun hh => hb (.inr (.inr hh))
 have w := ybY f h
 obtain ⟨a, b, rfl, rfl, c⟩ := hM.can
 have we := c.e64
 have hr := ydB c.fa c.fb
 have look : ∀ Q : Bool → Int → Prop, (a = 0 → Q false 0) → (a ≠ 0 → Q (yeT f m n (FX a b e) (tp a b + e)) 0) → zek f m n (nb a) (nb b) e Q ∧ zdz f m n (nb a) (nb b) e Q := by
  intro Q q0 q1
  rw [zek.is, zdz.is]; unfold zek.d zdz.d
  rw [zel.is, zdv.is]; unfold zel.d zdv.d
  rw [yaR f h, yau (show (!eqI 0 0) = false from rfl), ybm f h, yau (show (!true) = false from rfl), yb2 m hm, yau (show (!eqI 0 0) = false from rfl), ybL m hm, yau (show (!true) = false from rfl)]
  constructor
  ·refine ya0 _ _ _ _ _ (fun _ => ?_) fun g => absurd c.may g
   rw [yau (show (!eqI 0 0) = false from rfl), yau rfl, yau (ya2 (by omega)), yau (ya2 (by omega))]
   show br (!eqI 0 0) _ _
   rw [yau (show (!eqI 0 0) = false from rfl), ybJ]
   refine ydU q0 fun ha => ?_
   have hbl : yaw b ≤ 66000 := by have := ygP ly; omega
   refine yf5 n c _ ?_
   exact ygr h hm (yos (by omega) ha c.b0) (ylN h c.abs' ha hbl) (fun K hK => yhv c.abs' ha K hK) (by omega) _ (q1 ha)
  ·refine ycG _ _ _ _ _ (fun _ => ?_) fun g => absurd c.may g
   rw [yau (show (!true) = false from rfl), yau (ya2 (by omega)), yau (ya2 (by omega))]
   show br (!eqI 0 0) _ _
   rw [yau (show (!eqI 0 0) = false from rfl), ybJ]
   refine ydU q0 fun ha => ?_
   have hbl : yaw b ≤ 66000 := by have := ygP ly; omega
   exact yhT h hm (yos (by omega) ha c.b0) (ynj h c ha hbl) (fun K hK => yjs c ha K hK) (by omega) _ (q1 ha)
 by_cases ha : a = 0
 ·exact ⟨false, 0, fun Q hQ => (look Q (fun _ => hQ) fun hh => absurd ha hh).1, fun Q hQ => (look Q (fun _ => hQ) fun hh => absurd ha hh).2⟩
 ·exact ⟨_, 0, fun Q hQ => (look Q (fun hh => absurd hh ha) fun _ => hQ).1, fun Q hQ => (look Q (fun hh => absurd hh ha) fun _ => hQ).2⟩
theorem ruleNears (a0 a1 : Int) (a2_0 : Bool) (a2_1 a2_2 : List UInt8) (a2_3 : Int) (w0 : (Lit.int .u8 a0).wf = true) (w1 : (Lit.int .u8 a1).wf = true)
  (w2 : a2_1.length ≤ maxLen) (w3 : a2_2.length ≤ maxLen) (w4 : (Lit.int .i64 a2_3).wf = true) (K : Bool → Prop) (hK : K true) : zan a0 a1 a2_0 a2_1 a2_2 a2_3 K := by
 obtain ⟨f, rfl, hf⟩ := yrW w0
 obtain ⟨m, rfl, hm⟩ := yrW w1
 have hal : zao fun y0 => K y0 := yiw _ hK
 rw [zan.is]; unfold zan.d
 refine yqc _ _ _ _ _ (fun s1 s2 => ?_) hal
 rw [yau (show (!true) = false from rfl)]
 obtain ⟨p, q, t1, t2⟩ := yp7 f m a2_0 a2_1 a2_2 a2_3 (by omega) (by omega)
 refine t1 _ (t2 _ ?_)
 rw [yau (show (!ycZ p p) = false from by cases p <;> rfl), yau (by rw [yqP]; rfl)]
 rw [zei.is]; unfold zei.d
 by_cases hb : 3 < f ∨ ¬ MayE a2_0 a2_1 a2_2 a2_3
 ·have hb' : 3 < f ∨ 4 < 2 ∨ ¬ MayE a2_0 a2_1 a2_2 a2_3 := hb.elim .inl fun g => .inr (.inr g)
  refine ykz (m := 2) hb' _ ?_
  rw [yaA (show (!eqI 2 0) = true from rfl)]
  show zdo f _
  by_cases h : f ≤ 3
  ·rw [ybm f h, yau (show (!true) = false from rfl)]
   refine ycG _ _ _ _ _ (fun g => absurd g (hb.resolve_left (by omega))) fun _ => ?_
   exact hal
  ·rw [yge f (by omega)]; exact hal
 have h : f ≤ 3 := by omega
 have hM : MayE a2_0 a2_1 a2_2 a2_3 := Classical.byContradiction fun hh => hb (.inr hh)
 obtain ⟨z1, f1, hz1, l1, r1⟩ := yi8 h (m := 2) (by omega) hM (by omega) (by omega)
 obtain ⟨z2, f2, hz2, l2, r2⟩ := yi8 h (m := 3) (by omega) hM (by omega) (by omega)
 refine l1 _ ?_
 rw [yau (show (!eqI 0 0) = false from rfl)]
 refine l2 _ ?_
 refine ygl h _ (ygl h _ ?_)
 show zdo f _
 rw [ybm f h, yau (show (!true) = false from rfl)]
 refine ycG _ _ _ _ _ (fun _ => ?_) fun g => absurd hM g
 rw [yau (show (!true) = false from rfl), zdw.is]; unfold zdw.d
 refine r1 _ (r2 _ ?_)
 rw [yau (show (!eqI 0 0) = false from rfl)]
 refine yid h hz1 _ (yid h hz2 _ ?_)
 refine yqv (yqv ?_)
 exact hal
end Go.Ev.S
