/- What the document's answer reckons with natural numbers: quotients, greatest common divisors, roots. -/
import Derived.Test.YtnomdgcpklbcfaaGreatDoorLA
import Derived.Test.YtnomdgcpklbcfaaGreatDoorDA
set_option linter.unusedVariables false
set_option linter.unusedSimpArgs false
set_option maxRecDepth 8000
namespace Go.Ev.S
open Go Go.Ev
theorem ysh {x y : Nat} (h : y ≤ x) : leI 0 (sgn x y) = true := by
 unfold sgn
 rw [if_neg (by omega)]
 split
 ·exact ya4 (by omega)
 ·exact ya4 (by omega)
theorem ysa {x y : Nat} (h : x < y) : leI 0 (sgn x y) = false := by
 unfold sgn
 rw [if_pos h]
 exact yes (by omega)
theorem ytp (x i : Nat) : dg 8 x (i / 8) / 2 ^ (i % 8) % 2 = x / 2 ^ i % 2 := by
 unfold dg
 have h2 : (2 : Nat) ^ 8 = 2 ^ (i % 8) * 2 ^ (8 - i % 8) := by rw [← Nat.pow_add]; congr 1; omega
 have h3 : (2 : Nat) ∣ 2 ^ (8 - i % 8) := Nat.dvd_trans (by rw [Nat.pow_one]; exact Nat.dvd_refl _ : (2 : Nat) ∣ 2 ^ 1) (Nat.pow_dvd_pow 2 (by omega))
 rw [h2, Nat.mod_mul_right_div_self, Nat.mod_mod_of_dvd _ h3, Nat.div_div_eq_div_mul, ← Nat.pow_add, show 8 * (i / 8) + i % 8 = i from by omega]
theorem yfZ (a : List UInt8) (i : Nat) (hi : i ≤ 1000000000) (hl : a.length ≤ 1000000000) (K : Int → Prop) : zcs a i K = K ((val a / 2 ^ i % 2 : Nat) : Int) := by
 rw [zcs.is]; unfold zcs.d
 have hd := yaV 8 (val a) (i / 8)
 rw [B8] at hd
 have e62 : (2 : Nat) ^ 62 = 4611686018427387904 := rfl
 have e0 : yaE IntKind.i64 (i : Int) 8 = ((i / 8 : Nat) : Int) := by rw [ybw (by omega) (by omega) (by omega)]; omega
 have e1 : cvI IntKind.u64 (yca IntKind.i64 (i : Int) 8) = ((i % 8 : Nat) : Int) := by rw [yf9 (by omega), yaO (by omega) (by omega)]; omega
 have hle := Nat.div_le_self (dg 8 (val a) (i / 8)) (2 ^ (i % 8))
 rw [e0, e1, ybr a _ (by omega) hl, ya1 (by omega), yqK _ _ (by omega), ypk _ (by omega), ytp]
 rfl
theorem yid (a : List UInt8) (one : Nat) (h1 : one < 2) (hl : a.length ≤ 1000000) (c0 m0 : Nat) (k0 : Nat → Nat → Nat → (Nat → Int) → Prop) (h : k0 (a.length + 1) c0 m0 (G 8 (2 * val a + one))) :
  ∀ (j i Z c : Nat), i + j = a.length + 1 → Z < 2 ^ (8 * i) → c < 2 → Z + c * 2 ^ (8 * i) = 2 * (val a % 2 ^ (8 * i)) + one → zct.l4 k0 (j + 1) a (a.length + 1) c0 c i m0 (G 8 Z) := by
 intro j
 induction j with
 | zero =>
  intro i Z c hi hZ hc hE
  have hi : i = a.length + 1 := by omega
  subst hi
  have hx := ybd a
  have hp : 2 ^ (8 * (a.length + 1)) = 2 ^ (8 * a.length) * 256 := by rw [yb1, B8]
  have hpp := Nat.two_pow_pos (8 * a.length)
  rw [Nat.mod_eq_of_lt (by omega)] at hE
  have hc0 : c = 0 := by
   rcases (by omega : c = 0 ∨ c = 1) with e | e
   ·exact e
   ·subst e; omega
  subst hc0
  unfold zct.l4 zct.l4.step
  rw [yau (yes (by omega))]
  rw [← hE, Nat.zero_mul, Nat.add_zero] at h
  exact h
 | succ j ih =>
  intro i Z c hi hZ hc hE
  have hd := yaV 8 (val a) i
  rw [B8] at hd
  have e1 : ybS IntKind.i64 2 ((dg 8 (val a) i : Nat) : Int) = ((2 * dg 8 (val a) i : Nat) : Int) := by rw [ybm (by omega) (by omega)]; omega
  have e2 : yaj IntKind.i64 (c : Int) ((2 * dg 8 (val a) i : Nat) : Int) = ((c + 2 * dg 8 (val a) i : Nat) : Int) := by rw [yan (by omega) (by omega)]; omega
  have e3 : ya8 IntKind.i64 ((c + 2 * dg 8 (val a) i : Nat) : Int) 8 = (((c + 2 * dg 8 (val a) i) / 256 : Nat) : Int) := by rw [yhe]; omega
  have e4 : cvI IntKind.u8 ((c + 2 * dg 8 (val a) i : Nat) : Int) = (((c + 2 * dg 8 (val a) i) % 256 : Nat) : Int) := by rw [yhF]; omega
  have e5 : yaj IntKind.i64 (i : Int) 1 = ((i + 1 : Nat) : Int) := by rw [yan (by omega) (by omega)]; omega
  have hw : (c + 2 * dg 8 (val a) i) % 256 < 2 ^ 8 := Nat.mod_lt _ (by omega)
  unfold zct.l4 zct.l4.step
  rw [yaB (ya4 (by omega)), ybr a i (by omega) (by omega), ybv (by rw [ya4 (by omega), yaS (by omega)]; rfl), e1, e2, e3, e4, e5, Int.toNat_natCast, yhp 8 Z _ i hZ hw]
  refine ih (i + 1) _ _ (by omega) (ygm 8 Z _ i hZ hw) (by omega) ?_
  rw [ya7, yb1, B8]
  have := ykK (c + 2 * dg 8 (val a) i) 256 (2 ^ (8 * i))
  rw [Nat.add_mul c, Nat.mul_assoc] at this
  rw [Nat.mul_add]
  omega
theorem ybI (a : List UInt8) (one : Nat) (h1 : one < 2) (hl : a.length ≤ 1000000) (K : List UInt8 → Prop) (h : K (nb (2 * val a + one))) : zct a one K := by
 rw [zct.is]; unfold zct.d
 have e1 : Int.toNat ((a.length : Int) + 1) = a.length + 1 := by omega
 simp (disch := omega) only [ya4, yay, Bool.and_self, yan, e1]
 refine ⟨a.length + 2, ?_⟩
 have hx := ybd a
 have := yid a one h1 hl (a.length + 1) (a.length + 1) (fun y0 y1 y2 y3 => zcu y0 y3 fun y0 => K y0) ?_ (a.length + 1) 0 0 one (by omega) (by simp) h1 (by simp [Nat.mod_one])
 ·rw [ybY] at this; exact this
 ·refine ycg _ _ (by omega) ?_ _ h
  rw [yb1, B8]; omega
theorem yjD (x t : Nat) : x / 2 ^ t = 2 * (x / 2 ^ (t + 1)) + x / 2 ^ t % 2 := by
 rw [Nat.pow_succ, ← Nat.div_div_eq_div_mul]
 omega
theorem yrD (X y q r b : Nat) (hy : 0 < y) (hq : X / y = q) (hr : X % y = r) (hb : b < 2) :
  (y ≤ 2 * r + b → (2 * X + b) / y = 2 * q + 1 ∧ (2 * X + b) % y = 2 * r + b - y) ∧ (2 * r + b < y → (2 * X + b) / y = 2 * q ∧ (2 * X + b) % y = 2 * r + b) := by
 have h1 := Nat.div_add_mod X y
 have h2 := Nat.mod_lt X hy
 rw [hq, hr] at h1
 rw [hr] at h2
 have h3 : 2 * X + b = 2 * r + b + y * (2 * q) := by rw [← h1, Nat.mul_left_comm y 2 q]; omega
 constructor
 ·intro h
  have h4 : 2 * X + b = (2 * r + b - y) + y * (2 * q + 1) := by rw [h3, Nat.mul_add]; omega
  rw [h4, Nat.add_mul_div_left _ _ hy, Nat.add_mul_mod_self_left, Nat.div_eq_of_lt (by omega), Nat.mod_eq_of_lt (by omega)]
  omega
 ·intro h
  rw [h3, Nat.add_mul_div_left _ _ hy, Nat.add_mul_mod_self_left, Nat.div_eq_of_lt h, Nat.mod_eq_of_lt h]
  omega
theorem ysG (q t : Nat) : upd (G 8 (q * 2 ^ (t + 1))) (t / 8) (orI IntKind.u8 ((dg 8 (q * 2 ^ (t + 1)) (t / 8) : Nat) : Int) (yb0 IntKind.u8 1 ((t % 8 : Nat) : Int))) = G 8 ((2 * q + 1) * 2 ^ t) := by
 have hb : IntKind.bits .u8 = 8 := rfl
 have hd := yaV 8 (q * 2 ^ (t + 1)) (t / 8)
 have h8 : (2 : Nat) ^ 8 = 2 ^ (t % 8 + 1) * 2 ^ (8 - (t % 8 + 1)) := by rw [← Nat.pow_add]; congr 1; omega
 have hmod : dg 8 (q * 2 ^ (t + 1)) (t / 8) % 2 ^ (t % 8 + 1) = 0 := by
  unfold dg
  rw [Nat.mod_mod_of_dvd _ ⟨_, h8⟩, show t + 1 = t % 8 + 1 + 8 * (t / 8) from by omega, Nat.pow_add, ← Nat.mul_assoc, Nat.mul_div_cancel _ (Nat.two_pow_pos _)]
  exact Nat.mul_mod_left _ _
 have hlt : 2 ^ (t % 8) < 2 ^ (t % 8 + 1) := Nat.pow_lt_pow_right (by omega) (by omega)
 have h1 : yb0 IntKind.u8 1 ((t % 8 : Nat) : Int) = ((2 ^ (t % 8) : Nat) : Int) := by
  have := yn9 (k := .u8) rfl 1 (t % 8) (by rw [hb]; omega)
  rw [Nat.one_mul, hb, Nat.mod_eq_of_lt (Nat.pow_lt_pow_right (by omega) (by omega))] at this
  exact this
 have hs : dg 8 (q * 2 ^ (t + 1)) (t / 8) ||| 2 ^ (t % 8) = 2 ^ (t % 8) + dg 8 (q * 2 ^ (t + 1)) (t / 8) := by
  rw [Nat.or_comm]; exact ye0 hlt hmod
 have hs2 : dg 8 (q * 2 ^ (t + 1)) (t / 8) ||| 2 ^ (t % 8) < 2 ^ 8 := Nat.or_lt_two_pow hd (Nat.pow_lt_pow_right (by omega) (by omega))
 rw [h1, yr7 (k := .u8) rfl _ _ (by rw [hb]; exact hd) (by rw [hb]; exact Nat.pow_lt_pow_right (by omega) (by omega))]
 refine yfw ?_ hs2
 rw [hs, Nat.add_mul (2 ^ (t % 8)), ← Nat.pow_add, show t % 8 + 8 * (t / 8) = t from by omega, Nat.add_mul (2 * q) 1, Nat.one_mul, Nat.pow_succ, Nat.mul_comm (2 ^ t) 2, ← Nat.mul_assoc, Nat.mul_comm q 2]
 omega
theorem ykz {x n : Nat} (h : x < 2 ^ (8 * n)) : (nb x).length ≤ n := (ybC x n).2 (by rw [ynJ]; exact h)
theorem ykO (a b : List UInt8) (hl : a.length ≤ 100000) (hlb : b.length ≤ 100000) (hb : yjc b = true) (hy : 0 < val b) (c0 m0 : Nat) (k0 : List UInt8 → Nat → Nat → Nat → (Nat → Int) → Prop)
  (h : k0 (nb (val a % val b)) (a.length + 1) c0 m0 (G 8 (val a / val b))) :
  ∀ t, t ≤ 8 * a.length → zcg.l10 k0 (t + 1) a b (nb (val a / 2 ^ t % val b)) (a.length + 1) c0 ((t : Int) - 1) m0 (G 8 (val a / 2 ^ t / val b * 2 ^ t)) := by
 intro t
 induction t with
 | zero =>
  intro ht
  unfold zcg.l10 zcg.l10.step
  rw [yau (yes (by omega)), Nat.pow_zero, Nat.div_one, Nat.mul_one]
  exact h
 | succ t ih =>
  intro ht
  have ih := ih (by omega)
  have hx := yjD (val a) t
  have hb2 : val a / 2 ^ t % 2 < 2 := Nat.mod_lt _ (by omega)
  generalize hbit : val a / 2 ^ t % 2 = bit at *
  rw [hx] at ih
  generalize val a / 2 ^ (t + 1) = X at *
  obtain ⟨s1, s2⟩ := yrD X (val b) _ _ bit hy rfl rfl hb2
  have hr := Nat.mod_lt X hy
  have hyl := ybd b
  generalize hre : X % val b = r at *
  generalize hqe : X / val b = q at *
  have lr : (nb r).length ≤ b.length := ykz (by omega)
  have e1 : ((t + 1 : Nat) : Int) - 1 = (t : Int) := by omega
  have e2 : yaE IntKind.i64 (t : Int) 8 = ((t / 8 : Nat) : Int) := by rw [ybw (by omega) (by omega) (by omega)]; omega
  have e3 : cvI IntKind.u64 (yca IntKind.i64 (t : Int) 8) = ((t % 8 : Nat) : Int) := by rw [yf9 (by omega), yaO (by omega) (by omega)]; omega
  have e4 : yaq IntKind.i64 (t : Int) 1 = (t : Int) - 1 := by rw [yap (by omega) (by omega)]
  have w0 : (leI 0 ((t / 8 : Nat) : Int) && ltI ((t / 8 : Nat) : Int) ((a.length + 1 : Nat) : Int)) = true := by rw [ya4 (by omega), yaS (by omega)]; rfl
  unfold zcg.l10 zcg.l10.step
  rw [e1, yaB (ya4 (by omega)), yfZ a t (by omega) (by omega), hbit]
  refine ybI (nb r) bit hb2 (by omega) _ ?_
  rw [yax, yeo _ b (yeQ _) hb, yax]
  have l2 : (nb (2 * r + bit)).length ≤ b.length + 1 := ykz (by rw [yb1, B8]; omega)
  by_cases hc : val b ≤ 2 * r + bit
  ·obtain ⟨g1, g2⟩ := s1 hc
   rw [g1, g2] at ih
   rw [yaB (ysh hc)]
   refine yiR _ b (by omega) (by omega) (by rw [yax]; exact hc) _ ?_
   rw [yax, e2, e3, ybv w0, ybv (by rw [ya1 (by omega)]; rfl), ybv w0, Int.toNat_natCast, ybe, ysG, e4]
   exact ih
  ·obtain ⟨g1, g2⟩ := s2 (by omega)
   rw [g1, g2, show 2 * q * 2 ^ t = q * 2 ^ (t + 1) from by rw [Nat.pow_succ, Nat.mul_comm 2 q, Nat.mul_assoc, Nat.mul_comm 2]] at ih
   rw [yau (ysa (by omega)), e4]
   exact ih
theorem yew (a b : List UInt8) (ha : May a) (hb : May b) (K : List UInt8 → List UInt8 → Int → Prop) (h0 : b = [] → K [] [] 2) (h2 : val b ≠ 0 → K (nb (val a / val b)) (nb (val a % val b)) 0) : zcg a b K := by
 rw [zcg.is]; unfold zcg.d
 rw [ya9]
 by_cases hz : b = []
 ·rw [yaB (by simpa using hz)]; exact h0 hz
 ·rw [yau (by simpa using hz), yeo a b ha.2 hb.2, yjS]
  have hv : val b ≠ 0 := fun e => hz ((ygP hb.2).1 e)
  have h2 := h2 hv
  have l1 := ha.1; have l2 := hb.1
  by_cases hlt : val a < val b
  ·rw [yaB (by simpa using hlt)]
   rw [Nat.div_eq_of_lt hlt, Nat.mod_eq_of_lt hlt, yaN, ha.nb] at h2
   exact h2
  ·rw [yau (by simpa using hlt)]
   have va : val a ≠ 0 := by omega
   refine yds a _ (yds b _ ?_)
   rw [if_pos ha, if_pos hb]
   have ba : yav (val a) ≤ 8 * a.length := (yaP _ _).2 (ybd a)
   have bb : yav (val b) ≤ 8 * b.length := (yaP _ _).2 (ybd b)
   have bp := ynL hv
   have bm : yav (val b) ≤ yav (val a) := (yaP _ _).2 (by have := yhD (val a); omega)
   have e1 : yaq IntKind.i64 ((yav (val a) : Nat) : Int) (yaq IntKind.i64 ((yav (val b) : Nat) : Int) 1) = ((yav (val a) - (yav (val b) - 1) : Nat) : Int) := by
    simp (disch := omega) only [yap]; omega
   rw [e1]
   have hT : val a / 2 ^ (yav (val a) - (yav (val b) - 1)) < val b := by
    rw [Nat.div_lt_iff_lt_mul (Nat.two_pow_pos _)]
    have g1 := yqF hv
    have g2 := yhD (val a)
    have g3 := Nat.mul_le_mul_right (2 ^ (yav (val a) - (yav (val b) - 1))) g1
    rw [← Nat.pow_add, show yav (val b) - 1 + (yav (val a) - (yav (val b) - 1)) = yav (val a) from by omega] at g3
    omega
   generalize hTe : yav (val a) - (yav (val b) - 1) = T at *
   refine ygk a _ (by omega) ha _ (fun e => by omega) (fun _ e => absurd ((ygP ha.2).2 e) va) fun _ _ => ?_
   rw [Int.toNat_natCast]
   have e2 : yaj IntKind.i64 ((a.length : Nat) : Int) 1 = (a.length : Int) + 1 := by rw [yan (by omega) (by omega)]
   have e3 : Int.toNat ((a.length : Int) + 1) = a.length + 1 := by omega
   rw [e2, ybv (by rw [ya4 (by omega), ya4 (by omega), ya4 (by omega)]; rfl), e3, yap (by omega) (by omega)]
   refine ⟨T + 1, ?_⟩
   have := ykO a b (by omega) (by omega) hb.2 (by omega) (a.length + 1) (a.length + 1) (fun y0 y1 y2 y3 y4 => zcu y1 y4 fun y0_3 => K y0_3 y0 0) ?_ T (by omega)
   ·rw [Nat.mod_eq_of_lt hT, Nat.div_eq_of_lt hT, Nat.zero_mul, ybY] at this
    exact this
   ·refine ycg _ _ (by omega) ?_ _ h2
    have g1 := Nat.div_le_self (val a) (val b)
    have g2 := ybd a
    have g3 : 2 ^ (8 * a.length) ≤ 2 ^ (8 * (a.length + 1)) := ybQ (by omega)
    omega
theorem yrd {x y : Nat} (h : x ≤ y) (hm : May (nb y)) : May (nb x) := by
 refine ⟨?_, yeQ x⟩
 have := (ybC y _).1 hm.1
 exact (ybC x _).2 (by omega)
theorem ymg (k0 : List UInt8 → Prop) : ∀ (y x : Nat), May (nb x) → May (nb y) → k0 (nb (Nat.gcd x y)) → ∃ f, zch.l1 k0 f (nb x) (nb y) := by
 intro y
 induction y using Nat.strongRecOn with
 | _ y ih =>
  intro x hx hy hk
  by_cases h0 : y = 0
  ·subst h0
   refine ⟨1, ?_⟩
   unfold zch.l1 zch.l1.step
   rw [yaN, ya9, yau (by rfl)]
   rw [Nat.gcd_zero_right] at hk; exact hk
  ·have hm := Nat.mod_lt x (show 0 < y by omega)
   have hg : Nat.gcd y (x % y) = Nat.gcd x y := by rw [Nat.gcd_comm x y, Nat.gcd_rec y x, Nat.gcd_comm]
   obtain ⟨f, hf⟩ := ih (x % y) hm y hy (yrd (Nat.le_of_lt hm) hy) (by rw [hg]; exact hk)
   refine ⟨f + 1, ?_⟩
   unfold zch.l1 zch.l1.step
   rw [ya9, yaB (by simp [ylp h0])]
   refine yew _ _ hx hy _ (fun e => absurd e (ylp h0)) fun _ => ?_
   rw [yax, yax]; exact hf
theorem yi8 (a b : List UInt8) (ha : May a) (hb : May b) (K : List UInt8 → Prop) (h : K (nb (Nat.gcd (val a) (val b)))) : zch a b K := by
 rw [zch.is]; unfold zch.d
 have := ymg (fun y0 => K y0) (val b) (val a) (by rw [ha.nb]; exact ha) (by rw [hb.nb]; exact hb) h
 rw [ha.nb, hb.nb] at this
 exact this
theorem yqc {X r b : Nat} (h : yb8 X r) (hb : b < 4) :
  (4 * r + 1 ≤ 4 * (X - r * r) + b → yb8 (4 * X + b) (2 * r + 1) ∧ 4 * X + b - (2 * r + 1) * (2 * r + 1) = 4 * (X - r * r) + b - (4 * r + 1)) ∧
  (4 * (X - r * r) + b < 4 * r + 1 → yb8 (4 * X + b) (2 * r) ∧ 4 * X + b - 2 * r * (2 * r) = 4 * (X - r * r) + b) := by
 obtain ⟨h1, h2⟩ := h
 have e1 : 2 * r * (2 * r) = 4 * (r * r) := by rw [Nat.mul_assoc, Nat.mul_left_comm r 2 r, ← Nat.mul_assoc]
 have e2 : (2 * r + 1) * (2 * r + 1) = 4 * (r * r) + 4 * r + 1 := by rw [Nat.add_mul, Nat.mul_add, e1]; omega
 have e3 : (r + 1) * (r + 1) = r * r + 2 * r + 1 := by rw [Nat.add_mul, Nat.mul_add]; omega
 have e4 : (2 * r + 1 + 1) * (2 * r + 1 + 1) = 4 * (r * r) + 8 * r + 4 := by
  rw [show 2 * r + 1 + 1 = 2 * (r + 1) from by omega, Nat.mul_assoc, Nat.mul_left_comm (r + 1) 2, ← Nat.mul_assoc, e3]; omega
 unfold yb8
 constructor
 ·intro h
  refine ⟨⟨?_, ?_⟩, ?_⟩
  ·rw [e2]; omega
  ·rw [e4]; omega
  ·rw [e2]; omega
 ·intro h
  refine ⟨⟨?_, ?_⟩, ?_⟩
  ·rw [e1]; omega
  ·rw [e2]; omega
  ·rw [e1]; omega
theorem ypu {x r : Nat} (h : yb8 x r) : r ≤ x := by
 have h1 := h.1
 rcases Nat.eq_zero_or_pos r with e | e
 ·omega
 ·have := Nat.mul_le_mul_left r e
  omega
theorem yjM (a : List UInt8) (hl : a.length ≤ 100000) (k0 : List UInt8 → List UInt8 → Prop) (h : ∀ r, yb8 (val a) r → k0 (nb r) (nb (val a - r * r))) :
  ∀ (t r : Nat), t ≤ 100000000 → yb8 (val a / 2 ^ (2 * t)) r → zco.l4 k0 (t + 1) a (nb r) (nb (val a / 2 ^ (2 * t) - r * r)) ((t : Int) - 1) := by
 intro t
 induction t with
 | zero =>
  intro r ht hr
  rw [Nat.mul_zero, Nat.pow_zero, Nat.div_one] at hr ⊢
  unfold zco.l4 zco.l4.step
  rw [yau (yes (by omega))]
  exact h r hr
 | succ t ih =>
  intro r ht hr
  have x1 := yjD (val a) (2 * t)
  have x2 := yjD (val a) (2 * t + 1)
  rw [show 2 * t + 1 + 1 = 2 * (t + 1) from by omega] at x2
  have b0 : val a / 2 ^ (2 * t) % 2 < 2 := Nat.mod_lt _ (by omega)
  have b1 : val a / 2 ^ (2 * t + 1) % 2 < 2 := Nat.mod_lt _ (by omega)
  have ih := fun r => ih r (by omega)
  have hX := Nat.div_le_self (val a) (2 ^ (2 * (t + 1)))
  have hX0 := Nat.div_le_self (val a) (2 ^ (2 * t))
  have hv := ybd a
  have f0 := yfZ a (2 * t) (by omega) (by omega)
  have f1 := yfZ a (2 * t + 1) (by omega) (by omega)
  generalize val a / 2 ^ (2 * t) % 2 = d0 at *
  generalize val a / 2 ^ (2 * t + 1) % 2 = d1 at *
  rw [x2] at x1
  rw [x1] at ih hX0
  generalize val a / 2 ^ (2 * (t + 1)) = X at *
  obtain ⟨s1, s2⟩ := yqc hr (show 2 * d1 + d0 < 4 by omega)
  rw [show 4 * X + (2 * d1 + d0) = 2 * (2 * X + d1) + d0 from by omega] at s1 s2
  have hrX := ypu hr
  have hrr := hr.1
  have e1 : ((t + 1 : Nat) : Int) - 1 = (t : Int) := by omega
  have e2 : yaj IntKind.i64 (ybS IntKind.i64 2 (t : Int)) 1 = ((2 * t + 1 : Nat) : Int) := by
   simp (disch := omega) only [ybm, yan]; omega
  have e3 : ybS IntKind.i64 2 (t : Int) = ((2 * t : Nat) : Int) := by
   simp (disch := omega) only [ybm]; omega
  have e4 : yaq IntKind.i64 (t : Int) 1 = (t : Int) - 1 := by rw [yap (by omega) (by omega)]
  have hp : (2 : Nat) ^ (8 * (a.length + 1)) = 2 ^ (8 * a.length) * 256 := by rw [yb1, B8]
  have sh : ∀ z : Nat, z ≤ 4 * val a + 10 → (nb z).length ≤ a.length + 1 := fun z hz => ykz (by
   have := Nat.two_pow_pos (8 * a.length); omega)
  unfold zco.l4 zco.l4.step
  rw [e1, yaB (ya4 (by omega)), e2, e3, f1]
  have l1 := sh (X - r * r) (by omega)
  have l2 := sh (2 * (X - r * r) + d1) (by omega)
  have l3 := sh r (by omega)
  have l4 := sh (2 * r) (by omega)
  refine ybI _ d1 b1 (by omega) _ ?_
  rw [yax, f0]
  refine ybI _ d0 b0 (by omega) _ ?_
  rw [yax]
  refine ybI (nb r) 0 (by omega) (by omega) _ ?_
  rw [yax]
  refine ybI (nb (2 * r + 0)) 1 (by omega) (by rw [Nat.add_zero]; omega) _ ?_
  rw [yax]
  refine ybI (nb r) 0 (by omega) (by omega) _ ?_
  rw [yax, yeo _ _ (yeQ _) (yeQ _), yax, yax]
  have n1 : 2 * (2 * (X - r * r) + d1) + d0 = 4 * (X - r * r) + (2 * d1 + d0) := by omega
  have n2 : 2 * (2 * r) + 1 = 4 * r + 1 := by omega
  rw [Nat.add_zero (2 * r), n1, n2]
  by_cases hc : 4 * r + 1 ≤ 4 * (X - r * r) + (2 * d1 + d0)
  ·obtain ⟨g1, g2⟩ := s1 hc
   rw [yaB (ysh hc)]
   have l5 := sh (4 * (X - r * r) + (2 * d1 + d0)) (by omega)
   have l6 := sh (4 * r + 1) (by omega)
   refine yiR _ _ (by omega) (by omega) (by rw [yax, yax]; exact hc) _ ?_
   rw [yax, yax]
   refine ypD 1 (by omega) _ ?_
   have l7 := sh 1 (by omega)
   refine yi5 _ _ (by omega) (by omega) _ ?_
   rw [yax, yax, e4, ← g2]
   exact ih _ g1
  ·obtain ⟨g1, g2⟩ := s2 (by omega)
   rw [yau (ysa (by omega)), e4, ← g2]
   exact ih _ g1
theorem yhJ (a : List UInt8) (ha : May a) (K : List UInt8 → List UInt8 → Prop) (h : ∀ r, yb8 (val a) r → K (nb r) (nb (val a - r * r))) : zco a K := by
 rw [zco.is]; unfold zco.d
 refine yds a _ ?_
 rw [if_pos ha]
 have l1 := ha.1
 have ba : yav (val a) ≤ 8 * a.length := (yaP _ _).2 (ybd a)
 have e1 : yaE IntKind.i64 (yaj IntKind.i64 ((yav (val a) : Nat) : Int) 1) 2 = (((yav (val a) + 1) / 2 + 1 : Nat) : Int) - 1 := by
  simp (disch := omega) only [yan, ybw]; omega
 rw [e1]
 have hz : val a / 2 ^ (2 * ((yav (val a) + 1) / 2 + 1)) = 0 := Nat.div_eq_of_lt (Nat.lt_of_lt_of_le (yhD _) (Nat.pow_le_pow_right (by omega) (by omega)))
 refine ⟨(yav (val a) + 1) / 2 + 1 + 1, ?_⟩
 have := yjM a (by omega) (fun y0 y1 => K y0 y1) h ((yav (val a) + 1) / 2 + 1) 0 (by omega) (by rw [hz]; exact ⟨by decide, by decide⟩)
 rw [hz, Nat.zero_sub, yaN] at this
 exact this
end Go.Ev.S

/- The laws of natural numbers that need no quotient: sums, products, a ring. -/
set_option linter.unusedVariables false
set_option linter.unusedSimpArgs false
set_option maxRecDepth 8000
namespace Go.Ev.S
open Go Go.Ev
theorem yg8 (a : Int) : eqI a a = true := by simp [eqI]
end Go.Ev.S

/- The law of shifts. -/
set_option linter.unusedVariables false
set_option linter.unusedSimpArgs false
set_option maxRecDepth 8000
namespace Go.Ev.S
open Go Go.Ev
theorem ysm {a : List UInt8} (hm : May a) (h : a ≠ []) : val a ≠ 0 := fun e => by have := hm.nb; rw [e, yaN] at this; exact h this.symm
theorem yq7 {a : List UInt8} (hm : May a) : yav (val a) ≤ 131072 := by rw [← ygY, hm.nb]; exact hm.1
theorem yms (a : List UInt8) (n : Int) (hn : n < 9223372036854775808) (K : List UInt8 → Int → Prop) (h0 : ¬ May a → K [] 2) (h1 : May a → n < 0 → K [] 2) (h2 : May a → 0 ≤ n → a = [] → K [] 0)
  (h3 : May a → 0 ≤ n → a ≠ [] → 131072 < (yav (val a) : Int) + n → K [] 4) (h4 : May a → 0 ≤ n → a ≠ [] → (yav (val a) : Int) + n ≤ 131072 → K (nb (val a * 2 ^ n.toNat)) 0) : zav a n K := by
 rw [zav.is]; unfold zav.d
 rw [yaW]
 by_cases hm : May a
 ·rw [if_pos hm, yau (by rfl)]
  by_cases hneg : n < 0
  ·rw [yaB (yaS hneg)]; exact h1 hm hneg
  rw [yau (ya1 (by omega)), ya9]
  by_cases hz : a = []
  ·rw [yaB (by simp [hz])]; exact h2 hm (by omega) hz
  rw [yau (by simp [hz])]
  refine yf2 a _ ?_
  have hb := yq7 hm
  rw [if_pos hm, yap (by omega) (by omega)]
  by_cases hlong : 131072 < (yav (val a) : Int) + n
  ·rw [yaB (yaS (by omega))]; exact h3 hm (by omega) hz hlong
  rw [yau (ya1 (by omega))]
  obtain ⟨s, rfl⟩ : ∃ s : Nat, n = s := ⟨n.toNat, by omega⟩
  have h4 := h4 hm (by omega) hz (by omega)
  rw [Int.toNat_natCast] at h4
  refine hm.words _ ?_
  have hw := hm.wl
  refine yfp _ _ s (by omega) (by omega) hm.lt _ _ (fun hc => ?_) fun _ c m => ?_
  ·exfalso
   have := hm.lt
   rw [hc] at this
   have h0 := ysm hm hz
   simp at this; omega
  ·refine yhu _ _ ?_ (ybW _) _ ?_
   ·have hl := yiZ (val a) _ s (by omega) (by omega) hm.lt
    have := (ydW 32 (by omega) _ _).2 hl
    omega
   ·have : (nb (val a * 2 ^ s)).length ≤ 16384 := by
     rw [ygY, yg2 _ _ (ysm hm hz)]; omega
    rw [if_neg (by omega)]; exact h4
 ·rw [if_neg hm, yaB (by rfl)]; exact h0 hm
theorem ylA (a : List UInt8) (n : Int) (hn : n < 9223372036854775808) (K : List UInt8 → Bool → Int → Prop) (h0 : ¬ May a → K [] false 2) (h1 : May a → n < 0 → K [] false 2) (h2 : May a → 0 ≤ n → a = [] → K [] false 0)
  (h3 : May a → 0 ≤ n → a ≠ [] → K (nb (val a / 2 ^ n.toNat)) (decide ((ybG (val a) : Int) < n)) 0) : zay a n K := by
 rw [zay.is]; unfold zay.d
 rw [yaW]
 by_cases hm : May a
 ·rw [if_pos hm, yau (by rfl)]
  by_cases hneg : n < 0
  ·rw [yaB (yaS hneg)]; exact h1 hm hneg
  rw [yau (ya1 (by omega)), ya9]
  by_cases hz : a = []
  ·rw [yaB (by simp [hz])]; exact h2 hm (by omega) hz
  rw [yau (by simp [hz])]
  obtain ⟨s, rfl⟩ : ∃ s : Nat, n = s := ⟨n.toNat, by omega⟩
  have h3 := h3 hm (by omega) hz
  rw [Int.toNat_natCast] at h3
  refine hm.words _ ?_
  have hw := hm.wl
  refine yeO _ _ s (by omega) (by omega) hm.lt _ ?_
  have hle : wl 32 (val a / 2 ^ s) ≤ wl 32 (val a) := ybn (by omega) (Nat.div_le_self _ _)
  refine ybp _ _ (by omega) (ybW _) _ ?_
  refine yey a _ ?_
  rw [if_pos hm, yr2]; exact h3
 ·rw [if_neg hm, yaB (by rfl)]; exact h0 hm
end Go.Ev.S

/- Natural numbers made of words, told as words. -/
set_option linter.unusedVariables false
set_option linter.unusedSimpArgs false
set_option maxRecDepth 8000
namespace Go.Ev.S
open Go Go.Ev
theorem yhP (a : List UInt8) (x : Nat) (n : Nat) (hn : n ≤ 12) (k0 : List UInt8 → (Nat → Int) → Prop) (h : k0 a (G 64 (x % 2 ^ (32 * n)))) :
  ∀ (j i : Nat), i + j = n → zba.l4 k0 (j + 1) a n (G 32 x) n i (G 64 (x % 2 ^ (32 * i))) := by
 intro j
 induction j with
 | zero =>
  intro i hi
  unfold zba.l4 zba.l4.step
  rw [yau (ya1 (by omega)), show i = n from by omega]
  exact h
 | succ j ih =>
  intro i hi
  have ih := ih (i + 1) (by omega)
  have e : ((i + 1 : Nat) : Int) = (i : Int) + 1 := by omega
  rw [e] at ih
  unfold zba.l4 zba.l4.step
  simp (disch := omega) only [ybw, yf9, yan, ybm, yaO, yaS, ya4, ya1, yay, yaX, Bool.and_self, Bool.not_false]
  have e1 : Int.toNat ((i : Int) / 2) = i / 2 := by omega
  have e2 : Int.toNat (i : Int) = i := by omega
  have e3 : 32 * ((i : Int) % 2) = ((32 * (i % 2) : Nat) : Int) := by omega
  have hd := yaV 32 x i
  have e8 : (2 : Nat) ^ 32 = 4294967296 := rfl
  have hlow := yjq 64 (x % 2 ^ (32 * i)) (i / 2) (32 * (i % 2)) (by rw [show 64 * (i / 2) + 32 * (i % 2) = 32 * i from by omega]; exact Nat.mod_lt _ (Nat.two_pow_pos _))
  rw [e1, e2, e3, ybe, ybe, yaO (by omega) (by omega), yn0 _ _ _ 32 hlow (by omega) hd]
  rw [yfw (k := 64) (N' := x % 2 ^ (32 * (i + 1)))]
  ·exact ih
  ·rw [ya7, Nat.add_mul, Nat.mul_assoc, ← Nat.pow_add, show 32 * (i % 2) + 64 * (i / 2) = 32 * i from by omega]; omega
  ·exact ynw hlow (by omega) hd
theorem ykf (a : List UInt8) (K : (Nat → Int) → Bool → Prop) (h : if May a ∧ a.length ≤ 48 then K (W (val a)) true else K (W 0) false) : zba a K := by
 rw [zba.is]; unfold zba.d
 rw [yaW]
 by_cases hm : May a
 ·rw [if_pos hm, yau (by rfl)]
  by_cases hl : a.length ≤ 48
  ·rw [if_pos ⟨hm, hl⟩] at h
   rw [yau (ya1 (by omega))]
   refine ygn a (by omega) _ ?_
   refine ⟨(a.length + 3) / 4 + 1, ?_⟩
   have hlt : val a < 2 ^ (32 * ((a.length + 3) / 4)) := Nat.lt_of_lt_of_le (ybd a) (Nat.pow_le_pow_right (by omega) (by omega))
   have hQ : val a < Q6 := Nat.lt_of_lt_of_le (ybd a) (ys9 (by omega))
   have := yhP a (val a) ((a.length + 3) / 4) (by omega) (fun y0 y1 => zez y1 fun y0_1 => zaw y0 fun y0 => K y1 (eqI y0_1 y0)) ?_ ((a.length + 3) / 4) 0 (by omega)
   ·rw [show (2 : Nat) ^ (32 * 0) = 1 from rfl, Nat.mod_one, ybY] at this
    exact this
   ·rw [Nat.mod_eq_of_lt hlt, ← W_G]
    refine yhA (val a) hQ _ ?_
    refine yf2 a _ ?_
    rw [if_pos hm, ylW rfl]; exact h
  ·rw [if_neg (by omega)] at h
   rw [yaB (yaS (by omega))]
   rw [W_zero] at h; exact h
 ·rw [if_neg (by simp [hm])] at h
  rw [if_neg hm, yaB (by rfl)]
  rw [W_zero] at h; exact h
end Go.Ev.S

/- Exact numbers: which may be; made, told. -/
set_option linter.unusedVariables false
set_option linter.unusedSimpArgs false
set_option maxRecDepth 8000
namespace Go.Ev.S
open Go Go.Ev
def fit (x : Nat) : Prop := (nb x).length ≤ 16384
instance (x : Nat) : Decidable (fit x) := by unfold fit; infer_instance
theorem yeS (K : List UInt8 → Int → Prop) (x : Nat) : yo8 K x = if fit x then K (nb x) 0 else K [] 4 := by
 unfold yo8
 by_cases h : 16384 < (nb x).length
 ·rw [if_pos h, if_neg (show ¬ fit x from Nat.not_le.2 h)]
 ·rw [if_neg h, if_pos (show fit x from Nat.not_lt.1 h)]
theorem ydz {K : List UInt8 → Int → Prop} {x : Nat} (h1 : fit x → K (nb x) 0) (h2 : ¬ fit x → K [] 4) : yo8 K x := by
 rw [yeS]; split
 ·exact h1 ‹_›
 ·exact h2 ‹_›
theorem ya3 {x : Nat} (h : fit x) : May (nb x) := ⟨h, yeQ x⟩
theorem ylR {a : List UInt8} (h : May a) : nb (val a) = a := yju h.2
theorem yfS {a : List UInt8} (h : May a) : fit (val a) := by unfold fit; rw [ylR h]; exact h.1
theorem ydV {x y : Nat} (h : fit y) (hl : x ≤ y) : fit x := (ybC x 16384).2 (Nat.lt_of_le_of_lt hl ((ybC y 16384).1 h))
theorem yft {a : List UInt8} (h : May a) : val a ≠ 0 ↔ a ≠ [] := by
 constructor
 ·rintro h1 rfl; exact h1 yfK
 ·intro h1 h2
  have := ylR h
  rw [h2, yaN] at this
  exact h1 this.symm
theorem yn3 (x : Nat) : fit x ↔ yav x ≤ 131072 := ygY x
theorem ye7 {x n : Nat} (h : x ≠ 0) : fit (x * 2 ^ n) ↔ yav x + n ≤ 131072 := by
 rw [yn3, yg2 x n h]
theorem yov {a : List UInt8} (n : Int) (h0 : 0 ≤ n) (hn : n < 9223372036854775808) (ha : May a) {K : List UInt8 → Int → Prop} (h : yo8 K (val a * 2 ^ n.toNat)) : zav a n K := by
 refine yms a n hn K (fun hh => absurd ha hh) (fun _ hh => by omega) ?_ ?_ ?_
 ·rintro _ _ rfl
  rw [yfK, Nat.zero_mul, yeS, yaN, if_pos (by unfold fit; rw [yaN]; decide)] at h
  exact h
 ·intro _ _ h1 h2
  rw [yeS, if_neg (by rw [ye7 ((yft ha).2 h1)]; omega)] at h
  exact h
 ·intro _ _ h1 h2
  rw [yeS, if_pos (by rw [ye7 ((yft ha).2 h1)]; omega)] at h
  exact h
theorem yoa {a : List UInt8} (n : Int) (h0 : 0 ≤ n) (hn : n < 9223372036854775808) (ha : May a) {K : List UInt8 → Int → Prop} (h : yo8 K (val a * 2 ^ n.toNat)) : zci a n K := by
 refine ynb a n hn ha K (fun hh => by omega) ?_ ?_ ?_
 ·rintro _ rfl
  rw [yfK, Nat.zero_mul, yeS, yaN, if_pos (by unfold fit; rw [yaN]; decide)] at h
  exact h
 ·intro _ h1 h2
  rw [yeS, if_neg (by rw [ye7 ((yft ha).2 h1)]; omega)] at h
  exact h
 ·intro _ h1 h2
  rw [yeS, if_pos (by rw [ye7 ((yft ha).2 h1)]; omega)] at h
  exact h
theorem yhX {a : List UInt8} (n : Nat) (hn : (n : Int) < 9223372036854775808) (ha : May a) (hne : a ≠ []) {K : List UInt8 → Bool → Int → Prop} (h : K (nb (val a / 2 ^ n)) (decide (ybG (val a) < n)) 0) : zay a n K := by
 refine ylA a n hn K (fun hh => absurd ha hh) (fun _ hh => by omega) (fun _ _ hh => absurd hh hne) ?_
 intro _ _ _
 rw [show decide ((ybG (val a) : Int) < (n : Int)) = decide (ybG (val a) < n) from by rw [decide_eq_decide]; omega]
 exact h
theorem yh5 {a : List UInt8} (n : Nat) (hn : (n : Int) < 9223372036854775808) (ha : May a) (hne : a ≠ []) {K : List UInt8 → Bool → Int → Prop} (h : K (nb (val a / 2 ^ n)) (decide (ybG (val a) < n)) 0) : zcn a n K := by
 refine ygk a n hn ha K (fun hh => by omega) (fun _ hh => absurd hh hne) ?_
 intro _ _
 rw [show decide ((ybG (val a) : Int) < (n : Int)) = decide (ybG (val a) < n) from by rw [decide_eq_decide]; omega]
 exact h
theorem ygS {a : List UInt8} (ha : May a) (h : val a ≠ 0) : ybG (val a) < 131072 := by
 have h1 := yjK _ _ h (ybd a)
 have := ha.1; omega
theorem yj0 (a : List UInt8) (h : a ≠ []) : eqI (ymf .u8 (ybj a (a.length - 1)) 1) 1 = decide (val a % 2 = 1) := by
 have hl : 0 < a.length := List.length_pos_iff.2 h
 have := yfq a 0 hl
 rw [Nat.sub_zero] at this
 rw [this]
 unfold dg
 rw [Nat.mul_zero, Nat.pow_zero, Nat.div_one]
 have hb : val a % 2 ^ 8 < 256 := Nat.mod_lt _ (by decide)
 have e : val a % 2 = (val a % 2 ^ 8) % 2 := by rw [show (2 : Nat) ^ 8 = 256 from rfl]; omega
 rw [e]
 generalize val a % 2 ^ 8 = v at hb
 revert v
 decide
theorem ygt (a : List UInt8) (K : Bool → Prop) (hl : a.length < 9223372036854775808) (h : K (decide (val a % 2 = 1))) : zai a K := by
 rw [zai.is]; unfold zai.d
 rw [ya9]
 by_cases h0 : a = []
 ·subst h0
  rw [yau (by rfl)]; exact h
 ·have hp : 0 < a.length := List.length_pos_iff.2 h0
  rw [yaB (by simp [h0]), yap (by omega) (by omega), ya4 (by omega), yaS (by omega), ybv (by rfl), show Int.toNat ((a.length : Int) - 1) = a.length - 1 from by omega, yj0 a h0]
  exact h
theorem yjo (a : List UInt8) (K : Bool → Prop) (hl : a.length < 9223372036854775808) (h : K (decide (val a % 2 = 1))) : zdc a K := by
 rw [zdc.is]; unfold zdc.d
 rw [ya9]
 by_cases h0 : a = []
 ·subst h0
  rw [yau (by rfl)]; exact h
 ·have hp : 0 < a.length := List.length_pos_iff.2 h0
  rw [yaB (by simp [h0]), yap (by omega) (by omega), ya4 (by omega), yaS (by omega), ybv (by rfl), show Int.toNat ((a.length : Int) - 1) = a.length - 1 from by omega, yj0 a h0]
  exact h
def win (e : Int) : Prop := -1048576 ≤ e ∧ e ≤ 1048576
instance (e : Int) : Decidable (win e) := by unfold win; infer_instance
theorem ycS (e : Int) (K : Bool → Prop) (h : K (decide (win e))) : zak e K := by
 rw [zak.is]; unfold zak.d
 by_cases h1 : -1048576 ≤ e
 ·rw [yaB (ya4 h1)]
  refine cast (congrArg K ?_) h
  unfold leI
  rw [decide_eq_decide]; unfold win; omega
 ·rw [yau (yes (by omega))]
  refine cast (congrArg K ?_) h
  rw [decide_eq_false_iff_not]; unfold win; omega
theorem yp5 {e : Int} {p q : Prop} (h1 : ¬ win e → p) (h2 : win e → q) : br (ltI e (-1048576)) p (br (ltI 1048576 e) p q) := by
 by_cases c1 : e < -1048576
 ·rw [yaB (yaS c1)]; exact h1 (by unfold win; omega)
 ·rw [yau (ya1 (by omega))]
  by_cases c2 : 1048576 < e
  ·rw [yaB (yaS c2)]; exact h1 (by unfold win; omega)
  ·rw [yau (ya1 (by omega))]; exact h2 (by unfold win; omega)
structure MayE (n : Bool) (a b : List UInt8) (e : Int) : Prop where
 ma : May a
 mb : May b
 ob : val b % 2 = 1
 we : win e
 z : a = [] → n = false ∧ b = [1] ∧ e = 0
 r : a ≠ [] → val a % 2 = 1 ∧ Nat.gcd (val a) (val b) = 1
theorem ydl : nb 1 = [1] := by rw [yed (by decide), yaN]; decide
theorem yfL (g : Nat) : eqS (nb g) [1] = decide (g = 1) := by
 rw [yjI, decide_eq_decide, ← ydl]
 exact ⟨fun h => ytl h, fun h => by rw [h]⟩
noncomputable instance (n : Bool) (a b : List UInt8) (e : Int) : Decidable (MayE n a b e) := Classical.propDecidable _
theorem yfr (K : Bool → List UInt8 → List UInt8 → Int → Prop) : zah K = K false [] [1] 0 := by rw [zah.is]; rfl
theorem yhY (K : Bool → List UInt8 → List UInt8 → Int → Prop) : zda K = K false [] [1] 0 := by rw [zda.is]; rfl
theorem ypY (n : Bool) (b : List UInt8) (e : Int) : (ydd n false && (eqS [] [] && (eqS b [1] && eqI e 0))) = decide (n = false ∧ b = [1] ∧ e = 0) := by
 rw [yjI, yjI]
 cases n
 ·by_cases h1 : b = [1]
  ·by_cases h2 : e = 0
   ·simp [h1, h2, ydd, eqI]
   ·simp [h1, h2, ydd, eqI]
  ·simp [h1, ydd]
 ·simp [ydd]
theorem ybb (n : Bool) (a b : List UInt8) (e : Int) (K : Int → Prop) (h1 : MayE n a b e → K 0) (h2 : ¬ MayE n a b e → K 2) : zad n a b e K := by
 rw [zad.is]; unfold zad.d
 rw [yaW]
 by_cases ma : May a
 rotate_left
 ·rw [if_neg ma]; exact h2 fun h => ma h.ma
 rw [if_pos ma, yau (by rfl), yaW]
 by_cases mb : May b
 rotate_left
 ·rw [if_neg mb]; exact h2 fun h => mb h.mb
 rw [if_pos mb, yau (by rfl)]
 have la := ma.1
 have lb := mb.1
 refine ygt b _ (by omega) ?_
 by_cases ob : val b % 2 = 1
 rotate_left
 ·rw [show decide (val b % 2 = 1) = false from by simpa using ob]; exact h2 fun h => ob h.ob
 rw [show decide (val b % 2 = 1) = true from by simpa using ob, yau (by rfl)]
 refine ycS e _ ?_
 by_cases we : win e
 rotate_left
 ·rw [show decide (win e) = false from by simpa using we]; exact h2 fun h => we h.we
 rw [show decide (win e) = true from by simpa using we, yau (by rfl), ya9]
 by_cases ha : a = []
 ·subst ha
  rw [yaB (by rfl), yfr, ypY]
  by_cases hz : n = false ∧ b = [1] ∧ e = 0
  ·rw [yau (by simp [hz])]; exact h1 ⟨ma, mb, ob, we, fun _ => hz, fun h => absurd rfl h⟩
  ·rw [yaB (by simp only [hz, decide_false]; rfl)]; exact h2 fun h => hz (h.z rfl)
 ·rw [yau (by simpa using ha)]
  refine yjx a b _ (fun h => absurd ⟨ma, mb⟩ h) fun _ _ => ?_
  refine ygt a _ (by omega) ?_
  by_cases oa : val a % 2 = 1
  rotate_left
  ·rw [show decide (val a % 2 = 1) = false from by simpa using oa]; exact h2 fun h => oa (h.r ha).1
  rw [show decide (val a % 2 = 1) = true from by simpa using oa, yau (by rfl), yfL]
  by_cases hg : Nat.gcd (val a) (val b) = 1
  ·rw [yau (by simp [hg])]; exact h1 ⟨ma, mb, ob, we, fun h => absurd h ha, fun _ => ⟨oa, hg⟩⟩
  ·rw [yaB (by simp [hg])]; exact h2 fun h => hg (h.r ha).2
theorem yf6 (n : Bool) (a b : List UInt8) (e : Int) (K : Bool → Prop) (h1 : MayE n a b e → K true) (h2 : ¬ MayE n a b e → K false) : zcz n a b e K := by
 rw [zcz.is]; unfold zcz.d
 rw [yci]
 by_cases ma : May a
 rotate_left
 ·rw [show decide (May a) = false from by simpa using ma]; exact h2 fun h => ma h.ma
 rw [show decide (May a) = true from by simpa using ma, yau (by rfl), yci]
 by_cases mb : May b
 rotate_left
 ·rw [show decide (May b) = false from by simpa using mb]; exact h2 fun h => mb h.mb
 rw [show decide (May b) = true from by simpa using mb, yau (by rfl)]
 have la := ma.1
 have lb := mb.1
 refine yjo b _ (by omega) ?_
 by_cases ob : val b % 2 = 1
 rotate_left
 ·rw [show decide (val b % 2 = 1) = false from by simpa using ob]; exact h2 fun h => ob h.ob
 rw [show decide (val b % 2 = 1) = true from by simpa using ob, yau (by rfl)]
 refine yp5 (fun we => h2 fun h => we h.we) fun we => ?_
 rw [ya9]
 by_cases ha : a = []
 ·subst ha
  rw [yaB (by rfl), yhY, ypY]
  by_cases hz : n = false ∧ b = [1] ∧ e = 0
  ·rw [show decide (n = false ∧ b = [1] ∧ e = 0) = true from by simpa using hz]; exact h1 ⟨ma, mb, ob, we, fun _ => hz, fun h => absurd rfl h⟩
  ·rw [show decide (n = false ∧ b = [1] ∧ e = 0) = false from decide_eq_false hz]; exact h2 fun h => hz (h.z rfl)
 ·rw [yau (by simpa using ha)]
  refine yjo a _ (by omega) ?_
  by_cases oa : val a % 2 = 1
  rotate_left
  ·rw [show decide (val a % 2 = 1) = false from by simpa using oa]; exact h2 fun h => oa (h.r ha).1
  rw [show decide (val a % 2 = 1) = true from by simpa using oa, yaB rfl]
  refine yi8 a b ma mb _ ?_
  rw [yfL]
  by_cases hg : Nat.gcd (val a) (val b) = 1
  ·rw [show decide (Nat.gcd (val a) (val b) = 1) = true from by simpa using hg]; exact h1 ⟨ma, mb, ob, we, fun h => absurd h ha, fun _ => ⟨oa, hg⟩⟩
  ·rw [show decide (Nat.gcd (val a) (val b) = 1) = false from by simpa using hg]; exact h2 fun h => hg (h.r ha).2
def odp (a : Nat) : Nat := a / 2 ^ ybG a
def rdA (a b : Nat) : Nat := odp a / Nat.gcd (odp a) (odp b)
def rdB (a b : Nat) : Nat := odp b / Nat.gcd (odp a) (odp b)
def rdE (a b : Nat) (e : Int) : Int := e + ((ybG a : Int) - ybG b)
def mkE (n : Bool) (a b : Nat) (e : Int) (K : Bool → List UInt8 → List UInt8 → Int → Int → Prop) : Prop :=
 if a = 0 then K false [] [1] 0 0 else if win (rdE a b e) then K n (nb (rdA a b)) (nb (rdB a b)) (rdE a b e) 0 else K false [] [] 0 4
theorem yhW {x : Nat} (h : fit x) (d : Nat) : fit (x / d) := ydV h (Nat.div_le_self x d)
theorem ynO {a : Nat} (h : a ≠ 0) : a = 2 ^ ybG a * odp a ∧ odp a % 2 = 1 := by
 obtain ⟨q, hq⟩ := yd9 a h
 have e : odp a = 2 * q + 1 := by
  unfold odp
  exact Nat.div_eq_of_eq_mul_right (Nat.two_pow_pos _) hq
 rw [e]
 exact ⟨hq, by omega⟩
theorem ymc {a : Nat} (h : a ≠ 0) : odp a ≠ 0 := by have := (ynO h).2; omega
theorem yjH (n : Bool) (x y : List UInt8) (e : Int) (K : Bool → List UInt8 → List UInt8 → Int → Int → Prop) (h1 : ¬ (May x ∧ May y ∧ y ≠ [] ∧ win e) → K false [] [] 0 2)
  (h2 : May x → May y → y ≠ [] → win e → mkE n (val x) (val y) e K) : zaf n x y e K := by
 rw [zaf.is]; unfold zaf.d
 rw [yaW]
 by_cases mx : May x
 rotate_left
 ·rw [if_neg mx]; exact h1 fun h => mx h.1
 rw [if_pos mx, yau (by rfl), yaW]
 by_cases my : May y
 rotate_left
 ·rw [if_neg my]; exact h1 fun h => my h.2.1
 rw [if_pos my, yau (by rfl), ya9]
 by_cases hy : y = []
 ·rw [yaB (by simpa using hy)]; exact h1 fun h => h.2.2.1 hy
 rw [yau (by simpa using hy)]
 refine ycS e _ ?_
 by_cases we : win e
 rotate_left
 ·rw [show decide (win e) = false from by simpa using we]; exact h1 fun h => we h.2.2.2
 rw [show decide (win e) = true from by simpa using we, yau (by rfl), ya9]
 have h2 := h2 mx my hy we
 unfold mkE at h2
 by_cases hx : x = []
 ·rw [yaB (by simpa using hx), yfr]
  rw [if_pos (by rw [hx]; rfl)] at h2; exact h2
 rw [yau (by simpa using hx)]
 have nx := (yft mx).2 hx
 have ny := (yft my).2 hy
 rw [if_neg nx] at h2
 refine yey x _ ?_
 refine yey y _ ?_
 rw [if_pos mx, if_pos my]
 have bx := ygS mx nx
 have by' := ygS my ny
 refine yhX _ (by omega) mx hx ?_
 refine yhX _ (by omega) my hy ?_
 have fx : fit (odp (val x)) := yhW (yfS mx) _
 have fy : fit (odp (val y)) := yhW (yfS my) _
 refine yjx _ _ _ (fun h => absurd ⟨ya3 fx, ya3 fy⟩ h) fun _ _ => ?_
 rw [yax, yax]
 show br (!eqS (nb (Nat.gcd (odp (val x)) (odp (val y)))) [1]) _ _
 rw [yfL]
 have we' := we
 unfold win at we'
 have ee : yaj .i64 e (yaq .i64 (ybG (val x) : Int) (ybG (val y) : Int)) = rdE (val x) (val y) e := by
  unfold rdE
  rw [yap (by omega) (by omega), yan (by omega) (by omega)]
 rw [ee]
 have gne : Nat.gcd (odp (val x)) (odp (val y)) ≠ 0 := by
  intro h0; exact ymc nx (Nat.gcd_eq_zero_iff.1 h0).1
 have fin : ∀ p q, p = nb (rdA (val x) (val y)) → q = nb (rdB (val x) (val y)) → zak (rdE (val x) (val y) e) fun y0_7 => br (!y0_7) (K false [] [] 0 4) (K n p q (rdE (val x) (val y) e) 0) := by
  rintro p q rfl rfl
  refine ycS _ _ ?_
  by_cases w : win (rdE (val x) (val y) e)
  ·rw [if_pos w] at h2
   rw [show decide (win (rdE (val x) (val y) e)) = true from by simpa using w]; exact h2
  ·rw [if_neg w] at h2
   rw [show decide (win (rdE (val x) (val y) e)) = false from by simpa using w]; exact h2
 by_cases hg : Nat.gcd (odp (val x)) (odp (val y)) = 1
 ·rw [yau (by simp [hg])]
  refine fin _ _ ?_ ?_
  ·unfold rdA; rw [hg, Nat.div_one]; rfl
  ·unfold rdB; rw [hg, Nat.div_one]; rfl
 ·rw [yaB (by simp [hg])]
  have fg : fit (Nat.gcd (odp (val x)) (odp (val y))) := ydV fx (Nat.gcd_le_left _ (Nat.pos_of_ne_zero (ymc nx)))
  refine yfN _ _ _ (fun h => absurd ⟨ya3 fx, ya3 fg⟩ h) (fun h => absurd h (ylp gne)) fun _ _ _ => ?_
  refine yfN _ _ _ (fun h => absurd ⟨ya3 fy, ya3 fg⟩ h) (fun h => absurd h (ylp gne)) fun _ _ _ => ?_
  refine fin _ _ ?_ ?_
  ·rw [yax, yax]; rfl
  ·rw [yax, yax]; rfl
theorem ym9 (n : Bool) (x y : List UInt8) (e : Int) (K : Bool → List UInt8 → List UInt8 → Int → Int → Prop) (h1 : ¬ (May x ∧ May y ∧ y ≠ [] ∧ win e) → K false [] [] 0 2)
  (h2 : May x → May y → y ≠ [] → win e → mkE n (val x) (val y) e K) : zcy n x y e K := by
 rw [zcy.is]; unfold zcy.d
 rw [yci]
 by_cases mx : May x
 rotate_left
 ·rw [show decide (May x) = false from by simpa using mx]; exact h1 fun h => mx h.1
 rw [show decide (May x) = true from by simpa using mx, yau (by rfl), yci]
 by_cases my : May y
 rotate_left
 ·rw [show decide (May y) = false from by simpa using my]; exact h1 fun h => my h.2.1
 rw [show decide (May y) = true from by simpa using my, yau (by rfl), ya9]
 by_cases hy : y = []
 ·rw [yaB (by simpa using hy)]; exact h1 fun h => h.2.2.1 hy
 rw [yau (by simpa using hy)]
 refine yp5 (fun we => h1 fun h => we h.2.2.2) fun we => ?_
 rw [ya9]
 have h2 := h2 mx my hy we
 unfold mkE at h2
 by_cases hx : x = []
 ·rw [yaB (by simpa using hx), yhY]
  rw [if_pos (by rw [hx]; rfl)] at h2; exact h2
 rw [yau (by simpa using hx)]
 have nx := (yft mx).2 hx
 have ny := (yft my).2 hy
 rw [if_neg nx] at h2
 refine yf3 x _ ?_
 refine yf3 y _ ?_
 rw [if_pos mx, if_pos my]
 have bx := ygS mx nx
 have by' := ygS my ny
 refine yh5 _ (by omega) mx hx ?_
 refine yh5 _ (by omega) my hy ?_
 have fx : fit (odp (val x)) := yhW (yfS mx) _
 have fy : fit (odp (val y)) := yhW (yfS my) _
 refine yi8 _ _ (ya3 fx) (ya3 fy) _ ?_
 rw [yax, yax]
 show br (!eqS (nb (Nat.gcd (odp (val x)) (odp (val y)))) [1]) _ _
 rw [yfL]
 have we' := we
 unfold win at we'
 have ee : yaq .i64 (yaj .i64 e (ybG (val x) : Int)) (ybG (val y) : Int) = rdE (val x) (val y) e := by
  unfold rdE
  rw [yan (by omega) (by omega), yap (by omega) (by omega)]; omega
 rw [ee]
 have gne : Nat.gcd (odp (val x)) (odp (val y)) ≠ 0 := by
  intro h0; exact ymc nx (Nat.gcd_eq_zero_iff.1 h0).1
 have fin : ∀ p q, p = nb (rdA (val x) (val y)) → q = nb (rdB (val x) (val y)) → br (ltI (rdE (val x) (val y) e) (-1048576)) (K false [] [] 0 4) (br (ltI 1048576 (rdE (val x) (val y) e)) (K false [] [] 0 4) (K n p q (rdE (val x) (val y) e) 0)) := by
  rintro p q rfl rfl
  refine yp5 (fun w => ?_) fun w => ?_
  ·rw [if_neg w] at h2; exact h2
  ·rw [if_pos w] at h2; exact h2
 by_cases hg : Nat.gcd (odp (val x)) (odp (val y)) = 1
 ·rw [yau (by simp [hg])]
  refine fin _ _ ?_ ?_
  ·unfold rdA; rw [hg, Nat.div_one]; rfl
  ·unfold rdB; rw [hg, Nat.div_one]; rfl
 ·rw [yaB (by simp [hg])]
  have fg : fit (Nat.gcd (odp (val x)) (odp (val y))) := ydV fx (Nat.gcd_le_left _ (Nat.pos_of_ne_zero (ymc nx)))
  refine yew _ _ (ya3 fx) (ya3 fg) _ (fun h => absurd h (ylp gne)) fun _ => ?_
  refine yew _ _ (ya3 fy) (ya3 fg) _ (fun h => absurd h (ylp gne)) fun _ => ?_
  refine fin _ _ ?_ ?_
  ·rw [yax, yax]; rfl
  ·rw [yax, yax]; rfl
end Go.Ev.S

/- Exact numbers as rational ones. -/
set_option linter.unusedVariables false
set_option linter.unusedSimpArgs false
set_option maxRecDepth 8000
namespace Go.Ev.S
open Go Go.Ev
def p2 (e : Int) : Rat := (2 : Rat) ^ e
theorem yto : (2 : Rat) ≠ 0 := by decide
theorem yeI (e : Int) : 0 < p2 e := Rat.zpow_pos (by decide)
theorem yeE (a b : Int) : p2 (a + b) = p2 a * p2 b := Rat.zpow_add yto a b
theorem yeC (n : Nat) : p2 (n : Int) = ((2 ^ n : Nat) : Rat) := by
 unfold p2; rw [Rat.zpow_natCast, Rat.natCast_pow]; rfl
theorem ypN : p2 0 = 1 := Rat.zpow_zero 2
theorem ytv : p2 1 = 2 := by have := yeC 1; rw [show ((1 : Nat) : Int) = 1 from rfl] at this; rw [this]; rfl
def sR (n : Bool) : Rat := if n then -1 else 1
def V (n : Bool) (a b : Nat) (e : Int) : Rat := sR n * ((a : Rat) / (b : Rat)) * p2 e
theorem ykg {b : Nat} (h : b ≠ 0) : 0 < (b : Rat) := Rat.natCast_pos.2 (by omega)
theorem ysQ {b : Nat} (h : b ≠ 0) : (b : Rat) ≠ 0 := by have := ykg h; grind
theorem ysN (n : Bool) (a b : Nat) (e : Int) (hb : b ≠ 0) : V n a b e * b = sR n * a * p2 e := by
 have := ysQ hb
 unfold V; grind
end Go.Ev.S

/- Exact numbers added, multiplied, compared, measured: the document's. -/
set_option linter.unusedVariables false
set_option linter.unusedSimpArgs false
set_option maxRecDepth 8000
namespace Go.Ev.S
open Go Go.Ev
structure Can (n : Bool) (a b : Nat) (e : Int) : Prop where
 fa : fit a
 fb : fit b
 ob : b % 2 = 1
 we : win e
 z : a = 0 → n = false ∧ b = 1 ∧ e = 0
 r : a ≠ 0 → a % 2 = 1 ∧ Nat.gcd a b = 1
theorem MayE.can {n : Bool} {x y : List UInt8} {e : Int} (h : MayE n x y e) : ∃ a b, x = nb a ∧ y = nb b ∧ Can n a b e := by
 refine ⟨val x, val y, (ylR h.ma).symm, (ylR h.mb).symm, yfS h.ma, yfS h.mb, h.ob, h.we, ?_, ?_⟩
 ·intro h0
  have hx : x = [] := by rw [← ylR h.ma, h0, yaN]
  obtain ⟨h1, h2, h3⟩ := h.z hx
  exact ⟨h1, by rw [h2]; decide, h3⟩
 ·intro h0; exact h.r ((yft h.ma).1 h0)
theorem nb_nil {a : Nat} : nb a = [] ↔ a = 0 := by
 constructor
 ·intro h; rw [← yax a, h, yfK]
 ·rintro rfl; exact yaN
theorem Can.may {n : Bool} {a b : Nat} {e : Int} (h : Can n a b e) : MayE n (nb a) (nb b) e := by
 refine ⟨ya3 h.fa, ya3 h.fb, by rw [yax]; exact h.ob, h.we, ?_, ?_⟩
 ·intro h0
  obtain ⟨h1, h2, h3⟩ := h.z (nb_nil.1 h0)
  exact ⟨h1, by rw [h2]; exact ydl, h3⟩
 ·intro h0
  rw [yax, yax]; exact h.r fun h1 => h0 (nb_nil.2 h1)
theorem Can.b0 {n : Bool} {a b : Nat} {e : Int} (h : Can n a b e) : b ≠ 0 := by have := h.ob; omega
theorem Can.e64 {n : Bool} {a b : Nat} {e : Int} (h : Can n a b e) : -1048576 ≤ e ∧ e ≤ 1048576 := h.we
theorem ybD (a : Nat) : eqS (nb a) [] = decide (a = 0) := by rw [ya9, decide_eq_decide]; exact nb_nil
theorem yf8 {a : Nat} (n : Int) (h0 : 0 ≤ n) (hn : n < 9223372036854775808) (ha : fit a) {K : List UInt8 → Int → Prop} (h : yo8 K (a * 2 ^ n.toNat)) : zci (nb a) n K := by
 refine yoa n h0 hn (ya3 ha) ?_; rw [yax]; exact h
theorem yer {a : Nat} (n : Int) (h0 : 0 ≤ n) (hn : n < 9223372036854775808) (ha : fit a) {K : List UInt8 → Int → Prop} (h : yo8 K (a * 2 ^ n.toNat)) : zav (nb a) n K := by
 refine yov n h0 hn (ya3 ha) ?_; rw [yax]; exact h
theorem yls (a b : Nat) (K : Int → Prop) : zcf (nb a) (nb b) K = K (sgn a b) := by rw [yeo _ _ (yeQ a) (yeQ b), yax, yax]
theorem ylD {a b : Nat} (ha : fit a) (hb : fit b) {K : Int → Int → Prop} (h : K (sgn a b) 0) : zas (nb a) (nb b) K := by
 refine yoP _ _ K (fun hn => absurd ⟨ya3 ha, ya3 hb⟩ hn) fun _ _ => ?_
 rw [yax, yax]; exact h
theorem ymW {a : Nat} (h : fit a) : (nb a).length ≤ 16384 := h
theorem yqn {a b : Nat} (ha : fit a) (hb : fit b) {K : List UInt8 → Int → Prop} (h : yo8 K (a + b)) : zce (nb a) (nb b) K := by
 have h1 := ymW ha
 have h2 := ymW hb
 refine yox _ _ (by omega) (by omega) K ?_; rw [yax, yax]; exact h
theorem yqg {a b : Nat} (ha : fit a) (hb : fit b) {K : List UInt8 → Int → Prop} (h : yo8 K (a + b)) : zaq (nb a) (nb b) K := by
 refine yoo _ _ K (fun hn => absurd ⟨ya3 ha, ya3 hb⟩ hn) fun _ _ => ?_; rw [yax, yax]; exact h
theorem ykQ {a b : Nat} (ha : fit a) (hb : fit b) (h0 : b ≠ 0) {K : List UInt8 → List UInt8 → Int → Prop} (h : K (nb (a / b)) (nb (a % b)) 0) : zcg (nb a) (nb b) K := by
 refine yew _ _ (ya3 ha) (ya3 hb) K (fun hh => absurd (nb_nil.1 hh) h0) fun _ => ?_; rw [yax, yax]; exact h
theorem ylk {a b : Nat} (ha : fit a) (hb : fit b) (h0 : b ≠ 0) {K : List UInt8 → List UInt8 → Int → Prop} (h : K (nb (a / b)) (nb (a % b)) 0) : zat (nb a) (nb b) K := by
 refine yfN _ _ K (fun hn => absurd ⟨ya3 ha, ya3 hb⟩ hn) (fun hh => absurd (nb_nil.1 hh) h0) fun _ _ _ => ?_; rw [yax, yax]; exact h
theorem yhq {a : Nat} (ha : fit a) {K : Int → Prop} (h : K (yav a)) : zcj (nb a) K := by
 refine yds _ K ?_; rw [if_pos (ya3 ha), yax]; exact h
theorem yfy {a : Nat} (ha : fit a) {K : Int → Prop} (h : K (yav a)) : zaw (nb a) K := by
 refine yf2 _ K ?_; rw [if_pos (ya3 ha), yax]; exact h
theorem yoF (n : Bool) {a b : Nat} {e : Int} (ha : fit a) (hb : fit b) (h0 : b ≠ 0) (we : win e) {K : Bool → List UInt8 → List UInt8 → Int → Int → Prop} (h : mkE n a b e K) : zcy n (nb a) (nb b) e K := by
 refine ym9 n _ _ e K (fun hn => absurd ⟨ya3 ha, ya3 hb, ylp h0, we⟩ hn) fun _ _ _ _ => ?_; rw [yax, yax]; exact h
theorem ylv (n : Bool) {a b : Nat} {e : Int} (ha : fit a) (hb : fit b) (h0 : b ≠ 0) (we : win e) {K : Bool → List UInt8 → List UInt8 → Int → Int → Prop} (h : mkE n a b e K) : zaf n (nb a) (nb b) e K := by
 refine yjH n _ _ e K (fun hn => absurd ⟨ya3 ha, ya3 hb, ylp h0, we⟩ hn) fun _ _ _ _ => ?_; rw [yax, yax]; exact h
def lv (a bd : Nat) (ae n : Int) : Nat := a * bd * 2 ^ (ae - n).toNat
section
variable {n1 n2 : Bool} {a1 b1 a2 b2 : Nat} {e1 e2 : Int}
theorem ysM (a b : Nat) : leI 0 (sgn a b) = decide (b ≤ a) := by
 unfold sgn leI
 rw [decide_eq_decide]
 (repeat' split) <;> omega
theorem yfJ {c : Prop} [Decidable c] {p q : Prop} (h1 : c → p) (h2 : ¬ c → q) : br (decide c) p q := by
 by_cases h : c
 ·rw [yaB (by simpa using h)]; exact h1 h
 ·rw [yau (by simpa using h)]; exact h2 h
theorem ydb {c : Prop} [Decidable c] {p q : Prop} (h1 : ¬ c → p) (h2 : c → q) : br (!decide c) p q := by
 by_cases h : c
 ·rw [yau (by simpa using h)]; exact h2 h
 ·rw [yaB (by simpa using h)]; exact h1 h
end
end Go.Ev.S

/- Exact numbers scaled, measured, cut: the document's. -/
set_option linter.unusedVariables false
set_option linter.unusedSimpArgs false
set_option maxRecDepth 8000
namespace Go.Ev.S
open Go Go.Ev
def tp (a b : Nat) : Int :=
 if yav b ≤ yav a then (if b * 2 ^ (yav a - yav b) ≤ a then ((yav a - yav b : Nat) : Int) else ((yav a - yav b : Nat) : Int) - 1)
 else (if b ≤ a * 2 ^ (yav b - yav a) then -((yav b - yav a : Nat) : Int) else -((yav b - yav a : Nat) : Int) - 1)
theorem ydw {a : Nat} (h : fit a) : yav a ≤ 131072 := (yn3 a).1 h
theorem ynS {a b : Nat} (ha : fit a) (hb : b ≠ 0) (hl : yav b ≤ yav a) : fit (b * 2 ^ (yav a - yav b)) := by
 rw [yn3, yg2 _ _ hb]; have := ydw ha; omega
theorem yqv (a b : Nat) : (!leI 0 (sgn a b)) = !decide (b ≤ a) := by rw [ysM]
theorem ypT (a b : Nat) : ltI (sgn a b) 0 = !decide (b ≤ a) := by
 unfold sgn ltI
 by_cases h : b ≤ a
 ·(repeat' split) <;> simp <;> omega
 ·rw [if_pos (by omega)]; simp; omega
theorem yeD {a : Nat} (n : Int) (h0 : 0 ≤ n) (hn : n < 9223372036854775808) (ha : fit a) {K : List UInt8 → Prop} (hf : fit (a * 2 ^ n.toNat)) (h : K (nb (a * 2 ^ n.toNat))) : zdd (nb a) n K := by
 rw [zdd.is]; unfold zdd.d
 exact yf8 n h0 hn ha (ydz (fun _ => h) fun hh => absurd hf hh)
theorem yf1 (n : Bool) {a b : Nat} {e : Int} (c : Can n a b e) (K : Int → Int → Prop) (h1 : a = 0 → K 0 2) (h2 : a ≠ 0 → K (tp a b + e) 0) : zdb n (nb a) (nb b) e K := by
 have w := c.e64
 have la := ydw c.fa
 have lb := ydw c.fb
 rw [zdb.is]; unfold zdb.d
 rw [ybD]
 refine yfJ h1 fun h0 => ?_
 have h2 := h2 h0
 refine yhq c.fa ?_
 refine yhq c.fb ?_
 rw [yap (by omega) (by omega)]
 unfold tp at h2
 by_cases hl : yav b ≤ yav a
 ·rw [if_pos hl] at h2
  rw [yaB (ya4 (by omega))]
  have et : ((yav a : Int) - yav b).toNat = yav a - yav b := by omega
  have hf := ynS c.fa c.b0 hl
  refine yeD _ (by omega) (by omega) c.fb (by rw [et]; exact hf) ?_
  rw [et, yls, yqv]
  refine ydb (fun h3 => ?_) fun h3 => ?_
  ·rw [if_neg h3] at h2
   rw [yap (by omega) (by omega), yan (by omega) (by omega), show ((yav a : Int) - yav b - 1 + e) = ((yav a - yav b : Nat) : Int) - 1 + e from by omega]; exact h2
  ·rw [if_pos h3] at h2
   rw [yan (by omega) (by omega), show ((yav a : Int) - yav b + e) = ((yav a - yav b : Nat) : Int) + e from by omega]; exact h2
 ·rw [if_neg hl] at h2
  rw [yau (yes (by omega))]
  have en : yrx .i64 ((yav a : Int) - yav b) = (yav b : Int) - yav a := by
   show IntKind.wrap .i64 _ = _
   rw [yde (by omega) (by omega)]; omega
  have et : ((yav b : Int) - yav a).toNat = yav b - yav a := by omega
  have hf := ynS c.fb h0 (show yav a ≤ yav b by omega)
  rw [en]
  refine yeD _ (by omega) (by omega) c.fa (by rw [et]; exact hf) ?_
  rw [et, yls, yqv]
  refine ydb (fun h3 => ?_) fun h3 => ?_
  ·rw [if_neg h3] at h2
   rw [yap (by omega) (by omega), yan (by omega) (by omega), show ((yav a : Int) - yav b - 1 + e) = -((yav b - yav a : Nat) : Int) - 1 + e from by omega]; exact h2
  ·rw [if_pos h3] at h2
   rw [yan (by omega) (by omega), show ((yav a : Int) - yav b + e) = -((yav b - yav a : Nat) : Int) + e from by omega]; exact h2
theorem ykk (a n : Nat) : yav a ≤ n ↔ a < 2 ^ n := yaP a n
theorem ykE {a : Nat} (h : a ≠ 0) : 2 ^ (yav a - 1) ≤ a := by
 have h1 : ¬ yav a ≤ yav a - 1 := by
  have : 0 < yav a := by unfold yav; rw [if_neg h]; omega
  omega
 rw [ykk] at h1; omega
theorem ym4 {a b : Nat} (ha : a ≠ 0) (hb : b ≠ 0) : (0 ≤ tp a b → b * 2 ^ (tp a b).toNat ≤ a ∧ a < b * 2 ^ ((tp a b).toNat + 1)) ∧ (tp a b < 0 → b ≤ a * 2 ^ (-tp a b).toNat ∧ a * 2 ^ ((-tp a b).toNat - 1) < b) := by
 have a1 := ykE ha
 have a2 := (ykk a _).1 (Nat.le_refl _)
 have b1 := ykE hb
 have b2 := (ykk b _).1 (Nat.le_refl _)
 have pa : 0 < yav a := by unfold yav; rw [if_neg ha]; omega
 have pb : 0 < yav b := by unfold yav; rw [if_neg hb]; omega
 unfold tp
 by_cases hl : yav b ≤ yav a
 ·rw [if_pos hl]
  obtain ⟨d, hd⟩ : ∃ d, d = yav a - yav b := ⟨_, rfl⟩
  rw [← hd]
  -- a < b 2^(d+1)
  have h1 : a < b * 2 ^ (d + 1) := by
   have : 2 ^ (yav b - 1) * 2 ^ (d + 1) ≤ b * 2 ^ (d + 1) := Nat.mul_le_mul_right _ b1
   rw [← Nat.pow_add, show yav b - 1 + (d + 1) = yav a from by omega] at this
   omega
  by_cases h2 : b * 2 ^ d ≤ a
  ·rw [if_pos h2]
   refine ⟨fun _ => ?_, fun h => by omega⟩
   rw [show ((d : Int)).toNat = d from by omega]
   exact ⟨h2, h1⟩
  ·rw [if_neg h2]
   rcases Nat.eq_zero_or_pos d with h0 | h0
   ·refine ⟨fun h => by omega, fun _ => ?_⟩
    rw [h0] at h2 ⊢
    rw [show (-(((0 : Nat) : Int) - 1)).toNat = 1 from by omega, Nat.sub_self]
    refine ⟨?_, by omega⟩
    have : b < a * 2 := by
     have : 2 ^ (yav a - 1) * 2 ≤ a * 2 := Nat.mul_le_mul_right _ a1
     rw [← Nat.pow_succ, show (yav a - 1).succ = yav b from by omega] at this
     omega
    omega
   ·refine ⟨fun _ => ?_, fun h => by omega⟩
    rw [show ((d : Int) - 1).toNat = d - 1 from by omega, show d - 1 + 1 = d from by omega]
    refine ⟨?_, by omega⟩
    have : b * 2 ^ (d - 1) ≤ 2 ^ yav b * 2 ^ (d - 1) := Nat.mul_le_mul_right _ (by omega)
    rw [← Nat.pow_add, show yav b + (d - 1) = yav a - 1 from by omega] at this
    omega
 ·rw [if_neg hl]
  obtain ⟨d, hd⟩ : ∃ d, d = yav b - yav a := ⟨_, rfl⟩
  rw [← hd]
  have h1 : b < a * 2 ^ (d + 1) := by
   have : 2 ^ (yav a - 1) * 2 ^ (d + 1) ≤ a * 2 ^ (d + 1) := Nat.mul_le_mul_right _ a1
   rw [← Nat.pow_add, show yav a - 1 + (d + 1) = yav b from by omega] at this
   omega
  have h3 : a * 2 ^ (d - 1) < b := by
   have : a * 2 ^ (d - 1) < 2 ^ yav a * 2 ^ (d - 1) := Nat.mul_lt_mul_of_pos_right a2 (Nat.two_pow_pos _)
   rw [← Nat.pow_add, show yav a + (d - 1) = yav b - 1 from by omega] at this
   omega
  by_cases h2 : b ≤ a * 2 ^ d
  ·rw [if_pos h2]
   refine ⟨fun h => by omega, fun _ => ?_⟩
   rw [show (- -(d : Int)).toNat = d from by omega]
   exact ⟨h2, h3⟩
  ·rw [if_neg h2]
   refine ⟨fun h => by omega, fun _ => ?_⟩
   rw [show (-(-(d : Int) - 1)).toNat = d + 1 from by omega, show d + 1 - 1 = d from by omega]
   exact ⟨by omega, by omega⟩
theorem ycG {a b : Nat} (ha : fit a) (hb : fit b) : -131073 ≤ tp a b ∧ tp a b ≤ 131072 := by
 have := ydw ha
 have := ydw hb
 unfold tp; (repeat' split) <;> omega
def yrT (a b : Nat) (e n : Int) (K : List UInt8 → Bool → Int → Prop) : Prop :=
 if n < -2097152 ∨ 2097152 < n then K [] false 2 else if a = 0 then K [] true 0 else
 if n ≤ e then (if fit (a * 2 ^ (e - n).toNat) then K (nb (a * 2 ^ (e - n).toNat / b)) (decide (a * 2 ^ (e - n).toNat % b = 0)) 0 else K [] false 4)
 else if tp a b + e < n then K [] false 0 else K (nb (a / (b * 2 ^ (n - e).toNat))) (decide (a % (b * 2 ^ (n - e).toNat) = 0)) 0
theorem ypj {a b : Nat} {e n : Int} (ha : a ≠ 0) (hb : b ≠ 0) (fa : fit a) (h1 : ¬ n ≤ e) (h2 : ¬ tp a b + e < n) : fit (b * 2 ^ (n - e).toNat) := by
 have h := (ym4 ha hb).1 (by omega)
 refine ydV fa (Nat.le_trans (Nat.mul_le_mul_left _ ?_) h.1)
 exact Nat.pow_le_pow_right (by omega) (by omega)
theorem yeb (s : Bool) {a b : Nat} {e : Int} (c : Can s a b e) (n : Int) (hn : -9223372036854775808 ≤ n ∧ n < 9223372036854775808) (K : List UInt8 → Bool → Int → Prop) (h : yrT a b e n K) : zcx s (nb a) (nb b) e n K := by
 have w := c.e64
 rw [zcx.is]; unfold zcx.d
 unfold yrT at h
 by_cases g1 : n < -2097152
 ·rw [yaB (yaS g1)]; rw [if_pos (.inl g1)] at h; exact h
 rw [yau (ya1 (by omega))]
 by_cases g2 : 2097152 < n
 ·rw [yaB (yaS g2)]; rw [if_pos (.inr g2)] at h; exact h
 rw [yau (ya1 (by omega)), ybD]
 rw [if_neg (by omega)] at h
 refine yfJ (fun h0 => ?_) fun h0 => ?_
 ·rw [if_pos h0] at h; exact h
 rw [if_neg h0] at h
 by_cases g3 : n ≤ e
 ·rw [yaB (ya4 g3)]
  rw [if_pos g3] at h
  rw [yap (by omega) (by omega)]
  refine yf8 _ (by omega) (by omega) c.fa (ydz (fun f1 => ?_) fun f1 => ?_)
  ·rw [if_pos f1] at h
   rw [yau (by rfl)]
   refine ykQ f1 c.fb c.b0 ?_
   rw [ybD]; exact h
  ·rw [if_neg f1] at h
   rw [yaB (by rfl)]; exact h
 ·rw [yau (yes (by omega))]
  rw [if_neg g3] at h
  refine yf1 s c _ (fun hh => absurd hh h0) fun _ => ?_
  by_cases g4 : tp a b + e < n
  ·rw [yaB (yaS g4)]; rw [if_pos g4] at h; exact h
  rw [yau (ya1 (by omega))]
  rw [if_neg g4] at h
  have hf := ypj h0 c.b0 c.fa g3 g4
  rw [yap (by omega) (by omega)]
  refine yf8 _ (by omega) (by omega) c.fb (ydz (fun f1 => ?_) fun f1 => absurd hf f1)
  refine ykQ c.fa hf (Nat.mul_ne_zero c.b0 (Nat.pos_iff_ne_zero.1 (Nat.two_pow_pos _))) ?_
  rw [ybD]; exact h
end Go.Ev.S

/- Differences: of words, bit by bit; of numbers of six words. -/
set_option linter.unusedVariables false
set_option linter.unusedSimpArgs false
set_option maxRecDepth 8000
namespace Go.Ev.S
open Go Go.Ev
end Go.Ev.S

/- Quiet and next encodings: the abacus and the document's answer; the law KindSigns. -/
set_option linter.unusedVariables false
set_option linter.unusedSimpArgs false
set_option maxRecDepth 8000
namespace Go.Ev.S
open Go Go.Ev
def yt5 (f : Nat) : Nat := enc f false (2 * fe f + 1) (2 ^ (fp f - 2))
def quiet (f x : Nat) : Nat := if 8 ≤ cls f x then x ||| yt5 f else x
end Go.Ev.S

/- The parts of an encoding: the abacus and the document's answer. -/
set_option linter.unusedVariables false
set_option linter.unusedSimpArgs false
set_option maxRecDepth 8000
namespace Go.Ev.S
open Go Go.Ev
end Go.Ev.S

/- Signs put together, words and classes: the abacus and the document's answer; the laws of signs. -/
set_option linter.unusedVariables false
set_option linter.unusedSimpArgs false
set_option maxRecDepth 8000
namespace Go.Ev.S
open Go Go.Ev
end Go.Ev.S

/- The plain laws of SignWords and SignBack. -/
set_option linter.unusedVariables false
set_option linter.unusedSimpArgs false
set_option maxRecDepth 8000
namespace Go.Ev.S
open Go Go.Ev
def ext (w x : Nat) : Nat := cond (x.testBit (w - 1)) (x % 2 ^ w + (18446744073709551616 - 2 ^ w)) (x % 2 ^ w)
end Go.Ev.S

/- Encodings compared: what the functions come to. -/
set_option linter.unusedVariables false
set_option linter.unusedSimpArgs false
set_option maxRecDepth 8000
namespace Go.Ev.S
open Go Go.Ev
end Go.Ev.S

/- The order of all encodings; the lesser and the greater one. -/
set_option linter.unusedVariables false
set_option linter.unusedSimpArgs false
set_option maxRecDepth 8000
namespace Go.Ev.S
open Go Go.Ev
end Go.Ev.S

/- What encodings say: their exact values, in order. -/
set_option linter.unusedVariables false
set_option linter.unusedSimpArgs false
set_option maxRecDepth 8000
namespace Go.Ev.S
open Go Go.Ev
def fin (f x : Nat) : Prop := ex f x ≠ 2 * fe f + 1
end Go.Ev.S

/- Exact numbers compared, as rational ones; encodings compared by their values. -/
set_option linter.unusedVariables false
set_option linter.unusedSimpArgs false
set_option maxRecDepth 8000
namespace Go.Ev.S
open Go Go.Ev
theorem ybu {x y d : Rat} (hd : 0 < d) : x * d < y * d ↔ x < y := by
 constructor
 ·intro hh
  apply Classical.byContradiction; intro hn
  have h1 : y ≤ x := by grind
  have h2 := Rat.mul_le_mul_of_nonneg_right h1 (show 0 ≤ d by grind)
  grind
 ·intro hh; exact Rat.mul_lt_mul_of_pos_right hh hd
section
variable {n1 n2 : Bool} {a1 b1 a2 b2 : Nat} {e1 e2 : Int}
end
theorem ynE {x : Nat} (h : x < Q6) : fit x := by
 unfold fit
 obtain ⟨N, hN⟩ : ∃ N, N = 48 := ⟨_, rfl⟩
 have : (nb x).length ≤ N := by rw [ybC, ynJ, ys8 hN]; exact h
 omega
theorem yeT : fit 1 := by unfold fit; rw [ydl]; decide
end Go.Ev.S

/- Exact numbers added, multiplied, compared, measured: the abacus. -/
set_option linter.unusedVariables false
set_option linter.unusedSimpArgs false
set_option maxRecDepth 8000
namespace Go.Ev.S
open Go Go.Ev
theorem yq5 : fit 0 := by unfold fit; rw [yaN]; decide
section
variable {n1 n2 : Bool} {a1 b1 a2 b2 : Nat} {e1 e2 : Int}
theorem ylr (s : Bool) {a b : Nat} {e : Int} (c : Can s a b e) (K : Bool → List UInt8 → List UInt8 → Int → Prop) (h : K false (nb a) (nb b) e) : zac s (nb a) (nb b) e K := by
 rw [zac.is]; unfold zac.d
 refine ybb _ _ _ _ _ (fun _ => ?_) fun hh => absurd c.may hh
 rw [yau (by rfl)]; exact h
end
theorem ygl (n : Bool) {a b : Nat} {e : Int} (c : Can n a b e) (h0 : a ≠ 0) (K : Int → Prop) (h2 : K (tp a b + e)) : zaj n (nb a) (nb b) e K := by
 have w := c.e64
 have la := ydw c.fa
 have lb := ydw c.fb
 rw [zaj.is]; unfold zaj.d
 refine yfy c.fa ?_
 refine yfy c.fb ?_
 rw [yap (by omega) (by omega)]
 unfold tp at h2
 by_cases hl : yav b ≤ yav a
 ·rw [if_pos hl] at h2
  rw [yaB (ya4 (by omega))]
  have et : ((yav a : Int) - yav b).toNat = yav a - yav b := by omega
  have hf := ynS c.fa c.b0 hl
  refine yer _ (by omega) (by omega) c.fb (ydz (fun f => ?_) fun f => absurd (by rw [et]; exact hf) f)
  refine ylD c.fa f ?_
  rw [et, ypT]
  refine ydb (fun h3 => ?_) fun h3 => ?_
  ·rw [if_neg h3] at h2
   rw [yap (by omega) (by omega), yan (by omega) (by omega), show ((yav a : Int) - yav b - 1 + e) = ((yav a - yav b : Nat) : Int) - 1 + e from by omega]; exact h2
  ·rw [if_pos h3] at h2
   rw [yan (by omega) (by omega), show ((yav a : Int) - yav b + e) = ((yav a - yav b : Nat) : Int) + e from by omega]; exact h2
 ·rw [if_neg hl] at h2
  rw [yau (yes (by omega))]
  have en : yrx .i64 ((yav a : Int) - yav b) = (yav b : Int) - yav a := by
   show IntKind.wrap .i64 _ = _
   rw [yde (by omega) (by omega)]; omega
  have et : ((yav b : Int) - yav a).toNat = yav b - yav a := by omega
  have hf := ynS c.fb h0 (show yav a ≤ yav b by omega)
  rw [en]
  refine yer _ (by omega) (by omega) c.fa (ydz (fun f => ?_) fun f => absurd (by rw [et]; exact hf) f)
  refine ylD f c.fb ?_
  rw [et, ypT]
  refine ydb (fun h3 => ?_) fun h3 => ?_
  ·rw [if_neg h3] at h2
   rw [yap (by omega) (by omega), yan (by omega) (by omega), show ((yav a : Int) - yav b - 1 + e) = -((yav b - yav a : Nat) : Int) - 1 + e from by omega]; exact h2
  ·rw [if_pos h3] at h2
   rw [yan (by omega) (by omega), show ((yav a : Int) - yav b + e) = -((yav b - yav a : Nat) : Int) + e from by omega]; exact h2
theorem yd4 (n : Bool) {a b : Nat} {e : Int} (c : Can n a b e) (K : Int → Int → Prop) (h1 : a = 0 → K 0 2) (h2 : a ≠ 0 → K (tp a b + e) 0) : zag n (nb a) (nb b) e K := by
 rw [zag.is]; unfold zag.d
 refine ybb _ _ _ _ _ (fun _ => ?_) fun hh => absurd c.may hh
 rw [yau (by rfl), ybD]
 refine yfJ h1 fun h0 => ?_
 exact ygl n c h0 _ (h2 h0)
theorem ydc (s : Bool) {a b : Nat} {e : Int} (c : Can s a b e) (n : Int) (hn : -9223372036854775808 ≤ n ∧ n < 9223372036854775808) (K : List UInt8 → Bool → Int → Prop) (h : yrT a b e n K) : zae s (nb a) (nb b) e n K := by
 have w := c.e64
 rw [zae.is]; unfold zae.d
 refine ybb _ _ _ _ _ (fun _ => ?_) fun hh => absurd c.may hh
 rw [yau (by rfl)]
 unfold yrT at h
 by_cases g1 : n < -2097152
 ·rw [yaB (yaS g1)]; rw [if_pos (.inl g1)] at h; exact h
 rw [yau (ya1 (by omega))]
 by_cases g2 : 2097152 < n
 ·rw [yaB (yaS g2)]; rw [if_pos (.inr g2)] at h; exact h
 rw [yau (ya1 (by omega)), ybD]
 rw [if_neg (by omega)] at h
 refine yfJ (fun h0 => ?_) fun h0 => ?_
 ·rw [if_pos h0] at h; exact h
 rw [if_neg h0] at h
 by_cases g3 : n ≤ e
 ·rw [yaB (ya4 g3)]
  rw [if_pos g3] at h
  rw [yap (by omega) (by omega)]
  refine yer _ (by omega) (by omega) c.fa (ydz (fun f1 => ?_) fun f1 => ?_)
  ·rw [if_pos f1] at h
   rw [yau (by rfl)]
   refine ylk f1 c.fb c.b0 ?_
   rw [ybD]; exact h
  ·rw [if_neg f1] at h
   rw [yaB (by rfl)]; exact h
 ·rw [yau (yes (by omega))]
  rw [if_neg g3] at h
  refine ygl s c h0 _ ?_
  by_cases g4 : tp a b + e < n
  ·rw [yaB (yaS g4)]; rw [if_pos g4] at h; exact h
  rw [yau (ya1 (by omega))]
  rw [if_neg g4] at h
  have hf := ypj h0 c.b0 c.fa g3 g4
  rw [yap (by omega) (by omega)]
  refine yer _ (by omega) (by omega) c.fb (ydz (fun f1 => ?_) fun f1 => absurd hf f1)
  refine ylk c.fa hf (Nat.mul_ne_zero c.b0 (Nat.pos_iff_ne_zero.1 (Nat.two_pow_pos _))) ?_
  rw [ybD]; exact h
end Go.Ev.S

/- Encodings of exact numbers. -/
set_option linter.unusedVariables false
set_option linter.unusedSimpArgs false
set_option maxRecDepth 8000
namespace Go.Ev.S
open Go Go.Ev
theorem ytQ (e k t : Nat) (ht : t < 2 ^ k) : (e * 2 ^ k) ||| t = e * 2 ^ k + t := by
 rw [Nat.mul_comm]; exact (Nat.two_pow_add_eq_or_of_lt ht e).symm
theorem yfE (f e t : Nat) (h : f ≤ 3) (he : e ≤ 2 * fe f + 1) (ht : t < 2 ^ (fp f - 1)) (neg : Bool) (K : Int → Int → Prop) (hK : K (Hi (enc f neg e t)) (Lo (enc f neg e t))) : zam f neg e (W t) K := by
 obtain ⟨w1, w2, w3, w4, w5, w6⟩ := ycU f h
 have hb := ymm h he ht
 have hen := ysg h he ht neg
 have hb' : e * 2 ^ (fp f - 1) + t < Q6 := yqT (by omega) hb
 have he1 : e * 2 ^ (fp f - 1) < Q6 := by omega
 have ht1 : t < Q6 := yqT (by omega) ht
 rw [zam.is]; unfold zam.d
 rw [yaO (by omega) (by omega), yoh e (by omega), ybh f h, ysq f h]
 refine ykF e (fp f - 1) (yqT (a := 64) (by omega) (by omega)) (by omega) _ fun bb => ?_
 rw [Nat.mod_eq_of_lt he1]
 refine yoT _ _ he1 ht1 _ ?_
 rw [ytQ _ _ _ ht]
 cases neg with
 | false =>
  rw [yau rfl]
  rw [yeF _ (ytK (by omega) hb)]
  have : enc f false e t = e * 2 ^ (fp f - 1) + t := by simp [enc, sg]
  rw [this] at hK; exact hK
 | true =>
  have e1 : enc f true e t = e * 2 ^ (fp f - 1) + t + 2 ^ (fw f - 1) := by simp [enc, sg]; omega
  rw [e1] at hK hen
  have q1 : yaE IntKind.i64 (yaq IntKind.i64 (fw f : Int) 1) 64 = (((fw f - 1) / 64 : Nat) : Int) := by rw [ytg f h, yod _ (by omega)]
  have q2 : cvI IntKind.u64 (yca IntKind.i64 (yaq IntKind.i64 (fw f : Int) 1) 64) = (((fw f - 1) % 64 : Nat) : Int) := by rw [ytg f h, yor, yaO (by omega) (by omega)]
  have g1 : (leI 0 (((fw f - 1) / 64 : Nat) : Int) && ltI (((fw f - 1) / 64 : Nat) : Int) 6) = true := ybN (by omega) (by omega)
  have g2 : (!ltI (((fw f - 1) % 64 : Nat) : Int) 0) = true := ykh (by omega)
  rw [yaB rfl, yc9 f h, q1, q2, ybv g1, ybv g2, ybv g1, Int.toNat_natCast, yjX, ynC _ _ hb, yeF _ (ytK (by omega) hen)]
  exact hK
def pl (f : Nat) (t : Int) : Int := (if t < 1 - fe f then 1 - (fe f : Int) else t) - fp f + 1
def yiw (f : Nat) (n : Bool) (at_ : Int) (w : Nat) : Nat := sg f n + ((at_ + fe f + fp f - 2).toNat * 2 ^ (fp f - 1) + w)
theorem ypx {f : Nat} (h : f ≤ 3) (n : Bool) {t : Int} {w : Nat} (h1 : 2 ^ (fp f - 1) ≤ w) (h2 : w < 2 ^ fp f) :
  yiw f n (pl f t) w = enc f n ((pl f t + fe f + fp f - 2).toNat + 1) (w % 2 ^ (fp f - 1)) := by
 have e2 : 2 ^ fp f = 2 ^ (fp f - 1) + 2 ^ (fp f - 1) := by rcases ygV h with rfl | rfl | rfl | rfl <;> decide
 have e3 : w % 2 ^ (fp f - 1) = w - 2 ^ (fp f - 1) := by
  rw [Nat.mod_eq_sub_mod h1, Nat.mod_eq_of_lt (by omega)]
 rw [e3]; unfold yiw enc
 rw [Nat.add_mul]; omega
theorem ypP {f : Nat} (n : Bool) {t : Int} {w : Nat} (ht : t < 1 - fe f) : yiw f n (pl f t) w = enc f n 0 w := by
 unfold yiw enc pl
 rw [if_pos ht, show (1 - (fe f : Int) - fp f + 1 + fe f + fp f - 2).toNat = 0 from by omega, Nat.add_assoc]
theorem yr1 {a : Nat} (h : a ≠ 0) : tp a 1 = (yav a : Int) - 1 := by
 have h1 : yav 1 = 1 := by decide
 have h2 := ykE h
 have h3 : 1 ≤ yav a := by
  rcases Nat.eq_zero_or_pos (yav a) with h0 | h0
  ·have := (yaP a 0).1 (by omega); omega
  ·exact h0
 unfold tp
 rw [h1, if_pos h3, Nat.one_mul, if_pos h2]; omega
def ofE (f : Nat) (n : Bool) (a b : Nat) (e : Int) (K : Int → Int → Bool → Prop) : Prop :=
 if a = 0 then K 0 0 true else if b ≠ 1 ∨ (fe f : Int) < tp a b + e ∨ e < pl f (tp a b + e) then K 0 0 false else
  K (Hi (yiw f n (pl f (tp a b + e)) (a * 2 ^ (e - pl f (tp a b + e)).toNat))) (Lo (yiw f n (pl f (tp a b + e)) (a * 2 ^ (e - pl f (tp a b + e)).toNat))) true
theorem yqH {a : Nat} (h : a ≠ 0) (k : Nat) : 2 ^ (yav a - 1 + k) ≤ a * 2 ^ k ∧ a * 2 ^ k < 2 ^ (yav a + k) := by
 rw [Nat.pow_add, Nat.pow_add]
 exact ⟨Nat.mul_le_mul_right _ (ykE h), Nat.mul_lt_mul_of_pos_right ((yaP a _).1 (Nat.le_refl _)) (Nat.two_pow_pos k)⟩
theorem ygM {f : Nat} (h : f ≤ 3) (t : Int) (h1 : t ≤ fe f) : -16494 ≤ pl f t ∧ pl f t ≤ 16384 ∧ 0 ≤ pl f t + fe f + fp f - 2 := by
 unfold pl
 rcases ygV h with rfl | rfl | rfl | rfl <;> simp only [fe, fp] at * <;> split <;> omega
theorem ypL {w : Nat} (h : w < Q6) : May (nb w) ∧ (nb w).length ≤ 48 := by
 refine ⟨ya3 (ynE h), ?_⟩
 obtain ⟨N, hN⟩ : ∃ N, N = 48 := ⟨_, rfl⟩
 have : (nb w).length ≤ N := by rw [ybC, ynJ, ys8 hN]; exact h
 omega
theorem yl4 {w : Nat} (h : w < Q6) (K : (Nat → Int) → Bool → Prop) (hK : K (W w) true) : zba (nb w) K := by
 refine ykf _ _ ?_
 rw [if_pos (ypL h), yax]; exact hK
theorem ylj {w : Nat} (h : w < Q6) (K : (Nat → Int) → Bool → Prop) (hK : K (W w) true) : zcp (nb w) K := by
 refine ykn _ _ ?_
 rw [if_pos (ypL h), yax]; exact hK
theorem ysR {w p : Nat} (hp : 1 ≤ p) (hw : w < 2 ^ p) : w.testBit (p - 1) = decide (2 ^ (p - 1) ≤ w) := by
 have e2 : 2 ^ p = 2 ^ (p - 1) + 2 ^ (p - 1) := by obtain ⟨q, rfl⟩ : ∃ q, p = q + 1 := ⟨p - 1, by omega⟩; rw [Nat.pow_succ, Nat.add_sub_cancel]; omega
 by_cases h : 2 ^ (p - 1) ≤ w
 ·rw [decide_eq_true h, show w = 2 ^ (p - 1) + (w - 2 ^ (p - 1)) from by omega, Nat.testBit_two_pow_add_eq, Nat.testBit_lt_two_pow (by omega)]; rfl
 ·rw [decide_eq_false h, Nat.testBit_lt_two_pow (by omega)]
section
variable {n : Bool} {a b : Nat} {e : Int}
theorem yr6 {f : Nat} (h : f ≤ 3) (h0 : a ≠ 0) (h1 : ¬ (b ≠ 1 ∨ (fe f : Int) < tp a b + e ∨ e < pl f (tp a b + e))) :
  a * 2 ^ (e - pl f (tp a b + e)).toNat < 2 ^ fp f ∧ (1 - (fe f : Int) ≤ tp a b + e ↔ 2 ^ (fp f - 1) ≤ a * 2 ^ (e - pl f (tp a b + e)).toNat) := by
 obtain ⟨w1, w2, w3, w4, w5, w6⟩ := ycU f h
 have hb : b = 1 := by omega
 subst hb
 have ht := yr1 h0
 have hm := yqH h0 (e - pl f (tp a 1 + e)).toNat
 have h3 : 1 ≤ yav a := by
  rcases Nat.eq_zero_or_pos (yav a) with hh | hh
  ·have := (yaP a 0).1 (by omega); omega
  ·exact hh
 have hpl : pl f (tp a 1 + e) ≤ e := by omega
 by_cases hs : tp a 1 + e < 1 - fe f
 ·have hp1 : pl f (tp a 1 + e) = 2 - fe f - fp f := by unfold pl; rw [if_pos hs]; omega
  have l1 : yav a + (e - pl f (tp a 1 + e)).toNat ≤ fp f - 1 := by omega
  have l2 := Nat.pow_le_pow_right (show 0 < 2 by omega) l1
  have l3 := Nat.pow_lt_pow_right (show 1 < 2 by omega) (show fp f - 1 < fp f by omega)
  exact ⟨by omega, by omega, by omega⟩
 ·have hp1 : pl f (tp a 1 + e) = tp a 1 + e - fp f + 1 := by unfold pl; rw [if_neg hs]
  have l1 : yav a + (e - pl f (tp a 1 + e)).toNat = fp f := by omega
  have l2 : yav a - 1 + (e - pl f (tp a 1 + e)).toNat = fp f - 1 := by omega
  rw [l1, l2] at hm
  exact ⟨by omega, fun _ => by omega, fun _ => by omega⟩
theorem yi0 (f : Nat) (h : f ≤ 3) (c : Can n a b e) (K : Int → Int → Bool → Int → Prop) (hK : ofE f n a b e fun y0 y1 y2 => K y0 y1 y2 0) : zal f n (nb a) (nb b) e K := by
 obtain ⟨w1, w2, w3, w4, w5, w6⟩ := ycU f h
 have we := c.e64
 have hr := ycG c.fa c.fb
 unfold ofE at hK
 rw [zal.is]; unfold zal.d
 rw [ya2 f h, yau (by rfl)]
 refine ybb _ _ _ _ _ (fun _ => ?_) (fun hn => absurd c.may hn)
 rw [yau (by rfl), ybD]
 refine yfJ (fun h0 => ?_) fun h0 => ?_
 ·rw [if_pos h0] at hK; exact hK
 rw [if_neg h0] at hK
 rw [ybh f h]
 refine yd4 n c _ (fun hh => absurd hh h0) fun _ => ?_
 rw [yb9 f h, yfL]
 refine ydb (fun hb => ?_) fun hb => ?_
 ·rw [if_pos (.inl hb)] at hK; exact hK
 rw [yb5 f h]
 by_cases h2 : (fe f : Int) < tp a b + e
 ·rw [yaB (yaS h2)]; rw [if_pos (.inr (.inl h2))] at hK; exact hK
 rw [yau (ya1 (by omega))]
 have hp := ygM h (tp a b + e) (by omega)
 have e1 : yaj .i64 (yaq .i64 (yin (tp a b + e) (1 - (fe f : Int))) (fp f : Int)) 1 = pl f (tp a b + e) := by
  have : yin (tp a b + e) (1 - (fe f : Int)) = if tp a b + e < 1 - fe f then 1 - (fe f : Int) else tp a b + e := yfW _ _
  rw [this]
  unfold pl
  have hh : -200000 ≤ (if tp a b + e < 1 - (fe f : Int) then 1 - (fe f : Int) else tp a b + e) ∧ (if tp a b + e < 1 - (fe f : Int) then 1 - (fe f : Int) else tp a b + e) ≤ 200000 := by split <;> omega
  rw [yap (by omega) (by omega), yan (by omega) (by omega)]
 rw [e1]
 by_cases h3 : e < pl f (tp a b + e)
 ·rw [yaB (yaS h3)]; rw [if_pos (.inr (.inr h3))] at hK; exact hK
 rw [yau (ya1 (by omega))]
 have hc : ¬ (b ≠ 1 ∨ (fe f : Int) < tp a b + e ∨ e < pl f (tp a b + e)) := by omega
 rw [if_neg hc] at hK
 have hw := yr6 h h0 hc
 generalize hwd : a * 2 ^ (e - pl f (tp a b + e)).toNat = w at hw hK
 have hwQ : w < Q6 := yqT (by omega) hw.1
 refine ydc n c _ (by omega) _ ?_
 unfold yrT
 rw [if_neg (by omega), if_neg h0, if_pos (show pl f (tp a b + e) ≤ e by omega), hwd, if_pos (ynE hwQ), hb, Nat.div_one]
 rw [hb] at hw hK
 refine yl4 hwQ _ ?_
 rw [ysq f h, ymr w (fp f - 1) (by omega), ysR (by omega) hw.1]
 refine yfJ (fun hl => ?_) fun hl => ?_
 ·rw [yb9 f h]
  refine ygz _ (by omega) _ ?_
  refine yhm _ _ hwQ _ ?_
  rw [Nat.and_two_pow_sub_one_eq_mod]
  rw [hb] at hp h2
  have e2 : yaj .i64 (yaq .i64 (pl f (tp a 1 + e)) (1 - (fe f : Int))) (fp f : Int) = (((pl f (tp a 1 + e) + fe f + fp f - 2).toNat + 1 : Nat) : Int) := by
   rw [yap (by omega) (by omega), yan (by omega) (by omega)]; omega
  rw [e2]
  rw [ypx h n hl hw.1] at hK
  refine yfE f _ _ h ?_ (Nat.mod_lt _ (Nat.two_pow_pos _)) n _ hK
  have hs := hw.2.2 hl
  unfold pl; rw [if_neg (by omega)]; omega
 ·refine ygz _ (by omega) _ ?_
  refine yhm _ _ hwQ _ ?_
  rw [Nat.and_two_pow_sub_one_eq_mod, Nat.mod_eq_of_lt (by omega)]
  rw [ypP n (by have := hw.2; omega)] at hK
  exact yfE f 0 w h (by omega) (by omega) n _ hK
theorem ypq (f : Nat) (h : f ≤ 3) (c : Can n a b e) (K : Int → Int → Bool → Prop) (hK : ofE f n a b e K) : zdp f n (nb a) (nb b) e K := by
 obtain ⟨w1, w2, w3, w4, w5, w6⟩ := ycU f h
 have we := c.e64
 have hr := ycG c.fa c.fb
 unfold ofE at hK
 rw [zdp.is]; unfold zdp.d
 rw [ybD]
 refine yfJ (fun h0 => ?_) fun h0 => ?_
 ·rw [if_pos h0] at hK; exact hK
 rw [if_neg h0] at hK
 rw [ybg f h]
 refine yf1 n c _ (fun hh => absurd hh h0) fun _ => ?_
 rw [yfL]
 refine ydb (fun hb => ?_) fun hb => ?_
 ·rw [if_pos (.inl hb)] at hK; exact hK
 rw [ydI f h]
 by_cases h2 : (fe f : Int) < tp a b + e
 ·rw [yaB (yaS h2)]; rw [if_pos (.inr (.inl h2))] at hK; exact hK
 rw [yau (ya1 (by omega)), ycf f h]
 have hp := ygM h (tp a b + e) (by omega)
 have key : ∀ m : Int, m = pl f (tp a b + e) → br (ltI e m) (K 0 0 false) (zcx n (nb a) (nb b) e m fun y0_4 y1 y2 => zcp y0_4 fun y0_5 y1 => zca y0_5 fun y0_6 => br (ltI y0_6 (fp f : Int)) (zde f n 0 y0_5 fun y0 y1 => K y0 y1 true) (zcb (yaq .i64 (fp f : Int) 1) fun y0_7 => zbw y0_5 y0_7 fun y0_8 => zdg f fun y0_9 => zde f n (yaj .i64 (yaq .i64 m y0_9) (fp f : Int)) y0_8 fun y0 y1 => K y0 y1 true)) := by
  intro m hm
  subst hm
  by_cases h3 : e < pl f (tp a b + e)
  ·rw [yaB (yaS h3)]; rw [if_pos (.inr (.inr h3))] at hK; exact hK
  rw [yau (ya1 (by omega))]
  have hc : ¬ (b ≠ 1 ∨ (fe f : Int) < tp a b + e ∨ e < pl f (tp a b + e)) := by omega
  rw [if_neg hc] at hK
  have hw := yr6 h h0 hc
  generalize hwd : a * 2 ^ (e - pl f (tp a b + e)).toNat = w at hw hK
  have hwQ : w < Q6 := yqT (by omega) hw.1
  refine yeb n c _ (by omega) _ ?_
  unfold yrT
  rw [if_neg (by omega), if_neg h0, if_pos (show pl f (tp a b + e) ≤ e by omega), hwd, if_pos (ynE hwQ), hb, Nat.div_one]
  rw [hb] at hw hK
  refine ylj hwQ _ ?_
  refine yoZ w hwQ _ ?_
  by_cases hl : 2 ^ (fp f - 1) ≤ w
  ·have hl' : ¬ yav w ≤ fp f - 1 := by rw [yaP]; omega
   rw [yau (ya1 (by omega)), ysq f h]
   refine yhI _ (by omega) _ ?_
   refine yoL _ _ hwQ _ ?_
   rw [Nat.and_two_pow_sub_one_eq_mod, ycf f h]
   rw [hb] at hp h2
   have e2 : yaj .i64 (yaq .i64 (pl f (tp a 1 + e)) (1 - (fe f : Int))) (fp f : Int) = (((pl f (tp a 1 + e) + fe f + fp f - 2).toNat + 1 : Nat) : Int) := by
    rw [yap (by omega) (by omega), yan (by omega) (by omega)]; omega
   rw [e2]
   rw [ypx h n hl hw.1] at hK
   refine yct f _ _ h ?_ (Nat.mod_lt _ (Nat.two_pow_pos _)) n _ hK
   have hs := hw.2.2 hl
   unfold pl; rw [if_neg (by omega)]; omega
  ·have hl' : yav w ≤ fp f - 1 := by rw [yaP]; omega
   rw [yaB (yaS (by omega))]
   rw [ypP n (by have := hw.2; omega)] at hK
   exact yct f 0 w h (by omega) (by omega) n _ hK
 by_cases hs : tp a b + e < 1 - fe f
 ·rw [yaB (yaS hs), ycf f h]
  have e1 : yaj .i64 (yaq .i64 (1 - (fe f : Int)) (fp f : Int)) 1 = pl f (tp a b + e) := by
   unfold pl; rw [if_pos hs, yap (by omega) (by omega), yan (by omega) (by omega)]
  rw [e1]; exact key _ rfl
 ·rw [yau (ya1 (by omega))]
  have e1 : yaj .i64 (yaq .i64 (tp a b + e) (fp f : Int)) 1 = pl f (tp a b + e) := by
   unfold pl; rw [if_neg hs, yap (by omega) (by omega), yan (by omega) (by omega)]
  rw [e1]; exact key _ rfl
end
end Go.Ev.S

/- Rounding: what is delivered, by a floor function; the program's packing. -/
set_option linter.unusedVariables false
set_option linter.unusedSimpArgs false
set_option maxRecDepth 8000
namespace Go.Ev.S
open Go Go.Ev
def hf (F : Int → Nat × Bool) (at_ : Int) : Int := if (F (at_ - 1)).1 % 2 = 1 then (if (F (at_ - 1)).2 = true then 0 else 1) else -1
def upB (m : Nat) (n o : Bool) (a : Int) (e : Bool) : Bool :=
 if e = true then false else if m = 0 then (decide (0 < a) || (decide (a = 0) && o)) else if m = 4 then decide (0 ≤ a) else if m = 2 then n else if m = 3 then !n else false
def tk (F : Int → Nat × Bool) (m : Nat) (n : Bool) (at_ : Int) : Nat := (F at_).1 + cond (upB m n (decide ((F at_).1 % 2 = 1)) (hf F at_) (F at_).2) 1 0
def yif (f m : Nat) (n : Bool) (F : Int → Nat × Bool) (top : Int) : Bool :=
 if top = -(fe f : Int) then decide (yav (tk F m n (top - fp f + 1)) ≤ fp f) else decide (top < 1 - (fe f : Int))
def dlv (f m : Nat) (n : Bool) (F : Int → Nat × Bool) (top : Int) (K : Int → Int → Int → Int → Prop) : Prop :=
 if (fe f : Int) < top then K (Hi (ov f m n)) (Lo (ov f m n)) 5 0 else
 if (fe f : Int) < (yav (tk F m n (pl f top)) : Int) - 1 + pl f top then K (Hi (ov f m n)) (Lo (ov f m n)) 5 0 else
 K (Hi (yiw f n (pl f top) (tk F m n (pl f top)))) (Lo (yiw f n (pl f top) (tk F m n (pl f top)))) (if (F (pl f top)).2 = true then 0 else if yif f m n F top = true then 3 else 1) 0
def hj (S k : Nat) : Int := if S / 2 ^ (k - 1) % 2 = 1 then (if S % 2 ^ (k - 1) = 0 then 0 else 1) else -1
theorem yss (b : Bool) : cond b 1 0 ≤ 1 := by cases b <;> decide
theorem ypM (F : Int → Nat × Bool) (m : Nat) (n : Bool) (at_ : Int) : tk F m n at_ ≤ (F at_).1 + 1 := by
 unfold tk; have := yss (upB m n (decide ((F at_).1 % 2 = 1)) (hf F at_) (F at_).2); omega
theorem yt0 {f : Nat} (h : f ≤ 3) : 2 ^ fp f + 1 < Q6 := by
 have w := ycU f h
 have h1 : 2 ^ (fp f + 1) < Q6 := ytz (by omega)
 have h2 := Nat.pow_le_pow_right (show 0 < 2 by omega) (show 1 ≤ fp f by omega)
 rw [Nat.pow_succ] at h1
 omega
end Go.Ev.S

/- Exact numbers: made, signs, products, places, sums. -/
set_option linter.unusedVariables false
set_option linter.unusedSimpArgs false
set_option maxRecDepth 8000
namespace Go.Ev.S
open Go Go.Ev
end Go.Ev.S

/- Exact numbers as rational ones: bounds, sums, products, whole parts. -/
set_option linter.unusedVariables false
set_option linter.unusedSimpArgs false
set_option maxRecDepth 8000
namespace Go.Ev.S
open Go Go.Ev
theorem yki {x P : Nat} (h : x < 2 ^ P) (hP : P ≤ 131072) : fit x := by
 rw [yn3]; have := (yaP x P).2 h; omega
section
variable {n1 n2 : Bool} {a1 b1 a2 b2 : Nat} {e1 e2 : Int} {P1 E1 P2 E2 : Nat}
end
theorem ydg {x y d : Rat} (hd : 0 < d) : x * d ≤ y * d ↔ x ≤ y := by
 have h := ybu (x := y) (y := x) hd
 constructor
 ·intro hh; apply Classical.byContradiction; intro hc
  have := h.2 (by grind); grind
 ·intro hh; exact Rat.mul_le_mul_of_nonneg_right hh (by grind)
theorem yi4 {x y d : Rat} (hd : 0 < d) : x * d = y * d ↔ x = y := by
 constructor
 ·intro hh
  have h1 := (ydg (x := x) (y := y) hd).1 (by grind)
  have h2 := (ydg (x := y) (y := x) hd).1 (by grind)
  grind
 ·intro hh; rw [hh]
structure Flr (X : Rat) (n : Int) (m : Nat) (is : Bool) : Prop where
 le : (m : Rat) * p2 n ≤ X
 lt : X < ((m + 1 : Nat) : Rat) * p2 n
 eq : is = true ↔ (m : Rat) * p2 n = X
theorem yn2 {X : Rat} {N D : Nat} {n : Int} (hD : D ≠ 0) (h : X * D = N * p2 n) : Flr X n (N / D) (decide (N % D = 0)) := by
 have hd := ykg hD
 have hp := yeI n
 have hdm := Nat.div_add_mod N D
 have hml := Nat.mod_lt N (Nat.pos_of_ne_zero hD)
 have e1 : ∀ m : Nat, (m : Rat) * p2 n * D = ((m * D : Nat) : Rat) * p2 n := by intro m; rw [Rat.natCast_mul]; grind
 refine ⟨?_, ?_, ?_⟩
 ·rw [← ydg hd, h, e1, ydg hp, Rat.natCast_le_natCast]
  exact Nat.div_mul_le_self N D
 ·rw [← ybu hd, h, e1, ybu hp, Rat.natCast_lt_natCast, Nat.add_mul, Nat.mul_comm]
  omega
 ·rw [decide_eq_true_iff, ← yi4 hd, h, e1, yi4 hp, Rat.natCast_inj, Nat.mul_comm]
  omega
theorem yua (a b : Nat) (e n : Int) (hb : b ≠ 0) (hn : n ≤ e) : V false a b e * (b : Rat) = ((a * 2 ^ (e - n).toNat : Nat) : Rat) * p2 n := by
 rw [ysN false a b e hb, show sR false = 1 from rfl, Rat.natCast_mul, ← yeC]
 have : p2 ((e - n).toNat : Int) * p2 n = p2 e := by rw [← yeE]; congr 1; omega
 grind
theorem ytE (a b : Nat) (e n : Int) (hb : b ≠ 0) (hn : e ≤ n) : V false a b e * ((b * 2 ^ (n - e).toNat : Nat) : Rat) = (a : Rat) * p2 n := by
 have h := ysN false a b e hb
 rw [show sR false = 1 from rfl] at h
 rw [Rat.natCast_mul, ← yeC]
 have : p2 ((n - e).toNat : Int) * p2 e = p2 n := by rw [← yeE]; congr 1; omega
 grind
theorem ytH {s : Bool} {a b : Nat} {e n : Int} (c : Can s a b e) (ha : a ≠ 0) (h1 : -2097152 ≤ n) (h2 : n ≤ 2097152) (hf : n ≤ e → fit (a * 2 ^ (e - n).toNat)) (K : List UInt8 → Bool → Int → Prop)
  (h : ∀ m is, Flr (V false a b e) n m is → (n ≤ e → m ≤ a * 2 ^ (e - n).toNat) → (e < n → m ≤ a) → K (nb m) is 0) : yrT a b e n K := by
 unfold yrT
 rw [if_neg (by omega), if_neg ha]
 by_cases hn : n ≤ e
 ·rw [if_pos hn, if_pos (hf hn)]
  exact h _ _ (yn2 c.b0 (yua a b e n c.b0 hn)) (fun _ => Nat.div_le_self _ _) (fun _ => by omega)
 ·rw [if_neg hn]
  have hB : b * 2 ^ (n - e).toNat ≠ 0 := Nat.mul_ne_zero c.b0 (Nat.pos_iff_ne_zero.1 (Nat.two_pow_pos _))
  have fl := yn2 hB (ytE a b e n c.b0 (by omega))
  by_cases ht : tp a b + e < n
  ·rw [if_pos ht]
   have hlt : a < b * 2 ^ (n - e).toNat := by
    have hs := ym4 ha c.b0
    by_cases h0 : 0 ≤ tp a b
    ·refine Nat.lt_of_lt_of_le (hs.1 h0).2 (Nat.mul_le_mul_left _ (Nat.pow_le_pow_right (by omega) (by omega)))
    ·have h3 := (hs.2 (by omega)).2
     have h4 : a * 1 ≤ a * 2 ^ ((-tp a b).toNat - 1) := Nat.mul_le_mul_left _ (Nat.two_pow_pos _)
     have h5 : b * 1 ≤ b * 2 ^ (n - e).toNat := Nat.mul_le_mul_left _ (Nat.two_pow_pos _)
     omega
   rw [Nat.div_eq_of_lt hlt, Nat.mod_eq_of_lt hlt, show decide (a = 0) = false from by simpa using ha] at fl
   have := h 0 false fl (fun _ => by omega) (fun _ => by omega)
   rwa [yaN] at this
  ·rw [if_neg ht]
   exact h _ _ fl (fun _ => by omega) (fun _ => Nat.div_le_self _ _)
theorem yrB {a b x y : Rat} (hx : 0 < x) (h : x * y = 1) (hh : b ≤ a * y) : x * b ≤ a := by
 have h1 := Rat.mul_le_mul_of_nonneg_right hh (show 0 ≤ x by grind)
 have h2 : a * y * x = a := by rw [show a * y * x = a * (x * y) from by grind, h]; grind
 grind
theorem yrm {a b x y : Rat} (hx : 0 < x) (h : x * y = 1) (hh : a * y < b) : a < x * b := by
 have h1 := Rat.mul_lt_mul_of_pos_right hh hx
 have h2 : a * y * x = a := by rw [show a * y * x = a * (x * y) from by grind, h]; grind
 grind
theorem yub {a b : Nat} (e : Int) (ha : a ≠ 0) (hb : b ≠ 0) : p2 (tp a b + e) ≤ V false a b e ∧ V false a b e < p2 (tp a b + e + 1) := by
 have hs := ym4 ha hb
 have hd := ykg hb
 have hv := ysN false a b e hb
 rw [show sR false = 1 from rfl] at hv
 have hp := yeI e
 have key : p2 (tp a b) * (b : Rat) ≤ a ∧ (a : Rat) < p2 (tp a b + 1) * b := by
  by_cases h0 : 0 ≤ tp a b
  ·obtain ⟨h1, h2⟩ := hs.1 h0
   have e1 : p2 (tp a b) = ((2 ^ (tp a b).toNat : Nat) : Rat) := by rw [← yeC]; congr 1; omega
   have e2 : p2 (tp a b + 1) = ((2 ^ ((tp a b).toNat + 1) : Nat) : Rat) := by rw [← yeC]; congr 1; omega
   rw [e1, e2, ← Rat.natCast_mul, ← Rat.natCast_mul, Rat.natCast_le_natCast, Rat.natCast_lt_natCast, Nat.mul_comm, Nat.mul_comm _ b]
   exact ⟨h1, h2⟩
  ·obtain ⟨h1, h2⟩ := hs.2 (by omega)
   have q1 : p2 (tp a b) * ((2 ^ (-tp a b).toNat : Nat) : Rat) = 1 := by rw [← yeC, ← yeE, show tp a b + ((-tp a b).toNat : Int) = 0 from by omega, ypN]
   have q2 : p2 (tp a b + 1) * ((2 ^ ((-tp a b).toNat - 1) : Nat) : Rat) = 1 := by rw [← yeC, ← yeE, show tp a b + 1 + (((-tp a b).toNat - 1 : Nat) : Int) = 0 from by omega, ypN]
   have r1 := Rat.natCast_le_natCast.2 h1
   have r2 := Rat.natCast_lt_natCast.2 h2
   rw [Rat.natCast_mul] at r1 r2
   have s1 := yeI (tp a b)
   have s2 := yeI (tp a b + 1)
   exact ⟨yrB s1 q1 r1, yrm s2 q2 r2⟩
 constructor
 ·rw [← ydg hd, hv, yeE]
  have := Rat.mul_le_mul_of_nonneg_right key.1 (show 0 ≤ p2 e by grind)
  grind
 ·rw [← ybu hd, hv, show tp a b + e + 1 = (tp a b + 1) + e from by omega, yeE]
  have := Rat.mul_lt_mul_of_pos_right key.2 hp
  grind
end Go.Ev.S

/- Doubling does not change what is delivered. -/
set_option linter.unusedVariables false
set_option linter.unusedSimpArgs false
set_option maxRecDepth 8000
namespace Go.Ev.S
open Go Go.Ev
theorem ys2 (f m : Nat) (n : Bool) (F : Int → Nat × Bool) (top : Int) : ∃ x y z w, ∀ K : Int → Int → Int → Int → Prop, dlv f m n F top K ↔ K x y z w := by
 unfold dlv
 by_cases h1 : (fe f : Int) < top
 ·simp only [if_pos h1]; exact ⟨_, _, _, _, fun K => Iff.rfl⟩
 ·simp only [if_neg h1]
  by_cases h2 : (fe f : Int) < (yav (tk F m n (pl f top)) : Int) - 1 + pl f top
  ·simp only [if_pos h2]; exact ⟨_, _, _, _, fun K => Iff.rfl⟩
  ·simp only [if_neg h2]; exact ⟨_, _, _, _, fun K => Iff.rfl⟩
end Go.Ev.S

/- Rounding as the document has it. -/
set_option linter.unusedVariables false
set_option linter.unusedSimpArgs false
set_option maxRecDepth 8000
namespace Go.Ev.S
open Go Go.Ev
structure FF (F : Int → Nat × Bool) (p : Nat) (top : Int) : Prop where
 lt : ∀ at_, top - p + 1 ≤ at_ → (F at_).1 < 2 ^ p
 ge : 2 ^ (p - 1) ≤ (F (top - p + 1)).1
 ex : ∀ at_, (F at_).2 = true → (F at_).1 ≠ 0
 half : ∀ at_, (F (at_ + 1)).1 = (F at_).1 / 2
theorem yr0 (n : Bool) {t : Nat} (h0 : t ≠ 0) {P : Nat} (ht : t < 2 ^ P) (hP : P = 200) {at_ : Int} (hr : -100000 ≤ at_ ∧ at_ ≤ 100000) (K : Bool → List UInt8 → List UInt8 → Int → Int → Prop)
  (hK : ∀ a e, Can n a 1 e → a ≠ 0 → t = a * 2 ^ (e - at_).toNat → at_ ≤ e → e ≤ at_ + 200 → K n (nb a) [1] e 0) : mkE n t 1 at_ K := by
 unfold mkE
 have hl := yjK t P h0 ht
 have o1 : odp 1 = 1 := by unfold odp; rw [show ybG 1 = 0 from ymp 0 0]
 have hB : rdB t 1 = 1 := by unfold rdB; rw [o1, Nat.gcd_one_right]
 have hA : rdA t 1 = odp t := by unfold rdA; rw [o1, Nat.gcd_one_right, Nat.div_one]
 have hE : rdE t 1 at_ = at_ + ybG t := by unfold rdE; rw [show ybG 1 = 0 from ymp 0 0]; omega
 rw [if_neg h0, hA, hB, hE, if_pos (by unfold win; omega), ydl]
 have ho := ynO h0
 have hne := ymc h0
 have hfit : fit t := yki ht (by omega)
 refine hK _ _ ⟨yhW hfit _, yeT, rfl, by unfold win; omega, fun hh => absurd hh hne, fun _ => ⟨ho.2, Nat.gcd_one_right _⟩⟩ hne ?_ (by omega) (by omega)
 rw [show (at_ + (ybG t : Int) - at_).toNat = ybG t from by omega, Nat.mul_comm]; exact ho.1
theorem ysi {f : Nat} (h : f ≤ 3) {n : Bool} {a t : Nat} {e at_ : Int} (c : Can n a 1 e) (h0 : a ≠ 0) (ht : t = a * 2 ^ (e - at_).toNat) (hle : at_ ≤ e) (h1 : t ≤ 2 ^ fp f)
  (hat : 2 - (fe f : Int) - fp f ≤ at_) (hs : at_ = 2 - (fe f : Int) - fp f ∨ 2 ^ (fp f - 1) ≤ t) (K : Int → Int → Bool → Prop)
  (hK : if (fe f : Int) < (yav t : Int) - 1 + at_ then K 0 0 false else K (Hi (yiw f n at_ t)) (Lo (yiw f n at_ t)) true) : ofE f n a 1 e K := by
 obtain ⟨w1, w2, w3, w4, w5, w6⟩ := ycU f h
 obtain ⟨k, hk⟩ : ∃ k : Nat, (k : Int) = e - at_ := ⟨(e - at_).toNat, by omega⟩
 rw [show (e - at_).toNat = k from by omega] at ht
 have hb : yav t = yav a + k := by rw [ht, yg2 _ _ h0]
 have htp : tp a 1 + e = (yav t : Int) - 1 + at_ := by rw [yr1 h0, hb]; omega
 unfold ofE
 rw [if_neg h0, htp]
 by_cases hf : (fe f : Int) < (yav t : Int) - 1 + at_
 ·rw [if_pos (.inr (.inl hf))]; rw [if_pos hf] at hK; exact hK
 rw [if_neg hf] at hK
 by_cases hp : t < 2 ^ fp f
 ·have hbl := (yaP t (fp f)).2 hp
  have hpl : pl f ((yav t : Int) - 1 + at_) = at_ := by
   unfold pl
   rcases hs with hs | hs
   ·split <;> omega
   ·have hb2 : ¬ yav t ≤ fp f - 1 := by rw [yaP]; omega
    rw [if_neg (by omega)]; omega
  rw [hpl, if_neg (by omega), show (e - at_).toNat = k from by omega, ← ht]
  exact hK
 ·have hte : t = 2 ^ fp f := by omega
  have hb2 : yav t = fp f + 1 := by
   have h3 : ¬ yav t ≤ fp f := by rw [yaP]; omega
   have h4 : yav t ≤ fp f + 1 := by rw [yaP, hte]; exact Nat.pow_lt_pow_right (by omega) (by omega)
   omega
  have hpl : pl f ((yav t : Int) - 1 + at_) = at_ + 1 := by
   unfold pl; rw [if_neg (by omega)]; omega
  have hk1 : 1 ≤ k := by
   apply Classical.byContradiction; intro hn
   have hk0 : k = 0 := by omega
   rw [hk0, Nat.pow_zero, Nat.mul_one] at ht
   have ho := (c.r h0).1
   have : t % 2 = 0 := by
    rw [hte]
    obtain ⟨q, hq⟩ : ∃ q, fp f = q + 1 := ⟨fp f - 1, by omega⟩
    rw [hq, Nat.pow_succ]; omega
   omega
  rw [hpl, if_neg (by omega), show (e - (at_ + 1)).toNat = k - 1 from by omega]
  have e2 : 2 ^ fp f = 2 ^ (fp f - 1) + 2 ^ (fp f - 1) := by rcases ygV h with rfl | rfl | rfl | rfl <;> decide
  have hw : a * 2 ^ (k - 1) = 2 ^ (fp f - 1) := by
   have : a * 2 ^ k = a * 2 ^ (k - 1) * 2 := by rw [Nat.mul_assoc, ← Nat.pow_succ, show (k - 1).succ = k from by omega]
   omega
  have he : yiw f n (at_ + 1) (a * 2 ^ (k - 1)) = yiw f n at_ t := by
   unfold yiw
   rw [hw, hte, e2, show (at_ + 1 + (fe f : Int) + fp f - 2).toNat = (at_ + (fe f : Int) + fp f - 2).toNat + 1 from by omega, Nat.add_mul]
   omega
  rw [he]; exact hK
theorem yhM (x : Nat) (hf : fit x) (K : Bool → Prop) (h : K (decide (x % 2 = 1))) : zdv (nb x) K := by
 have hl := ymW hf
 have hv : val (nb x) = x := yax x
 rw [← hv] at h
 generalize nb x = a at h hl
 rw [zdv.is]; unfold zdv.d
 rw [ya9]
 by_cases h0 : a = []
 ·subst h0
  rw [yau (by rfl)]; exact h
 ·have hp : 0 < a.length := List.length_pos_iff.2 h0
  rw [yaB (by simp [h0]), yap (by omega) (by omega), ya4 (by omega), yaS (by omega), ybv (by rfl), show Int.toNat ((a.length : Int) - 1) = a.length - 1 from by omega, yj0 a h0]
  exact h
theorem yqf (m : Nat) (hm : m ≤ 4) (n : Bool) {x : Nat} (hf : fit x) (at_ hh : Int) (e : Bool) (K : Bool → Prop) (hK : K (upB m n (decide (x % 2 = 1)) hh e)) : zdz m n (nb x) at_ hh e K := by
 rw [zdz.is]; unfold zdz.d
 unfold upB at hK
 cases e with
 | true => exact hK
 | false =>
  rw [yau rfl]
  rcases ysp hm with rfl | rfl | rfl | rfl | rfl
  ·show br (ltI 0 hh) (K true) (br (eqI hh 0) (zdv (nb x) fun y0 => K y0) (K false))
   have hK' : K (decide (0 < hh) || (decide (hh = 0) && decide (x % 2 = 1))) := hK
   by_cases h1 : 0 < hh
   ·rw [yaB (yaS h1)]; rw [decide_eq_true h1] at hK'; exact hK'
   ·rw [yau (ya1 (by omega))]; rw [decide_eq_false h1] at hK'
    by_cases h2 : hh = 0
    ·rw [yaB (ylW h2)]; rw [decide_eq_true h2] at hK'
     exact yhM x hf _ (by simpa using hK')
    ·rw [yau (yjr h2)]; rw [decide_eq_false h2] at hK'; exact hK'
  ·exact hK
  ·exact hK
  ·exact hK
  ·exact hK
theorem ylL (m : Nat) (hm : m ≤ 4) (n : Bool) {x : Nat} (hf : fit (x + 1)) (at_ hh : Int) (e : Bool) (K : List UInt8 → Prop) (hK : K (nb (x + cond (upB m n (decide (x % 2 = 1)) hh e) 1 0))) : zdw m n (nb x) at_ hh e K := by
 have hx : fit x := ydV hf (by omega)
 rw [zdw.is]; unfold zdw.d
 refine yqf m hm n hx at_ hh e _ ?_
 cases hu : upB m n (decide (x % 2 = 1)) hh e with
 | false => rw [hu] at hK; rw [yaB (show (!false) = true from rfl)]; exact hK
 | true =>
  rw [hu] at hK
  rw [yau (show (!true) = false from rfl), ← ydl]
  exact yqn hx yeT (ydz (fun _ => hK) fun hh => absurd hf hh)
theorem yhK {f : Nat} (h : f ≤ 3) {x : Nat} (hx : x < 2 ^ fp f) : fit (x + 1) := ynE (by have := yt0 h; omega)
section
variable {f m : Nat} {n root : Bool} {x y : List UInt8} {e top : Int} {F : Int → Nat × Bool}
def yrp (f : Nat) (n root : Bool) (x y : List UInt8) (e top : Int) (F : Int → Nat × Bool) : Prop :=
 ∀ at_ : Int, top - fp f + 1 ≤ at_ → at_ ≤ 20000 → ∀ K : List UInt8 → Int → Int → Bool → Prop, (∀ hh : Int, ((F at_).2 = false → hh = hf F at_) → K (nb (F at_).1) at_ hh (F at_).2) → zdu n x y e root at_ K
theorem yhg (h : f ≤ 3) (hm : m ≤ 4) (H : FF F (fp f) top) (hfd : yrp f n root x y e top F) {at_ : Int} (h1 : top - fp f + 1 ≤ at_) (h2 : at_ ≤ 20000) (K : List UInt8 → Int → Bool → Prop)
  (hK : K (nb (tk F m n at_)) at_ (F at_).2) : zdu n x y e root at_ fun y0 y1 y2 y3 => zdw m n y0 y1 y2 y3 fun y0 => K y0 y1 y3 := by
 refine hfd at_ h1 h2 _ fun hh hq => ?_
 refine ylL m hm n (yhK h (H.lt at_ h1)) _ _ _ _ ?_
 have : upB m n (decide ((F at_).1 % 2 = 1)) hh (F at_).2 = upB m n (decide ((F at_).1 % 2 = 1)) (hf F at_) (F at_).2 := by
  cases he : (F at_).2 with
  | true => rfl
  | false => rw [hq he]
 rw [this]; exact hK
theorem ymw (h : f ≤ 3) (hm : m ≤ 4) (H : FF F (fp f) top) (hfd : yrp f n root x y e top F) (htop : ∀ K : Int → Prop, K top → zdy n x y e root K) (hr : -3000000 ≤ top ∧ top ≤ 3000000) (K : Bool → Prop)
  (hK : K (yif f m n F top)) : zdx f m n x y e root K := by
 have w := ycU f h
 rw [zdx.is]; unfold zdx.d
 refine htop _ ?_
 rw [ycf f h, yap (by omega) (by omega), ybg f h]
 unfold yif at hK
 by_cases h1 : 1 - (fe f : Int) ≤ top
 ·rw [yaB (ya4 h1)]
  rw [if_neg (by omega), decide_eq_false (by omega)] at hK; exact hK
 rw [yau (yes (by omega))]
 by_cases h2 : top < 1 - (fe f : Int) - 1
 ·rw [yaB (yaS h2)]
  rw [if_neg (by omega), decide_eq_true (by omega)] at hK; exact hK
 rw [yau (ya1 (by omega)), yap (by omega) (by omega), yan (by omega) (by omega)]
 rw [if_pos (by omega)] at hK
 refine yhg h hm H hfd (Int.le_refl _) (by omega) (fun y0 _ _ => zcj y0 fun y0 => zdk f fun y0_3 => K (leI y0 y0_3)) ?_
 have ht := ypM F m n (top - fp f + 1)
 have hl := H.lt (top - fp f + 1) (Int.le_refl _)
 refine yhq (ydV (yhK h hl) ht) ?_
 rw [ybg f h]
 have e1 : leI (yav (tk F m n (top - fp f + 1)) : Int) (fp f : Int) = decide (yav (tk F m n (top - fp f + 1)) ≤ fp f) := by
  unfold leI; rw [decide_eq_decide]; omega
 rw [e1]; exact hK
theorem FF.tk_facts (h : f ≤ 3) (m : Nat) (n : Bool) (H : FF F (fp f) top) : tk F m n (pl f top) ≤ 2 ^ fp f ∧ (pl f top = 2 - (fe f : Int) - fp f ∨ 2 ^ (fp f - 1) ≤ tk F m n (pl f top)) ∧ 2 - (fe f : Int) - fp f ≤ pl f top ∧ top - fp f + 1 ≤ pl f top := by
 have w := ycU f h
 have hge : top - fp f + 1 ≤ pl f top := by unfold pl; split <;> omega
 have hl := H.lt (pl f top) hge
 have ht := ypM F m n (pl f top)
 refine ⟨by omega, ?_, by unfold pl; split <;> omega, hge⟩
 by_cases hs : top < 1 - (fe f : Int)
 ·left; unfold pl; rw [if_pos hs]; omega
 ·right
  have hp : pl f top = top - fp f + 1 := by unfold pl; rw [if_neg hs]
  have := H.ge
  rw [← hp] at this
  unfold tk; omega
theorem FF.none (h : f ≤ 3) (m : Nat) (n : Bool) (H : FF F (fp f) top) (h0 : tk F m n (pl f top) = 0) : (F (pl f top)).2 = false ∧ yif f m n F top = true ∧ pl f top = 2 - (fe f : Int) - fp f := by
 have w := ycU f h
 have hf1 := H.tk_facts h m n
 have hpos := Nat.two_pow_pos (fp f - 1)
 have hz : (F (pl f top)).1 = 0 := by unfold tk at h0; omega
 have hpl : pl f top = 2 - (fe f : Int) - fp f := by omega
 have hex : (F (pl f top)).2 = false := by
  cases he : (F (pl f top)).2 with
  | false => rfl
  | true => exact absurd hz (H.ex _ he)
 refine ⟨hex, ?_, hpl⟩
 have hge := H.ge
 have hp2 : 2 ≤ 2 ^ (fp f - 1) := by
  have := Nat.pow_le_pow_right (show 0 < 2 by omega) (show 1 ≤ fp f - 1 by omega); omega
 have n1 : top ≠ 1 - (fe f : Int) := by
  intro hh
  rw [show top - (fp f : Int) + 1 = pl f top from by omega, hz] at hge; omega
 have n2 : top ≠ -(fe f : Int) := by
  intro hh
  have h2 := H.half (pl f top - 1)
  rw [show pl f top - 1 + 1 = pl f top from by omega, hz] at h2
  rw [show top - (fp f : Int) + 1 = pl f top - 1 from by omega] at hge
  omega
 have n3 : top < 1 - (fe f : Int) := by
  apply Classical.byContradiction; intro hh
  have : pl f top = top - fp f + 1 := by unfold pl; rw [if_neg hh]
  omega
 unfold yif
 rw [if_neg n2, decide_eq_true (by omega)]
theorem yiA (h : f ≤ 3) (hm : m ≤ 4) (H : FF F (fp f) top) (hfd : yrp f n root x y e top F) (htop : ∀ K : Int → Prop, K top → zdy n x y e root K) (hr : -3000000 ≤ top ∧ top ≤ 3000000) (K : Int → Int → Int → Prop)
  (hK : dlv f m n F top fun a b c _ => K a b c) : zdt f m n x y e root K := by
 have w := ycU f h
 have hf1 := H.tk_facts h m n
 rw [zdt.is]; unfold zdt.d
 refine htop _ ?_
 rw [ybg f h, ydI f h]
 unfold dlv at hK
 by_cases h1 : (fe f : Int) < top
 ·rw [yaB (yaS h1)]; rw [if_pos h1] at hK
  exact yhZ f m n h hm _ hK
 rw [yau (ya1 (by omega)), ycf f h]
 rw [if_neg h1] at hK
 have hp := ygM h top (by omega)
 have key : ∀ at_ : Int, at_ = pl f top → zdu n x y e root at_ fun y0 y1 y2 y3 => zdw m n y0 y1 y2 y3 fun y0 => zcy n y0 [1] y1 fun y0 y1 y2 y3_1 y4 => br (eqS y1 []) (zdo f n fun y0 y1 => K y0 y1 3) (zdp f y0 y1 y2 y3_1 fun y0 y1 y2 => br (!y2) (zdr f m n fun y0 y1 => K y0 y1 5) (br y3 (K y0 y1 0) (zdx f m n x y e root fun y0_4 => br y0_4 (K y0 y1 3) (K y0 y1 1)))) := by
  intro at_ hat
  subst hat
  refine yhg h hm H hfd hf1.2.2.2 (by omega) (fun y0 y1 y3 => zcy n y0 [1] y1 fun y0 y1 y2 y3_1 y4 => br (eqS y1 []) (zdo f n fun y0 y1 => K y0 y1 3) (zdp f y0 y1 y2 y3_1 fun y0 y1 y2 => br (!y2) (zdr f m n fun y0 y1 => K y0 y1 5) (br y3 (K y0 y1 0) (zdx f m n x y e root fun y0_4 => br y0_4 (K y0 y1 3) (K y0 y1 1))))) ?_
  have hfit : fit (tk F m n (pl f top)) := ydV (yhK h (H.lt _ hf1.2.2.2)) (ypM _ _ _ _)
  rw [← ydl]
  refine yoF n hfit yeT (by decide) (by unfold win; omega) ?_
  by_cases h0 : tk F m n (pl f top) = 0
  ·unfold mkE
   rw [if_pos h0]
   have hn := H.none h m n h0
   show br (eqS [] []) _ _
   rw [yaB (show eqS [] [] = true from rfl)]
   refine ymN f h n _ ?_
   have hb0 : yav 0 = 0 := by decide
   rw [h0, hb0, if_neg (by omega), hn.1, if_neg (by decide), hn.2.1, if_pos rfl] at hK
   have he : yiw f n (pl f top) 0 = enc f n 0 0 := by
    unfold yiw enc; rw [show (pl f top + (fe f : Int) + fp f - 2).toNat = 0 from by omega, Nat.zero_mul, Nat.add_zero]
   rw [he] at hK; exact hK
  ·obtain ⟨P, hP⟩ : ∃ P, P = 200 := ⟨_, rfl⟩
   have hlt : tk F m n (pl f top) < 2 ^ P := Nat.lt_of_le_of_lt hf1.1 (Nat.pow_lt_pow_right (by omega) (by omega))
   refine yr0 n h0 hlt hP (by omega) _ fun a g c ha hta hag hg => ?_
   rw [ybD, yau (by simpa using ha), ← ydl]
   refine ypq f h c _ ?_
   refine ysi h c ha hta hag hf1.1 hf1.2.2.1 hf1.2.1 _ ?_
   by_cases h2 : (fe f : Int) < (yav (tk F m n (pl f top)) : Int) - 1 + pl f top
   ·rw [if_pos h2] at hK ⊢
    rw [yaB (show (!false) = true from rfl)]
    exact yhZ f m n h hm _ hK
   ·rw [if_neg h2] at hK ⊢
    rw [yau (show (!true) = false from rfl)]
    cases hx : (F (pl f top)).2 with
    | true => rw [hx, if_pos rfl] at hK; exact hK
    | false =>
     rw [hx, if_neg (by decide)] at hK
     rw [yau rfl]
     refine ymw h hm H hfd htop hr _ ?_
     cases ht : yif f m n F top with
     | true => rw [ht, if_pos rfl] at hK; exact hK
     | false => rw [ht, if_neg (by decide)] at hK; exact hK
 by_cases hs : top < 1 - (fe f : Int)
 ·rw [yaB (yaS hs), ycf f h]
  exact key _ (by rw [yap (by omega) (by omega), yan (by omega) (by omega)]; unfold pl; rw [if_pos hs])
 ·rw [yau (ya1 (by omega))]
  exact key _ (by rw [yap (by omega) (by omega), yan (by omega) (by omega)]; unfold pl; rw [if_neg hs])
end
end Go.Ev.S

/- Floor functions of exact numbers. -/
set_option linter.unusedVariables false
set_option linter.unusedSimpArgs false
set_option maxRecDepth 8000
namespace Go.Ev.S
open Go Go.Ev
theorem yt2 {a b : Int} (h : a < b) : p2 a < p2 b := by
 obtain ⟨k, hk⟩ : ∃ k : Nat, b = a + ((k + 1 : Nat) : Int) := ⟨(b - a - 1).toNat, by omega⟩
 rw [hk, yeE, yeC]
 have h1 := yeI a
 have h2 : (1 : Rat) < ((2 ^ (k + 1) : Nat) : Rat) := by
  have : (1 : Nat) < 2 ^ (k + 1) := Nat.one_lt_two_pow (by omega)
  exact Rat.natCast_lt_natCast.2 this
 have := Rat.mul_lt_mul_of_pos_right h2 h1
 grind
theorem ytW {a b : Int} (h : a ≤ b) : p2 a ≤ p2 b := by
 rcases Int.lt_or_eq_of_le h with h | h
 ·have := yt2 h; grind
 ·rw [h]; exact Rat.le_refl
theorem yq3 {X : Rat} {at_ : Int} {m m' : Nat} {is is' : Bool} (h : Flr X at_ m is) (h' : Flr X at_ m' is') : m = m' ∧ is = is' := by
 have hp := yeI at_
 have h1 := h.le
 have h2 := h.lt
 have h3 := h'.le
 have h4 := h'.lt
 have l1 : m < m' + 1 := by
  rw [← Rat.natCast_lt_natCast, ← ybu hp]; grind
 have l2 : m' < m + 1 := by
  rw [← Rat.natCast_lt_natCast, ← ybu hp]; grind
 have e : m = m' := by omega
 subst e
 refine ⟨rfl, ?_⟩
 rw [Bool.eq_iff_iff, h.eq, h'.eq]
def FX (a b : Nat) (e at_ : Int) : Nat × Bool :=
 if at_ ≤ e then (a * 2 ^ (e - at_).toNat / b, decide (a * 2 ^ (e - at_).toNat % b = 0)) else (a / (b * 2 ^ (at_ - e).toNat), decide (a % (b * 2 ^ (at_ - e).toNat) = 0))
theorem ysn {a b : Nat} (e at_ : Int) (hb : b ≠ 0) : Flr (V false a b e) at_ (FX a b e at_).1 (FX a b e at_).2 := by
 unfold FX
 by_cases h : at_ ≤ e
 ·rw [if_pos h]; exact yn2 hb (yua a b e at_ hb h)
 ·rw [if_neg h]
  have hB : b * 2 ^ (at_ - e).toNat ≠ 0 := Nat.mul_ne_zero hb (Nat.pos_iff_ne_zero.1 (Nat.two_pow_pos _))
  exact yn2 hB (ytE a b e at_ hb (by omega))
theorem ytn {X : Rat} {F : Int → Nat × Bool} {p : Nat} {top : Int} (hp : 1 ≤ p) (hF : ∀ at_, Flr X at_ (F at_).1 (F at_).2) (h1 : p2 top ≤ X) (h2 : X < p2 (top + 1)) : FF F p top := by
 have hX : 0 < X := by have := yeI top; grind
 refine ⟨fun at_ hat => ?_, ?_, fun at_ hat hz => ?_, fun at_ => ?_⟩
 ·have hq := yeI at_
  have h3 := (hF at_).le
  have h4 := ytW (show top + 1 ≤ (p : Int) + at_ by omega)
  rw [yeE (p : Int), yeC] at h4
  generalize 2 ^ p = N at h4
  rw [← Rat.natCast_lt_natCast, ← ybu hq]; grind
 ·have hq := yeI (top - p + 1)
  have h3 := (hF (top - p + 1)).lt
  have h4 : p2 top = ((2 ^ (p - 1) : Nat) : Rat) * p2 (top - p + 1) := by rw [← yeC, ← yeE]; congr 1; omega
  have : 2 ^ (p - 1) < (F (top - p + 1)).1 + 1 := by
   generalize 2 ^ (p - 1) = N at h4
   rw [← Rat.natCast_lt_natCast, ← ybu hq]; grind
  omega
 ·have h3 := (hF at_).eq.1 hat
  rw [hz] at h3
  have : ((0 : Nat) : Rat) = 0 := rfl
  grind
 ·have hq := yeI at_
  have hq1 : p2 (at_ + 1) = 2 * p2 at_ := by rw [yeE, ytv]; grind
  have a1 := (hF at_).le
  have a2 := (hF at_).lt
  have b1 := (hF (at_ + 1)).le
  have b2 := (hF (at_ + 1)).lt
  rw [hq1] at b1 b2
  have e0 : ((2 : Nat) : Rat) = 2 := rfl
  generalize (F at_).1 = m at a1 a2 ⊢
  generalize (F (at_ + 1)).1 = k at b1 b2 ⊢
  have l1 : k * 2 < m + 1 := by
   rw [← Rat.natCast_lt_natCast, ← ybu hq, Rat.natCast_mul, e0]
   grind
  have l2 : m < (k + 1) * 2 := by
   rw [← Rat.natCast_lt_natCast, ← ybu hq, Rat.natCast_mul, e0]
   grind
  omega
theorem yob {a b : Nat} {e : Int} {p : Nat} (hp : 1 ≤ p) (ha : a ≠ 0) (hb : b ≠ 0) : FF (FX a b e) p (tp a b + e) :=
 ytn hp (fun at_ => ysn e at_ hb) (yub e ha hb).1 (yub e ha hb).2
theorem yta (a b : Nat) : (yav a : Int) - yav b - 1 ≤ tp a b := by unfold tp; (repeat' split) <;> omega
theorem yjG {n : Bool} {a b : Nat} {e at_ : Int} (c : Can n a b e) (ha : a ≠ 0) (h1 : -2097152 ≤ at_) (h2 : at_ ≤ 2097152) (hb : yav b ≤ 66000) (hl : tp a b + e - 2000 ≤ at_) (K : List UInt8 → Bool → Int → Prop)
  (hK : K (nb (FX a b e at_).1) (FX a b e at_).2 0) : yrT a b e at_ K := by
 refine ytH c ha h1 h2 (fun hle => ?_) K fun m is fl _ _ => ?_
 ·rw [ye7 ha]
  have := yta a b
  omega
 ·obtain ⟨e1, e2⟩ := yq3 fl (ysn (a := a) e at_ c.b0)
  rw [e1, e2]; exact hK
theorem ykC {b : Nat} {N : Nat} (h : (nb b).length ≤ N) : yav b ≤ 8 * N := by
 have := (ybC b N).1 h
 rw [ynJ] at this
 exact (yaP _ _).2 this
theorem yrE {f m : Nat} {n : Bool} {F : Int → Nat × Bool} {top : Int} {K : Int → Int → Int → Int → Prop} (h : dlv f m n F top K) : dlv f m n F top fun a b c _ => K a b c 0 := by
 unfold dlv at *
 by_cases h1 : (fe f : Int) < top
 ·rw [if_pos h1] at *; exact h
 ·rw [if_neg h1] at *
  by_cases h2 : (fe f : Int) < (yav (tk F m n (pl f top)) : Int) - 1 + pl f top
  ·rw [if_pos h2] at *; exact h
  ·rw [if_neg h2] at *; exact h
theorem ycy (m : Nat) (hm : m ≤ 4) (K : Bool → Prop) : zdm m K = K true := by
 rw [zdm.is]; unfold zdm.d; rw [ya4 (by omega)]
theorem ygI (m : Nat) (hm : 4 < m) (K : Bool → Prop) : zdm m K = K false := by
 rw [zdm.is]; unfold zdm.d; rw [yes (by omega)]
end Go.Ev.S

/- Rounding as the program has it. -/
set_option linter.unusedVariables false
set_option linter.unusedSimpArgs false
set_option maxRecDepth 8000
namespace Go.Ev.S
open Go Go.Ev
theorem yhs {x : Nat} (hf : fit x) (K : Int → Prop) (h : K (ybG x)) : zax (nb x) K := by
 refine yey _ _ ?_
 rw [if_pos (ya3 hf), yax]; exact h
theorem ym3 {x : Nat} (h0 : x ≠ 0) : eqI (ybG x : Int) 0 = decide (x % 2 = 1) := by
 have h1 : ybG x = 0 ↔ x % 2 = 1 := by
  constructor
  ·intro h
   obtain ⟨q, hq⟩ := yd9 x h0
   rw [h, Nat.pow_zero, Nat.one_mul] at hq; omega
  ·intro h; rw [ybG]; simp [h]
 by_cases h : x % 2 = 1
 ·rw [decide_eq_true h]; exact ylW (by have := h1.2 h; omega)
 ·rw [decide_eq_false h]; exact yjr (by intro hh; exact h (h1.1 (by omega)))
theorem ygh (f m : Nat) (n : Bool) (h : f ≤ 3) (hm : m ≤ 4) (K : Int → Int → Int → Int → Prop) (hK : K (Hi (ov f m n)) (Lo (ov f m n)) 5 0) : zed f m n K := by
 rw [zed.is]; unfold zed.d
 rw [ygi f h, yfU f h]
 rcases ysp hm with rfl | rfl | rfl | rfl | rfl <;> cases n <;> exact hK
theorem ytL (n o0 o1 none : Bool) : upB 0 n o0 (if o1 = true then (if none = true then 0 else 1) else -1) false = (o1 && (!none || o0)) := by
 cases o0 <;> cases o1 <;> cases none <;> rfl
theorem ytM (n o0 o1 none : Bool) : upB 4 n o0 (if o1 = true then (if none = true then 0 else 1) else -1) false = o1 := by
 cases o0 <;> cases o1 <;> cases none <;> rfl
section
variable {f m : Nat} {n neg root : Bool} {x y : List UInt8} {e top : Int} {F : Int → Nat × Bool}
def ykV (f : Nat) (n root : Bool) (x y : List UInt8) (e top : Int) (F : Int → Nat × Bool) : Prop :=
 ∀ at_ : Int, top - fp f ≤ at_ → at_ ≤ 20000 → ∀ K : List UInt8 → Bool → Prop, K (nb (F at_).1) (F at_).2 → zef n x y e root at_ K
theorem yjh (h : f ≤ 3) (hm : m ≤ 4) (H : FF F (fp f) top) (hfl : ykV f n root x y e top F) {at_ : Int} (hr : -3000000 ≤ top) (h1 : top - fp f + 1 ≤ at_) (h2 : at_ ≤ 20000) (K : List UInt8 → Bool → Prop)
  (hK : K (nb (tk F m neg at_)) (F at_).2) : zeg n x y e root m neg at_ K := by
 have w := ycU f h
 have l0 := H.lt at_ h1
 have f0 : fit (F at_).1 := ydV (yhK h l0) (by omega)
 have f1 : fit (F (at_ - 1)).1 := by
  have h4 := H.half (at_ - 1)
  rw [show at_ - 1 + 1 = at_ from by omega] at h4
  have h6 : (F (at_ - 1)).1 < 2 ^ (fp f + 1) := by rw [Nat.pow_succ]; omega
  obtain ⟨P, hP⟩ : ∃ P, P = fp f + 1 := ⟨_, rfl⟩
  rw [← hP] at h6
  exact yki h6 (by omega)
 have f2 : fit ((F at_).1 + 1) := yhK h l0
 rw [zeg.is]; unfold zeg.d
 refine hfl at_ (by omega) h2 _ ?_
 unfold tk at hK
 cases hx : (F at_).2 with
 | true =>
  rw [hx] at hK
  have : upB m neg (decide ((F at_).1 % 2 = 1)) (hf F at_) true = false := rfl
  rw [this] at hK
  exact hK
 | false =>
 rw [hx] at hK
 rw [yau rfl, yap (by omega) (by omega)]
 refine hfl (at_ - 1) (by omega) (by omega) _ ?_
 have hh : hf F at_ = if decide ((F (at_ - 1)).1 % 2 = 1) = true then (if (F (at_ - 1)).2 = true then 0 else 1) else -1 := by
  unfold hf
  by_cases g : (F (at_ - 1)).1 % 2 = 1
  ·rw [if_pos g, if_pos (decide_eq_true g)]
  ·rw [if_neg g, if_neg (by rw [decide_eq_false g]; decide)]
 rw [hh] at hK
 generalize (F at_).1 = n0 at hK f0 f2 ⊢
 generalize (F (at_ - 1)).1 = n1 at hK f1 ⊢
 generalize (F (at_ - 1)).2 = none at hK ⊢
 have hP1 : upB m neg (decide (n0 % 2 = 1)) (if decide (n1 % 2 = 1) = true then (if none = true then 0 else 1) else -1) false = true → zaq (nb n0) [1] fun y0 y1 => K y0 false := by
  intro hu
  rw [hu] at hK
  rw [← ydl]
  exact yqg f0 yeT (ydz (fun _ => hK) fun g => absurd f2 g)
 have hP0 : upB m neg (decide (n0 % 2 = 1)) (if decide (n1 % 2 = 1) = true then (if none = true then 0 else 1) else -1) false = false → K (nb n0) false := by
  intro hu
  rw [hu] at hK; exact hK
 generalize hQ1 : (zaq (nb n0) [1] fun y0 y1 => K y0 false) = Q1 at hP1 ⊢
 generalize hQ0 : K (nb n0) false = Q0 at hP0 ⊢
 clear hK
 have m2 : ∀ p : Prop, (neg = true → Q1) → (neg = false → Q0) → br (ydd neg true) Q1 Q0 := by
  intro _ a b; cases neg
  ·exact b rfl
  ·exact a rfl
 have m3 : ∀ p : Prop, (neg = false → Q1) → (neg = true → Q0) → br (ydd neg false) Q1 Q0 := by
  intro _ a b; cases neg
  ·exact a rfl
  ·exact b rfl
 have d1 : m = 1 → Q0 := by rintro rfl; exact hP0 rfl
 have d2 : m = 2 → br (ydd neg true) Q1 Q0 := by rintro rfl; exact m2 True hP1 hP0
 have d3 : m = 3 → br (ydd neg false) Q1 Q0 := by
  rintro rfl
  refine m3 True (fun hn => hP1 ?_) fun hn => hP0 ?_
  ·rw [hn]; rfl
  ·rw [hn]; rfl
 rw [ybD, ybD]
 refine ydb (fun z0 => ?_) fun z0 => ?_
 ·refine yhs f0 _ ?_
  refine ydb (fun z1 => ?_) fun z1 => ?_
  ·refine yhs f1 _ ?_
   rw [ym3 z0, ym3 z1]
   generalize decide (n0 % 2 = 1) = o0 at hP1 hP0 ⊢
   generalize decide (n1 % 2 = 1) = o1 at hP1 hP0 ⊢
   rcases ysp hm with rfl | rfl | rfl | rfl | rfl
   ·rw [ytL] at hP1 hP0
    show br o1 (br (!none) Q1 (br o0 Q1 Q0)) Q0
    cases o1 <;> cases none <;> cases o0 <;> first | exact hP1 rfl | exact hP0 rfl
   ·exact d1 rfl
   ·exact d2 rfl
   ·exact d3 rfl
   ·rw [ytM] at hP1 hP0
    show br o1 Q1 Q0
    cases o1 <;> first | exact hP1 rfl | exact hP0 rfl
  ·have e1 : decide (n1 % 2 = 1) = false := by rw [z1]; rfl
   rw [e1] at hP1 hP0
   rcases ysp hm with rfl | rfl | rfl | rfl | rfl
   ·rw [ytL] at hP1 hP0; exact hP0 rfl
   ·exact d1 rfl
   ·exact d2 rfl
   ·exact d3 rfl
   ·rw [ytM] at hP1 hP0; exact hP0 rfl
 ·have e0 : decide (n0 % 2 = 1) = false := by rw [z0]; rfl
  rw [e0] at hP1 hP0
  refine ydb (fun z1 => ?_) fun z1 => ?_
  ·refine yhs f1 _ ?_
   rw [ym3 z1]
   generalize decide (n1 % 2 = 1) = o1 at hP1 hP0 ⊢
   rcases ysp hm with rfl | rfl | rfl | rfl | rfl
   ·rw [ytL] at hP1 hP0
    show br o1 (br (!none) Q1 Q0) Q0
    cases o1 <;> cases none <;> first | exact hP1 rfl | exact hP0 rfl
   ·exact d1 rfl
   ·exact d2 rfl
   ·exact d3 rfl
   ·rw [ytM] at hP1 hP0
    show br o1 Q1 Q0
    cases o1 <;> first | exact hP1 rfl | exact hP0 rfl
  ·have e1 : decide (n1 % 2 = 1) = false := by rw [z1]; rfl
   rw [e1] at hP1 hP0
   rcases ysp hm with rfl | rfl | rfl | rfl | rfl
   ·rw [ytL] at hP1 hP0; exact hP0 rfl
   ·exact d1 rfl
   ·exact d2 rfl
   ·exact d3 rfl
   ·rw [ytM] at hP1 hP0; exact hP0 rfl
theorem yk9 (h : f ≤ 3) (hm : m ≤ 4) (H : FF F (fp f) top) (hfl : ykV f n root x y e top F) (htop : ∀ K : Int → Prop, K top → zei n x y e root K) (hr : -2000000 ≤ top ∧ top ≤ 3000000) (K : Bool → Prop)
  (hK : K (yif f m neg F top)) : zeh n x y e root f m neg K := by
 have w := ycU f h
 rw [zeh.is]; unfold zeh.d
 refine htop _ ?_
 rw [ybh f h, yb9 f h, yap (by omega) (by omega)]
 unfold yif at hK
 by_cases ht : top = -(fe f : Int)
 ·rw [yau (by rw [ylW (show top = 1 - (fe f : Int) - 1 by omega)]; rfl)]
  rw [if_pos ht] at hK
  rw [yap (by omega) (by omega), yan (by omega) (by omega)]
  refine yjh h hm H hfl (by omega) (Int.le_refl _) (by omega) _ ?_
  have htk := ypM F m neg (top - fp f + 1)
  have hl := H.lt (top - fp f + 1) (Int.le_refl _)
  refine yfy (ydV (yhK h hl) htk) ?_
  have e1 : leI (yav (tk F m neg (top - fp f + 1)) : Int) (fp f : Int) = decide (yav (tk F m neg (top - fp f + 1)) ≤ fp f) := by
   unfold leI; rw [decide_eq_decide]; omega
  rw [e1]; exact hK
 ·rw [yaB (by rw [yjr (show top ≠ 1 - (fe f : Int) - 1 by omega)]; rfl)]
  rw [if_neg ht] at hK
  rw [yb9 f h]; exact hK
theorem yeg (h : f ≤ 3) (hm : m ≤ 4) (H : FF F (fp f) top) (hfl : ykV f n root x y e top F) (htop : ∀ K : Int → Prop, K top → zei n x y e root K) (hr : -2000000 ≤ top ∧ top ≤ 3000000) (K : Int → Int → Int → Int → Prop)
  (hK : dlv f m neg F top K) : zee n x y e root f m neg K := by
 have w := ycU f h
 have hf1 := H.tk_facts h m neg
 rw [zee.is]; unfold zee.d
 refine htop _ ?_
 rw [yb5 f h]
 unfold dlv at hK
 by_cases h1 : (fe f : Int) < top
 ·rw [yaB (yaS h1)]; rw [if_pos h1] at hK
  exact ygh f m neg h hm _ hK
 rw [yau (ya1 (by omega)), yb9 f h, ybh f h]
 rw [if_neg h1] at hK
 have hp := ygM h top (by omega)
 have hat : yaj .i64 (yaq .i64 (yin top (1 - (fe f : Int))) (fp f : Int)) 1 = pl f top := by
  have e0 : yin top (1 - (fe f : Int)) = if top < 1 - fe f then 1 - (fe f : Int) else top := yfW _ _
  rw [e0]; unfold pl
  have hh : -2000000 ≤ (if top < 1 - (fe f : Int) then 1 - (fe f : Int) else top) ∧ (if top < 1 - (fe f : Int) then 1 - (fe f : Int) else top) ≤ 2000000 := by split <;> omega
  rw [yap (by omega) (by omega), yan (by omega) (by omega)]
 rw [hat]
 refine yjh h hm H hfl (by omega) hf1.2.2.2 (by omega) _ ?_
 have hfit : fit (tk F m neg (pl f top)) := ydV (yhK h (H.lt _ hf1.2.2.2)) (ypM _ _ _ _)
 refine yfy hfit ?_
 have hbl : yav (tk F m neg (pl f top)) ≤ fp f + 1 := by
  rw [yaP]
  exact Nat.lt_of_le_of_lt hf1.1 (Nat.pow_lt_pow_right (by omega) (by omega))
 rw [yb5 f h, yap (by omega) (by omega), yan (by omega) (by omega)]
 by_cases h2 : (fe f : Int) < (yav (tk F m neg (pl f top)) : Int) - 1 + pl f top
 ·rw [yaB (yaS h2)]; rw [if_pos h2] at hK
  exact ygh f m neg h hm _ hK
 rw [yau (ya1 (by omega))]
 rw [if_neg h2] at hK
 rw [← ydl]
 refine ylv neg hfit yeT (by decide) (by unfold win; omega) ?_
 have tail : ∀ y0 y1 : Int, y0 = Hi (yiw f neg (pl f top) (tk F m neg (pl f top))) → y1 = Lo (yiw f neg (pl f top) (tk F m neg (pl f top))) →
   br (F (pl f top)).2 (K y0 y1 0 0) (zeh n x y e root f m neg fun y0_7 => br y0_7 (K y0 y1 3 0) (K y0 y1 1 0)) := by
  rintro y0 y1 rfl rfl
  cases hx : (F (pl f top)).2 with
  | true => rw [hx, if_pos rfl] at hK; exact hK
  | false =>
   rw [hx, if_neg (by decide)] at hK
   rw [yau rfl]
   refine yk9 h hm H hfl htop hr _ ?_
   cases ht : yif f m neg F top with
   | true => rw [ht, if_pos rfl] at hK; exact hK
   | false => rw [ht, if_neg (by decide)] at hK; exact hK
 by_cases h0 : tk F m neg (pl f top) = 0
 ·have hn := H.none h m neg h0
  have he : yiw f neg (pl f top) 0 = enc f neg 0 0 := by
   unfold yiw enc; rw [show (pl f top + (fe f : Int) + fp f - 2).toNat = 0 from by omega, Nat.zero_mul, Nat.add_zero]
  rw [h0, he] at tail
  unfold mkE
  rw [if_pos h0]
  have c0 : Can false 0 1 0 := ⟨yq5, yeT, rfl, by unfold win; omega, fun _ => ⟨rfl, rfl, rfl⟩, fun hh => absurd rfl hh⟩
  have hz : zal f false [] [1] 0 = zal f false (nb 0) (nb 1) 0 := by rw [yaN, ydl]
  show zal f false [] [1] 0 _
  rw [hz]
  refine yi0 f h c0 _ ?_
  unfold ofE
  rw [if_pos rfl]
  show br (eqS (nb (tk F m neg (pl f top))) []) _ _
  rw [h0, ybD, yaB (by rfl), ykH f h]
  exact tail _ _ rfl rfl
 ·obtain ⟨P, hP⟩ : ∃ P, P = 200 := ⟨_, rfl⟩
  have hlt : tk F m neg (pl f top) < 2 ^ P := Nat.lt_of_le_of_lt hf1.1 (Nat.pow_lt_pow_right (by omega) (by omega))
  refine yr0 neg h0 hlt hP (by omega) _ fun a g c ha hta hag hg => ?_
  rw [← ydl]
  refine yi0 f h c _ ?_
  refine ysi h c ha hta hag hf1.1 hf1.2.2.1 hf1.2.1 _ ?_
  rw [if_neg h2, ybD, yau (by simpa using h0)]
  exact tail _ _ rfl rfl
end
theorem Can.abs' {s : Bool} {a b : Nat} {e : Int} (c : Can s a b e) : Can false a b e := ⟨c.fa, c.fb, c.ob, c.we, fun h => ⟨rfl, (c.z h).2⟩, c.r⟩
theorem ypE {f : Nat} (h : f ≤ 3) {n : Bool} {a b : Nat} {e : Int} (c : Can n a b e) (ha : a ≠ 0) (hb : yav b ≤ 66000) : ykV f n false (nb a) (nb b) e (tp a b + e) (FX a b e) := by
 have w := ycU f h
 have we := c.e64
 have hr := ycG c.fa c.fb
 intro at_ h1 h2 K hK
 rw [zef.is]; unfold zef.d
 rw [yaB (show (!false) = true from rfl)]
 exact ydc n c at_ (by omega) _ (yjG c ha (by omega) (by omega) hb (by omega) _ hK)
theorem ymk {n : Bool} {a b : Nat} {e : Int} (c : Can n a b e) (ha : a ≠ 0) (K : Int → Prop) (hK : K (tp a b + e)) : zei n (nb a) (nb b) e false K := by
 rw [zei.is]; unfold zei.d
 exact yd4 n c _ (fun hh => absurd hh ha) fun _ => hK
theorem ykm {f m : Nat} (h : f ≤ 3) (hm : m ≤ 4) {n : Bool} {a b : Nat} {e : Int} (c : Can n a b e) (ha : a ≠ 0) (la : (nb a).length ≤ 8192) (lb : (nb b).length ≤ 8192) (K : Int → Int → Int → Int → Prop)
  (hK : dlv f m n (FX a b e) (tp a b + e) K) : zeb f m n (nb a) (nb b) e K := by
 have w := ycU f h
 have we := c.e64
 have hr := ycG c.fa c.fb
 have hb : yav b ≤ 66000 := by have := ykC lb; omega
 rw [zeb.is]; unfold zeb.d
 rw [zec.is]; unfold zec.d
 rw [ya2 f h, yau (show (!eqI 0 0) = false from rfl), ycC m hm, yau (show (!eqI 0 0) = false from rfl)]
 refine ybb _ _ _ _ _ (fun _ => ?_) fun g => absurd c.may g
 rw [yau (show (!eqI 0 0) = false from rfl), yau rfl, yau (ya1 (by omega)), yau (ya1 (by omega))]
 show br (!eqI 0 0) _ _
 rw [yau (show (!eqI 0 0) = false from rfl), ybD, yau (by simpa using ha)]
 refine ylr n c _ ?_
 exact yeg h hm (yob (by omega) ha c.b0) (ypE h c.abs' ha hb) (fun K hK => ymk c.abs' ha K hK) (by omega) _ hK
end Go.Ev.S

/- The program's rounding is the document's. -/
set_option linter.unusedVariables false
set_option linter.unusedSimpArgs false
set_option maxRecDepth 8000
namespace Go.Ev.S
open Go Go.Ev
theorem ypr : Can false 1 3 0 := by
  have h3 : fit 3 := by
      unfold fit; have : nb 3 = [3] := by rw [yed (by decide), show 3 / 256 = 0 from rfl, yaN]; decide
      rw [this]; decide
  exact ⟨yeT, h3, rfl, by unfold win; omega, fun hh => by omega, fun _ => ⟨rfl, by decide⟩⟩
theorem yq4 : nb 3 = [3] := by rw [yed (by decide), show 3 / 256 = 0 from rfl, yaN]; decide
theorem yhT (m : Nat) (hm : m ≤ 4) (v : Nat) (hv : tk (FX 1 3 0) m false (-12) = v) (hb : yav v = 11) (K : Int → Int → Int → Int → Prop) (hK : K (Hi (yiw 2 false (-12) v)) (Lo (yiw 2 false (-12) v)) 1 0) : zeb 2 m false [1] [3] 0 K := by
  have h3 := yq4
  rw [← ydl, ← h3, show (2 : Int) = ((2 : Nat) : Int) from rfl]
  refine ykm (by omega) hm ypr (by decide) (by rw [ydl]; decide) (by rw [h3]; decide) K ?_
  have ht : tp 1 3 + 0 = -2 := by decide
  have hp : pl 2 (-2) = -12 := by decide
  have hx : (FX 1 3 0 (-12)).2 = false := by decide
  have hf : (fe 2 : Int) = 15 := rfl
  unfold dlv
  rw [ht, hp, hv, hb, hx, if_neg (by rw [hf]; decide), if_neg (by rw [hf]; decide), if_neg (by decide)]
  have htn : yif 2 m false (FX 1 3 0) (-2) = false := by
    unfold yif; rw [if_neg (by rw [hf]; decide), hf]; rfl
  rw [htn, if_neg (by decide)]
  exact hK
theorem yiB (K : Bool → Prop) (hK : K true) : zao K := by
  rw [zao.is]; unfold zao.d
  refine yhT 0 (by omega) 1365 (by decide) (by decide) _ ?_
  refine yhT 3 (by omega) 1366 (by decide) (by decide) _ ?_
  exact hK
theorem yqP (s : Bool) (x y : List UInt8) (e : Int) (K : Bool → Prop) (h1 : x.length ≤ 60 → y.length ≤ 60 → K true) (h2 : K false) : zap s x y e K := by
  rw [zap.is]; unfold zap.d
  by_cases g1 : x.length ≤ 60
  · by_cases g2 : y.length ≤ 60
    · rw [yaB (ya4 (by omega)), ya4 (by omega)]; exact h1 g1 g2
    · rw [yaB (ya4 (by omega)), yes (by omega)]; exact h2
  · rw [yau (yes (by omega))]; exact h2
end Go.Ev.S

/- The laws of natural numbers that need quotients. -/
set_option linter.unusedVariables false
set_option linter.unusedSimpArgs false
set_option maxRecDepth 8000
namespace Go.Ev.S
open Go Go.Ev
end Go.Ev.S

/- Roots of exact numbers. -/
set_option linter.unusedVariables false
set_option linter.unusedSimpArgs false
set_option maxRecDepth 8000
namespace Go.Ev.S
open Go Go.Ev
theorem ypo (x : Nat) : ∃ r, yb8 x r := by
 induction x with
 | zero => exact ⟨0, by unfold yb8; omega⟩
 | succ x ih =>
  obtain ⟨r, h1, h2⟩ := ih
  by_cases h : x + 1 < (r + 1) * (r + 1)
  ·exact ⟨r, by omega, h⟩
  ·refine ⟨r + 1, by omega, ?_⟩
   have e : (r + 1 + 1) * (r + 1 + 1) = (r + 1) * (r + 1) + 2 * (r + 1) + 1 := by grind
   omega
noncomputable def isq (x : Nat) : Nat := Classical.choose (ypo x)
theorem yjm (x : Nat) : yb8 x (isq x) := Classical.choose_spec (ypo x)
theorem ynN {x r : Nat} (h : yb8 x r) : isq x = r := yp8 (yjm x) h
theorem yrV (x : Nat) : isq (x / 4) = isq x / 2 := by
 apply ynN
 have h := yjm x
 unfold yb8 at *
 generalize isq x = r at h ⊢
 obtain ⟨q, c, hc, hr⟩ : ∃ q c, c < 2 ∧ r = 2 * q + c := ⟨r / 2, r % 2, by omega, by omega⟩
 have hq : r / 2 = q := by omega
 rw [hq]
 rcases (show c = 0 ∨ c = 1 by omega) with h0 | h0
 ·subst h0; subst hr
  have e1 : (2 * q + 0) * (2 * q + 0) = 4 * (q * q) := by grind
  have e2 : (2 * q + 0 + 1) * (2 * q + 0 + 1) = 4 * (q * q) + 4 * q + 1 := by grind
  have e3 : (q + 1) * (q + 1) = q * q + 2 * q + 1 := by grind
  omega
 ·subst h0; subst hr
  have e1 : (2 * q + 1) * (2 * q + 1) = 4 * (q * q) + 4 * q + 1 := by grind
  have e2 : (2 * q + 1 + 1) * (2 * q + 1 + 1) = 4 * (q * q) + 8 * q + 4 := by grind
  have e3 : (q + 1) * (q + 1) = q * q + 2 * q + 1 := by grind
  omega
theorem ysl (p : Nat) : 2 ^ (2 * p) = 2 ^ p * 2 ^ p := by rw [← Nat.pow_add]; congr 1; omega
theorem ytA {x p : Nat} (h : x < 2 ^ (2 * p)) : isq x < 2 ^ p := by
 have g := (yjm x).1
 apply Classical.byContradiction; intro hn
 have := Nat.mul_le_mul (show 2 ^ p ≤ isq x by omega) (show 2 ^ p ≤ isq x by omega)
 rw [ysl] at h; omega
theorem ytc {x p : Nat} (h : 2 ^ (2 * p) ≤ x) : 2 ^ p ≤ isq x := by
 have g := (yjm x).2
 apply Classical.byContradiction; intro hn
 have := Nat.mul_le_mul (show isq x + 1 ≤ 2 ^ p by omega) (show isq x + 1 ≤ 2 ^ p by omega)
 rw [ysl] at h; omega
theorem ysu {x : Nat} (h : x ≠ 0) : isq x ≠ 0 := by
 intro hh
 have g := (yjm x).2
 rw [hh] at g; omega
theorem ytr (x : Nat) : isq x ≤ x := ypu (yjm x)
noncomputable def RT (F : Int → Nat × Bool) (at_ : Int) : Nat × Bool := (isq (F (2 * at_)).1, (F (2 * at_)).2 && decide ((F (2 * at_)).1 - isq (F (2 * at_)).1 * isq (F (2 * at_)).1 = 0))
theorem ytN {F : Int → Nat × Bool} {p : Nat} {top : Int} (hp : 1 ≤ p) (H : FF F (2 * p) top) (H' : FF F (2 * p - 1) top) : FF (RT F) p (top / 2) := by
 refine ⟨fun at_ hat => ?_, ?_, fun at_ hat => ?_, fun at_ => ?_⟩
 ·exact ytA (H.lt (2 * at_) (by omega))
 ·refine ytc ?_
  have hg := H'.ge
  rw [show 2 * p - 1 - 1 = 2 * (p - 1) from by omega] at hg
  rcases (show 2 * (top / 2 - p + 1) = top - ((2 * p - 1 : Nat) : Int) + 1 ∨ 2 * (top / 2 - p + 1) + 1 = top - ((2 * p - 1 : Nat) : Int) + 1 by omega) with h | h
  ·rw [h]; exact hg
  ·have hh := H'.half (2 * (top / 2 - p + 1))
   rw [h] at hh
   generalize 2 ^ (2 * (p - 1)) = P at hg ⊢
   omega
 ·have h2 : (F (2 * at_)).2 = true := by
   have : ((F (2 * at_)).2 && decide ((F (2 * at_)).1 - isq (F (2 * at_)).1 * isq (F (2 * at_)).1 = 0)) = true := hat
   cases hx : (F (2 * at_)).2 with
   | true => rfl
   | false => rw [hx] at this; cases this
  exact ysu (H.ex _ h2)
 ·have h1 := H.half (2 * at_)
  have h2 := H.half (2 * at_ + 1)
  show isq (F (2 * (at_ + 1))).1 = isq (F (2 * at_)).1 / 2
  rw [← yrV, show 2 * (at_ + 1) = 2 * at_ + 1 + 1 from by omega, h2, h1, Nat.div_div_eq_div_mul]
theorem yuf {a : Int} (h : -3000000 ≤ a) (h2 : a ≤ 3000000) : yaE .i64 a 2 = if 0 ≤ a ∨ 2 ∣ a then a / 2 else a / 2 + 1 := by
 have e : a.tdiv 2 = a / 2 + if 0 ≤ a ∨ 2 ∣ a then 0 else Int.sign 2 := Int.tdiv_eq_ediv
 have hs : Int.sign 2 = 1 := rfl
 show IntKind.wrap .i64 (a.tdiv 2) = _
 rw [e, hs]
 by_cases g : 0 ≤ a ∨ (2 : Int) ∣ a
 ·rw [if_pos g, if_pos g]
  rw [Int.add_zero]; exact yde (by omega) (by omega)
 ·rw [if_neg g, if_neg g]
  exact yde (by omega) (by omega)
theorem yuh {a : Int} : eqI (yca .i64 a 2) 0 = decide (2 ∣ a) := by
 show decide (a.tmod 2 = 0) = decide (2 ∣ a)
 rw [decide_eq_decide]
 exact ⟨Int.dvd_of_tmod_eq_zero, Int.tmod_eq_zero_of_dvd⟩
theorem ymT {n : Bool} {a b : Nat} {e : Int} (c : Can n a b e) (ha : a ≠ 0) (K : Int → Prop) (hK : K ((tp a b + e) / 2)) : zdy n (nb a) (nb b) e true K := by
 have we := c.e64
 have hr := ycG c.fa c.fb
 have ww := c.we
 unfold win at ww
 rw [zdy.is]; unfold zdy.d
 refine yf1 n c _ (fun hh => absurd hh ha) fun _ => ?_
 generalize hT : tp a b + e = T at hK ⊢
 show br (ltI T 0) (br (!eqI (yca .i64 T 2) 0) (K (yaq .i64 (yaE .i64 T 2) 1)) (K (yaE .i64 T 2))) (K (yaE .i64 T 2))
 rw [yuf (by omega) (by omega), yuh]
 by_cases h0 : T < 0
 ·rw [yaB (yaS h0)]
  refine ydb (fun g => ?_) fun g => ?_
  ·rw [if_neg (by omega), yap (by omega) (by omega), show T / 2 + 1 - 1 = T / 2 from by omega]; exact hK
  ·rw [if_pos (.inr g)]; exact hK
 ·rw [yau (ya1 (by omega)), if_pos (by omega)]; exact hK
theorem ylf {n : Bool} {a b : Nat} {e : Int} (c : Can n a b e) (ha : a ≠ 0) (K : Int → Prop) (hK : K ((tp a b + e) / 2)) : zei n (nb a) (nb b) e true K := by
 rw [zei.is]; unfold zei.d
 refine yd4 n c _ (fun hh => absurd hh ha) fun _ => ?_
 rw [yaB rfl, show ya8 .i64 (tp a b + e) 1 = (tp a b + e) / 2 from (yd2 (k := .i64) (a := tp a b + e) (j := 1) (by decide)).trans (by rfl)]
 exact hK
section
variable {f : Nat} {n : Bool} {a b : Nat} {e : Int}
theorem ypm {p : Nat} (hp : p ≤ 3000) (H : FF (FX a b e) (p + 1) (tp a b + e)) {at_ : Int} (h : tp a b + e - p ≤ at_) : fit (FX a b e at_).1 := by
 have h1 := H.lt at_ (by omega)
 obtain ⟨P, hP⟩ : ∃ P, P = p + 1 := ⟨_, rfl⟩
 rw [← hP] at h1
 exact yki h1 (by omega)
theorem yp7 (h : f ≤ 3) (c : Can n a b e) (ha : a ≠ 0) (hb : yav b ≤ 66000) : ykV f n true (nb a) (nb b) e ((tp a b + e) / 2) (RT (FX a b e)) := by
 have w := ycU f h
 have we := c.e64
 have hr := ycG c.fa c.fb
 have ww := c.we
 unfold win at ww
 intro at_ h1 h2 K hK
 rw [zef.is]; unfold zef.d
 rw [yau (show (!true) = false from rfl), ybm (by omega) (by omega)]
 refine ydc n c _ (by omega) _ (yjG c ha (by omega) (by omega) hb (by omega) _ ?_)
 have hft := ypm (p := 2000) (by omega) (yob (e := e) (p := 2001) (by omega) ha c.b0) (at_ := 2 * at_) (by omega)
 refine ym6 _ _ (fun g => absurd (ya3 hft) g) fun _ r hroot => ?_
 rw [yax] at hroot ⊢
 rw [← ynN hroot, ybD]
 unfold RT at hK
 cases hx : (FX a b e (2 * at_)).2 with
 | true => rw [hx] at hK; exact hK
 | false => rw [hx] at hK; exact hK
theorem yrO (h : f ≤ 3) (c : Can n a b e) (ha : a ≠ 0) (hb : yav b ≤ 66000) : yrp f n true (nb a) (nb b) e ((tp a b + e) / 2) (RT (FX a b e)) := by
 have w := ycU f h
 have we := c.e64
 have hr := ycG c.fa c.fb
 have ww := c.we
 unfold win at ww
 intro at_ h1 h2 K hK
 rw [zdu.is]; unfold zdu.d
 rw [yau (show (!true) = false from rfl), ybm (by omega) (by omega)]
 refine yeb n c _ (by omega) _ (yjG c ha (by omega) (by omega) hb (by omega) _ ?_)
 have hft := ypm (p := 2000) (by omega) (yob (e := e) (p := 2001) (by omega) ha c.b0) (at_ := 2 * at_) (by omega)
 refine yhJ _ (ya3 hft) _ fun r hroot => ?_
 rw [yax] at hroot ⊢
 rw [← ynN hroot, ybD]
 have key : (RT (FX a b e) at_).2 = false → zcx n (nb a) (nb b) e (yaq .i64 (2 * at_) 2) fun y0_1 y1 y2 => zco y0_1 fun y0_2 y1_2 => zdv y0_2 fun y0_3 => br y0_3 (br y1 (br (eqS y1_2 []) (K (nb (isq (FX a b e (2 * at_)).1)) at_ 0 false) (K (nb (isq (FX a b e (2 * at_)).1)) at_ 1 false)) (K (nb (isq (FX a b e (2 * at_)).1)) at_ 1 false)) (K (nb (isq (FX a b e (2 * at_)).1)) at_ (-1) false) := by
  intro hz
  rw [hz] at hK
  have hhf : hf (RT (FX a b e)) at_ = if (RT (FX a b e) (at_ - 1)).1 % 2 = 1 then (if (RT (FX a b e) (at_ - 1)).2 = true then 0 else 1) else -1 := rfl
  rw [yap (by omega) (by omega)]
  refine yeb n c _ (by omega) _ (yjG c ha (by omega) (by omega) hb (by omega) _ ?_)
  have hft1 := ypm (p := 2000) (by omega) (yob (e := e) (p := 2001) (by omega) ha c.b0) (at_ := 2 * at_ - 2) (by omega)
  refine yhJ _ (ya3 hft1) _ fun s hs => ?_
  rw [yax] at hs ⊢
  rw [← ynN hs, ybD]
  refine yhM _ (ydV hft1 (ytr _)) _ ?_
  unfold RT at hhf
  rw [show 2 * (at_ - 1) = 2 * at_ - 2 from by omega] at hhf
  refine yfJ (fun ho => ?_) fun ho => ?_
  ·rw [if_pos ho] at hhf
   cases hy : (FX a b e (2 * at_ - 2)).2 with
   | false =>
    rw [hy, Bool.false_and, if_neg Bool.false_ne_true] at hhf
    exact hK _ fun _ => hhf.symm
   | true =>
    rw [hy, Bool.true_and] at hhf
    rw [yaB rfl]
    refine yfJ (fun hq => ?_) fun hq => ?_
    ·rw [if_pos (decide_eq_true hq)] at hhf; exact hK _ fun _ => hhf.symm
    ·rw [if_neg (by show ¬ (decide _ = true); rw [decide_eq_false hq]; exact Bool.false_ne_true)] at hhf; exact hK _ fun _ => hhf.symm
  ·rw [if_neg ho] at hhf; exact hK _ fun _ => hhf.symm
 have h2' : (RT (FX a b e) at_).2 = ((FX a b e (2 * at_)).2 && decide ((FX a b e (2 * at_)).1 - isq (FX a b e (2 * at_)).1 * isq (FX a b e (2 * at_)).1 = 0)) := rfl
 cases hx : (FX a b e (2 * at_)).2 with
 | false =>
  rw [hx, Bool.false_and] at h2'
  exact key h2'
 | true =>
  rw [hx, Bool.true_and] at h2'
  rw [yaB rfl]
  by_cases hq : (FX a b e (2 * at_)).1 - isq (FX a b e (2 * at_)).1 * isq (FX a b e (2 * at_)).1 = 0
  ·rw [decide_eq_true hq] at h2' ⊢
   rw [h2'] at hK
   exact hK _ fun hh => by cases hh
  ·rw [decide_eq_false hq] at h2' ⊢
   exact key h2'
theorem ypp (h : f ≤ 3) (ha : a ≠ 0) (hb : b ≠ 0) : FF (RT (FX a b e)) (fp f) ((tp a b + e) / 2) := by
 have w := ycU f h
 exact ytN (by omega) (yob (by omega) ha hb) (yob (by omega) ha hb)
theorem yk8 {m : Nat} (h : f ≤ 3) (hm : m ≤ 4) (c : Can false a b e) (ha : a ≠ 0) (la : (nb a).length ≤ 8192) (lb : (nb b).length ≤ 8192) (K : Int → Int → Int → Int → Prop)
  (hK : dlv f m false (RT (FX a b e)) ((tp a b + e) / 2) K) : zea f m false (nb a) (nb b) e K := by
 have w := ycU f h
 have we := c.e64
 have hr := ycG c.fa c.fb
 have hb : yav b ≤ 66000 := by have := ykC lb; omega
 rw [zea.is]; unfold zea.d
 rw [zec.is]; unfold zec.d
 rw [ya2 f h, yau (show (!eqI 0 0) = false from rfl), ycC m hm, yau (show (!eqI 0 0) = false from rfl)]
 refine ybb _ _ _ _ _ (fun _ => ?_) fun g => absurd c.may g
 rw [yau (show (!eqI 0 0) = false from rfl), yaB rfl, yau rfl, yau (ya1 (by omega)), yau (ya1 (by omega))]
 show br (!eqI 0 0) _ _
 rw [yau (show (!eqI 0 0) = false from rfl), ybD, yau (by simpa using ha)]
 exact yeg h hm (ypp h ha c.b0) (yp7 h c ha hb) (fun K hK => ylf c ha K hK) (by omega) _ hK
theorem ymF {m : Nat} (h : f ≤ 3) (hm : m ≤ 4) (c : Can false a b e) (ha : a ≠ 0) (la : (nb a).length ≤ 8192) (lb : (nb b).length ≤ 8192) (K : Int → Int → Int → Int → Prop)
  (hK : dlv f m false (RT (FX a b e)) ((tp a b + e) / 2) K) : zds f m false (nb a) (nb b) e K := by
 have w := ycU f h
 have we := c.e64
 have hr := ycG c.fa c.fb
 have hb : yav b ≤ 66000 := by have := ykC lb; omega
 rw [zds.is]; unfold zds.d
 rw [zdq.is]; unfold zdq.d
 rw [ycs f h, yau (show (!true) = false from rfl), ycy m hm, yau (show (!true) = false from rfl)]
 refine yf6 _ _ _ _ _ (fun _ => ?_) fun g => absurd c.may g
 rw [yau (show (!true) = false from rfl), yau (ya1 (by omega)), yau (ya1 (by omega))]
 show br false _ (br (!eqI 0 0) _ _)
 rw [yau rfl, yau (show (!eqI 0 0) = false from rfl), ybD, yau (by simpa using ha), yau rfl]
 exact yiA h hm (ypp h ha c.b0) (yrO h c ha hb) (fun K hK => ymT c ha K hK) (by omega) _ (yrE hK)
end
theorem ygp {f m : Nat} {n : Bool} {x y : List UInt8} {e : Int} (hb : 3 < f ∨ 4 < m ∨ ¬ MayE n x y e ∨ n = true) (K : Int → Int → Int → Int → Prop) (hK : K 0 0 0 2) : zea f m n x y e K := by
 rw [zea.is]; unfold zea.d
 rw [zec.is]; unfold zec.d
 by_cases h : f ≤ 3
 ·rw [ya2 f h, yau (show (!eqI 0 0) = false from rfl)]
  by_cases hm : m ≤ 4
  ·rw [ycC m hm, yau (show (!eqI 0 0) = false from rfl)]
   refine ybb _ _ _ _ _ (fun g => ?_) fun _ => hK
   rcases hb with hb | hb | hb | hb
   ·omega
   ·omega
   ·exact absurd g hb
   ·subst hb; exact hK
  ·rw [ykw m (by omega)]; exact hK
 ·rw [yiL f (by omega)]; exact hK
theorem yha {f m : Nat} {n : Bool} {x y : List UInt8} {e : Int} (hb : 3 < f ∨ 4 < m ∨ ¬ MayE n x y e ∨ (n = true ∧ x ≠ [])) (K : Int → Int → Int → Int → Prop) (hK : K 0 0 0 2) : zds f m n x y e K := by
 have h2 : br n (br (eqI 2 4) (K 0 0 0 2) (br (!eqI 2 0) (K 0 0 0 2) (br (eqS x []) (K 0 0 0 2) (br n (K 0 0 0 2) (zdt f m n x y e true fun y0 y1 y2 => K y0 y1 y2 0))))) (br (!eqI 2 0) (K 0 0 0 2) (br (eqS x []) (K 0 0 0 2) (br n (K 0 0 0 2) (zdt f m n x y e true fun y0 y1 y2 => K y0 y1 y2 0)))) := by
  cases n <;> exact hK
 rw [zds.is]; unfold zds.d
 rw [zdq.is]; unfold zdq.d
 by_cases h : f ≤ 3
 ·rw [ycs f h, yau (show (!true) = false from rfl)]
  by_cases hm : m ≤ 4
  ·rw [ycy m hm, yau (show (!true) = false from rfl)]
   refine yf6 _ _ _ _ _ (fun g => ?_) fun _ => h2
   rcases hb with hb | hb | hb | ⟨rfl, hx⟩
   ·omega
   ·omega
   ·exact absurd g hb
   ·rw [yau (show (!true) = false from rfl)]
    have h4 : br true (br (eqI 4 4) (K 0 0 0 2) (br (!eqI 4 0) (K 0 0 0 4) (br (eqS x []) (K 0 0 0 4) (br true (K 0 0 0 2) (zdt f m true x y e true fun y0 y1 y2 => K y0 y1 y2 0))))) (br (!eqI 4 0) (K 0 0 0 4) (br (eqS x []) (K 0 0 0 4) (br true (K 0 0 0 2) (zdt f m true x y e true fun y0 y1 y2 => K y0 y1 y2 0)))) := hK
    by_cases l1 : 8192 < (x.length : Int)
    ·rw [yaB (yaS l1)]; exact h4
    rw [yau (ya1 (by omega))]
    by_cases l2 : 8192 < (y.length : Int)
    ·rw [yaB (yaS l2)]; exact h4
    rw [yau (ya1 (by omega))]
    show br true (br (eqI 0 4) _ (br (!eqI 0 0) _ (br (eqS x []) _ (br true _ _)))) _
    rw [yaB rfl, yau (by rfl), yau (show (!eqI 0 0) = false from rfl), ya9, yau (by simpa using hx)]
    exact hK
  ·rw [ygI m (by omega)]; exact h2
 ·rw [yln f (by omega)]; exact h2
theorem yis {f m : Nat} (h : f ≤ 3) (hm : m ≤ 4) {b : Nat} {e : Int} (c : Can false 0 b e) (lb : (nb b).length ≤ 8192) (K : Int → Int → Int → Int → Prop) (hK : K 0 0 0 0) : zea f m false (nb 0) (nb b) e K := by
 have l0 : (nb 0).length = 0 := by rw [yaN]; rfl
 rw [zea.is]; unfold zea.d
 rw [zec.is]; unfold zec.d
 rw [ya2 f h, yau (show (!eqI 0 0) = false from rfl), ycC m hm, yau (show (!eqI 0 0) = false from rfl)]
 refine ybb _ _ _ _ _ (fun _ => ?_) fun g => absurd c.may g
 rw [yau (show (!eqI 0 0) = false from rfl), yaB rfl, yau rfl, yau (ya1 (by omega)), yau (ya1 (by omega))]
 show br (!eqI 0 0) _ _
 rw [yau (show (!eqI 0 0) = false from rfl), ybD, yaB (by rfl)]
 exact hK
theorem yka {f m : Nat} (h : f ≤ 3) (hm : m ≤ 4) {b : Nat} {e : Int} (c : Can false 0 b e) (lb : (nb b).length ≤ 8192) (K : Int → Int → Int → Int → Prop) (hK : K 0 0 0 0) : zds f m false (nb 0) (nb b) e K := by
 have l0 : (nb 0).length = 0 := by rw [yaN]; rfl
 rw [zds.is]; unfold zds.d
 rw [zdq.is]; unfold zdq.d
 rw [ycs f h, yau (show (!true) = false from rfl), ycy m hm, yau (show (!true) = false from rfl)]
 refine yf6 _ _ _ _ _ (fun _ => ?_) fun g => absurd c.may g
 rw [yau (show (!true) = false from rfl), yau (ya1 (by omega)), yau (ya1 (by omega))]
 show br false _ (br (!eqI 0 0) _ _)
 rw [yau rfl, yau (show (!eqI 0 0) = false from rfl), ybD, yaB (by rfl)]
 exact hK
theorem yoC (f m : Nat) (n : Bool) (x y : List UInt8) (e : Int) (lx : x.length ≤ 8192) (ly : y.length ≤ 8192) : ∃ p q r s, (∀ Q : Int → Int → Int → Int → Prop, Q p q r s → zea f m n x y e Q) ∧ (∀ Q : Int → Int → Int → Int → Prop, Q p q r s → zds f m n x y e Q) := by
 by_cases hb : 3 < f ∨ 4 < m ∨ ¬ MayE n x y e
 ·exact ⟨0, 0, 0, 2, fun Q hQ => ygp (by rcases hb with h | h | h <;> simp [h]) Q hQ, fun Q hQ => yha (by rcases hb with h | h | h <;> simp [h]) Q hQ⟩
 have h : f ≤ 3 := by omega
 have hm : m ≤ 4 := by omega
 have hM : MayE n x y e := Classical.byContradiction fun hh => hb (.inr (.inr hh))
 obtain ⟨a, b, rfl, rfl, c⟩ := hM.can
 by_cases ha : a = 0
 ·subst ha
  have hn : n = false := (c.z rfl).1
  subst hn
  exact ⟨0, 0, 0, 0, fun Q hQ => yis h hm c ly Q hQ, fun Q hQ => yka h hm c ly Q hQ⟩
 ·cases n with
  | true =>
   exact ⟨0, 0, 0, 2, fun Q hQ => ygp (.inr (.inr (.inr rfl))) Q hQ, fun Q hQ => yha (.inr (.inr (.inr ⟨rfl, fun hh => ha (nb_nil.1 hh)⟩))) Q hQ⟩
  | false =>
   obtain ⟨p, q, r, s, hd⟩ := ys2 f m false (RT (FX a b e)) ((tp a b + e) / 2)
   exact ⟨p, q, r, s, fun Q hQ => yk8 h hm c ha lx ly Q ((hd Q).2 hQ), fun Q hQ => ymF h hm c ha lx ly Q ((hd Q).2 hQ)⟩
theorem ruleRoots (a0 a1 : Int) (a2_0 : Bool) (a2_1 a2_2 : List UInt8) (a2_3 : Int) (w0 : (Lit.int .u8 a0).wf = true) (w1 : (Lit.int .u8 a1).wf = true)
  (w2 : a2_1.length ≤ maxLen) (w3 : a2_2.length ≤ maxLen) (w4 : (Lit.int .i64 a2_3).wf = true) (K : Bool → Prop) (hK : K true) : zan a0 a1 a2_0 a2_1 a2_2 a2_3 K := by
 obtain ⟨f, rfl, hf⟩ := yso w0
 obtain ⟨m, rfl, hm⟩ := yso w1
 have hal : zao fun y0 => K y0 := yiB _ hK
 rw [zan.is]; unfold zan.d
 refine yqP _ _ _ _ _ (fun s1 s2 => ?_) hal
 rw [yau (show (!true) = false from rfl)]
 obtain ⟨p, q, r, s, h1, h2⟩ := yoC f m a2_0 a2_1 a2_2 a2_3 (by omega) (by omega)
 refine h1 _ (h2 _ ?_)
 rw [yg8, yg8, yg8, yg8]; exact hal
end Go.Ev.S
