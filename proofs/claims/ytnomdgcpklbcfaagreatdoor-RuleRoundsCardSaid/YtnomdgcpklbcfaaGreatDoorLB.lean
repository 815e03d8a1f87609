/- What the document's answer reckons with natural numbers: quotients, greatest common divisors, roots. -/
import Derived.Test.YtnomdgcpklbcfaaGreatDoorLA
import Derived.Test.YtnomdgcpklbcfaaGreatDoorDA
set_option linter.unusedVariables false
set_option linter.unusedSimpArgs false
set_option maxRecDepth 8000
namespace Go.Ev.S
open Go Go.Ev
theorem sgn_ge {x y : Nat} (h : y ≤ x) : leI 0 (sgn x y) = true := by
 unfold sgn
 rw [if_neg (by omega)]
 split
 ·exact le_t (by omega)
 ·exact le_t (by omega)
theorem sgn_lt {x y : Nat} (h : x < y) : leI 0 (sgn x y) = false := by
 unfold sgn
 rw [if_pos h]
 exact le_f (by omega)
theorem bit_dg (x i : Nat) : dg 8 x (i / 8) / 2 ^ (i % 8) % 2 = x / 2 ^ i % 2 := by
 unfold dg
 have h2 : (2 : Nat) ^ 8 = 2 ^ (i % 8) * 2 ^ (8 - i % 8) := by rw [← Nat.pow_add]; congr 1; omega
 have h3 : (2 : Nat) ∣ 2 ^ (8 - i % 8) := Nat.dvd_trans (by rw [Nat.pow_one]; exact Nat.dvd_refl _ : (2 : Nat) ∣ 2 ^ 1) (Nat.pow_dvd_pow 2 (by omega))
 rw [h2, Nat.mod_mul_right_div_self, Nat.mod_mod_of_dvd _ h3, Nat.div_div_eq_div_mul, ← Nat.pow_add, show 8 * (i / 8) + i % 8 = i from by omega]
theorem r05_bit_ok (a : List UInt8) (i : Nat) (hi : i ≤ 1000000000) (hl : a.length ≤ 1000000000) (K : Int → Prop) : zcs a i K = K ((val a / 2 ^ i % 2 : Nat) : Int) := by
 rw [zcs.is]; unfold zcs.d
 have hd := dg_lt 8 (val a) (i / 8)
 rw [B8] at hd
 have e62 : (2 : Nat) ^ 62 = 4611686018427387904 := rfl
 have e0 : quoI IntKind.i64 (i : Int) 8 = ((i / 8 : Nat) : Int) := by rw [quo_i64 (by omega) (by omega) (by omega)]; omega
 have e1 : cvI IntKind.u64 (remI IntKind.i64 (i : Int) 8) = ((i % 8 : Nat) : Int) := by rw [rem_i (by omega), cv_u64 (by omega) (by omega)]; omega
 have hle := Nat.div_le_self (dg 8 (val a) (i / 8)) (2 ^ (i % 8))
 rw [e0, e1, r05_at_ok a _ (by omega) hl, lt_f (by omega), shr_i64 _ _ (by omega), and_i64_1 _ (by omega), bit_dg]
 rfl
theorem r05_double_loop (a : List UInt8) (one : Nat) (h1 : one < 2) (hl : a.length ≤ 1000000) (c0 m0 : Nat) (k0 : Nat → Nat → Nat → (Nat → Int) → Prop) (h : k0 (a.length + 1) c0 m0 (G 8 (2 * val a + one))) :
  ∀ (j i Z c : Nat), i + j = a.length + 1 → Z < 2 ^ (8 * i) → c < 2 → Z + c * 2 ^ (8 * i) = 2 * (val a % 2 ^ (8 * i)) + one → zct.l4 k0 (j + 1) a (a.length + 1) c0 c i m0 (G 8 Z) := by
 intro j
 induction j with
 | zero =>
  intro i Z c hi hZ hc hE
  have hi : i = a.length + 1 := by omega
  subst hi
  have hx := val_lt8 a
  have hp : 2 ^ (8 * (a.length + 1)) = 2 ^ (8 * a.length) * 256 := by rw [pow_k, B8]
  have hpp := Nat.two_pow_pos (8 * a.length)
  rw [Nat.mod_eq_of_lt (by omega)] at hE
  have hc0 : c = 0 := by
   rcases (by omega : c = 0 ∨ c = 1) with e | e
   ·exact e
   ·subst e; omega
  subst hc0
  unfold zct.l4 zct.l4.step
  rw [br_f (le_f (by omega))]
  rw [← hE, Nat.zero_mul, Nat.add_zero] at h
  exact h
 | succ j ih =>
  intro i Z c hi hZ hc hE
  have hd := dg_lt 8 (val a) i
  rw [B8] at hd
  have e1 : mulI IntKind.i64 2 ((dg 8 (val a) i : Nat) : Int) = ((2 * dg 8 (val a) i : Nat) : Int) := by rw [mul_i64 (by omega) (by omega)]; omega
  have e2 : addI IntKind.i64 (c : Int) ((2 * dg 8 (val a) i : Nat) : Int) = ((c + 2 * dg 8 (val a) i : Nat) : Int) := by rw [add_i64 (by omega) (by omega)]; omega
  have e3 : shrI IntKind.i64 ((c + 2 * dg 8 (val a) i : Nat) : Int) 8 = (((c + 2 * dg 8 (val a) i) / 256 : Nat) : Int) := by rw [shr_i64_8]; omega
  have e4 : cvI IntKind.u8 ((c + 2 * dg 8 (val a) i : Nat) : Int) = (((c + 2 * dg 8 (val a) i) % 256 : Nat) : Int) := by rw [cv_u8']; omega
  have e5 : addI IntKind.i64 (i : Int) 1 = ((i + 1 : Nat) : Int) := by rw [add_i64 (by omega) (by omega)]; omega
  have hw : (c + 2 * dg 8 (val a) i) % 256 < 2 ^ 8 := Nat.mod_lt _ (by omega)
  unfold zct.l4 zct.l4.step
  rw [br_t (le_t (by omega)), r05_at_ok a i (by omega) (by omega), gd_t (by rw [le_t (by omega), lt_t (by omega)]; rfl), e1, e2, e3, e4, e5, Int.toNat_natCast, G_put 8 Z _ i hZ hw]
  refine ih (i + 1) _ _ (by omega) (put_lt 8 Z _ i hZ hw) (by omega) ?_
  rw [mod_dg, pow_k, B8]
  have := dm_mul' (c + 2 * dg 8 (val a) i) 256 (2 ^ (8 * i))
  rw [Nat.add_mul c, Nat.mul_assoc] at this
  rw [Nat.mul_add]
  omega
theorem r05_double_ok (a : List UInt8) (one : Nat) (h1 : one < 2) (hl : a.length ≤ 1000000) (K : List UInt8 → Prop) (h : K (nb (2 * val a + one))) : zct a one K := by
 rw [zct.is]; unfold zct.d
 have e1 : Int.toNat ((a.length : Int) + 1) = a.length + 1 := by omega
 simp (disch := omega) only [le_t, gd_true, Bool.and_self, add_i64, e1]
 refine ⟨a.length + 2, ?_⟩
 have hx := val_lt8 a
 have := r05_double_loop a one h1 hl (a.length + 1) (a.length + 1) (fun y0 y1 y2 y3 => zcu y0 y3 fun y0 => K y0) ?_ (a.length + 1) 0 0 one (by omega) (by simp) h1 (by simp [Nat.mod_one])
 ·rw [G_zero] at this; exact this
 ·refine r05_fit_ok _ _ (by omega) ?_ _ h
  rw [pow_k, B8]; omega
theorem half_div (x t : Nat) : x / 2 ^ t = 2 * (x / 2 ^ (t + 1)) + x / 2 ^ t % 2 := by
 rw [Nat.pow_succ, ← Nat.div_div_eq_div_mul]
 omega
theorem div_step (X y q r b : Nat) (hy : 0 < y) (hq : X / y = q) (hr : X % y = r) (hb : b < 2) :
  (y ≤ 2 * r + b → (2 * X + b) / y = 2 * q + 1 ∧ (2 * X + b) % y = 2 * r + b - y) ∧ (2 * r + b < y → (2 * X + b) / y = 2 * q ∧ (2 * X + b) % y = 2 * r + b) := by
 have h1 := Nat.div_add_mod X y
 have h2 := Nat.mod_lt X hy
 rw [hq, hr] at h1
 rw [hr] at h2
 have h3 : 2 * X + b = 2 * r + b + y * (2 * q) := by rw [← h1, Nat.mul_left_comm y 2 q]; omega
 constructor
 ·intro h
  have h4 : 2 * X + b = (2 * r + b - y) + y * (2 * q + 1) := by rw [h3, Nat.mul_add]; omega
  rw [h4, Nat.add_mul_div_left _ _ hy, Nat.add_mul_mod_self_left, Nat.div_eq_of_lt (by omega), Nat.mod_eq_of_lt (by omega)]
  omega
 ·intro h
  rw [h3, Nat.add_mul_div_left _ _ hy, Nat.add_mul_mod_self_left, Nat.div_eq_of_lt h, Nat.mod_eq_of_lt h]
  omega
theorem set_bit (q t : Nat) : upd (G 8 (q * 2 ^ (t + 1))) (t / 8) (orI IntKind.u8 ((dg 8 (q * 2 ^ (t + 1)) (t / 8) : Nat) : Int) (shlI IntKind.u8 1 ((t % 8 : Nat) : Int))) = G 8 ((2 * q + 1) * 2 ^ t) := by
 have hb : IntKind.bits .u8 = 8 := rfl
 have hd := dg_lt 8 (q * 2 ^ (t + 1)) (t / 8)
 have h8 : (2 : Nat) ^ 8 = 2 ^ (t % 8 + 1) * 2 ^ (8 - (t % 8 + 1)) := by rw [← Nat.pow_add]; congr 1; omega
 have hmod : dg 8 (q * 2 ^ (t + 1)) (t / 8) % 2 ^ (t % 8 + 1) = 0 := by
  unfold dg
  rw [Nat.mod_mod_of_dvd _ ⟨_, h8⟩, show t + 1 = t % 8 + 1 + 8 * (t / 8) from by omega, Nat.pow_add, ← Nat.mul_assoc, Nat.mul_div_cancel _ (Nat.two_pow_pos _)]
  exact Nat.mul_mod_left _ _
 have hlt : 2 ^ (t % 8) < 2 ^ (t % 8 + 1) := Nat.pow_lt_pow_right (by omega) (by omega)
 have h1 : shlI IntKind.u8 1 ((t % 8 : Nat) : Int) = ((2 ^ (t % 8) : Nat) : Int) := by
  have := shl_k (k := .u8) rfl 1 (t % 8) (by rw [hb]; omega)
  rw [Nat.one_mul, hb, Nat.mod_eq_of_lt (Nat.pow_lt_pow_right (by omega) (by omega))] at this
  exact this
 have hs : dg 8 (q * 2 ^ (t + 1)) (t / 8) ||| 2 ^ (t % 8) = 2 ^ (t % 8) + dg 8 (q * 2 ^ (t + 1)) (t / 8) := by
  rw [Nat.or_comm]; exact or_mult hlt hmod
 have hs2 : dg 8 (q * 2 ^ (t + 1)) (t / 8) ||| 2 ^ (t % 8) < 2 ^ 8 := Nat.or_lt_two_pow hd (Nat.pow_lt_pow_right (by omega) (by omega))
 rw [h1, or_k (k := .u8) rfl _ _ (by rw [hb]; exact hd) (by rw [hb]; exact Nat.pow_lt_pow_right (by omega) (by omega))]
 refine G_upd ?_ hs2
 rw [hs, Nat.add_mul (2 ^ (t % 8)), ← Nat.pow_add, show t % 8 + 8 * (t / 8) = t from by omega, Nat.add_mul (2 * q) 1, Nat.one_mul, Nat.pow_succ, Nat.mul_comm (2 ^ t) 2, ← Nat.mul_assoc, Nat.mul_comm q 2]
 omega
theorem nb_short {x n : Nat} (h : x < 2 ^ (8 * n)) : (nb x).length ≤ n := (nb_len_le x n).2 (by rw [p256]; exact h)
theorem r05_Div_loop (a b : List UInt8) (hl : a.length ≤ 100000) (hlb : b.length ≤ 100000) (hb : lead b = true) (hy : 0 < val b) (c0 m0 : Nat) (k0 : List UInt8 → Nat → Nat → Nat → (Nat → Int) → Prop)
  (h : k0 (nb (val a % val b)) (a.length + 1) c0 m0 (G 8 (val a / val b))) :
  ∀ t, t ≤ 8 * a.length → zcg.l10 k0 (t + 1) a b (nb (val a / 2 ^ t % val b)) (a.length + 1) c0 ((t : Int) - 1) m0 (G 8 (val a / 2 ^ t / val b * 2 ^ t)) := by
 intro t
 induction t with
 | zero =>
  intro ht
  unfold zcg.l10 zcg.l10.step
  rw [br_f (le_f (by omega)), Nat.pow_zero, Nat.div_one, Nat.mul_one]
  exact h
 | succ t ih =>
  intro ht
  have ih := ih (by omega)
  have hx := half_div (val a) t
  have hb2 : val a / 2 ^ t % 2 < 2 := Nat.mod_lt _ (by omega)
  generalize hbit : val a / 2 ^ t % 2 = bit at *
  rw [hx] at ih
  generalize val a / 2 ^ (t + 1) = X at *
  obtain ⟨s1, s2⟩ := div_step X (val b) _ _ bit hy rfl rfl hb2
  have hr := Nat.mod_lt X hy
  have hyl := val_lt8 b
  generalize hre : X % val b = r at *
  generalize hqe : X / val b = q at *
  have lr : (nb r).length ≤ b.length := nb_short (by omega)
  have e1 : ((t + 1 : Nat) : Int) - 1 = (t : Int) := by omega
  have e2 : quoI IntKind.i64 (t : Int) 8 = ((t / 8 : Nat) : Int) := by rw [quo_i64 (by omega) (by omega) (by omega)]; omega
  have e3 : cvI IntKind.u64 (remI IntKind.i64 (t : Int) 8) = ((t % 8 : Nat) : Int) := by rw [rem_i (by omega), cv_u64 (by omega) (by omega)]; omega
  have e4 : subI IntKind.i64 (t : Int) 1 = (t : Int) - 1 := by rw [sub_i64 (by omega) (by omega)]
  have w0 : (leI 0 ((t / 8 : Nat) : Int) && ltI ((t / 8 : Nat) : Int) ((a.length + 1 : Nat) : Int)) = true := by rw [le_t (by omega), lt_t (by omega)]; rfl
  unfold zcg.l10 zcg.l10.step
  rw [e1, br_t (le_t (by omega)), r05_bit_ok a t (by omega) (by omega), hbit]
  refine r05_double_ok (nb r) bit hb2 (by omega) _ ?_
  rw [val_nb, r05_Cmp_ok _ b (lead_nb _) hb, val_nb]
  have l2 : (nb (2 * r + bit)).length ≤ b.length + 1 := nb_short (by rw [pow_k, B8]; omega)
  by_cases hc : val b ≤ 2 * r + bit
  ·obtain ⟨g1, g2⟩ := s1 hc
   rw [g1, g2] at ih
   rw [br_t (sgn_ge hc)]
   refine r05_sub_ok _ b (by omega) (by omega) (by rw [val_nb]; exact hc) _ ?_
   rw [val_nb, e2, e3, gd_t w0, gd_t (by rw [lt_f (by omega)]; rfl), gd_t w0, Int.toNat_natCast, G_app, set_bit, e4]
   exact ih
  ·obtain ⟨g1, g2⟩ := s2 (by omega)
   rw [g1, g2, show 2 * q * 2 ^ t = q * 2 ^ (t + 1) from by rw [Nat.pow_succ, Nat.mul_comm 2 q, Nat.mul_assoc, Nat.mul_comm 2]] at ih
   rw [br_f (sgn_lt (by omega)), e4]
   exact ih
theorem r05_Div_ok (a b : List UInt8) (ha : May a) (hb : May b) (K : List UInt8 → List UInt8 → Int → Prop) (h0 : b = [] → K [] [] 2) (h2 : val b ≠ 0 → K (nb (val a / val b)) (nb (val a % val b)) 0) : zcg a b K := by
 rw [zcg.is]; unfold zcg.d
 rw [eqS_nil]
 by_cases hz : b = []
 ·rw [br_t (by simpa using hz)]; exact h0 hz
 ·rw [br_f (by simpa using hz), r05_Cmp_ok a b ha.2 hb.2, sgn_neg]
  have hv : val b ≠ 0 := fun e => hz ((lead_val hb.2).1 e)
  have h2 := h2 hv
  have l1 := ha.1; have l2 := hb.1
  by_cases hlt : val a < val b
  ·rw [br_t (by simpa using hlt)]
   rw [Nat.div_eq_of_lt hlt, Nat.mod_eq_of_lt hlt, nb_zero, ha.nb] at h2
   exact h2
  ·rw [br_f (by simpa using hlt)]
   have va : val a ≠ 0 := by omega
   refine r05_Len_ok a _ (r05_Len_ok b _ ?_)
   rw [if_pos ha, if_pos hb]
   have ba : blen (val a) ≤ 8 * a.length := (blen_le _ _).2 (val_lt8 a)
   have bb : blen (val b) ≤ 8 * b.length := (blen_le _ _).2 (val_lt8 b)
   have bp := blen_pos hv
   have bm : blen (val b) ≤ blen (val a) := (blen_le _ _).2 (by have := blen_lt (val a); omega)
   have e1 : subI IntKind.i64 ((blen (val a) : Nat) : Int) (subI IntKind.i64 ((blen (val b) : Nat) : Int) 1) = ((blen (val a) - (blen (val b) - 1) : Nat) : Int) := by
    simp (disch := omega) only [sub_i64]; omega
   rw [e1]
   have hT : val a / 2 ^ (blen (val a) - (blen (val b) - 1)) < val b := by
    rw [Nat.div_lt_iff_lt_mul (Nat.two_pow_pos _)]
    have g1 := le_blen hv
    have g2 := blen_lt (val a)
    have g3 := Nat.mul_le_mul_right (2 ^ (blen (val a) - (blen (val b) - 1))) g1
    rw [← Nat.pow_add, show blen (val b) - 1 + (blen (val a) - (blen (val b) - 1)) = blen (val a) from by omega] at g3
    omega
   generalize hTe : blen (val a) - (blen (val b) - 1) = T at *
   refine r05_Right_ok a _ (by omega) ha _ (fun e => by omega) (fun _ e => absurd ((lead_val ha.2).2 e) va) fun _ _ => ?_
   rw [Int.toNat_natCast]
   have e2 : addI IntKind.i64 ((a.length : Nat) : Int) 1 = (a.length : Int) + 1 := by rw [add_i64 (by omega) (by omega)]
   have e3 : Int.toNat ((a.length : Int) + 1) = a.length + 1 := by omega
   rw [e2, gd_t (by rw [le_t (by omega), le_t (by omega), le_t (by omega)]; rfl), e3, sub_i64 (by omega) (by omega)]
   refine ⟨T + 1, ?_⟩
   have := r05_Div_loop a b (by omega) (by omega) hb.2 (by omega) (a.length + 1) (a.length + 1) (fun y0 y1 y2 y3 y4 => zcu y1 y4 fun y0_3 => K y0_3 y0 0) ?_ T (by omega)
   ·rw [Nat.mod_eq_of_lt hT, Nat.div_eq_of_lt hT, Nat.zero_mul, G_zero] at this
    exact this
   ·refine r05_fit_ok _ _ (by omega) ?_ _ h2
    have g1 := Nat.div_le_self (val a) (val b)
    have g2 := val_lt8 a
    have g3 : 2 ^ (8 * a.length) ≤ 2 ^ (8 * (a.length + 1)) := pow_le_k (by omega)
    omega
theorem may_mono {x y : Nat} (h : x ≤ y) (hm : May (nb y)) : May (nb x) := by
 refine ⟨?_, lead_nb x⟩
 have := (nb_len_le y _).1 hm.1
 exact (nb_len_le x _).2 (by omega)
theorem r05_Gcd_loop (k0 : List UInt8 → Prop) : ∀ (y x : Nat), May (nb x) → May (nb y) → k0 (nb (Nat.gcd x y)) → ∃ f, zch.l1 k0 f (nb x) (nb y) := by
 intro y
 induction y using Nat.strongRecOn with
 | _ y ih =>
  intro x hx hy hk
  by_cases h0 : y = 0
  ·subst h0
   refine ⟨1, ?_⟩
   unfold zch.l1 zch.l1.step
   rw [nb_zero, eqS_nil, br_f (by rfl)]
   rw [Nat.gcd_zero_right] at hk; exact hk
  ·have hm := Nat.mod_lt x (show 0 < y by omega)
   have hg : Nat.gcd y (x % y) = Nat.gcd x y := by rw [Nat.gcd_comm x y, Nat.gcd_rec y x, Nat.gcd_comm]
   obtain ⟨f, hf⟩ := ih (x % y) hm y hy (may_mono (Nat.le_of_lt hm) hy) (by rw [hg]; exact hk)
   refine ⟨f + 1, ?_⟩
   unfold zch.l1 zch.l1.step
   rw [eqS_nil, br_t (by simp [nb_ne h0])]
   refine r05_Div_ok _ _ hx hy _ (fun e => absurd e (nb_ne h0)) fun _ => ?_
   rw [val_nb, val_nb]; exact hf
theorem r05_Gcd_ok (a b : List UInt8) (ha : May a) (hb : May b) (K : List UInt8 → Prop) (h : K (nb (Nat.gcd (val a) (val b)))) : zch a b K := by
 rw [zch.is]; unfold zch.d
 have := r05_Gcd_loop (fun y0 => K y0) (val b) (val a) (by rw [ha.nb]; exact ha) (by rw [hb.nb]; exact hb) h
 rw [ha.nb, hb.nb] at this
 exact this
end Go.Ev.S

/- The laws of natural numbers that need no quotient: sums, products, a ring. -/
set_option linter.unusedVariables false
set_option linter.unusedSimpArgs false
set_option maxRecDepth 8000
namespace Go.Ev.S
open Go Go.Ev
theorem eqI_self (a : Int) : eqI a a = true := by simp [eqI]
end Go.Ev.S

/- The law of shifts. -/
set_option linter.unusedVariables false
set_option linter.unusedSimpArgs false
set_option maxRecDepth 8000
namespace Go.Ev.S
open Go Go.Ev
theorem may_nz {a : List UInt8} (hm : May a) (h : a ≠ []) : val a ≠ 0 := fun e => by have := hm.nb; rw [e, nb_zero] at this; exact h this.symm
theorem may_blen {a : List UInt8} (hm : May a) : blen (val a) ≤ 131072 := by rw [← len_blen, hm.nb]; exact hm.1
theorem nat_Left_ok (a : List UInt8) (n : Int) (hn : n < 9223372036854775808) (K : List UInt8 → Int → Prop) (h0 : ¬ May a → K [] 2) (h1 : May a → n < 0 → K [] 2) (h2 : May a → 0 ≤ n → a = [] → K [] 0)
  (h3 : May a → 0 ≤ n → a ≠ [] → 131072 < (blen (val a) : Int) + n → K [] 4) (h4 : May a → 0 ≤ n → a ≠ [] → (blen (val a) : Int) + n ≤ 131072 → K (nb (val a * 2 ^ n.toNat)) 0) : zav a n K := by
 rw [zav.is]; unfold zav.d
 rw [nat_Check_ok]
 by_cases hm : May a
 ·rw [if_pos hm, br_f (by rfl)]
  by_cases hneg : n < 0
  ·rw [br_t (lt_t hneg)]; exact h1 hm hneg
  rw [br_f (lt_f (by omega)), eqS_nil]
  by_cases hz : a = []
  ·rw [br_t (by simp [hz])]; exact h2 hm (by omega) hz
  rw [br_f (by simp [hz])]
  refine nat_Len_ok a _ ?_
  have hb := may_blen hm
  rw [if_pos hm, sub_i64 (by omega) (by omega)]
  by_cases hlong : 131072 < (blen (val a) : Int) + n
  ·rw [br_t (lt_t (by omega))]; exact h3 hm (by omega) hz hlong
  rw [br_f (lt_f (by omega))]
  obtain ⟨s, rfl⟩ : ∃ s : Nat, n = s := ⟨n.toNat, by omega⟩
  have h4 := h4 hm (by omega) hz (by omega)
  rw [Int.toNat_natCast] at h4
  refine hm.words _ ?_
  have hw := hm.wl
  refine nat_up_ok _ _ s (by omega) (by omega) hm.lt _ _ (fun hc => ?_) fun _ c m => ?_
  ·exfalso
   have := hm.lt
   rw [hc] at this
   have h0 := may_nz hm hz
   simp at this; omega
  ·refine nat_told_ok _ _ ?_ (lt_wl32 _) _ ?_
   ·have hl := nat_up_fin (val a) _ s (by omega) (by omega) hm.lt
    have := (wl_le 32 (by omega) _ _).2 hl
    omega
   ·have : (nb (val a * 2 ^ s)).length ≤ 16384 := by
     rw [len_blen, blen_mul _ _ (may_nz hm hz)]; omega
    rw [if_neg (by omega)]; exact h4
 ·rw [if_neg hm, br_t (by rfl)]; exact h0 hm
theorem nat_Right_ok (a : List UInt8) (n : Int) (hn : n < 9223372036854775808) (K : List UInt8 → Bool → Int → Prop) (h0 : ¬ May a → K [] false 2) (h1 : May a → n < 0 → K [] false 2) (h2 : May a → 0 ≤ n → a = [] → K [] false 0)
  (h3 : May a → 0 ≤ n → a ≠ [] → K (nb (val a / 2 ^ n.toNat)) (decide ((lowb (val a) : Int) < n)) 0) : zay a n K := by
 rw [zay.is]; unfold zay.d
 rw [nat_Check_ok]
 by_cases hm : May a
 ·rw [if_pos hm, br_f (by rfl)]
  by_cases hneg : n < 0
  ·rw [br_t (lt_t hneg)]; exact h1 hm hneg
  rw [br_f (lt_f (by omega)), eqS_nil]
  by_cases hz : a = []
  ·rw [br_t (by simp [hz])]; exact h2 hm (by omega) hz
  rw [br_f (by simp [hz])]
  obtain ⟨s, rfl⟩ : ∃ s : Nat, n = s := ⟨n.toNat, by omega⟩
  have h3 := h3 hm (by omega) hz
  rw [Int.toNat_natCast] at h3
  refine hm.words _ ?_
  have hw := hm.wl
  refine nat_down_ok _ _ s (by omega) (by omega) hm.lt _ ?_
  have hle : wl 32 (val a / 2 ^ s) ≤ wl 32 (val a) := wl_mono (by omega) (Nat.div_le_self _ _)
  refine nat_number_ok _ _ (by omega) (lt_wl32 _) _ ?_
  refine nat_Low_ok a _ ?_
  rw [if_pos hm, lt_low]; exact h3
 ·rw [if_neg hm, br_t (by rfl)]; exact h0 hm
end Go.Ev.S

/- Natural numbers made of words, told as words. -/
set_option linter.unusedVariables false
set_option linter.unusedSimpArgs false
set_option maxRecDepth 8000
namespace Go.Ev.S
open Go Go.Ev
theorem nat_ToWide_loop (a : List UInt8) (x : Nat) (n : Nat) (hn : n ≤ 12) (k0 : List UInt8 → (Nat → Int) → Prop) (h : k0 a (G 64 (x % 2 ^ (32 * n)))) :
  ∀ (j i : Nat), i + j = n → zba.l4 k0 (j + 1) a n (G 32 x) n i (G 64 (x % 2 ^ (32 * i))) := by
 intro j
 induction j with
 | zero =>
  intro i hi
  unfold zba.l4 zba.l4.step
  rw [br_f (lt_f (by omega)), show i = n from by omega]
  exact h
 | succ j ih =>
  intro i hi
  have ih := ih (i + 1) (by omega)
  have e : ((i + 1 : Nat) : Int) = (i : Int) + 1 := by omega
  rw [e] at ih
  unfold zba.l4 zba.l4.step
  simp (disch := omega) only [quo_i64, rem_i, add_i64, mul_i64, cv_u64, lt_t, le_t, lt_f, gd_true, br_true, Bool.and_self, Bool.not_false]
  have e1 : Int.toNat ((i : Int) / 2) = i / 2 := by omega
  have e2 : Int.toNat (i : Int) = i := by omega
  have e3 : 32 * ((i : Int) % 2) = ((32 * (i % 2) : Nat) : Int) := by omega
  have hd := dg_lt 32 x i
  have e8 : (2 : Nat) ^ 32 = 4294967296 := rfl
  have hlow := dg_low 64 (x % 2 ^ (32 * i)) (i / 2) (32 * (i % 2)) (by rw [show 64 * (i / 2) + 32 * (i % 2) = 32 * i from by omega]; exact Nat.mod_lt _ (Nat.two_pow_pos _))
  rw [e1, e2, e3, G_app, G_app, cv_u64 (by omega) (by omega), or_shl64 _ _ _ 32 hlow (by omega) hd]
  rw [G_upd (k := 64) (N' := x % 2 ^ (32 * (i + 1)))]
  ·exact ih
  ·rw [mod_dg, Nat.add_mul, Nat.mul_assoc, ← Nat.pow_add, show 32 * (i % 2) + 64 * (i / 2) = 32 * i from by omega]; omega
  ·exact put_fits hlow (by omega) hd
theorem nat_ToWide_ok (a : List UInt8) (K : (Nat → Int) → Bool → Prop) (h : if May a ∧ a.length ≤ 48 then K (W (val a)) true else K (W 0) false) : zba a K := by
 rw [zba.is]; unfold zba.d
 rw [nat_Check_ok]
 by_cases hm : May a
 ·rw [if_pos hm, br_f (by rfl)]
  by_cases hl : a.length ≤ 48
  ·rw [if_pos ⟨hm, hl⟩] at h
   rw [br_f (lt_f (by omega))]
   refine nat_words_ok a (by omega) _ ?_
   refine ⟨(a.length + 3) / 4 + 1, ?_⟩
   have hlt : val a < 2 ^ (32 * ((a.length + 3) / 4)) := Nat.lt_of_lt_of_le (val_lt8 a) (Nat.pow_le_pow_right (by omega) (by omega))
   have hQ : val a < Q6 := Nat.lt_of_lt_of_le (val_lt8 a) (le_Q6 (by omega))
   have := nat_ToWide_loop a (val a) ((a.length + 3) / 4) (by omega) (fun y0 y1 => zey y1 fun y0_1 => zaw y0 fun y0 => K y1 (eqI y0_1 y0)) ?_ ((a.length + 3) / 4) 0 (by omega)
   ·rw [show (2 : Nat) ^ (32 * 0) = 1 from rfl, Nat.mod_one, G_zero] at this
    exact this
   ·rw [Nat.mod_eq_of_lt hlt, ← W_G]
    refine wide_Len_ok (val a) hQ _ ?_
    refine nat_Len_ok a _ ?_
    rw [if_pos hm, eq_t rfl]; exact h
  ·rw [if_neg (by omega)] at h
   rw [br_t (lt_t (by omega))]
   rw [W_zero] at h; exact h
 ·rw [if_neg (by simp [hm])] at h
  rw [if_neg hm, br_t (by rfl)]
  rw [W_zero] at h; exact h
end Go.Ev.S

/- Exact numbers: which may be; made, told. -/
set_option linter.unusedVariables false
set_option linter.unusedSimpArgs false
set_option maxRecDepth 8000
namespace Go.Ev.S
open Go Go.Ev
def fit (x : Nat) : Prop := (nb x).length ≤ 16384
instance (x : Nat) : Decidable (fit x) := by unfold fit; infer_instance
theorem tell_if (K : List UInt8 → Int → Prop) (x : Nat) : tell K x = if fit x then K (nb x) 0 else K [] 4 := by
 unfold tell
 by_cases h : 16384 < (nb x).length
 ·rw [if_pos h, if_neg (show ¬ fit x from Nat.not_le.2 h)]
 ·rw [if_neg h, if_pos (show fit x from Nat.not_lt.1 h)]
theorem tell_of {K : List UInt8 → Int → Prop} {x : Nat} (h1 : fit x → K (nb x) 0) (h2 : ¬ fit x → K [] 4) : tell K x := by
 rw [tell_if]; split
 ·exact h1 ‹_›
 ·exact h2 ‹_›
theorem May_nb {x : Nat} (h : fit x) : May (nb x) := ⟨h, lead_nb x⟩
theorem nb_May {a : List UInt8} (h : May a) : nb (val a) = a := nb_val h.2
theorem fit_val {a : List UInt8} (h : May a) : fit (val a) := by unfold fit; rw [nb_May h]; exact h.1
theorem fit_le {x y : Nat} (h : fit y) (hl : x ≤ y) : fit x := (nb_len_le x 16384).2 (Nat.lt_of_le_of_lt hl ((nb_len_le y 16384).1 h))
theorem val_ne {a : List UInt8} (h : May a) : val a ≠ 0 ↔ a ≠ [] := by
 constructor
 ·rintro h1 rfl; exact h1 val_nil
 ·intro h1 h2
  have := nb_May h
  rw [h2, nb_zero] at this
  exact h1 this.symm
theorem fit_bl (x : Nat) : fit x ↔ blen x ≤ 131072 := len_blen x
theorem blen_pow {x n : Nat} (h : x ≠ 0) : fit (x * 2 ^ n) ↔ blen x + n ≤ 131072 := by
 rw [fit_bl, blen_mul x n h]
theorem nat_Left_t {a : List UInt8} (n : Int) (h0 : 0 ≤ n) (hn : n < 9223372036854775808) (ha : May a) {K : List UInt8 → Int → Prop} (h : tell K (val a * 2 ^ n.toNat)) : zav a n K := by
 refine nat_Left_ok a n hn K (fun hh => absurd ha hh) (fun _ hh => by omega) ?_ ?_ ?_
 ·rintro _ _ rfl
  rw [val_nil, Nat.zero_mul, tell_if, nb_zero, if_pos (by unfold fit; rw [nb_zero]; decide)] at h
  exact h
 ·intro _ _ h1 h2
  rw [tell_if, if_neg (by rw [blen_pow ((val_ne ha).2 h1)]; omega)] at h
  exact h
 ·intro _ _ h1 h2
  rw [tell_if, if_pos (by rw [blen_pow ((val_ne ha).2 h1)]; omega)] at h
  exact h
theorem r05_Left_t {a : List UInt8} (n : Int) (h0 : 0 ≤ n) (hn : n < 9223372036854775808) (ha : May a) {K : List UInt8 → Int → Prop} (h : tell K (val a * 2 ^ n.toNat)) : zci a n K := by
 refine r05_Left_ok a n hn ha K (fun hh => by omega) ?_ ?_ ?_
 ·rintro _ rfl
  rw [val_nil, Nat.zero_mul, tell_if, nb_zero, if_pos (by unfold fit; rw [nb_zero]; decide)] at h
  exact h
 ·intro _ h1 h2
  rw [tell_if, if_neg (by rw [blen_pow ((val_ne ha).2 h1)]; omega)] at h
  exact h
 ·intro _ h1 h2
  rw [tell_if, if_pos (by rw [blen_pow ((val_ne ha).2 h1)]; omega)] at h
  exact h
theorem nat_Right_t {a : List UInt8} (n : Nat) (hn : (n : Int) < 9223372036854775808) (ha : May a) (hne : a ≠ []) {K : List UInt8 → Bool → Int → Prop} (h : K (nb (val a / 2 ^ n)) (decide (lowb (val a) < n)) 0) : zay a n K := by
 refine nat_Right_ok a n hn K (fun hh => absurd ha hh) (fun _ hh => by omega) (fun _ _ hh => absurd hh hne) ?_
 intro _ _ _
 rw [show decide ((lowb (val a) : Int) < (n : Int)) = decide (lowb (val a) < n) from by rw [decide_eq_decide]; omega]
 exact h
theorem r05_Right_t {a : List UInt8} (n : Nat) (hn : (n : Int) < 9223372036854775808) (ha : May a) (hne : a ≠ []) {K : List UInt8 → Bool → Int → Prop} (h : K (nb (val a / 2 ^ n)) (decide (lowb (val a) < n)) 0) : zcn a n K := by
 refine r05_Right_ok a n hn ha K (fun hh => by omega) (fun _ hh => absurd hh hne) ?_
 intro _ _
 rw [show decide ((lowb (val a) : Int) < (n : Int)) = decide (lowb (val a) < n) from by rw [decide_eq_decide]; omega]
 exact h
theorem lowb_May {a : List UInt8} (ha : May a) (h : val a ≠ 0) : lowb (val a) < 131072 := by
 have h1 := lowb_lt _ _ h (val_lt8 a)
 have := ha.1; omega
theorem odd_byte (a : List UInt8) (h : a ≠ []) : eqI (andI .u8 (byteAt a (a.length - 1)) 1) 1 = decide (val a % 2 = 1) := by
 have hl : 0 < a.length := List.length_pos_iff.2 h
 have := byteAt_dg a 0 hl
 rw [Nat.sub_zero] at this
 rw [this]
 unfold dg
 rw [Nat.mul_zero, Nat.pow_zero, Nat.div_one]
 have hb : val a % 2 ^ 8 < 256 := Nat.mod_lt _ (by decide)
 have e : val a % 2 = (val a % 2 ^ 8) % 2 := by rw [show (2 : Nat) ^ 8 = 256 from rfl]; omega
 rw [e]
 generalize val a % 2 ^ 8 = v at hb
 revert v
 decide
theorem exact_odd_ok (a : List UInt8) (K : Bool → Prop) (hl : a.length < 9223372036854775808) (h : K (decide (val a % 2 = 1))) : zai a K := by
 rw [zai.is]; unfold zai.d
 rw [eqS_nil]
 by_cases h0 : a = []
 ·subst h0
  rw [br_f (by rfl)]; exact h
 ·have hp : 0 < a.length := List.length_pos_iff.2 h0
  rw [br_t (by simp [h0]), sub_i64 (by omega) (by omega), le_t (by omega), lt_t (by omega), gd_t (by rfl), show Int.toNat ((a.length : Int) - 1) = a.length - 1 from by omega, odd_byte a h0]
  exact h
theorem r06_odd_ok (a : List UInt8) (K : Bool → Prop) (hl : a.length < 9223372036854775808) (h : K (decide (val a % 2 = 1))) : zdc a K := by
 rw [zdc.is]; unfold zdc.d
 rw [eqS_nil]
 by_cases h0 : a = []
 ·subst h0
  rw [br_f (by rfl)]; exact h
 ·have hp : 0 < a.length := List.length_pos_iff.2 h0
  rw [br_t (by simp [h0]), sub_i64 (by omega) (by omega), le_t (by omega), lt_t (by omega), gd_t (by rfl), show Int.toNat ((a.length : Int) - 1) = a.length - 1 from by omega, odd_byte a h0]
  exact h
def win (e : Int) : Prop := -1048576 ≤ e ∧ e ≤ 1048576
instance (e : Int) : Decidable (win e) := by unfold win; infer_instance
theorem exact_within_ok (e : Int) (K : Bool → Prop) (h : K (decide (win e))) : zak e K := by
 rw [zak.is]; unfold zak.d
 by_cases h1 : -1048576 ≤ e
 ·rw [br_t (le_t h1)]
  refine cast (congrArg K ?_) h
  unfold leI
  rw [decide_eq_decide]; unfold win; omega
 ·rw [br_f (le_f (by omega))]
  refine cast (congrArg K ?_) h
  rw [decide_eq_false_iff_not]; unfold win; omega
theorem win_br {e : Int} {p q : Prop} (h1 : ¬ win e → p) (h2 : win e → q) : br (ltI e (-1048576)) p (br (ltI 1048576 e) p q) := by
 by_cases c1 : e < -1048576
 ·rw [br_t (lt_t c1)]; exact h1 (by unfold win; omega)
 ·rw [br_f (lt_f (by omega))]
  by_cases c2 : 1048576 < e
  ·rw [br_t (lt_t c2)]; exact h1 (by unfold win; omega)
  ·rw [br_f (lt_f (by omega))]; exact h2 (by unfold win; omega)
structure MayE (n : Bool) (a b : List UInt8) (e : Int) : Prop where
 ma : May a
 mb : May b
 ob : val b % 2 = 1
 we : win e
 z : a = [] → n = false ∧ b = [1] ∧ e = 0
 r : a ≠ [] → val a % 2 = 1 ∧ Nat.gcd (val a) (val b) = 1
theorem nb_one : nb 1 = [1] := by rw [nb_pos (by decide), nb_zero]; decide
theorem eqS_one (g : Nat) : eqS (nb g) [1] = decide (g = 1) := by
 rw [eqS_dec, decide_eq_decide, ← nb_one]
 exact ⟨fun h => nb_inj h, fun h => by rw [h]⟩
noncomputable instance (n : Bool) (a b : List UInt8) (e : Int) : Decidable (MayE n a b e) := Classical.propDecidable _
theorem exact_null_ok (K : Bool → List UInt8 → List UInt8 → Int → Prop) : zah K = K false [] [1] 0 := by rw [zah.is]; rfl
theorem r06_Null_ok (K : Bool → List UInt8 → List UInt8 → Int → Prop) : zda K = K false [] [1] 0 := by rw [zda.is]; rfl
theorem null_eq (n : Bool) (b : List UInt8) (e : Int) : (beqB n false && (eqS [] [] && (eqS b [1] && eqI e 0))) = decide (n = false ∧ b = [1] ∧ e = 0) := by
 rw [eqS_dec, eqS_dec]
 cases n
 ·by_cases h1 : b = [1]
  ·by_cases h2 : e = 0
   ·simp [h1, h2, beqB, eqI]
   ·simp [h1, h2, beqB, eqI]
  ·simp [h1, beqB]
 ·simp [beqB]
theorem exact_Check_ok (n : Bool) (a b : List UInt8) (e : Int) (K : Int → Prop) (h1 : MayE n a b e → K 0) (h2 : ¬ MayE n a b e → K 2) : zad n a b e K := by
 rw [zad.is]; unfold zad.d
 rw [nat_Check_ok]
 by_cases ma : May a
 rotate_left
 ·rw [if_neg ma]; exact h2 fun h => ma h.ma
 rw [if_pos ma, br_f (by rfl), nat_Check_ok]
 by_cases mb : May b
 rotate_left
 ·rw [if_neg mb]; exact h2 fun h => mb h.mb
 rw [if_pos mb, br_f (by rfl)]
 have la := ma.1
 have lb := mb.1
 refine exact_odd_ok b _ (by omega) ?_
 by_cases ob : val b % 2 = 1
 rotate_left
 ·rw [show decide (val b % 2 = 1) = false from by simpa using ob]; exact h2 fun h => ob h.ob
 rw [show decide (val b % 2 = 1) = true from by simpa using ob, br_f (by rfl)]
 refine exact_within_ok e _ ?_
 by_cases we : win e
 rotate_left
 ·rw [show decide (win e) = false from by simpa using we]; exact h2 fun h => we h.we
 rw [show decide (win e) = true from by simpa using we, br_f (by rfl), eqS_nil]
 by_cases ha : a = []
 ·subst ha
  rw [br_t (by rfl), exact_null_ok, null_eq]
  by_cases hz : n = false ∧ b = [1] ∧ e = 0
  ·rw [br_f (by simp [hz])]; exact h1 ⟨ma, mb, ob, we, fun _ => hz, fun h => absurd rfl h⟩
  ·rw [br_t (by simp only [hz, decide_false]; rfl)]; exact h2 fun h => hz (h.z rfl)
 ·rw [br_f (by simpa using ha)]
  refine nat_Gcd_ok a b _ (fun h => absurd ⟨ma, mb⟩ h) fun _ _ => ?_
  refine exact_odd_ok a _ (by omega) ?_
  by_cases oa : val a % 2 = 1
  rotate_left
  ·rw [show decide (val a % 2 = 1) = false from by simpa using oa]; exact h2 fun h => oa (h.r ha).1
  rw [show decide (val a % 2 = 1) = true from by simpa using oa, br_f (by rfl), eqS_one]
  by_cases hg : Nat.gcd (val a) (val b) = 1
  ·rw [br_f (by simp [hg])]; exact h1 ⟨ma, mb, ob, we, fun h => absurd h ha, fun _ => ⟨oa, hg⟩⟩
  ·rw [br_t (by simp [hg])]; exact h2 fun h => hg (h.r ha).2
theorem r06_May_ok (n : Bool) (a b : List UInt8) (e : Int) (K : Bool → Prop) (h1 : MayE n a b e → K true) (h2 : ¬ MayE n a b e → K false) : zcz n a b e K := by
 rw [zcz.is]; unfold zcz.d
 rw [r05_May_ok]
 by_cases ma : May a
 rotate_left
 ·rw [show decide (May a) = false from by simpa using ma]; exact h2 fun h => ma h.ma
 rw [show decide (May a) = true from by simpa using ma, br_f (by rfl), r05_May_ok]
 by_cases mb : May b
 rotate_left
 ·rw [show decide (May b) = false from by simpa using mb]; exact h2 fun h => mb h.mb
 rw [show decide (May b) = true from by simpa using mb, br_f (by rfl)]
 have la := ma.1
 have lb := mb.1
 refine r06_odd_ok b _ (by omega) ?_
 by_cases ob : val b % 2 = 1
 rotate_left
 ·rw [show decide (val b % 2 = 1) = false from by simpa using ob]; exact h2 fun h => ob h.ob
 rw [show decide (val b % 2 = 1) = true from by simpa using ob, br_f (by rfl)]
 refine win_br (fun we => h2 fun h => we h.we) fun we => ?_
 rw [eqS_nil]
 by_cases ha : a = []
 ·subst ha
  rw [br_t (by rfl), r06_Null_ok, null_eq]
  by_cases hz : n = false ∧ b = [1] ∧ e = 0
  ·rw [show decide (n = false ∧ b = [1] ∧ e = 0) = true from by simpa using hz]; exact h1 ⟨ma, mb, ob, we, fun _ => hz, fun h => absurd rfl h⟩
  ·rw [show decide (n = false ∧ b = [1] ∧ e = 0) = false from decide_eq_false hz]; exact h2 fun h => hz (h.z rfl)
 ·rw [br_f (by simpa using ha)]
  refine r06_odd_ok a _ (by omega) ?_
  by_cases oa : val a % 2 = 1
  rotate_left
  ·rw [show decide (val a % 2 = 1) = false from by simpa using oa]; exact h2 fun h => oa (h.r ha).1
  rw [show decide (val a % 2 = 1) = true from by simpa using oa, br_t rfl]
  refine r05_Gcd_ok a b ma mb _ ?_
  rw [eqS_one]
  by_cases hg : Nat.gcd (val a) (val b) = 1
  ·rw [show decide (Nat.gcd (val a) (val b) = 1) = true from by simpa using hg]; exact h1 ⟨ma, mb, ob, we, fun h => absurd h ha, fun _ => ⟨oa, hg⟩⟩
  ·rw [show decide (Nat.gcd (val a) (val b) = 1) = false from by simpa using hg]; exact h2 fun h => hg (h.r ha).2
def odp (a : Nat) : Nat := a / 2 ^ lowb a
def rdA (a b : Nat) : Nat := odp a / Nat.gcd (odp a) (odp b)
def rdB (a b : Nat) : Nat := odp b / Nat.gcd (odp a) (odp b)
def rdE (a b : Nat) (e : Int) : Int := e + ((lowb a : Int) - lowb b)
def mkE (n : Bool) (a b : Nat) (e : Int) (K : Bool → List UInt8 → List UInt8 → Int → Int → Prop) : Prop :=
 if a = 0 then K false [] [1] 0 0 else if win (rdE a b e) then K n (nb (rdA a b)) (nb (rdB a b)) (rdE a b e) 0 else K false [] [] 0 4
theorem fit_div {x : Nat} (h : fit x) (d : Nat) : fit (x / d) := fit_le h (Nat.div_le_self x d)
theorem odp_spec {a : Nat} (h : a ≠ 0) : a = 2 ^ lowb a * odp a ∧ odp a % 2 = 1 := by
 obtain ⟨q, hq⟩ := lowb_spec a h
 have e : odp a = 2 * q + 1 := by
  unfold odp
  exact Nat.div_eq_of_eq_mul_right (Nat.two_pow_pos _) hq
 rw [e]
 exact ⟨hq, by omega⟩
theorem odp_ne {a : Nat} (h : a ≠ 0) : odp a ≠ 0 := by have := (odp_spec h).2; omega
theorem exact_Make_ok (n : Bool) (x y : List UInt8) (e : Int) (K : Bool → List UInt8 → List UInt8 → Int → Int → Prop) (h1 : ¬ (May x ∧ May y ∧ y ≠ [] ∧ win e) → K false [] [] 0 2)
  (h2 : May x → May y → y ≠ [] → win e → mkE n (val x) (val y) e K) : zaf n x y e K := by
 rw [zaf.is]; unfold zaf.d
 rw [nat_Check_ok]
 by_cases mx : May x
 rotate_left
 ·rw [if_neg mx]; exact h1 fun h => mx h.1
 rw [if_pos mx, br_f (by rfl), nat_Check_ok]
 by_cases my : May y
 rotate_left
 ·rw [if_neg my]; exact h1 fun h => my h.2.1
 rw [if_pos my, br_f (by rfl), eqS_nil]
 by_cases hy : y = []
 ·rw [br_t (by simpa using hy)]; exact h1 fun h => h.2.2.1 hy
 rw [br_f (by simpa using hy)]
 refine exact_within_ok e _ ?_
 by_cases we : win e
 rotate_left
 ·rw [show decide (win e) = false from by simpa using we]; exact h1 fun h => we h.2.2.2
 rw [show decide (win e) = true from by simpa using we, br_f (by rfl), eqS_nil]
 have h2 := h2 mx my hy we
 unfold mkE at h2
 by_cases hx : x = []
 ·rw [br_t (by simpa using hx), exact_null_ok]
  rw [if_pos (by rw [hx]; rfl)] at h2; exact h2
 rw [br_f (by simpa using hx)]
 have nx := (val_ne mx).2 hx
 have ny := (val_ne my).2 hy
 rw [if_neg nx] at h2
 refine nat_Low_ok x _ ?_
 refine nat_Low_ok y _ ?_
 rw [if_pos mx, if_pos my]
 have bx := lowb_May mx nx
 have by' := lowb_May my ny
 refine nat_Right_t _ (by omega) mx hx ?_
 refine nat_Right_t _ (by omega) my hy ?_
 have fx : fit (odp (val x)) := fit_div (fit_val mx) _
 have fy : fit (odp (val y)) := fit_div (fit_val my) _
 refine nat_Gcd_ok _ _ _ (fun h => absurd ⟨May_nb fx, May_nb fy⟩ h) fun _ _ => ?_
 rw [val_nb, val_nb]
 show br (!eqS (nb (Nat.gcd (odp (val x)) (odp (val y)))) [1]) _ _
 rw [eqS_one]
 have we' := we
 unfold win at we'
 have ee : addI .i64 e (subI .i64 (lowb (val x) : Int) (lowb (val y) : Int)) = rdE (val x) (val y) e := by
  unfold rdE
  rw [sub_i64 (by omega) (by omega), add_i64 (by omega) (by omega)]
 rw [ee]
 have gne : Nat.gcd (odp (val x)) (odp (val y)) ≠ 0 := by
  intro h0; exact odp_ne nx (Nat.gcd_eq_zero_iff.1 h0).1
 have fin : ∀ p q, p = nb (rdA (val x) (val y)) → q = nb (rdB (val x) (val y)) → zak (rdE (val x) (val y) e) fun y0_7 => br (!y0_7) (K false [] [] 0 4) (K n p q (rdE (val x) (val y) e) 0) := by
  rintro p q rfl rfl
  refine exact_within_ok _ _ ?_
  by_cases w : win (rdE (val x) (val y) e)
  ·rw [if_pos w] at h2
   rw [show decide (win (rdE (val x) (val y) e)) = true from by simpa using w]; exact h2
  ·rw [if_neg w] at h2
   rw [show decide (win (rdE (val x) (val y) e)) = false from by simpa using w]; exact h2
 by_cases hg : Nat.gcd (odp (val x)) (odp (val y)) = 1
 ·rw [br_f (by simp [hg])]
  refine fin _ _ ?_ ?_
  ·unfold rdA; rw [hg, Nat.div_one]; rfl
  ·unfold rdB; rw [hg, Nat.div_one]; rfl
 ·rw [br_t (by simp [hg])]
  have fg : fit (Nat.gcd (odp (val x)) (odp (val y))) := fit_le fx (Nat.gcd_le_left _ (Nat.pos_of_ne_zero (odp_ne nx)))
  refine nat_Div_ok _ _ _ (fun h => absurd ⟨May_nb fx, May_nb fg⟩ h) (fun h => absurd h (nb_ne gne)) fun _ _ _ => ?_
  refine nat_Div_ok _ _ _ (fun h => absurd ⟨May_nb fy, May_nb fg⟩ h) (fun h => absurd h (nb_ne gne)) fun _ _ _ => ?_
  refine fin _ _ ?_ ?_
  ·rw [val_nb, val_nb]; rfl
  ·rw [val_nb, val_nb]; rfl
theorem r06_Make_ok (n : Bool) (x y : List UInt8) (e : Int) (K : Bool → List UInt8 → List UInt8 → Int → Int → Prop) (h1 : ¬ (May x ∧ May y ∧ y ≠ [] ∧ win e) → K false [] [] 0 2)
  (h2 : May x → May y → y ≠ [] → win e → mkE n (val x) (val y) e K) : zcy n x y e K := by
 rw [zcy.is]; unfold zcy.d
 rw [r05_May_ok]
 by_cases mx : May x
 rotate_left
 ·rw [show decide (May x) = false from by simpa using mx]; exact h1 fun h => mx h.1
 rw [show decide (May x) = true from by simpa using mx, br_f (by rfl), r05_May_ok]
 by_cases my : May y
 rotate_left
 ·rw [show decide (May y) = false from by simpa using my]; exact h1 fun h => my h.2.1
 rw [show decide (May y) = true from by simpa using my, br_f (by rfl), eqS_nil]
 by_cases hy : y = []
 ·rw [br_t (by simpa using hy)]; exact h1 fun h => h.2.2.1 hy
 rw [br_f (by simpa using hy)]
 refine win_br (fun we => h1 fun h => we h.2.2.2) fun we => ?_
 rw [eqS_nil]
 have h2 := h2 mx my hy we
 unfold mkE at h2
 by_cases hx : x = []
 ·rw [br_t (by simpa using hx), r06_Null_ok]
  rw [if_pos (by rw [hx]; rfl)] at h2; exact h2
 rw [br_f (by simpa using hx)]
 have nx := (val_ne mx).2 hx
 have ny := (val_ne my).2 hy
 rw [if_neg nx] at h2
 refine r05_Low_ok x _ ?_
 refine r05_Low_ok y _ ?_
 rw [if_pos mx, if_pos my]
 have bx := lowb_May mx nx
 have by' := lowb_May my ny
 refine r05_Right_t _ (by omega) mx hx ?_
 refine r05_Right_t _ (by omega) my hy ?_
 have fx : fit (odp (val x)) := fit_div (fit_val mx) _
 have fy : fit (odp (val y)) := fit_div (fit_val my) _
 refine r05_Gcd_ok _ _ (May_nb fx) (May_nb fy) _ ?_
 rw [val_nb, val_nb]
 show br (!eqS (nb (Nat.gcd (odp (val x)) (odp (val y)))) [1]) _ _
 rw [eqS_one]
 have we' := we
 unfold win at we'
 have ee : subI .i64 (addI .i64 e (lowb (val x) : Int)) (lowb (val y) : Int) = rdE (val x) (val y) e := by
  unfold rdE
  rw [add_i64 (by omega) (by omega), sub_i64 (by omega) (by omega)]; omega
 rw [ee]
 have gne : Nat.gcd (odp (val x)) (odp (val y)) ≠ 0 := by
  intro h0; exact odp_ne nx (Nat.gcd_eq_zero_iff.1 h0).1
 have fin : ∀ p q, p = nb (rdA (val x) (val y)) → q = nb (rdB (val x) (val y)) → br (ltI (rdE (val x) (val y) e) (-1048576)) (K false [] [] 0 4) (br (ltI 1048576 (rdE (val x) (val y) e)) (K false [] [] 0 4) (K n p q (rdE (val x) (val y) e) 0)) := by
  rintro p q rfl rfl
  refine win_br (fun w => ?_) fun w => ?_
  ·rw [if_neg w] at h2; exact h2
  ·rw [if_pos w] at h2; exact h2
 by_cases hg : Nat.gcd (odp (val x)) (odp (val y)) = 1
 ·rw [br_f (by simp [hg])]
  refine fin _ _ ?_ ?_
  ·unfold rdA; rw [hg, Nat.div_one]; rfl
  ·unfold rdB; rw [hg, Nat.div_one]; rfl
 ·rw [br_t (by simp [hg])]
  have fg : fit (Nat.gcd (odp (val x)) (odp (val y))) := fit_le fx (Nat.gcd_le_left _ (Nat.pos_of_ne_zero (odp_ne nx)))
  refine r05_Div_ok _ _ (May_nb fx) (May_nb fg) _ (fun h => absurd h (nb_ne gne)) fun _ => ?_
  refine r05_Div_ok _ _ (May_nb fy) (May_nb fg) _ (fun h => absurd h (nb_ne gne)) fun _ => ?_
  refine fin _ _ ?_ ?_
  ·rw [val_nb, val_nb]; rfl
  ·rw [val_nb, val_nb]; rfl
end Go.Ev.S

/- Exact numbers as rational ones. -/
set_option linter.unusedVariables false
set_option linter.unusedSimpArgs false
set_option maxRecDepth 8000
namespace Go.Ev.S
open Go Go.Ev
def p2 (e : Int) : Rat := (2 : Rat) ^ e
theorem two_ne : (2 : Rat) ≠ 0 := by decide
theorem p2_pos (e : Int) : 0 < p2 e := Rat.zpow_pos (by decide)
theorem p2_add (a b : Int) : p2 (a + b) = p2 a * p2 b := Rat.zpow_add two_ne a b
theorem p2_nat (n : Nat) : p2 (n : Int) = ((2 ^ n : Nat) : Rat) := by
 unfold p2; rw [Rat.zpow_natCast, Rat.natCast_pow]; rfl
theorem p2_zero : p2 0 = 1 := Rat.zpow_zero 2
theorem p2_one : p2 1 = 2 := by have := p2_nat 1; rw [show ((1 : Nat) : Int) = 1 from rfl] at this; rw [this]; rfl
def sR (n : Bool) : Rat := if n then -1 else 1
def V (n : Bool) (a b : Nat) (e : Int) : Rat := sR n * ((a : Rat) / (b : Rat)) * p2 e
theorem cast_pos {b : Nat} (h : b ≠ 0) : 0 < (b : Rat) := Rat.natCast_pos.2 (by omega)
theorem cast_ne {b : Nat} (h : b ≠ 0) : (b : Rat) ≠ 0 := by have := cast_pos h; grind
theorem V_mul (n : Bool) (a b : Nat) (e : Int) (hb : b ≠ 0) : V n a b e * b = sR n * a * p2 e := by
 have := cast_ne hb
 unfold V; grind
end Go.Ev.S

/- Exact numbers added, multiplied, compared, measured: the document's. -/
set_option linter.unusedVariables false
set_option linter.unusedSimpArgs false
set_option maxRecDepth 8000
namespace Go.Ev.S
open Go Go.Ev
structure Can (n : Bool) (a b : Nat) (e : Int) : Prop where
 fa : fit a
 fb : fit b
 ob : b % 2 = 1
 we : win e
 z : a = 0 → n = false ∧ b = 1 ∧ e = 0
 r : a ≠ 0 → a % 2 = 1 ∧ Nat.gcd a b = 1
theorem MayE.can {n : Bool} {x y : List UInt8} {e : Int} (h : MayE n x y e) : ∃ a b, x = nb a ∧ y = nb b ∧ Can n a b e := by
 refine ⟨val x, val y, (nb_May h.ma).symm, (nb_May h.mb).symm, fit_val h.ma, fit_val h.mb, h.ob, h.we, ?_, ?_⟩
 ·intro h0
  have hx : x = [] := by rw [← nb_May h.ma, h0, nb_zero]
  obtain ⟨h1, h2, h3⟩ := h.z hx
  exact ⟨h1, by rw [h2]; decide, h3⟩
 ·intro h0; exact h.r ((val_ne h.ma).1 h0)
theorem nb_nil {a : Nat} : nb a = [] ↔ a = 0 := by
 constructor
 ·intro h; rw [← val_nb a, h, val_nil]
 ·rintro rfl; exact nb_zero
theorem Can.may {n : Bool} {a b : Nat} {e : Int} (h : Can n a b e) : MayE n (nb a) (nb b) e := by
 refine ⟨May_nb h.fa, May_nb h.fb, by rw [val_nb]; exact h.ob, h.we, ?_, ?_⟩
 ·intro h0
  obtain ⟨h1, h2, h3⟩ := h.z (nb_nil.1 h0)
  exact ⟨h1, by rw [h2]; exact nb_one, h3⟩
 ·intro h0
  rw [val_nb, val_nb]; exact h.r fun h1 => h0 (nb_nil.2 h1)
theorem Can.b0 {n : Bool} {a b : Nat} {e : Int} (h : Can n a b e) : b ≠ 0 := by have := h.ob; omega
theorem Can.e64 {n : Bool} {a b : Nat} {e : Int} (h : Can n a b e) : -1048576 ≤ e ∧ e ≤ 1048576 := h.we
theorem eqS_nb (a : Nat) : eqS (nb a) [] = decide (a = 0) := by rw [eqS_nil, decide_eq_decide]; exact nb_nil
theorem r05_Left_n {a : Nat} (n : Int) (h0 : 0 ≤ n) (hn : n < 9223372036854775808) (ha : fit a) {K : List UInt8 → Int → Prop} (h : tell K (a * 2 ^ n.toNat)) : zci (nb a) n K := by
 refine r05_Left_t n h0 hn (May_nb ha) ?_; rw [val_nb]; exact h
theorem nat_Left_n {a : Nat} (n : Int) (h0 : 0 ≤ n) (hn : n < 9223372036854775808) (ha : fit a) {K : List UInt8 → Int → Prop} (h : tell K (a * 2 ^ n.toNat)) : zav (nb a) n K := by
 refine nat_Left_t n h0 hn (May_nb ha) ?_; rw [val_nb]; exact h
theorem r05_Cmp_n (a b : Nat) (K : Int → Prop) : zcf (nb a) (nb b) K = K (sgn a b) := by rw [r05_Cmp_ok _ _ (lead_nb a) (lead_nb b), val_nb, val_nb]
theorem nat_Cmp_n {a b : Nat} (ha : fit a) (hb : fit b) {K : Int → Int → Prop} (h : K (sgn a b) 0) : zas (nb a) (nb b) K := by
 refine nat_Cmp_ok _ _ K (fun hn => absurd ⟨May_nb ha, May_nb hb⟩ hn) fun _ _ => ?_
 rw [val_nb, val_nb]; exact h
theorem fit_len {a : Nat} (h : fit a) : (nb a).length ≤ 16384 := h
theorem r05_Add_n {a b : Nat} (ha : fit a) (hb : fit b) {K : List UInt8 → Int → Prop} (h : tell K (a + b)) : zce (nb a) (nb b) K := by
 have h1 := fit_len ha
 have h2 := fit_len hb
 refine r05_Add_ok _ _ (by omega) (by omega) K ?_; rw [val_nb, val_nb]; exact h
theorem nat_Add_n {a b : Nat} (ha : fit a) (hb : fit b) {K : List UInt8 → Int → Prop} (h : tell K (a + b)) : zaq (nb a) (nb b) K := by
 refine nat_Add_ok _ _ K (fun hn => absurd ⟨May_nb ha, May_nb hb⟩ hn) fun _ _ => ?_; rw [val_nb, val_nb]; exact h
theorem r05_Div_n {a b : Nat} (ha : fit a) (hb : fit b) (h0 : b ≠ 0) {K : List UInt8 → List UInt8 → Int → Prop} (h : K (nb (a / b)) (nb (a % b)) 0) : zcg (nb a) (nb b) K := by
 refine r05_Div_ok _ _ (May_nb ha) (May_nb hb) K (fun hh => absurd (nb_nil.1 hh) h0) fun _ => ?_; rw [val_nb, val_nb]; exact h
theorem nat_Div_n {a b : Nat} (ha : fit a) (hb : fit b) (h0 : b ≠ 0) {K : List UInt8 → List UInt8 → Int → Prop} (h : K (nb (a / b)) (nb (a % b)) 0) : zat (nb a) (nb b) K := by
 refine nat_Div_ok _ _ K (fun hn => absurd ⟨May_nb ha, May_nb hb⟩ hn) (fun hh => absurd (nb_nil.1 hh) h0) fun _ _ _ => ?_; rw [val_nb, val_nb]; exact h
theorem r05_Len_n {a : Nat} (ha : fit a) {K : Int → Prop} (h : K (blen a)) : zcj (nb a) K := by
 refine r05_Len_ok _ K ?_; rw [if_pos (May_nb ha), val_nb]; exact h
theorem nat_Len_n {a : Nat} (ha : fit a) {K : Int → Prop} (h : K (blen a)) : zaw (nb a) K := by
 refine nat_Len_ok _ K ?_; rw [if_pos (May_nb ha), val_nb]; exact h
theorem r06_Make_n (n : Bool) {a b : Nat} {e : Int} (ha : fit a) (hb : fit b) (h0 : b ≠ 0) (we : win e) {K : Bool → List UInt8 → List UInt8 → Int → Int → Prop} (h : mkE n a b e K) : zcy n (nb a) (nb b) e K := by
 refine r06_Make_ok n _ _ e K (fun hn => absurd ⟨May_nb ha, May_nb hb, nb_ne h0, we⟩ hn) fun _ _ _ _ => ?_; rw [val_nb, val_nb]; exact h
theorem exact_Make_n (n : Bool) {a b : Nat} {e : Int} (ha : fit a) (hb : fit b) (h0 : b ≠ 0) (we : win e) {K : Bool → List UInt8 → List UInt8 → Int → Int → Prop} (h : mkE n a b e K) : zaf n (nb a) (nb b) e K := by
 refine exact_Make_ok n _ _ e K (fun hn => absurd ⟨May_nb ha, May_nb hb, nb_ne h0, we⟩ hn) fun _ _ _ _ => ?_; rw [val_nb, val_nb]; exact h
def lv (a bd : Nat) (ae n : Int) : Nat := a * bd * 2 ^ (ae - n).toNat
section
variable {n1 n2 : Bool} {a1 b1 a2 b2 : Nat} {e1 e2 : Int}
theorem sgn_le0 (a b : Nat) : leI 0 (sgn a b) = decide (b ≤ a) := by
 unfold sgn leI
 rw [decide_eq_decide]
 (repeat' split) <;> omega
theorem br_dec {c : Prop} [Decidable c] {p q : Prop} (h1 : c → p) (h2 : ¬ c → q) : br (decide c) p q := by
 by_cases h : c
 ·rw [br_t (by simpa using h)]; exact h1 h
 ·rw [br_f (by simpa using h)]; exact h2 h
theorem br_ndec {c : Prop} [Decidable c] {p q : Prop} (h1 : ¬ c → p) (h2 : c → q) : br (!decide c) p q := by
 by_cases h : c
 ·rw [br_f (by simpa using h)]; exact h2 h
 ·rw [br_t (by simpa using h)]; exact h1 h
end
end Go.Ev.S

/- Exact numbers scaled, measured, cut: the document's. -/
set_option linter.unusedVariables false
set_option linter.unusedSimpArgs false
set_option maxRecDepth 8000
namespace Go.Ev.S
open Go Go.Ev
def tp (a b : Nat) : Int :=
 if blen b ≤ blen a then (if b * 2 ^ (blen a - blen b) ≤ a then ((blen a - blen b : Nat) : Int) else ((blen a - blen b : Nat) : Int) - 1)
 else (if b ≤ a * 2 ^ (blen b - blen a) then -((blen b - blen a : Nat) : Int) else -((blen b - blen a : Nat) : Int) - 1)
theorem fit_blen {a : Nat} (h : fit a) : blen a ≤ 131072 := (fit_bl a).1 h
theorem fit_up {a b : Nat} (ha : fit a) (hb : b ≠ 0) (hl : blen b ≤ blen a) : fit (b * 2 ^ (blen a - blen b)) := by
 rw [fit_bl, blen_mul _ _ hb]; have := fit_blen ha; omega
theorem sgn_nge (a b : Nat) : (!leI 0 (sgn a b)) = !decide (b ≤ a) := by rw [sgn_le0]
theorem sgn_lt0 (a b : Nat) : ltI (sgn a b) 0 = !decide (b ≤ a) := by
 unfold sgn ltI
 by_cases h : b ≤ a
 ·(repeat' split) <;> simp <;> omega
 ·rw [if_pos (by omega)]; simp; omega
theorem r06_shifted_ok {a : Nat} (n : Int) (h0 : 0 ≤ n) (hn : n < 9223372036854775808) (ha : fit a) {K : List UInt8 → Prop} (hf : fit (a * 2 ^ n.toNat)) (h : K (nb (a * 2 ^ n.toNat))) : zdd (nb a) n K := by
 rw [zdd.is]; unfold zdd.d
 exact r05_Left_n n h0 hn ha (tell_of (fun _ => h) fun hh => absurd hf hh)
theorem r06_Top_ok (n : Bool) {a b : Nat} {e : Int} (c : Can n a b e) (K : Int → Int → Prop) (h1 : a = 0 → K 0 2) (h2 : a ≠ 0 → K (tp a b + e) 0) : zdb n (nb a) (nb b) e K := by
 have w := c.e64
 have la := fit_blen c.fa
 have lb := fit_blen c.fb
 rw [zdb.is]; unfold zdb.d
 rw [eqS_nb]
 refine br_dec h1 fun h0 => ?_
 have h2 := h2 h0
 refine r05_Len_n c.fa ?_
 refine r05_Len_n c.fb ?_
 rw [sub_i64 (by omega) (by omega)]
 unfold tp at h2
 by_cases hl : blen b ≤ blen a
 ·rw [if_pos hl] at h2
  rw [br_t (le_t (by omega))]
  have et : ((blen a : Int) - blen b).toNat = blen a - blen b := by omega
  have hf := fit_up c.fa c.b0 hl
  refine r06_shifted_ok _ (by omega) (by omega) c.fb (by rw [et]; exact hf) ?_
  rw [et, r05_Cmp_n, sgn_nge]
  refine br_ndec (fun h3 => ?_) fun h3 => ?_
  ·rw [if_neg h3] at h2
   rw [sub_i64 (by omega) (by omega), add_i64 (by omega) (by omega), show ((blen a : Int) - blen b - 1 + e) = ((blen a - blen b : Nat) : Int) - 1 + e from by omega]; exact h2
  ·rw [if_pos h3] at h2
   rw [add_i64 (by omega) (by omega), show ((blen a : Int) - blen b + e) = ((blen a - blen b : Nat) : Int) + e from by omega]; exact h2
 ·rw [if_neg hl] at h2
  rw [br_f (le_f (by omega))]
  have en : negI .i64 ((blen a : Int) - blen b) = (blen b : Int) - blen a := by
   show IntKind.wrap .i64 _ = _
   rw [i64_id (by omega) (by omega)]; omega
  have et : ((blen b : Int) - blen a).toNat = blen b - blen a := by omega
  have hf := fit_up c.fb h0 (show blen a ≤ blen b by omega)
  rw [en]
  refine r06_shifted_ok _ (by omega) (by omega) c.fa (by rw [et]; exact hf) ?_
  rw [et, r05_Cmp_n, sgn_nge]
  refine br_ndec (fun h3 => ?_) fun h3 => ?_
  ·rw [if_neg h3] at h2
   rw [sub_i64 (by omega) (by omega), add_i64 (by omega) (by omega), show ((blen a : Int) - blen b - 1 + e) = -((blen b - blen a : Nat) : Int) - 1 + e from by omega]; exact h2
  ·rw [if_pos h3] at h2
   rw [add_i64 (by omega) (by omega), show ((blen a : Int) - blen b + e) = -((blen b - blen a : Nat) : Int) + e from by omega]; exact h2
theorem blen_le' (a n : Nat) : blen a ≤ n ↔ a < 2 ^ n := blen_le a n
theorem blen_ge {a : Nat} (h : a ≠ 0) : 2 ^ (blen a - 1) ≤ a := by
 have h1 : ¬ blen a ≤ blen a - 1 := by
  have : 0 < blen a := by unfold blen; rw [if_neg h]; omega
  omega
 rw [blen_le'] at h1; omega
theorem tp_spec {a b : Nat} (ha : a ≠ 0) (hb : b ≠ 0) : (0 ≤ tp a b → b * 2 ^ (tp a b).toNat ≤ a ∧ a < b * 2 ^ ((tp a b).toNat + 1)) ∧ (tp a b < 0 → b ≤ a * 2 ^ (-tp a b).toNat ∧ a * 2 ^ ((-tp a b).toNat - 1) < b) := by
 have a1 := blen_ge ha
 have a2 := (blen_le' a _).1 (Nat.le_refl _)
 have b1 := blen_ge hb
 have b2 := (blen_le' b _).1 (Nat.le_refl _)
 have pa : 0 < blen a := by unfold blen; rw [if_neg ha]; omega
 have pb : 0 < blen b := by unfold blen; rw [if_neg hb]; omega
 unfold tp
 by_cases hl : blen b ≤ blen a
 ·rw [if_pos hl]
  obtain ⟨d, hd⟩ : ∃ d, d = blen a - blen b := ⟨_, rfl⟩
  rw [← hd]
  -- a < b 2^(d+1)
  have h1 : a < b * 2 ^ (d + 1) := by
   have : 2 ^ (blen b - 1) * 2 ^ (d + 1) ≤ b * 2 ^ (d + 1) := Nat.mul_le_mul_right _ b1
   rw [← Nat.pow_add, show blen b - 1 + (d + 1) = blen a from by omega] at this
   omega
  by_cases h2 : b * 2 ^ d ≤ a
  ·rw [if_pos h2]
   refine ⟨fun _ => ?_, fun h => by omega⟩
   rw [show ((d : Int)).toNat = d from by omega]
   exact ⟨h2, h1⟩
  ·rw [if_neg h2]
   rcases Nat.eq_zero_or_pos d with h0 | h0
   ·refine ⟨fun h => by omega, fun _ => ?_⟩
    rw [h0] at h2 ⊢
    rw [show (-(((0 : Nat) : Int) - 1)).toNat = 1 from by omega, Nat.sub_self]
    refine ⟨?_, by omega⟩
    have : b < a * 2 := by
     have : 2 ^ (blen a - 1) * 2 ≤ a * 2 := Nat.mul_le_mul_right _ a1
     rw [← Nat.pow_succ, show (blen a - 1).succ = blen b from by omega] at this
     omega
    omega
   ·refine ⟨fun _ => ?_, fun h => by omega⟩
    rw [show ((d : Int) - 1).toNat = d - 1 from by omega, show d - 1 + 1 = d from by omega]
    refine ⟨?_, by omega⟩
    have : b * 2 ^ (d - 1) ≤ 2 ^ blen b * 2 ^ (d - 1) := Nat.mul_le_mul_right _ (by omega)
    rw [← Nat.pow_add, show blen b + (d - 1) = blen a - 1 from by omega] at this
    omega
 ·rw [if_neg hl]
  obtain ⟨d, hd⟩ : ∃ d, d = blen b - blen a := ⟨_, rfl⟩
  rw [← hd]
  have h1 : b < a * 2 ^ (d + 1) := by
   have : 2 ^ (blen a - 1) * 2 ^ (d + 1) ≤ a * 2 ^ (d + 1) := Nat.mul_le_mul_right _ a1
   rw [← Nat.pow_add, show blen a - 1 + (d + 1) = blen b from by omega] at this
   omega
  have h3 : a * 2 ^ (d - 1) < b := by
   have : a * 2 ^ (d - 1) < 2 ^ blen a * 2 ^ (d - 1) := Nat.mul_lt_mul_of_pos_right a2 (Nat.two_pow_pos _)
   rw [← Nat.pow_add, show blen a + (d - 1) = blen b - 1 from by omega] at this
   omega
  by_cases h2 : b ≤ a * 2 ^ d
  ·rw [if_pos h2]
   refine ⟨fun h => by omega, fun _ => ?_⟩
   rw [show (- -(d : Int)).toNat = d from by omega]
   exact ⟨h2, h3⟩
  ·rw [if_neg h2]
   refine ⟨fun h => by omega, fun _ => ?_⟩
   rw [show (-(-(d : Int) - 1)).toNat = d + 1 from by omega, show d + 1 - 1 = d from by omega]
   exact ⟨by omega, by omega⟩
theorem tp_range {a b : Nat} (ha : fit a) (hb : fit b) : -131073 ≤ tp a b ∧ tp a b ≤ 131072 := by
 have := fit_blen ha
 have := fit_blen hb
 unfold tp; (repeat' split) <;> omega
def floE (a b : Nat) (e n : Int) (K : List UInt8 → Bool → Int → Prop) : Prop :=
 if n < -2097152 ∨ 2097152 < n then K [] false 2 else if a = 0 then K [] true 0 else
 if n ≤ e then (if fit (a * 2 ^ (e - n).toNat) then K (nb (a * 2 ^ (e - n).toNat / b)) (decide (a * 2 ^ (e - n).toNat % b = 0)) 0 else K [] false 4)
 else if tp a b + e < n then K [] false 0 else K (nb (a / (b * 2 ^ (n - e).toNat))) (decide (a % (b * 2 ^ (n - e).toNat) = 0)) 0
theorem fit_den {a b : Nat} {e n : Int} (ha : a ≠ 0) (hb : b ≠ 0) (fa : fit a) (h1 : ¬ n ≤ e) (h2 : ¬ tp a b + e < n) : fit (b * 2 ^ (n - e).toNat) := by
 have h := (tp_spec ha hb).1 (by omega)
 refine fit_le fa (Nat.le_trans (Nat.mul_le_mul_left _ ?_) h.1)
 exact Nat.pow_le_pow_right (by omega) (by omega)
theorem r06_Floor_ok (s : Bool) {a b : Nat} {e : Int} (c : Can s a b e) (n : Int) (hn : -9223372036854775808 ≤ n ∧ n < 9223372036854775808) (K : List UInt8 → Bool → Int → Prop) (h : floE a b e n K) : zcx s (nb a) (nb b) e n K := by
 have w := c.e64
 rw [zcx.is]; unfold zcx.d
 unfold floE at h
 by_cases g1 : n < -2097152
 ·rw [br_t (lt_t g1)]; rw [if_pos (.inl g1)] at h; exact h
 rw [br_f (lt_f (by omega))]
 by_cases g2 : 2097152 < n
 ·rw [br_t (lt_t g2)]; rw [if_pos (.inr g2)] at h; exact h
 rw [br_f (lt_f (by omega)), eqS_nb]
 rw [if_neg (by omega)] at h
 refine br_dec (fun h0 => ?_) fun h0 => ?_
 ·rw [if_pos h0] at h; exact h
 rw [if_neg h0] at h
 by_cases g3 : n ≤ e
 ·rw [br_t (le_t g3)]
  rw [if_pos g3] at h
  rw [sub_i64 (by omega) (by omega)]
  refine r05_Left_n _ (by omega) (by omega) c.fa (tell_of (fun f1 => ?_) fun f1 => ?_)
  ·rw [if_pos f1] at h
   rw [br_f (by rfl)]
   refine r05_Div_n f1 c.fb c.b0 ?_
   rw [eqS_nb]; exact h
  ·rw [if_neg f1] at h
   rw [br_t (by rfl)]; exact h
 ·rw [br_f (le_f (by omega))]
  rw [if_neg g3] at h
  refine r06_Top_ok s c _ (fun hh => absurd hh h0) fun _ => ?_
  by_cases g4 : tp a b + e < n
  ·rw [br_t (lt_t g4)]; rw [if_pos g4] at h; exact h
  rw [br_f (lt_f (by omega))]
  rw [if_neg g4] at h
  have hf := fit_den h0 c.b0 c.fa g3 g4
  rw [sub_i64 (by omega) (by omega)]
  refine r05_Left_n _ (by omega) (by omega) c.fb (tell_of (fun f1 => ?_) fun f1 => absurd hf f1)
  refine r05_Div_n c.fa hf (Nat.mul_ne_zero c.b0 (Nat.pos_iff_ne_zero.1 (Nat.two_pow_pos _))) ?_
  rw [eqS_nb]; exact h
end Go.Ev.S

/- Differences: of words, bit by bit; of numbers of six words. -/
set_option linter.unusedVariables false
set_option linter.unusedSimpArgs false
set_option maxRecDepth 8000
namespace Go.Ev.S
open Go Go.Ev
end Go.Ev.S

/- Quiet and next encodings: the abacus and the document's answer; the law KindSigns. -/
set_option linter.unusedVariables false
set_option linter.unusedSimpArgs false
set_option maxRecDepth 8000
namespace Go.Ev.S
open Go Go.Ev
def nanOf (f : Nat) : Nat := enc f false (2 * fe f + 1) (2 ^ (fp f - 2))
def quiet (f x : Nat) : Nat := if 8 ≤ cls f x then x ||| nanOf f else x
end Go.Ev.S

/- The parts of an encoding: the abacus and the document's answer. -/
set_option linter.unusedVariables false
set_option linter.unusedSimpArgs false
set_option maxRecDepth 8000
namespace Go.Ev.S
open Go Go.Ev
end Go.Ev.S

/- Signs put together, words and classes: the abacus and the document's answer; the laws of signs. -/
set_option linter.unusedVariables false
set_option linter.unusedSimpArgs false
set_option maxRecDepth 8000
namespace Go.Ev.S
open Go Go.Ev
end Go.Ev.S

/- The plain laws of SignWords and SignBack. -/
set_option linter.unusedVariables false
set_option linter.unusedSimpArgs false
set_option maxRecDepth 8000
namespace Go.Ev.S
open Go Go.Ev
def ext (w x : Nat) : Nat := cond (x.testBit (w - 1)) (x % 2 ^ w + (18446744073709551616 - 2 ^ w)) (x % 2 ^ w)
end Go.Ev.S

/- Encodings compared: what the functions come to. -/
set_option linter.unusedVariables false
set_option linter.unusedSimpArgs false
set_option maxRecDepth 8000
namespace Go.Ev.S
open Go Go.Ev
end Go.Ev.S

/- The order of all encodings; the lesser and the greater one. -/
set_option linter.unusedVariables false
set_option linter.unusedSimpArgs false
set_option maxRecDepth 8000
namespace Go.Ev.S
open Go Go.Ev
end Go.Ev.S

/- What encodings say: their exact values, in order. -/
set_option linter.unusedVariables false
set_option linter.unusedSimpArgs false
set_option maxRecDepth 8000
namespace Go.Ev.S
open Go Go.Ev
def fin (f x : Nat) : Prop := ex f x ≠ 2 * fe f + 1
end Go.Ev.S

/- Exact numbers compared, as rational ones; encodings compared by their values. -/
set_option linter.unusedVariables false
set_option linter.unusedSimpArgs false
set_option maxRecDepth 8000
namespace Go.Ev.S
open Go Go.Ev
theorem mul_lt_iff {x y d : Rat} (hd : 0 < d) : x * d < y * d ↔ x < y := by
 constructor
 ·intro hh
  apply Classical.byContradiction; intro hn
  have h1 : y ≤ x := by grind
  have h2 := Rat.mul_le_mul_of_nonneg_right h1 (show 0 ≤ d by grind)
  grind
 ·intro hh; exact Rat.mul_lt_mul_of_pos_right hh hd
section
variable {n1 n2 : Bool} {a1 b1 a2 b2 : Nat} {e1 e2 : Int}
end
theorem fit_Q6 {x : Nat} (h : x < Q6) : fit x := by
 unfold fit
 obtain ⟨N, hN⟩ : ∃ N, N = 48 := ⟨_, rfl⟩
 have : (nb x).length ≤ N := by rw [nb_len_le, p256, p384' hN]; exact h
 omega
theorem fit_one : fit 1 := by unfold fit; rw [nb_one]; decide
end Go.Ev.S

/- Exact numbers added, multiplied, compared, measured: the abacus. -/
set_option linter.unusedVariables false
set_option linter.unusedSimpArgs false
set_option maxRecDepth 8000
namespace Go.Ev.S
open Go Go.Ev
theorem fit_zero : fit 0 := by unfold fit; rw [nb_zero]; decide
section
variable {n1 n2 : Bool} {a1 b1 a2 b2 : Nat} {e1 e2 : Int}
theorem Can.neg {s : Bool} {a b : Nat} {e : Int} (c : Can s a b e) : Can (!s && decide (a ≠ 0)) a b e :=
 ⟨c.fa, c.fb, c.ob, c.we, fun h => ⟨by simp [h], (c.z h).2⟩, c.r⟩
theorem exact_Abs_ok (s : Bool) {a b : Nat} {e : Int} (c : Can s a b e) (K : Bool → List UInt8 → List UInt8 → Int → Prop) (h : K false (nb a) (nb b) e) : zac s (nb a) (nb b) e K := by
 rw [zac.is]; unfold zac.d
 refine exact_Check_ok _ _ _ _ _ (fun _ => ?_) fun hh => absurd c.may hh
 rw [br_f (by rfl)]; exact h
end
theorem exact_top_ok (n : Bool) {a b : Nat} {e : Int} (c : Can n a b e) (h0 : a ≠ 0) (K : Int → Prop) (h2 : K (tp a b + e)) : zaj n (nb a) (nb b) e K := by
 have w := c.e64
 have la := fit_blen c.fa
 have lb := fit_blen c.fb
 rw [zaj.is]; unfold zaj.d
 refine nat_Len_n c.fa ?_
 refine nat_Len_n c.fb ?_
 rw [sub_i64 (by omega) (by omega)]
 unfold tp at h2
 by_cases hl : blen b ≤ blen a
 ·rw [if_pos hl] at h2
  rw [br_t (le_t (by omega))]
  have et : ((blen a : Int) - blen b).toNat = blen a - blen b := by omega
  have hf := fit_up c.fa c.b0 hl
  refine nat_Left_n _ (by omega) (by omega) c.fb (tell_of (fun f => ?_) fun f => absurd (by rw [et]; exact hf) f)
  refine nat_Cmp_n c.fa f ?_
  rw [et, sgn_lt0]
  refine br_ndec (fun h3 => ?_) fun h3 => ?_
  ·rw [if_neg h3] at h2
   rw [sub_i64 (by omega) (by omega), add_i64 (by omega) (by omega), show ((blen a : Int) - blen b - 1 + e) = ((blen a - blen b : Nat) : Int) - 1 + e from by omega]; exact h2
  ·rw [if_pos h3] at h2
   rw [add_i64 (by omega) (by omega), show ((blen a : Int) - blen b + e) = ((blen a - blen b : Nat) : Int) + e from by omega]; exact h2
 ·rw [if_neg hl] at h2
  rw [br_f (le_f (by omega))]
  have en : negI .i64 ((blen a : Int) - blen b) = (blen b : Int) - blen a := by
   show IntKind.wrap .i64 _ = _
   rw [i64_id (by omega) (by omega)]; omega
  have et : ((blen b : Int) - blen a).toNat = blen b - blen a := by omega
  have hf := fit_up c.fb h0 (show blen a ≤ blen b by omega)
  rw [en]
  refine nat_Left_n _ (by omega) (by omega) c.fa (tell_of (fun f => ?_) fun f => absurd (by rw [et]; exact hf) f)
  refine nat_Cmp_n f c.fb ?_
  rw [et, sgn_lt0]
  refine br_ndec (fun h3 => ?_) fun h3 => ?_
  ·rw [if_neg h3] at h2
   rw [sub_i64 (by omega) (by omega), add_i64 (by omega) (by omega), show ((blen a : Int) - blen b - 1 + e) = -((blen b - blen a : Nat) : Int) - 1 + e from by omega]; exact h2
  ·rw [if_pos h3] at h2
   rw [add_i64 (by omega) (by omega), show ((blen a : Int) - blen b + e) = -((blen b - blen a : Nat) : Int) + e from by omega]; exact h2
theorem exact_Top_ok (n : Bool) {a b : Nat} {e : Int} (c : Can n a b e) (K : Int → Int → Prop) (h1 : a = 0 → K 0 2) (h2 : a ≠ 0 → K (tp a b + e) 0) : zag n (nb a) (nb b) e K := by
 rw [zag.is]; unfold zag.d
 refine exact_Check_ok _ _ _ _ _ (fun _ => ?_) fun hh => absurd c.may hh
 rw [br_f (by rfl), eqS_nb]
 refine br_dec h1 fun h0 => ?_
 exact exact_top_ok n c h0 _ (h2 h0)
theorem exact_Floor_ok (s : Bool) {a b : Nat} {e : Int} (c : Can s a b e) (n : Int) (hn : -9223372036854775808 ≤ n ∧ n < 9223372036854775808) (K : List UInt8 → Bool → Int → Prop) (h : floE a b e n K) : zae s (nb a) (nb b) e n K := by
 have w := c.e64
 rw [zae.is]; unfold zae.d
 refine exact_Check_ok _ _ _ _ _ (fun _ => ?_) fun hh => absurd c.may hh
 rw [br_f (by rfl)]
 unfold floE at h
 by_cases g1 : n < -2097152
 ·rw [br_t (lt_t g1)]; rw [if_pos (.inl g1)] at h; exact h
 rw [br_f (lt_f (by omega))]
 by_cases g2 : 2097152 < n
 ·rw [br_t (lt_t g2)]; rw [if_pos (.inr g2)] at h; exact h
 rw [br_f (lt_f (by omega)), eqS_nb]
 rw [if_neg (by omega)] at h
 refine br_dec (fun h0 => ?_) fun h0 => ?_
 ·rw [if_pos h0] at h; exact h
 rw [if_neg h0] at h
 by_cases g3 : n ≤ e
 ·rw [br_t (le_t g3)]
  rw [if_pos g3] at h
  rw [sub_i64 (by omega) (by omega)]
  refine nat_Left_n _ (by omega) (by omega) c.fa (tell_of (fun f1 => ?_) fun f1 => ?_)
  ·rw [if_pos f1] at h
   rw [br_f (by rfl)]
   refine nat_Div_n f1 c.fb c.b0 ?_
   rw [eqS_nb]; exact h
  ·rw [if_neg f1] at h
   rw [br_t (by rfl)]; exact h
 ·rw [br_f (le_f (by omega))]
  rw [if_neg g3] at h
  refine exact_top_ok s c h0 _ ?_
  by_cases g4 : tp a b + e < n
  ·rw [br_t (lt_t g4)]; rw [if_pos g4] at h; exact h
  rw [br_f (lt_f (by omega))]
  rw [if_neg g4] at h
  have hf := fit_den h0 c.b0 c.fa g3 g4
  rw [sub_i64 (by omega) (by omega)]
  refine nat_Left_n _ (by omega) (by omega) c.fb (tell_of (fun f1 => ?_) fun f1 => absurd hf f1)
  refine nat_Div_n c.fa hf (Nat.mul_ne_zero c.b0 (Nat.pos_iff_ne_zero.1 (Nat.two_pow_pos _))) ?_
  rw [eqS_nb]; exact h
end Go.Ev.S

/- Encodings of exact numbers. -/
set_option linter.unusedVariables false
set_option linter.unusedSimpArgs false
set_option maxRecDepth 8000
namespace Go.Ev.S
open Go Go.Ev
theorem or_lo (e k t : Nat) (ht : t < 2 ^ k) : (e * 2 ^ k) ||| t = e * 2 ^ k + t := by
 rw [Nat.mul_comm]; exact (Nat.two_pow_add_eq_or_of_lt ht e).symm
theorem kind_build_ok (f e t : Nat) (h : f ≤ 3) (he : e ≤ 2 * fe f + 1) (ht : t < 2 ^ (fp f - 1)) (neg : Bool) (K : Int → Int → Prop) (hK : K (Hi (enc f neg e t)) (Lo (enc f neg e t))) : zam f neg e (W t) K := by
 obtain ⟨w1, w2, w3, w4, w5, w6⟩ := fw_le f h
 have hb := body_lt h he ht
 have hen := enc_lt h he ht neg
 have hb' : e * 2 ^ (fp f - 1) + t < Q6 := p384 (by omega) hb
 have he1 : e * 2 ^ (fp f - 1) < Q6 := by omega
 have ht1 : t < Q6 := p384 (by omega) ht
 rw [zam.is]; unfold zam.d
 rw [cv_u64 (by omega) (by omega), wide_Of_ok e (by omega), shape_Precision_ok f h, fp_m1 f h]
 refine wide_Left_val e (fp f - 1) (p384 (a := 64) (by omega) (by omega)) (by omega) _ fun bb => ?_
 rw [Nat.mod_eq_of_lt he1]
 refine wide_Or_ok _ _ he1 ht1 _ ?_
 rw [or_lo _ _ _ ht]
 cases neg with
 | false =>
  rw [br_f rfl]
  rw [wide_ToBits_ok _ (p128 (by omega) hb)]
  have : enc f false e t = e * 2 ^ (fp f - 1) + t := by simp [enc, sg]
  rw [this] at hK; exact hK
 | true =>
  have e1 : enc f true e t = e * 2 ^ (fp f - 1) + t + 2 ^ (fw f - 1) := by simp [enc, sg]; omega
  rw [e1] at hK hen
  have q1 : quoI IntKind.i64 (subI IntKind.i64 (fw f : Int) 1) 64 = (((fw f - 1) / 64 : Nat) : Int) := by rw [fw_m1 f h, quo64 _ (by omega)]
  have q2 : cvI IntKind.u64 (remI IntKind.i64 (subI IntKind.i64 (fw f : Int) 1) 64) = (((fw f - 1) % 64 : Nat) : Int) := by rw [fw_m1 f h, rem64, cv_u64 (by omega) (by omega)]
  have g1 : (leI 0 (((fw f - 1) / 64 : Nat) : Int) && ltI (((fw f - 1) / 64 : Nat) : Int) 6) = true := idx_ok (by omega) (by omega)
  have g2 : (!ltI (((fw f - 1) % 64 : Nat) : Int) 0) = true := sh_ok (by omega)
  rw [br_t rfl, shape_Width_ok f h, q1, q2, gd_t g1, gd_t g2, gd_t g1, Int.toNat_natCast, W_setbit, or_pow _ _ hb, wide_ToBits_ok _ (p128 (by omega) hen)]
  exact hK
def pl (f : Nat) (t : Int) : Int := (if t < 1 - fe f then 1 - (fe f : Int) else t) - fp f + 1
def encA (f : Nat) (n : Bool) (at_ : Int) (w : Nat) : Nat := sg f n + ((at_ + fe f + fp f - 2).toNat * 2 ^ (fp f - 1) + w)
theorem encA_hi {f : Nat} (h : f ≤ 3) (n : Bool) {t : Int} {w : Nat} (h1 : 2 ^ (fp f - 1) ≤ w) (h2 : w < 2 ^ fp f) :
  encA f n (pl f t) w = enc f n ((pl f t + fe f + fp f - 2).toNat + 1) (w % 2 ^ (fp f - 1)) := by
 have e2 : 2 ^ fp f = 2 ^ (fp f - 1) + 2 ^ (fp f - 1) := by rcases four h with rfl | rfl | rfl | rfl <;> decide
 have e3 : w % 2 ^ (fp f - 1) = w - 2 ^ (fp f - 1) := by
  rw [Nat.mod_eq_sub_mod h1, Nat.mod_eq_of_lt (by omega)]
 rw [e3]; unfold encA enc
 rw [Nat.add_mul]; omega
theorem encA_lo {f : Nat} (n : Bool) {t : Int} {w : Nat} (ht : t < 1 - fe f) : encA f n (pl f t) w = enc f n 0 w := by
 unfold encA enc pl
 rw [if_pos ht, show (1 - (fe f : Int) - fp f + 1 + fe f + fp f - 2).toNat = 0 from by omega, Nat.add_assoc]
theorem tp_one {a : Nat} (h : a ≠ 0) : tp a 1 = (blen a : Int) - 1 := by
 have h1 : blen 1 = 1 := by decide
 have h2 := blen_ge h
 have h3 : 1 ≤ blen a := by
  rcases Nat.eq_zero_or_pos (blen a) with h0 | h0
  ·have := (blen_le a 0).1 (by omega); omega
  ·exact h0
 unfold tp
 rw [h1, if_pos h3, Nat.one_mul, if_pos h2]; omega
def ofE (f : Nat) (n : Bool) (a b : Nat) (e : Int) (K : Int → Int → Bool → Prop) : Prop :=
 if a = 0 then K 0 0 true else if b ≠ 1 ∨ (fe f : Int) < tp a b + e ∨ e < pl f (tp a b + e) then K 0 0 false else
  K (Hi (encA f n (pl f (tp a b + e)) (a * 2 ^ (e - pl f (tp a b + e)).toNat))) (Lo (encA f n (pl f (tp a b + e)) (a * 2 ^ (e - pl f (tp a b + e)).toNat))) true
theorem blen_mul2 {a : Nat} (h : a ≠ 0) (k : Nat) : 2 ^ (blen a - 1 + k) ≤ a * 2 ^ k ∧ a * 2 ^ k < 2 ^ (blen a + k) := by
 rw [Nat.pow_add, Nat.pow_add]
 exact ⟨Nat.mul_le_mul_right _ (blen_ge h), Nat.mul_lt_mul_of_pos_right ((blen_le a _).1 (Nat.le_refl _)) (Nat.two_pow_pos k)⟩
theorem pl_range {f : Nat} (h : f ≤ 3) (t : Int) (h1 : t ≤ fe f) : -16494 ≤ pl f t ∧ pl f t ≤ 16384 ∧ 0 ≤ pl f t + fe f + fp f - 2 := by
 unfold pl
 rcases four h with rfl | rfl | rfl | rfl <;> simp only [fe, fp] at * <;> split <;> omega
theorem wide_nb {w : Nat} (h : w < Q6) : May (nb w) ∧ (nb w).length ≤ 48 := by
 refine ⟨May_nb (fit_Q6 h), ?_⟩
 obtain ⟨N, hN⟩ : ∃ N, N = 48 := ⟨_, rfl⟩
 have : (nb w).length ≤ N := by rw [nb_len_le, p256, p384' hN]; exact h
 omega
theorem nat_ToWide_n {w : Nat} (h : w < Q6) (K : (Nat → Int) → Bool → Prop) (hK : K (W w) true) : zba (nb w) K := by
 refine nat_ToWide_ok _ _ ?_
 rw [if_pos (wide_nb h), val_nb]; exact hK
theorem r05_ToWide_n {w : Nat} (h : w < Q6) (K : (Nat → Int) → Bool → Prop) (hK : K (W w) true) : zcp (nb w) K := by
 refine r05_ToWide_ok _ _ ?_
 rw [if_pos (wide_nb h), val_nb]; exact hK
theorem bit_top {w p : Nat} (hp : 1 ≤ p) (hw : w < 2 ^ p) : w.testBit (p - 1) = decide (2 ^ (p - 1) ≤ w) := by
 have e2 : 2 ^ p = 2 ^ (p - 1) + 2 ^ (p - 1) := by obtain ⟨q, rfl⟩ : ∃ q, p = q + 1 := ⟨p - 1, by omega⟩; rw [Nat.pow_succ, Nat.add_sub_cancel]; omega
 by_cases h : 2 ^ (p - 1) ≤ w
 ·rw [decide_eq_true h, show w = 2 ^ (p - 1) + (w - 2 ^ (p - 1)) from by omega, Nat.testBit_two_pow_add_eq, Nat.testBit_lt_two_pow (by omega)]; rfl
 ·rw [decide_eq_false h, Nat.testBit_lt_two_pow (by omega)]
section
variable {n : Bool} {a b : Nat} {e : Int}
theorem of_num {f : Nat} (h : f ≤ 3) (h0 : a ≠ 0) (h1 : ¬ (b ≠ 1 ∨ (fe f : Int) < tp a b + e ∨ e < pl f (tp a b + e))) :
  a * 2 ^ (e - pl f (tp a b + e)).toNat < 2 ^ fp f ∧ (1 - (fe f : Int) ≤ tp a b + e ↔ 2 ^ (fp f - 1) ≤ a * 2 ^ (e - pl f (tp a b + e)).toNat) := by
 obtain ⟨w1, w2, w3, w4, w5, w6⟩ := fw_le f h
 have hb : b = 1 := by omega
 subst hb
 have ht := tp_one h0
 have hm := blen_mul2 h0 (e - pl f (tp a 1 + e)).toNat
 have h3 : 1 ≤ blen a := by
  rcases Nat.eq_zero_or_pos (blen a) with hh | hh
  ·have := (blen_le a 0).1 (by omega); omega
  ·exact hh
 have hpl : pl f (tp a 1 + e) ≤ e := by omega
 by_cases hs : tp a 1 + e < 1 - fe f
 ·have hp1 : pl f (tp a 1 + e) = 2 - fe f - fp f := by unfold pl; rw [if_pos hs]; omega
  have l1 : blen a + (e - pl f (tp a 1 + e)).toNat ≤ fp f - 1 := by omega
  have l2 := Nat.pow_le_pow_right (show 0 < 2 by omega) l1
  have l3 := Nat.pow_lt_pow_right (show 1 < 2 by omega) (show fp f - 1 < fp f by omega)
  exact ⟨by omega, by omega, by omega⟩
 ·have hp1 : pl f (tp a 1 + e) = tp a 1 + e - fp f + 1 := by unfold pl; rw [if_neg hs]
  have l1 : blen a + (e - pl f (tp a 1 + e)).toNat = fp f := by omega
  have l2 : blen a - 1 + (e - pl f (tp a 1 + e)).toNat = fp f - 1 := by omega
  rw [l1, l2] at hm
  exact ⟨by omega, fun _ => by omega, fun _ => by omega⟩
theorem kind_Of_ok (f : Nat) (h : f ≤ 3) (c : Can n a b e) (K : Int → Int → Bool → Int → Prop) (hK : ofE f n a b e fun y0 y1 y2 => K y0 y1 y2 0) : zal f n (nb a) (nb b) e K := by
 obtain ⟨w1, w2, w3, w4, w5, w6⟩ := fw_le f h
 have we := c.e64
 have hr := tp_range c.fa c.fb
 unfold ofE at hK
 rw [zal.is]; unfold zal.d
 rw [shape_Check_ok f h, br_f (by rfl)]
 refine exact_Check_ok _ _ _ _ _ (fun _ => ?_) (fun hn => absurd c.may hn)
 rw [br_f (by rfl), eqS_nb]
 refine br_dec (fun h0 => ?_) fun h0 => ?_
 ·rw [if_pos h0] at hK; exact hK
 rw [if_neg h0] at hK
 rw [shape_Precision_ok f h]
 refine exact_Top_ok n c _ (fun hh => absurd hh h0) fun _ => ?_
 rw [shape_Emin_ok f h, eqS_one]
 refine br_ndec (fun hb => ?_) fun hb => ?_
 ·rw [if_pos (.inl hb)] at hK; exact hK
 rw [shape_Emax_ok f h]
 by_cases h2 : (fe f : Int) < tp a b + e
 ·rw [br_t (lt_t h2)]; rw [if_pos (.inr (.inl h2))] at hK; exact hK
 rw [br_f (lt_f (by omega))]
 have hp := pl_range h (tp a b + e) (by omega)
 have e1 : addI .i64 (subI .i64 (maxI (tp a b + e) (1 - (fe f : Int))) (fp f : Int)) 1 = pl f (tp a b + e) := by
  have : maxI (tp a b + e) (1 - (fe f : Int)) = if tp a b + e < 1 - fe f then 1 - (fe f : Int) else tp a b + e := maxI_eq _ _
  rw [this]
  unfold pl
  have hh : -200000 ≤ (if tp a b + e < 1 - (fe f : Int) then 1 - (fe f : Int) else tp a b + e) ∧ (if tp a b + e < 1 - (fe f : Int) then 1 - (fe f : Int) else tp a b + e) ≤ 200000 := by split <;> omega
  rw [sub_i64 (by omega) (by omega), add_i64 (by omega) (by omega)]
 rw [e1]
 by_cases h3 : e < pl f (tp a b + e)
 ·rw [br_t (lt_t h3)]; rw [if_pos (.inr (.inr h3))] at hK; exact hK
 rw [br_f (lt_f (by omega))]
 have hc : ¬ (b ≠ 1 ∨ (fe f : Int) < tp a b + e ∨ e < pl f (tp a b + e)) := by omega
 rw [if_neg hc] at hK
 have hw := of_num h h0 hc
 generalize hwd : a * 2 ^ (e - pl f (tp a b + e)).toNat = w at hw hK
 have hwQ : w < Q6 := p384 (by omega) hw.1
 refine exact_Floor_ok n c _ (by omega) _ ?_
 unfold floE
 rw [if_neg (by omega), if_neg h0, if_pos (show pl f (tp a b + e) ≤ e by omega), hwd, if_pos (fit_Q6 hwQ), hb, Nat.div_one]
 rw [hb] at hw hK
 refine nat_ToWide_n hwQ _ ?_
 rw [fp_m1 f h, wide_Bit_ok w (fp f - 1) (by omega), bit_top (by omega) hw.1]
 refine br_dec (fun hl => ?_) fun hl => ?_
 ·rw [shape_Emin_ok f h]
  refine wide_Mask_ok _ (by omega) _ ?_
  refine wide_And_ok _ _ hwQ _ ?_
  rw [Nat.and_two_pow_sub_one_eq_mod]
  rw [hb] at hp h2
  have e2 : addI .i64 (subI .i64 (pl f (tp a 1 + e)) (1 - (fe f : Int))) (fp f : Int) = (((pl f (tp a 1 + e) + fe f + fp f - 2).toNat + 1 : Nat) : Int) := by
   rw [sub_i64 (by omega) (by omega), add_i64 (by omega) (by omega)]; omega
  rw [e2]
  rw [encA_hi h n hl hw.1] at hK
  refine kind_build_ok f _ _ h ?_ (Nat.mod_lt _ (Nat.two_pow_pos _)) n _ hK
  have hs := hw.2.2 hl
  unfold pl; rw [if_neg (by omega)]; omega
 ·refine wide_Mask_ok _ (by omega) _ ?_
  refine wide_And_ok _ _ hwQ _ ?_
  rw [Nat.and_two_pow_sub_one_eq_mod, Nat.mod_eq_of_lt (by omega)]
  rw [encA_lo n (by have := hw.2; omega)] at hK
  exact kind_build_ok f 0 w h (by omega) (by omega) n _ hK
theorem r08_Of_ok (f : Nat) (h : f ≤ 3) (c : Can n a b e) (K : Int → Int → Bool → Prop) (hK : ofE f n a b e K) : zdp f n (nb a) (nb b) e K := by
 obtain ⟨w1, w2, w3, w4, w5, w6⟩ := fw_le f h
 have we := c.e64
 have hr := tp_range c.fa c.fb
 unfold ofE at hK
 rw [zdp.is]; unfold zdp.d
 rw [eqS_nb]
 refine br_dec (fun h0 => ?_) fun h0 => ?_
 ·rw [if_pos h0] at hK; exact hK
 rw [if_neg h0] at hK
 rw [r07_Precision_ok f h]
 refine r06_Top_ok n c _ (fun hh => absurd hh h0) fun _ => ?_
 rw [eqS_one]
 refine br_ndec (fun hb => ?_) fun hb => ?_
 ·rw [if_pos (.inl hb)] at hK; exact hK
 rw [r07_Emax_ok f h]
 by_cases h2 : (fe f : Int) < tp a b + e
 ·rw [br_t (lt_t h2)]; rw [if_pos (.inr (.inl h2))] at hK; exact hK
 rw [br_f (lt_f (by omega)), r07_Emin_ok f h]
 have hp := pl_range h (tp a b + e) (by omega)
 have key : ∀ m : Int, m = pl f (tp a b + e) → br (ltI e m) (K 0 0 false) (zcx n (nb a) (nb b) e m fun y0_4 y1 y2 => zcp y0_4 fun y0_5 y1 => zca y0_5 fun y0_6 => br (ltI y0_6 (fp f : Int)) (zde f n 0 y0_5 fun y0 y1 => K y0 y1 true) (zcb (subI .i64 (fp f : Int) 1) fun y0_7 => zbw y0_5 y0_7 fun y0_8 => zdg f fun y0_9 => zde f n (addI .i64 (subI .i64 m y0_9) (fp f : Int)) y0_8 fun y0 y1 => K y0 y1 true)) := by
  intro m hm
  subst hm
  by_cases h3 : e < pl f (tp a b + e)
  ·rw [br_t (lt_t h3)]; rw [if_pos (.inr (.inr h3))] at hK; exact hK
  rw [br_f (lt_f (by omega))]
  have hc : ¬ (b ≠ 1 ∨ (fe f : Int) < tp a b + e ∨ e < pl f (tp a b + e)) := by omega
  rw [if_neg hc] at hK
  have hw := of_num h h0 hc
  generalize hwd : a * 2 ^ (e - pl f (tp a b + e)).toNat = w at hw hK
  have hwQ : w < Q6 := p384 (by omega) hw.1
  refine r06_Floor_ok n c _ (by omega) _ ?_
  unfold floE
  rw [if_neg (by omega), if_neg h0, if_pos (show pl f (tp a b + e) ≤ e by omega), hwd, if_pos (fit_Q6 hwQ), hb, Nat.div_one]
  rw [hb] at hw hK
  refine r05_ToWide_n hwQ _ ?_
  refine r02_Len_ok w hwQ _ ?_
  by_cases hl : 2 ^ (fp f - 1) ≤ w
  ·have hl' : ¬ blen w ≤ fp f - 1 := by rw [blen_le]; omega
   rw [br_f (lt_f (by omega)), fp_m1 f h]
   refine r02_Mask_ok _ (by omega) _ ?_
   refine r02_And_ok _ _ hwQ _ ?_
   rw [Nat.and_two_pow_sub_one_eq_mod, r07_Emin_ok f h]
   rw [hb] at hp h2
   have e2 : addI .i64 (subI .i64 (pl f (tp a 1 + e)) (1 - (fe f : Int))) (fp f : Int) = (((pl f (tp a 1 + e) + fe f + fp f - 2).toNat + 1 : Nat) : Int) := by
    rw [sub_i64 (by omega) (by omega), add_i64 (by omega) (by omega)]; omega
   rw [e2]
   rw [encA_hi h n hl hw.1] at hK
   refine r07_Build_ok f _ _ h ?_ (Nat.mod_lt _ (Nat.two_pow_pos _)) n _ hK
   have hs := hw.2.2 hl
   unfold pl; rw [if_neg (by omega)]; omega
  ·have hl' : blen w ≤ fp f - 1 := by rw [blen_le]; omega
   rw [br_t (lt_t (by omega))]
   rw [encA_lo n (by have := hw.2; omega)] at hK
   exact r07_Build_ok f 0 w h (by omega) (by omega) n _ hK
 by_cases hs : tp a b + e < 1 - fe f
 ·rw [br_t (lt_t hs), r07_Emin_ok f h]
  have e1 : addI .i64 (subI .i64 (1 - (fe f : Int)) (fp f : Int)) 1 = pl f (tp a b + e) := by
   unfold pl; rw [if_pos hs, sub_i64 (by omega) (by omega), add_i64 (by omega) (by omega)]
  rw [e1]; exact key _ rfl
 ·rw [br_f (lt_f (by omega))]
  have e1 : addI .i64 (subI .i64 (tp a b + e) (fp f : Int)) 1 = pl f (tp a b + e) := by
   unfold pl; rw [if_neg hs, sub_i64 (by omega) (by omega), add_i64 (by omega) (by omega)]
  rw [e1]; exact key _ rfl
end
end Go.Ev.S

/- Rounding: what is delivered, by a floor function; the program's packing. -/
set_option linter.unusedVariables false
set_option linter.unusedSimpArgs false
set_option maxRecDepth 8000
namespace Go.Ev.S
open Go Go.Ev
def hf (F : Int → Nat × Bool) (at_ : Int) : Int := if (F (at_ - 1)).1 % 2 = 1 then (if (F (at_ - 1)).2 = true then 0 else 1) else -1
def upB (m : Nat) (n o : Bool) (a : Int) (e : Bool) : Bool :=
 if e = true then false else if m = 0 then (decide (0 < a) || (decide (a = 0) && o)) else if m = 4 then decide (0 ≤ a) else if m = 2 then n else if m = 3 then !n else false
def tk (F : Int → Nat × Bool) (m : Nat) (n : Bool) (at_ : Int) : Nat := (F at_).1 + cond (upB m n (decide ((F at_).1 % 2 = 1)) (hf F at_) (F at_).2) 1 0
def tinyF (f m : Nat) (n : Bool) (F : Int → Nat × Bool) (top : Int) : Bool :=
 if top = -(fe f : Int) then decide (blen (tk F m n (top - fp f + 1)) ≤ fp f) else decide (top < 1 - (fe f : Int))
def dlv (f m : Nat) (n : Bool) (F : Int → Nat × Bool) (top : Int) (K : Int → Int → Int → Int → Prop) : Prop :=
 if (fe f : Int) < top then K (Hi (ov f m n)) (Lo (ov f m n)) 5 0 else
 if (fe f : Int) < (blen (tk F m n (pl f top)) : Int) - 1 + pl f top then K (Hi (ov f m n)) (Lo (ov f m n)) 5 0 else
 K (Hi (encA f n (pl f top) (tk F m n (pl f top)))) (Lo (encA f n (pl f top) (tk F m n (pl f top)))) (if (F (pl f top)).2 = true then 0 else if tinyF f m n F top = true then 3 else 1) 0
def hj (S k : Nat) : Int := if S / 2 ^ (k - 1) % 2 = 1 then (if S % 2 ^ (k - 1) = 0 then 0 else 1) else -1
theorem cond_le (b : Bool) : cond b 1 0 ≤ 1 := by cases b <;> decide
theorem tk_le (F : Int → Nat × Bool) (m : Nat) (n : Bool) (at_ : Int) : tk F m n at_ ≤ (F at_).1 + 1 := by
 unfold tk; have := cond_le (upB m n (decide ((F at_).1 % 2 = 1)) (hf F at_) (F at_).2); omega
theorem fp_Q6 {f : Nat} (h : f ≤ 3) : 2 ^ fp f + 1 < Q6 := by
 have w := fw_le f h
 have h1 : 2 ^ (fp f + 1) < Q6 := lt_Q6 (by omega)
 have h2 := Nat.pow_le_pow_right (show 0 < 2 by omega) (show 1 ≤ fp f by omega)
 rw [Nat.pow_succ] at h1
 omega
end Go.Ev.S

/- Exact numbers: made, signs, products, places, sums. -/
set_option linter.unusedVariables false
set_option linter.unusedSimpArgs false
set_option maxRecDepth 8000
namespace Go.Ev.S
open Go Go.Ev
abbrev K5 := Bool → List UInt8 → List UInt8 → Int → Int → Prop
def One5 (T : K5 → Prop) : Prop := ∃ n x y e f, ∀ K : K5, T K = K n x y e f
theorem One5.k (n : Bool) (x y : List UInt8) (e f : Int) : One5 fun K => K n x y e f := ⟨n, x, y, e, f, fun _ => rfl⟩
end Go.Ev.S

/- Exact numbers as rational ones: bounds, sums, products, whole parts. -/
set_option linter.unusedVariables false
set_option linter.unusedSimpArgs false
set_option maxRecDepth 8000
namespace Go.Ev.S
open Go Go.Ev
structure Bd (P E : Nat) (a b : Nat) (e : Int) : Prop where
 a : a < 2 ^ P
 b : b < 2 ^ P
 l : -(E : Int) ≤ e
 u : e ≤ E
theorem Bd.mono {P E P' E' : Nat} {a b : Nat} {e : Int} (h : Bd P E a b e) (hP : P ≤ P') (hE : E ≤ E') : Bd P' E' a b e :=
 ⟨Nat.lt_of_lt_of_le h.a (Nat.pow_le_pow_right (by omega) hP), Nat.lt_of_lt_of_le h.b (Nat.pow_le_pow_right (by omega) hP), by have := h.l; omega, by have := h.u; omega⟩
theorem fit_bits {x P : Nat} (h : x < 2 ^ P) (hP : P ≤ 131072) : fit x := by
 rw [fit_bl]; have := (blen_le x P).2 h; omega
section
variable {n1 n2 : Bool} {a1 b1 a2 b2 : Nat} {e1 e2 : Int} {P1 E1 P2 E2 : Nat}
end
theorem le_mul_iff {x y d : Rat} (hd : 0 < d) : x * d ≤ y * d ↔ x ≤ y := by
 have h := mul_lt_iff (x := y) (y := x) hd
 constructor
 ·intro hh; apply Classical.byContradiction; intro hc
  have := h.2 (by grind); grind
 ·intro hh; exact Rat.mul_le_mul_of_nonneg_right hh (by grind)
theorem eq_mul_iff {x y d : Rat} (hd : 0 < d) : x * d = y * d ↔ x = y := by
 constructor
 ·intro hh
  have h1 := (le_mul_iff (x := x) (y := y) hd).1 (by grind)
  have h2 := (le_mul_iff (x := y) (y := x) hd).1 (by grind)
  grind
 ·intro hh; rw [hh]
structure Flr (X : Rat) (n : Int) (m : Nat) (is : Bool) : Prop where
 le : (m : Rat) * p2 n ≤ X
 lt : X < ((m + 1 : Nat) : Rat) * p2 n
 eq : is = true ↔ (m : Rat) * p2 n = X
theorem flr_of {X : Rat} {N D : Nat} {n : Int} (hD : D ≠ 0) (h : X * D = N * p2 n) : Flr X n (N / D) (decide (N % D = 0)) := by
 have hd := cast_pos hD
 have hp := p2_pos n
 have hdm := Nat.div_add_mod N D
 have hml := Nat.mod_lt N (Nat.pos_of_ne_zero hD)
 have e1 : ∀ m : Nat, (m : Rat) * p2 n * D = ((m * D : Nat) : Rat) * p2 n := by intro m; rw [Rat.natCast_mul]; grind
 refine ⟨?_, ?_, ?_⟩
 ·rw [← le_mul_iff hd, h, e1, le_mul_iff hp, Rat.natCast_le_natCast]
  exact Nat.div_mul_le_self N D
 ·rw [← mul_lt_iff hd, h, e1, mul_lt_iff hp, Rat.natCast_lt_natCast, Nat.add_mul, Nat.mul_comm]
  omega
 ·rw [decide_eq_true_iff, ← eq_mul_iff hd, h, e1, eq_mul_iff hp, Rat.natCast_inj, Nat.mul_comm]
  omega
theorem V_at (a b : Nat) (e n : Int) (hb : b ≠ 0) (hn : n ≤ e) : V false a b e * (b : Rat) = ((a * 2 ^ (e - n).toNat : Nat) : Rat) * p2 n := by
 rw [V_mul false a b e hb, show sR false = 1 from rfl, Rat.natCast_mul, ← p2_nat]
 have : p2 ((e - n).toNat : Int) * p2 n = p2 e := by rw [← p2_add]; congr 1; omega
 grind
theorem V_at' (a b : Nat) (e n : Int) (hb : b ≠ 0) (hn : e ≤ n) : V false a b e * ((b * 2 ^ (n - e).toNat : Nat) : Rat) = (a : Rat) * p2 n := by
 have h := V_mul false a b e hb
 rw [show sR false = 1 from rfl] at h
 rw [Rat.natCast_mul, ← p2_nat]
 have : p2 ((n - e).toNat : Int) * p2 e = p2 n := by rw [← p2_add]; congr 1; omega
 grind
theorem floE_V {s : Bool} {a b : Nat} {e n : Int} (c : Can s a b e) (ha : a ≠ 0) (h1 : -2097152 ≤ n) (h2 : n ≤ 2097152) (hf : n ≤ e → fit (a * 2 ^ (e - n).toNat)) (K : List UInt8 → Bool → Int → Prop)
  (h : ∀ m is, Flr (V false a b e) n m is → (n ≤ e → m ≤ a * 2 ^ (e - n).toNat) → (e < n → m ≤ a) → K (nb m) is 0) : floE a b e n K := by
 unfold floE
 rw [if_neg (by omega), if_neg ha]
 by_cases hn : n ≤ e
 ·rw [if_pos hn, if_pos (hf hn)]
  exact h _ _ (flr_of c.b0 (V_at a b e n c.b0 hn)) (fun _ => Nat.div_le_self _ _) (fun _ => by omega)
 ·rw [if_neg hn]
  have hB : b * 2 ^ (n - e).toNat ≠ 0 := Nat.mul_ne_zero c.b0 (Nat.pos_iff_ne_zero.1 (Nat.two_pow_pos _))
  have fl := flr_of hB (V_at' a b e n c.b0 (by omega))
  by_cases ht : tp a b + e < n
  ·rw [if_pos ht]
   have hlt : a < b * 2 ^ (n - e).toNat := by
    have hs := tp_spec ha c.b0
    by_cases h0 : 0 ≤ tp a b
    ·refine Nat.lt_of_lt_of_le (hs.1 h0).2 (Nat.mul_le_mul_left _ (Nat.pow_le_pow_right (by omega) (by omega)))
    ·have h3 := (hs.2 (by omega)).2
     have h4 : a * 1 ≤ a * 2 ^ ((-tp a b).toNat - 1) := Nat.mul_le_mul_left _ (Nat.two_pow_pos _)
     have h5 : b * 1 ≤ b * 2 ^ (n - e).toNat := Nat.mul_le_mul_left _ (Nat.two_pow_pos _)
     omega
   rw [Nat.div_eq_of_lt hlt, Nat.mod_eq_of_lt hlt, show decide (a = 0) = false from by simpa using ha] at fl
   have := h 0 false fl (fun _ => by omega) (fun _ => by omega)
   rwa [nb_zero] at this
  ·rw [if_neg ht]
   exact h _ _ fl (fun _ => by omega) (fun _ => Nat.div_le_self _ _)
theorem scale_le {a b x y : Rat} (hx : 0 < x) (h : x * y = 1) (hh : b ≤ a * y) : x * b ≤ a := by
 have h1 := Rat.mul_le_mul_of_nonneg_right hh (show 0 ≤ x by grind)
 have h2 : a * y * x = a := by rw [show a * y * x = a * (x * y) from by grind, h]; grind
 grind
theorem scale_lt {a b x y : Rat} (hx : 0 < x) (h : x * y = 1) (hh : a * y < b) : a < x * b := by
 have h1 := Rat.mul_lt_mul_of_pos_right hh hx
 have h2 : a * y * x = a := by rw [show a * y * x = a * (x * y) from by grind, h]; grind
 grind
theorem tp_V {a b : Nat} (e : Int) (ha : a ≠ 0) (hb : b ≠ 0) : p2 (tp a b + e) ≤ V false a b e ∧ V false a b e < p2 (tp a b + e + 1) := by
 have hs := tp_spec ha hb
 have hd := cast_pos hb
 have hv := V_mul false a b e hb
 rw [show sR false = 1 from rfl] at hv
 have hp := p2_pos e
 have key : p2 (tp a b) * (b : Rat) ≤ a ∧ (a : Rat) < p2 (tp a b + 1) * b := by
  by_cases h0 : 0 ≤ tp a b
  ·obtain ⟨h1, h2⟩ := hs.1 h0
   have e1 : p2 (tp a b) = ((2 ^ (tp a b).toNat : Nat) : Rat) := by rw [← p2_nat]; congr 1; omega
   have e2 : p2 (tp a b + 1) = ((2 ^ ((tp a b).toNat + 1) : Nat) : Rat) := by rw [← p2_nat]; congr 1; omega
   rw [e1, e2, ← Rat.natCast_mul, ← Rat.natCast_mul, Rat.natCast_le_natCast, Rat.natCast_lt_natCast, Nat.mul_comm, Nat.mul_comm _ b]
   exact ⟨h1, h2⟩
  ·obtain ⟨h1, h2⟩ := hs.2 (by omega)
   have q1 : p2 (tp a b) * ((2 ^ (-tp a b).toNat : Nat) : Rat) = 1 := by rw [← p2_nat, ← p2_add, show tp a b + ((-tp a b).toNat : Int) = 0 from by omega, p2_zero]
   have q2 : p2 (tp a b + 1) * ((2 ^ ((-tp a b).toNat - 1) : Nat) : Rat) = 1 := by rw [← p2_nat, ← p2_add, show tp a b + 1 + (((-tp a b).toNat - 1 : Nat) : Int) = 0 from by omega, p2_zero]
   have r1 := Rat.natCast_le_natCast.2 h1
   have r2 := Rat.natCast_lt_natCast.2 h2
   rw [Rat.natCast_mul] at r1 r2
   have s1 := p2_pos (tp a b)
   have s2 := p2_pos (tp a b + 1)
   exact ⟨scale_le s1 q1 r1, scale_lt s2 q2 r2⟩
 constructor
 ·rw [← le_mul_iff hd, hv, p2_add]
  have := Rat.mul_le_mul_of_nonneg_right key.1 (show 0 ≤ p2 e by grind)
  grind
 ·rw [← mul_lt_iff hd, hv, show tp a b + e + 1 = (tp a b + 1) + e from by omega, p2_add]
  have := Rat.mul_lt_mul_of_pos_right key.2 hp
  grind
end Go.Ev.S

/- Doubling does not change what is delivered. -/
set_option linter.unusedVariables false
set_option linter.unusedSimpArgs false
set_option maxRecDepth 8000
namespace Go.Ev.S
open Go Go.Ev
theorem dlv_any (f m : Nat) (n : Bool) (F : Int → Nat × Bool) (top : Int) : ∃ x y z w, ∀ K : Int → Int → Int → Int → Prop, dlv f m n F top K ↔ K x y z w := by
 unfold dlv
 by_cases h1 : (fe f : Int) < top
 ·simp only [if_pos h1]; exact ⟨_, _, _, _, fun K => Iff.rfl⟩
 ·simp only [if_neg h1]
  by_cases h2 : (fe f : Int) < (blen (tk F m n (pl f top)) : Int) - 1 + pl f top
  ·simp only [if_pos h2]; exact ⟨_, _, _, _, fun K => Iff.rfl⟩
  ·simp only [if_neg h2]; exact ⟨_, _, _, _, fun K => Iff.rfl⟩
end Go.Ev.S

/- Rounding as the document has it. -/
set_option linter.unusedVariables false
set_option linter.unusedSimpArgs false
set_option maxRecDepth 8000
namespace Go.Ev.S
open Go Go.Ev
structure FF (F : Int → Nat × Bool) (p : Nat) (top : Int) : Prop where
 lt : ∀ at_, top - p + 1 ≤ at_ → (F at_).1 < 2 ^ p
 ge : 2 ^ (p - 1) ≤ (F (top - p + 1)).1
 ex : ∀ at_, (F at_).2 = true → (F at_).1 ≠ 0
 half : ∀ at_, (F (at_ + 1)).1 = (F at_).1 / 2
theorem mk_can (n : Bool) {t : Nat} (h0 : t ≠ 0) {P : Nat} (ht : t < 2 ^ P) (hP : P = 200) {at_ : Int} (hr : -100000 ≤ at_ ∧ at_ ≤ 100000) (K : Bool → List UInt8 → List UInt8 → Int → Int → Prop)
  (hK : ∀ a e, Can n a 1 e → a ≠ 0 → t = a * 2 ^ (e - at_).toNat → at_ ≤ e → e ≤ at_ + 200 → K n (nb a) [1] e 0) : mkE n t 1 at_ K := by
 unfold mkE
 have hl := lowb_lt t P h0 ht
 have o1 : odp 1 = 1 := by unfold odp; rw [show lowb 1 = 0 from lowb_of 0 0]
 have hB : rdB t 1 = 1 := by unfold rdB; rw [o1, Nat.gcd_one_right]
 have hA : rdA t 1 = odp t := by unfold rdA; rw [o1, Nat.gcd_one_right, Nat.div_one]
 have hE : rdE t 1 at_ = at_ + lowb t := by unfold rdE; rw [show lowb 1 = 0 from lowb_of 0 0]; omega
 rw [if_neg h0, hA, hB, hE, if_pos (by unfold win; omega), nb_one]
 have ho := odp_spec h0
 have hne := odp_ne h0
 have hfit : fit t := fit_bits ht (by omega)
 refine hK _ _ ⟨fit_div hfit _, fit_one, rfl, by unfold win; omega, fun hh => absurd hh hne, fun _ => ⟨ho.2, Nat.gcd_one_right _⟩⟩ hne ?_ (by omega) (by omega)
 rw [show (at_ + (lowb t : Int) - at_).toNat = lowb t from by omega, Nat.mul_comm]; exact ho.1
theorem of_val {f : Nat} (h : f ≤ 3) {n : Bool} {a t : Nat} {e at_ : Int} (c : Can n a 1 e) (h0 : a ≠ 0) (ht : t = a * 2 ^ (e - at_).toNat) (hle : at_ ≤ e) (h1 : t ≤ 2 ^ fp f)
  (hat : 2 - (fe f : Int) - fp f ≤ at_) (hs : at_ = 2 - (fe f : Int) - fp f ∨ 2 ^ (fp f - 1) ≤ t) (K : Int → Int → Bool → Prop)
  (hK : if (fe f : Int) < (blen t : Int) - 1 + at_ then K 0 0 false else K (Hi (encA f n at_ t)) (Lo (encA f n at_ t)) true) : ofE f n a 1 e K := by
 obtain ⟨w1, w2, w3, w4, w5, w6⟩ := fw_le f h
 obtain ⟨k, hk⟩ : ∃ k : Nat, (k : Int) = e - at_ := ⟨(e - at_).toNat, by omega⟩
 rw [show (e - at_).toNat = k from by omega] at ht
 have hb : blen t = blen a + k := by rw [ht, blen_mul _ _ h0]
 have htp : tp a 1 + e = (blen t : Int) - 1 + at_ := by rw [tp_one h0, hb]; omega
 unfold ofE
 rw [if_neg h0, htp]
 by_cases hf : (fe f : Int) < (blen t : Int) - 1 + at_
 ·rw [if_pos (.inr (.inl hf))]; rw [if_pos hf] at hK; exact hK
 rw [if_neg hf] at hK
 by_cases hp : t < 2 ^ fp f
 ·have hbl := (blen_le t (fp f)).2 hp
  have hpl : pl f ((blen t : Int) - 1 + at_) = at_ := by
   unfold pl
   rcases hs with hs | hs
   ·split <;> omega
   ·have hb2 : ¬ blen t ≤ fp f - 1 := by rw [blen_le]; omega
    rw [if_neg (by omega)]; omega
  rw [hpl, if_neg (by omega), show (e - at_).toNat = k from by omega, ← ht]
  exact hK
 ·have hte : t = 2 ^ fp f := by omega
  have hb2 : blen t = fp f + 1 := by
   have h3 : ¬ blen t ≤ fp f := by rw [blen_le]; omega
   have h4 : blen t ≤ fp f + 1 := by rw [blen_le, hte]; exact Nat.pow_lt_pow_right (by omega) (by omega)
   omega
  have hpl : pl f ((blen t : Int) - 1 + at_) = at_ + 1 := by
   unfold pl; rw [if_neg (by omega)]; omega
  have hk1 : 1 ≤ k := by
   apply Classical.byContradiction; intro hn
   have hk0 : k = 0 := by omega
   rw [hk0, Nat.pow_zero, Nat.mul_one] at ht
   have ho := (c.r h0).1
   have : t % 2 = 0 := by
    rw [hte]
    obtain ⟨q, hq⟩ : ∃ q, fp f = q + 1 := ⟨fp f - 1, by omega⟩
    rw [hq, Nat.pow_succ]; omega
   omega
  rw [hpl, if_neg (by omega), show (e - (at_ + 1)).toNat = k - 1 from by omega]
  have e2 : 2 ^ fp f = 2 ^ (fp f - 1) + 2 ^ (fp f - 1) := by rcases four h with rfl | rfl | rfl | rfl <;> decide
  have hw : a * 2 ^ (k - 1) = 2 ^ (fp f - 1) := by
   have : a * 2 ^ k = a * 2 ^ (k - 1) * 2 := by rw [Nat.mul_assoc, ← Nat.pow_succ, show (k - 1).succ = k from by omega]
   omega
  have he : encA f n (at_ + 1) (a * 2 ^ (k - 1)) = encA f n at_ t := by
   unfold encA
   rw [hw, hte, e2, show (at_ + 1 + (fe f : Int) + fp f - 2).toNat = (at_ + (fe f : Int) + fp f - 2).toNat + 1 from by omega, Nat.add_mul]
   omega
  rw [he]; exact hK
theorem r09_last_ok (x : Nat) (hf : fit x) (K : Bool → Prop) (h : K (decide (x % 2 = 1))) : zdv (nb x) K := by
 have hl := fit_len hf
 have hv : val (nb x) = x := val_nb x
 rw [← hv] at h
 generalize nb x = a at h hl
 rw [zdv.is]; unfold zdv.d
 rw [eqS_nil]
 by_cases h0 : a = []
 ·subst h0
  rw [br_f (by rfl)]; exact h
 ·have hp : 0 < a.length := List.length_pos_iff.2 h0
  rw [br_t (by simp [h0]), sub_i64 (by omega) (by omega), le_t (by omega), lt_t (by omega), gd_t (by rfl), show Int.toNat ((a.length : Int) - 1) = a.length - 1 from by omega, odd_byte a h0]
  exact h
theorem r09_up_ok (m : Nat) (hm : m ≤ 4) (n : Bool) {x : Nat} (hf : fit x) (at_ hh : Int) (e : Bool) (K : Bool → Prop) (hK : K (upB m n (decide (x % 2 = 1)) hh e)) : zdz m n (nb x) at_ hh e K := by
 rw [zdz.is]; unfold zdz.d
 unfold upB at hK
 cases e with
 | true => exact hK
 | false =>
  rw [br_f rfl]
  rcases five hm with rfl | rfl | rfl | rfl | rfl
  ·show br (ltI 0 hh) (K true) (br (eqI hh 0) (zdv (nb x) fun y0 => K y0) (K false))
   have hK' : K (decide (0 < hh) || (decide (hh = 0) && decide (x % 2 = 1))) := hK
   by_cases h1 : 0 < hh
   ·rw [br_t (lt_t h1)]; rw [decide_eq_true h1] at hK'; exact hK'
   ·rw [br_f (lt_f (by omega))]; rw [decide_eq_false h1] at hK'
    by_cases h2 : hh = 0
    ·rw [br_t (eq_t h2)]; rw [decide_eq_true h2] at hK'
     exact r09_last_ok x hf _ (by simpa using hK')
    ·rw [br_f (eq_f h2)]; rw [decide_eq_false h2] at hK'; exact hK'
  ·exact hK
  ·exact hK
  ·exact hK
  ·exact hK
theorem r09_taken_ok (m : Nat) (hm : m ≤ 4) (n : Bool) {x : Nat} (hf : fit (x + 1)) (at_ hh : Int) (e : Bool) (K : List UInt8 → Prop) (hK : K (nb (x + cond (upB m n (decide (x % 2 = 1)) hh e) 1 0))) : zdw m n (nb x) at_ hh e K := by
 have hx : fit x := fit_le hf (by omega)
 rw [zdw.is]; unfold zdw.d
 refine r09_up_ok m hm n hx at_ hh e _ ?_
 cases hu : upB m n (decide (x % 2 = 1)) hh e with
 | false => rw [hu] at hK; rw [br_t (show (!false) = true from rfl)]; exact hK
 | true =>
  rw [hu] at hK
  rw [br_f (show (!true) = false from rfl), ← nb_one]
  exact r05_Add_n hx fit_one (tell_of (fun _ => hK) fun hh => absurd hf hh)
theorem fit_fp {f : Nat} (h : f ≤ 3) {x : Nat} (hx : x < 2 ^ fp f) : fit (x + 1) := fit_Q6 (by have := fp_Q6 h; omega)
section
variable {f m : Nat} {n root : Bool} {x y : List UInt8} {e top : Int} {F : Int → Nat × Bool}
def Finds (f : Nat) (n root : Bool) (x y : List UInt8) (e top : Int) (F : Int → Nat × Bool) : Prop :=
 ∀ at_ : Int, top - fp f + 1 ≤ at_ → at_ ≤ 20000 → ∀ K : List UInt8 → Int → Int → Bool → Prop, (∀ hh : Int, ((F at_).2 = false → hh = hf F at_) → K (nb (F at_).1) at_ hh (F at_).2) → zdu n x y e root at_ K
theorem found_taken (h : f ≤ 3) (hm : m ≤ 4) (H : FF F (fp f) top) (hfd : Finds f n root x y e top F) {at_ : Int} (h1 : top - fp f + 1 ≤ at_) (h2 : at_ ≤ 20000) (K : List UInt8 → Int → Bool → Prop)
  (hK : K (nb (tk F m n at_)) at_ (F at_).2) : zdu n x y e root at_ fun y0 y1 y2 y3 => zdw m n y0 y1 y2 y3 fun y0 => K y0 y1 y3 := by
 refine hfd at_ h1 h2 _ fun hh hq => ?_
 refine r09_taken_ok m hm n (fit_fp h (H.lt at_ h1)) _ _ _ _ ?_
 have : upB m n (decide ((F at_).1 % 2 = 1)) hh (F at_).2 = upB m n (decide ((F at_).1 % 2 = 1)) (hf F at_) (F at_).2 := by
  cases he : (F at_).2 with
  | true => rfl
  | false => rw [hq he]
 rw [this]; exact hK
theorem r09_tiny_ok (h : f ≤ 3) (hm : m ≤ 4) (H : FF F (fp f) top) (hfd : Finds f n root x y e top F) (htop : ∀ K : Int → Prop, K top → zdy n x y e root K) (hr : -3000000 ≤ top ∧ top ≤ 3000000) (K : Bool → Prop)
  (hK : K (tinyF f m n F top)) : zdx f m n x y e root K := by
 have w := fw_le f h
 rw [zdx.is]; unfold zdx.d
 refine htop _ ?_
 rw [r07_Emin_ok f h, sub_i64 (by omega) (by omega), r07_Precision_ok f h]
 unfold tinyF at hK
 by_cases h1 : 1 - (fe f : Int) ≤ top
 ·rw [br_t (le_t h1)]
  rw [if_neg (by omega), decide_eq_false (by omega)] at hK; exact hK
 rw [br_f (le_f (by omega))]
 by_cases h2 : top < 1 - (fe f : Int) - 1
 ·rw [br_t (lt_t h2)]
  rw [if_neg (by omega), decide_eq_true (by omega)] at hK; exact hK
 rw [br_f (lt_f (by omega)), sub_i64 (by omega) (by omega), add_i64 (by omega) (by omega)]
 rw [if_pos (by omega)] at hK
 refine found_taken h hm H hfd (Int.le_refl _) (by omega) (fun y0 _ _ => zcj y0 fun y0 => zdk f fun y0_3 => K (leI y0 y0_3)) ?_
 have ht := tk_le F m n (top - fp f + 1)
 have hl := H.lt (top - fp f + 1) (Int.le_refl _)
 refine r05_Len_n (fit_le (fit_fp h hl) ht) ?_
 rw [r07_Precision_ok f h]
 have e1 : leI (blen (tk F m n (top - fp f + 1)) : Int) (fp f : Int) = decide (blen (tk F m n (top - fp f + 1)) ≤ fp f) := by
  unfold leI; rw [decide_eq_decide]; omega
 rw [e1]; exact hK
theorem FF.tk_facts (h : f ≤ 3) (m : Nat) (n : Bool) (H : FF F (fp f) top) : tk F m n (pl f top) ≤ 2 ^ fp f ∧ (pl f top = 2 - (fe f : Int) - fp f ∨ 2 ^ (fp f - 1) ≤ tk F m n (pl f top)) ∧ 2 - (fe f : Int) - fp f ≤ pl f top ∧ top - fp f + 1 ≤ pl f top := by
 have w := fw_le f h
 have hge : top - fp f + 1 ≤ pl f top := by unfold pl; split <;> omega
 have hl := H.lt (pl f top) hge
 have ht := tk_le F m n (pl f top)
 refine ⟨by omega, ?_, by unfold pl; split <;> omega, hge⟩
 by_cases hs : top < 1 - (fe f : Int)
 ·left; unfold pl; rw [if_pos hs]; omega
 ·right
  have hp : pl f top = top - fp f + 1 := by unfold pl; rw [if_neg hs]
  have := H.ge
  rw [← hp] at this
  unfold tk; omega
theorem FF.none (h : f ≤ 3) (m : Nat) (n : Bool) (H : FF F (fp f) top) (h0 : tk F m n (pl f top) = 0) : (F (pl f top)).2 = false ∧ tinyF f m n F top = true ∧ pl f top = 2 - (fe f : Int) - fp f := by
 have w := fw_le f h
 have hf1 := H.tk_facts h m n
 have hpos := Nat.two_pow_pos (fp f - 1)
 have hz : (F (pl f top)).1 = 0 := by unfold tk at h0; omega
 have hpl : pl f top = 2 - (fe f : Int) - fp f := by omega
 have hex : (F (pl f top)).2 = false := by
  cases he : (F (pl f top)).2 with
  | false => rfl
  | true => exact absurd hz (H.ex _ he)
 refine ⟨hex, ?_, hpl⟩
 have hge := H.ge
 have hp2 : 2 ≤ 2 ^ (fp f - 1) := by
  have := Nat.pow_le_pow_right (show 0 < 2 by omega) (show 1 ≤ fp f - 1 by omega); omega
 have n1 : top ≠ 1 - (fe f : Int) := by
  intro hh
  rw [show top - (fp f : Int) + 1 = pl f top from by omega, hz] at hge; omega
 have n2 : top ≠ -(fe f : Int) := by
  intro hh
  have h2 := H.half (pl f top - 1)
  rw [show pl f top - 1 + 1 = pl f top from by omega, hz] at h2
  rw [show top - (fp f : Int) + 1 = pl f top - 1 from by omega] at hge
  omega
 have n3 : top < 1 - (fe f : Int) := by
  apply Classical.byContradiction; intro hh
  have : pl f top = top - fp f + 1 := by unfold pl; rw [if_neg hh]
  omega
 unfold tinyF
 rw [if_neg n2, decide_eq_true (by omega)]
theorem r09_deliver_ok (h : f ≤ 3) (hm : m ≤ 4) (H : FF F (fp f) top) (hfd : Finds f n root x y e top F) (htop : ∀ K : Int → Prop, K top → zdy n x y e root K) (hr : -3000000 ≤ top ∧ top ≤ 3000000) (K : Int → Int → Int → Prop)
  (hK : dlv f m n F top fun a b c _ => K a b c) : zdt f m n x y e root K := by
 have w := fw_le f h
 have hf1 := H.tk_facts h m n
 rw [zdt.is]; unfold zdt.d
 refine htop _ ?_
 rw [r07_Precision_ok f h, r07_Emax_ok f h]
 unfold dlv at hK
 by_cases h1 : (fe f : Int) < top
 ·rw [br_t (lt_t h1)]; rw [if_pos h1] at hK
  exact r09_Over_ok f m n h hm _ hK
 rw [br_f (lt_f (by omega)), r07_Emin_ok f h]
 rw [if_neg h1] at hK
 have hp := pl_range h top (by omega)
 have key : ∀ at_ : Int, at_ = pl f top → zdu n x y e root at_ fun y0 y1 y2 y3 => zdw m n y0 y1 y2 y3 fun y0 => zcy n y0 [1] y1 fun y0 y1 y2 y3_1 y4 => br (eqS y1 []) (zdo f n fun y0 y1 => K y0 y1 3) (zdp f y0 y1 y2 y3_1 fun y0 y1 y2 => br (!y2) (zdr f m n fun y0 y1 => K y0 y1 5) (br y3 (K y0 y1 0) (zdx f m n x y e root fun y0_4 => br y0_4 (K y0 y1 3) (K y0 y1 1)))) := by
  intro at_ hat
  subst hat
  refine found_taken h hm H hfd hf1.2.2.2 (by omega) (fun y0 y1 y3 => zcy n y0 [1] y1 fun y0 y1 y2 y3_1 y4 => br (eqS y1 []) (zdo f n fun y0 y1 => K y0 y1 3) (zdp f y0 y1 y2 y3_1 fun y0 y1 y2 => br (!y2) (zdr f m n fun y0 y1 => K y0 y1 5) (br y3 (K y0 y1 0) (zdx f m n x y e root fun y0_4 => br y0_4 (K y0 y1 3) (K y0 y1 1))))) ?_
  have hfit : fit (tk F m n (pl f top)) := fit_le (fit_fp h (H.lt _ hf1.2.2.2)) (tk_le _ _ _ _)
  rw [← nb_one]
  refine r06_Make_n n hfit fit_one (by decide) (by unfold win; omega) ?_
  by_cases h0 : tk F m n (pl f top) = 0
  ·unfold mkE
   rw [if_pos h0]
   have hn := H.none h m n h0
   show br (eqS [] []) _ _
   rw [br_t (show eqS [] [] = true from rfl)]
   refine r07_Zero_ok f h n _ ?_
   have hb0 : blen 0 = 0 := by decide
   rw [h0, hb0, if_neg (by omega), hn.1, if_neg (by decide), hn.2.1, if_pos rfl] at hK
   have he : encA f n (pl f top) 0 = enc f n 0 0 := by
    unfold encA enc; rw [show (pl f top + (fe f : Int) + fp f - 2).toNat = 0 from by omega, Nat.zero_mul, Nat.add_zero]
   rw [he] at hK; exact hK
  ·obtain ⟨P, hP⟩ : ∃ P, P = 200 := ⟨_, rfl⟩
   have hlt : tk F m n (pl f top) < 2 ^ P := Nat.lt_of_le_of_lt hf1.1 (Nat.pow_lt_pow_right (by omega) (by omega))
   refine mk_can n h0 hlt hP (by omega) _ fun a g c ha hta hag hg => ?_
   rw [eqS_nb, br_f (by simpa using ha), ← nb_one]
   refine r08_Of_ok f h c _ ?_
   refine of_val h c ha hta hag hf1.1 hf1.2.2.1 hf1.2.1 _ ?_
   by_cases h2 : (fe f : Int) < (blen (tk F m n (pl f top)) : Int) - 1 + pl f top
   ·rw [if_pos h2] at hK ⊢
    rw [br_t (show (!false) = true from rfl)]
    exact r09_Over_ok f m n h hm _ hK
   ·rw [if_neg h2] at hK ⊢
    rw [br_f (show (!true) = false from rfl)]
    cases hx : (F (pl f top)).2 with
    | true => rw [hx, if_pos rfl] at hK; exact hK
    | false =>
     rw [hx, if_neg (by decide)] at hK
     rw [br_f rfl]
     refine r09_tiny_ok h hm H hfd htop hr _ ?_
     cases ht : tinyF f m n F top with
     | true => rw [ht, if_pos rfl] at hK; exact hK
     | false => rw [ht, if_neg (by decide)] at hK; exact hK
 by_cases hs : top < 1 - (fe f : Int)
 ·rw [br_t (lt_t hs), r07_Emin_ok f h]
  exact key _ (by rw [sub_i64 (by omega) (by omega), add_i64 (by omega) (by omega)]; unfold pl; rw [if_pos hs])
 ·rw [br_f (lt_f (by omega))]
  exact key _ (by rw [sub_i64 (by omega) (by omega), add_i64 (by omega) (by omega)]; unfold pl; rw [if_neg hs])
end
end Go.Ev.S

/- Floor functions of exact numbers. -/
set_option linter.unusedVariables false
set_option linter.unusedSimpArgs false
set_option maxRecDepth 8000
namespace Go.Ev.S
open Go Go.Ev
theorem p2_lt {a b : Int} (h : a < b) : p2 a < p2 b := by
 obtain ⟨k, hk⟩ : ∃ k : Nat, b = a + ((k + 1 : Nat) : Int) := ⟨(b - a - 1).toNat, by omega⟩
 rw [hk, p2_add, p2_nat]
 have h1 := p2_pos a
 have h2 : (1 : Rat) < ((2 ^ (k + 1) : Nat) : Rat) := by
  have : (1 : Nat) < 2 ^ (k + 1) := Nat.one_lt_two_pow (by omega)
  exact Rat.natCast_lt_natCast.2 this
 have := Rat.mul_lt_mul_of_pos_right h2 h1
 grind
theorem p2_le {a b : Int} (h : a ≤ b) : p2 a ≤ p2 b := by
 rcases Int.lt_or_eq_of_le h with h | h
 ·have := p2_lt h; grind
 ·rw [h]; exact Rat.le_refl
theorem flr_uniq {X : Rat} {at_ : Int} {m m' : Nat} {is is' : Bool} (h : Flr X at_ m is) (h' : Flr X at_ m' is') : m = m' ∧ is = is' := by
 have hp := p2_pos at_
 have h1 := h.le
 have h2 := h.lt
 have h3 := h'.le
 have h4 := h'.lt
 have l1 : m < m' + 1 := by
  rw [← Rat.natCast_lt_natCast, ← mul_lt_iff hp]; grind
 have l2 : m' < m + 1 := by
  rw [← Rat.natCast_lt_natCast, ← mul_lt_iff hp]; grind
 have e : m = m' := by omega
 subst e
 refine ⟨rfl, ?_⟩
 rw [Bool.eq_iff_iff, h.eq, h'.eq]
def FX (a b : Nat) (e at_ : Int) : Nat × Bool :=
 if at_ ≤ e then (a * 2 ^ (e - at_).toNat / b, decide (a * 2 ^ (e - at_).toNat % b = 0)) else (a / (b * 2 ^ (at_ - e).toNat), decide (a % (b * 2 ^ (at_ - e).toNat) = 0))
theorem FX_flr {a b : Nat} (e at_ : Int) (hb : b ≠ 0) : Flr (V false a b e) at_ (FX a b e at_).1 (FX a b e at_).2 := by
 unfold FX
 by_cases h : at_ ≤ e
 ·rw [if_pos h]; exact flr_of hb (V_at a b e at_ hb h)
 ·rw [if_neg h]
  have hB : b * 2 ^ (at_ - e).toNat ≠ 0 := Nat.mul_ne_zero hb (Nat.pos_iff_ne_zero.1 (Nat.two_pow_pos _))
  exact flr_of hB (V_at' a b e at_ hb (by omega))
theorem FF_flr {X : Rat} {F : Int → Nat × Bool} {p : Nat} {top : Int} (hp : 1 ≤ p) (hF : ∀ at_, Flr X at_ (F at_).1 (F at_).2) (h1 : p2 top ≤ X) (h2 : X < p2 (top + 1)) : FF F p top := by
 have hX : 0 < X := by have := p2_pos top; grind
 refine ⟨fun at_ hat => ?_, ?_, fun at_ hat hz => ?_, fun at_ => ?_⟩
 ·have hq := p2_pos at_
  have h3 := (hF at_).le
  have h4 := p2_le (show top + 1 ≤ (p : Int) + at_ by omega)
  rw [p2_add (p : Int), p2_nat] at h4
  generalize 2 ^ p = N at h4
  rw [← Rat.natCast_lt_natCast, ← mul_lt_iff hq]; grind
 ·have hq := p2_pos (top - p + 1)
  have h3 := (hF (top - p + 1)).lt
  have h4 : p2 top = ((2 ^ (p - 1) : Nat) : Rat) * p2 (top - p + 1) := by rw [← p2_nat, ← p2_add]; congr 1; omega
  have : 2 ^ (p - 1) < (F (top - p + 1)).1 + 1 := by
   generalize 2 ^ (p - 1) = N at h4
   rw [← Rat.natCast_lt_natCast, ← mul_lt_iff hq]; grind
  omega
 ·have h3 := (hF at_).eq.1 hat
  rw [hz] at h3
  have : ((0 : Nat) : Rat) = 0 := rfl
  grind
 ·have hq := p2_pos at_
  have hq1 : p2 (at_ + 1) = 2 * p2 at_ := by rw [p2_add, p2_one]; grind
  have a1 := (hF at_).le
  have a2 := (hF at_).lt
  have b1 := (hF (at_ + 1)).le
  have b2 := (hF (at_ + 1)).lt
  rw [hq1] at b1 b2
  have e0 : ((2 : Nat) : Rat) = 2 := rfl
  generalize (F at_).1 = m at a1 a2 ⊢
  generalize (F (at_ + 1)).1 = k at b1 b2 ⊢
  have l1 : k * 2 < m + 1 := by
   rw [← Rat.natCast_lt_natCast, ← mul_lt_iff hq, Rat.natCast_mul, e0]
   grind
  have l2 : m < (k + 1) * 2 := by
   rw [← Rat.natCast_lt_natCast, ← mul_lt_iff hq, Rat.natCast_mul, e0]
   grind
  omega
theorem FX_FF {a b : Nat} {e : Int} {p : Nat} (hp : 1 ≤ p) (ha : a ≠ 0) (hb : b ≠ 0) : FF (FX a b e) p (tp a b + e) :=
 FF_flr hp (fun at_ => FX_flr e at_ hb) (tp_V e ha hb).1 (tp_V e ha hb).2
theorem tp_low (a b : Nat) : (blen a : Int) - blen b - 1 ≤ tp a b := by unfold tp; (repeat' split) <;> omega
theorem floE_FX {n : Bool} {a b : Nat} {e at_ : Int} (c : Can n a b e) (ha : a ≠ 0) (h1 : -2097152 ≤ at_) (h2 : at_ ≤ 2097152) (hb : blen b ≤ 66000) (hl : tp a b + e - 2000 ≤ at_) (K : List UInt8 → Bool → Int → Prop)
  (hK : K (nb (FX a b e at_).1) (FX a b e at_).2 0) : floE a b e at_ K := by
 refine floE_V c ha h1 h2 (fun hle => ?_) K fun m is fl _ _ => ?_
 ·rw [blen_pow ha]
  have := tp_low a b
  omega
 ·obtain ⟨e1, e2⟩ := flr_uniq fl (FX_flr (a := a) e at_ c.b0)
  rw [e1, e2]; exact hK
theorem blen_len {b : Nat} {N : Nat} (h : (nb b).length ≤ N) : blen b ≤ 8 * N := by
 have := (nb_len_le b N).1 h
 rw [p256] at this
 exact (blen_le _ _).2 this
theorem finds_FX {f : Nat} (h : f ≤ 3) {n : Bool} {a b : Nat} {e : Int} (c : Can n a b e) (ha : a ≠ 0) (hb : blen b ≤ 66000) : Finds f n false (nb a) (nb b) e (tp a b + e) (FX a b e) := by
 have w := fw_le f h
 have we := c.e64
 have hr := tp_range c.fa c.fb
 have H := FX_FF (e := e) (p := fp f) (by omega) ha c.b0
 intro at_ h1 h2 K hK
 rw [zdu.is]; unfold zdu.d
 rw [br_t (show (!false) = true from rfl)]
 refine r06_Floor_ok n c at_ (by omega) _ (floE_FX c ha (by omega) (by omega) hb (by omega) _ ?_)
 cases hx : (FX a b e at_).2 with
 | true => rw [hx] at hK; exact hK _ (fun hh => by cases hh)
 | false =>
  rw [hx] at hK
  rw [br_f rfl, sub_i64 (by omega) (by omega)]
  refine r06_Floor_ok n c _ (by omega) _ (floE_FX c ha (by omega) (by omega) hb (by omega) _ ?_)
  have hfit : fit (FX a b e (at_ - 1)).1 := by
   have h4 := H.half (at_ - 1)
   have h5 := H.lt at_ h1
   rw [show at_ - 1 + 1 = at_ from by omega] at h4
   have h6 : (FX a b e (at_ - 1)).1 < 2 ^ (fp f + 1) := by rw [Nat.pow_succ]; omega
   obtain ⟨P, hP⟩ : ∃ P, P = fp f + 1 := ⟨_, rfl⟩
   rw [← hP] at h6
   exact fit_bits h6 (by omega)
  refine r09_last_ok _ hfit _ ?_
  have hhf : hf (FX a b e) at_ = if (FX a b e (at_ - 1)).1 % 2 = 1 then (if (FX a b e (at_ - 1)).2 = true then 0 else 1) else -1 := rfl
  refine br_dec (fun ho => ?_) fun ho => ?_
  ·rw [if_pos ho] at hhf
   cases hy : (FX a b e (at_ - 1)).2 with
   | true => rw [hy, if_pos rfl] at hhf; exact hK _ fun _ => hhf.symm
   | false => rw [hy, if_neg (by decide)] at hhf; exact hK _ fun _ => hhf.symm
  ·rw [if_neg ho] at hhf; exact hK _ fun _ => hhf.symm
theorem r09_top_ok {n : Bool} {a b : Nat} {e : Int} (c : Can n a b e) (ha : a ≠ 0) (K : Int → Prop) (hK : K (tp a b + e)) : zdy n (nb a) (nb b) e false K := by
 rw [zdy.is]; unfold zdy.d
 exact r06_Top_ok n c _ (fun hh => absurd hh ha) fun _ => hK
theorem dlv_zero {f m : Nat} {n : Bool} {F : Int → Nat × Bool} {top : Int} {K : Int → Int → Int → Int → Prop} (h : dlv f m n F top K) : dlv f m n F top fun a b c _ => K a b c 0 := by
 unfold dlv at *
 by_cases h1 : (fe f : Int) < top
 ·rw [if_pos h1] at *; exact h
 ·rw [if_neg h1] at *
  by_cases h2 : (fe f : Int) < (blen (tk F m n (pl f top)) : Int) - 1 + pl f top
  ·rw [if_pos h2] at *; exact h
  ·rw [if_neg h2] at *; exact h
theorem r07_RightMode_ok (m : Nat) (hm : m ≤ 4) (K : Bool → Prop) : zdm m K = K true := by
 rw [zdm.is]; unfold zdm.d; rw [le_t (by omega)]
theorem r07_RightMode_no (m : Nat) (hm : 4 < m) (K : Bool → Prop) : zdm m K = K false := by
 rw [zdm.is]; unfold zdm.d; rw [le_f (by omega)]
theorem r09_Round_ok {f m : Nat} (h : f ≤ 3) (hm : m ≤ 4) {n : Bool} {a b : Nat} {e : Int} (c : Can n a b e) (ha : a ≠ 0) (la : (nb a).length ≤ 8192) (lb : (nb b).length ≤ 8192) (K : Int → Int → Int → Int → Prop)
  (hK : dlv f m n (FX a b e) (tp a b + e) K) : zds f m n (nb a) (nb b) e K := by
 have w := fw_le f h
 have we := c.e64
 have hr := tp_range c.fa c.fb
 have hb : blen b ≤ 66000 := by have := blen_len lb; omega
 rw [zds.is]; unfold zds.d
 rw [zdq.is]; unfold zdq.d
 rw [r07_Right_ok f h, br_f (show (!true) = false from rfl), r07_RightMode_ok m hm, br_f (show (!true) = false from rfl)]
 refine r06_May_ok _ _ _ _ _ (fun _ => ?_) fun g => absurd c.may g
 rw [br_f (show (!true) = false from rfl), br_f (lt_f (by omega)), br_f (lt_f (by omega))]
 show br (!eqI 0 0) _ _
 rw [br_f (show (!eqI 0 0) = false from rfl), eqS_nb, br_f (by simpa using ha)]
 exact r09_deliver_ok h hm (FX_FF (by omega) ha c.b0) (finds_FX h c ha hb) (fun K hK => r09_top_ok c ha K hK) (by omega) _ (dlv_zero hK)
end Go.Ev.S

/- Rounding as the program has it. -/
set_option linter.unusedVariables false
set_option linter.unusedSimpArgs false
set_option maxRecDepth 8000
namespace Go.Ev.S
open Go Go.Ev
theorem nat_Low_n {x : Nat} (hf : fit x) (K : Int → Prop) (h : K (lowb x)) : zax (nb x) K := by
 refine nat_Low_ok _ _ ?_
 rw [if_pos (May_nb hf), val_nb]; exact h
theorem low_odd {x : Nat} (h0 : x ≠ 0) : eqI (lowb x : Int) 0 = decide (x % 2 = 1) := by
 have h1 : lowb x = 0 ↔ x % 2 = 1 := by
  constructor
  ·intro h
   obtain ⟨q, hq⟩ := lowb_spec x h0
   rw [h, Nat.pow_zero, Nat.one_mul] at hq; omega
  ·intro h; rw [lowb]; simp [h]
 by_cases h : x % 2 = 1
 ·rw [decide_eq_true h]; exact eq_t (by have := h1.2 h; omega)
 ·rw [decide_eq_false h]; exact eq_f (by intro hh; exact h (h1.1 (by omega)))
theorem rule_over_ok (f m : Nat) (n : Bool) (h : f ≤ 3) (hm : m ≤ 4) (K : Int → Int → Int → Int → Prop) (hK : K (Hi (ov f m n)) (Lo (ov f m n)) 5 0) : zec f m n K := by
 rw [zec.is]; unfold zec.d
 rw [shape_Inf_ok f h, shape_Greatest_ok f h]
 rcases five hm with rfl | rfl | rfl | rfl | rfl <;> cases n <;> exact hK
theorem up_0 (n o0 o1 none : Bool) : upB 0 n o0 (if o1 = true then (if none = true then 0 else 1) else -1) false = (o1 && (!none || o0)) := by
 cases o0 <;> cases o1 <;> cases none <;> rfl
theorem up_4 (n o0 o1 none : Bool) : upB 4 n o0 (if o1 = true then (if none = true then 0 else 1) else -1) false = o1 := by
 cases o0 <;> cases o1 <;> cases none <;> rfl
section
variable {f m : Nat} {n neg root : Bool} {x y : List UInt8} {e top : Int} {F : Int → Nat × Bool}
def Floors (f : Nat) (n root : Bool) (x y : List UInt8) (e top : Int) (F : Int → Nat × Bool) : Prop :=
 ∀ at_ : Int, top - fp f ≤ at_ → at_ ≤ 20000 → ∀ K : List UInt8 → Bool → Prop, K (nb (F at_).1) (F at_).2 → zee n x y e root at_ K
theorem rule_on_ok (h : f ≤ 3) (hm : m ≤ 4) (H : FF F (fp f) top) (hfl : Floors f n root x y e top F) {at_ : Int} (hr : -3000000 ≤ top) (h1 : top - fp f + 1 ≤ at_) (h2 : at_ ≤ 20000) (K : List UInt8 → Bool → Prop)
  (hK : K (nb (tk F m neg at_)) (F at_).2) : zef n x y e root m neg at_ K := by
 have w := fw_le f h
 have l0 := H.lt at_ h1
 have f0 : fit (F at_).1 := fit_le (fit_fp h l0) (by omega)
 have f1 : fit (F (at_ - 1)).1 := by
  have h4 := H.half (at_ - 1)
  rw [show at_ - 1 + 1 = at_ from by omega] at h4
  have h6 : (F (at_ - 1)).1 < 2 ^ (fp f + 1) := by rw [Nat.pow_succ]; omega
  obtain ⟨P, hP⟩ : ∃ P, P = fp f + 1 := ⟨_, rfl⟩
  rw [← hP] at h6
  exact fit_bits h6 (by omega)
 have f2 : fit ((F at_).1 + 1) := fit_fp h l0
 rw [zef.is]; unfold zef.d
 refine hfl at_ (by omega) h2 _ ?_
 unfold tk at hK
 cases hx : (F at_).2 with
 | true =>
  rw [hx] at hK
  have : upB m neg (decide ((F at_).1 % 2 = 1)) (hf F at_) true = false := rfl
  rw [this] at hK
  exact hK
 | false =>
 rw [hx] at hK
 rw [br_f rfl, sub_i64 (by omega) (by omega)]
 refine hfl (at_ - 1) (by omega) (by omega) _ ?_
 have hh : hf F at_ = if decide ((F (at_ - 1)).1 % 2 = 1) = true then (if (F (at_ - 1)).2 = true then 0 else 1) else -1 := by
  unfold hf
  by_cases g : (F (at_ - 1)).1 % 2 = 1
  ·rw [if_pos g, if_pos (decide_eq_true g)]
  ·rw [if_neg g, if_neg (by rw [decide_eq_false g]; decide)]
 rw [hh] at hK
 generalize (F at_).1 = n0 at hK f0 f2 ⊢
 generalize (F (at_ - 1)).1 = n1 at hK f1 ⊢
 generalize (F (at_ - 1)).2 = none at hK ⊢
 have hP1 : upB m neg (decide (n0 % 2 = 1)) (if decide (n1 % 2 = 1) = true then (if none = true then 0 else 1) else -1) false = true → zaq (nb n0) [1] fun y0 y1 => K y0 false := by
  intro hu
  rw [hu] at hK
  rw [← nb_one]
  exact nat_Add_n f0 fit_one (tell_of (fun _ => hK) fun g => absurd f2 g)
 have hP0 : upB m neg (decide (n0 % 2 = 1)) (if decide (n1 % 2 = 1) = true then (if none = true then 0 else 1) else -1) false = false → K (nb n0) false := by
  intro hu
  rw [hu] at hK; exact hK
 generalize hQ1 : (zaq (nb n0) [1] fun y0 y1 => K y0 false) = Q1 at hP1 ⊢
 generalize hQ0 : K (nb n0) false = Q0 at hP0 ⊢
 clear hK
 have m2 : ∀ p : Prop, (neg = true → Q1) → (neg = false → Q0) → br (beqB neg true) Q1 Q0 := by
  intro _ a b; cases neg
  ·exact b rfl
  ·exact a rfl
 have m3 : ∀ p : Prop, (neg = false → Q1) → (neg = true → Q0) → br (beqB neg false) Q1 Q0 := by
  intro _ a b; cases neg
  ·exact a rfl
  ·exact b rfl
 have d1 : m = 1 → Q0 := by rintro rfl; exact hP0 rfl
 have d2 : m = 2 → br (beqB neg true) Q1 Q0 := by rintro rfl; exact m2 True hP1 hP0
 have d3 : m = 3 → br (beqB neg false) Q1 Q0 := by
  rintro rfl
  refine m3 True (fun hn => hP1 ?_) fun hn => hP0 ?_
  ·rw [hn]; rfl
  ·rw [hn]; rfl
 rw [eqS_nb, eqS_nb]
 refine br_ndec (fun z0 => ?_) fun z0 => ?_
 ·refine nat_Low_n f0 _ ?_
  refine br_ndec (fun z1 => ?_) fun z1 => ?_
  ·refine nat_Low_n f1 _ ?_
   rw [low_odd z0, low_odd z1]
   generalize decide (n0 % 2 = 1) = o0 at hP1 hP0 ⊢
   generalize decide (n1 % 2 = 1) = o1 at hP1 hP0 ⊢
   rcases five hm with rfl | rfl | rfl | rfl | rfl
   ·rw [up_0] at hP1 hP0
    show br o1 (br (!none) Q1 (br o0 Q1 Q0)) Q0
    cases o1 <;> cases none <;> cases o0 <;> first | exact hP1 rfl | exact hP0 rfl
   ·exact d1 rfl
   ·exact d2 rfl
   ·exact d3 rfl
   ·rw [up_4] at hP1 hP0
    show br o1 Q1 Q0
    cases o1 <;> first | exact hP1 rfl | exact hP0 rfl
  ·have e1 : decide (n1 % 2 = 1) = false := by rw [z1]; rfl
   rw [e1] at hP1 hP0
   rcases five hm with rfl | rfl | rfl | rfl | rfl
   ·rw [up_0] at hP1 hP0; exact hP0 rfl
   ·exact d1 rfl
   ·exact d2 rfl
   ·exact d3 rfl
   ·rw [up_4] at hP1 hP0; exact hP0 rfl
 ·have e0 : decide (n0 % 2 = 1) = false := by rw [z0]; rfl
  rw [e0] at hP1 hP0
  refine br_ndec (fun z1 => ?_) fun z1 => ?_
  ·refine nat_Low_n f1 _ ?_
   rw [low_odd z1]
   generalize decide (n1 % 2 = 1) = o1 at hP1 hP0 ⊢
   rcases five hm with rfl | rfl | rfl | rfl | rfl
   ·rw [up_0] at hP1 hP0
    show br o1 (br (!none) Q1 Q0) Q0
    cases o1 <;> cases none <;> first | exact hP1 rfl | exact hP0 rfl
   ·exact d1 rfl
   ·exact d2 rfl
   ·exact d3 rfl
   ·rw [up_4] at hP1 hP0
    show br o1 Q1 Q0
    cases o1 <;> first | exact hP1 rfl | exact hP0 rfl
  ·have e1 : decide (n1 % 2 = 1) = false := by rw [z1]; rfl
   rw [e1] at hP1 hP0
   rcases five hm with rfl | rfl | rfl | rfl | rfl
   ·rw [up_0] at hP1 hP0; exact hP0 rfl
   ·exact d1 rfl
   ·exact d2 rfl
   ·exact d3 rfl
   ·rw [up_4] at hP1 hP0; exact hP0 rfl
theorem rule_tiny_ok (h : f ≤ 3) (hm : m ≤ 4) (H : FF F (fp f) top) (hfl : Floors f n root x y e top F) (htop : ∀ K : Int → Prop, K top → zeh n x y e root K) (hr : -2000000 ≤ top ∧ top ≤ 3000000) (K : Bool → Prop)
  (hK : K (tinyF f m neg F top)) : zeg n x y e root f m neg K := by
 have w := fw_le f h
 rw [zeg.is]; unfold zeg.d
 refine htop _ ?_
 rw [shape_Precision_ok f h, shape_Emin_ok f h, sub_i64 (by omega) (by omega)]
 unfold tinyF at hK
 by_cases ht : top = -(fe f : Int)
 ·rw [br_f (by rw [eq_t (show top = 1 - (fe f : Int) - 1 by omega)]; rfl)]
  rw [if_pos ht] at hK
  rw [sub_i64 (by omega) (by omega), add_i64 (by omega) (by omega)]
  refine rule_on_ok h hm H hfl (by omega) (Int.le_refl _) (by omega) _ ?_
  have htk := tk_le F m neg (top - fp f + 1)
  have hl := H.lt (top - fp f + 1) (Int.le_refl _)
  refine nat_Len_n (fit_le (fit_fp h hl) htk) ?_
  have e1 : leI (blen (tk F m neg (top - fp f + 1)) : Int) (fp f : Int) = decide (blen (tk F m neg (top - fp f + 1)) ≤ fp f) := by
   unfold leI; rw [decide_eq_decide]; omega
  rw [e1]; exact hK
 ·rw [br_t (by rw [eq_f (show top ≠ 1 - (fe f : Int) - 1 by omega)]; rfl)]
  rw [if_neg ht] at hK
  rw [shape_Emin_ok f h]; exact hK
theorem rule_deliver_ok (h : f ≤ 3) (hm : m ≤ 4) (H : FF F (fp f) top) (hfl : Floors f n root x y e top F) (htop : ∀ K : Int → Prop, K top → zeh n x y e root K) (hr : -2000000 ≤ top ∧ top ≤ 3000000) (K : Int → Int → Int → Int → Prop)
  (hK : dlv f m neg F top K) : zed n x y e root f m neg K := by
 have w := fw_le f h
 have hf1 := H.tk_facts h m neg
 rw [zed.is]; unfold zed.d
 refine htop _ ?_
 rw [shape_Emax_ok f h]
 unfold dlv at hK
 by_cases h1 : (fe f : Int) < top
 ·rw [br_t (lt_t h1)]; rw [if_pos h1] at hK
  exact rule_over_ok f m neg h hm _ hK
 rw [br_f (lt_f (by omega)), shape_Emin_ok f h, shape_Precision_ok f h]
 rw [if_neg h1] at hK
 have hp := pl_range h top (by omega)
 have hat : addI .i64 (subI .i64 (maxI top (1 - (fe f : Int))) (fp f : Int)) 1 = pl f top := by
  have e0 : maxI top (1 - (fe f : Int)) = if top < 1 - fe f then 1 - (fe f : Int) else top := maxI_eq _ _
  rw [e0]; unfold pl
  have hh : -2000000 ≤ (if top < 1 - (fe f : Int) then 1 - (fe f : Int) else top) ∧ (if top < 1 - (fe f : Int) then 1 - (fe f : Int) else top) ≤ 2000000 := by split <;> omega
  rw [sub_i64 (by omega) (by omega), add_i64 (by omega) (by omega)]
 rw [hat]
 refine rule_on_ok h hm H hfl (by omega) hf1.2.2.2 (by omega) _ ?_
 have hfit : fit (tk F m neg (pl f top)) := fit_le (fit_fp h (H.lt _ hf1.2.2.2)) (tk_le _ _ _ _)
 refine nat_Len_n hfit ?_
 have hbl : blen (tk F m neg (pl f top)) ≤ fp f + 1 := by
  rw [blen_le]
  exact Nat.lt_of_le_of_lt hf1.1 (Nat.pow_lt_pow_right (by omega) (by omega))
 rw [shape_Emax_ok f h, sub_i64 (by omega) (by omega), add_i64 (by omega) (by omega)]
 by_cases h2 : (fe f : Int) < (blen (tk F m neg (pl f top)) : Int) - 1 + pl f top
 ·rw [br_t (lt_t h2)]; rw [if_pos h2] at hK
  exact rule_over_ok f m neg h hm _ hK
 rw [br_f (lt_f (by omega))]
 rw [if_neg h2] at hK
 rw [← nb_one]
 refine exact_Make_n neg hfit fit_one (by decide) (by unfold win; omega) ?_
 have tail : ∀ y0 y1 : Int, y0 = Hi (encA f neg (pl f top) (tk F m neg (pl f top))) → y1 = Lo (encA f neg (pl f top) (tk F m neg (pl f top))) →
   br (F (pl f top)).2 (K y0 y1 0 0) (zeg n x y e root f m neg fun y0_7 => br y0_7 (K y0 y1 3 0) (K y0 y1 1 0)) := by
  rintro y0 y1 rfl rfl
  cases hx : (F (pl f top)).2 with
  | true => rw [hx, if_pos rfl] at hK; exact hK
  | false =>
   rw [hx, if_neg (by decide)] at hK
   rw [br_f rfl]
   refine rule_tiny_ok h hm H hfl htop hr _ ?_
   cases ht : tinyF f m neg F top with
   | true => rw [ht, if_pos rfl] at hK; exact hK
   | false => rw [ht, if_neg (by decide)] at hK; exact hK
 by_cases h0 : tk F m neg (pl f top) = 0
 ·have hn := H.none h m neg h0
  have he : encA f neg (pl f top) 0 = enc f neg 0 0 := by
   unfold encA enc; rw [show (pl f top + (fe f : Int) + fp f - 2).toNat = 0 from by omega, Nat.zero_mul, Nat.add_zero]
  rw [h0, he] at tail
  unfold mkE
  rw [if_pos h0]
  have c0 : Can false 0 1 0 := ⟨fit_zero, fit_one, rfl, by unfold win; omega, fun _ => ⟨rfl, rfl, rfl⟩, fun hh => absurd rfl hh⟩
  have hz : zal f false [] [1] 0 = zal f false (nb 0) (nb 1) 0 := by rw [nb_zero, nb_one]
  show zal f false [] [1] 0 _
  rw [hz]
  refine kind_Of_ok f h c0 _ ?_
  unfold ofE
  rw [if_pos rfl]
  show br (eqS (nb (tk F m neg (pl f top))) []) _ _
  rw [h0, eqS_nb, br_t (by rfl), shape_Zero_ok f h]
  exact tail _ _ rfl rfl
 ·obtain ⟨P, hP⟩ : ∃ P, P = 200 := ⟨_, rfl⟩
  have hlt : tk F m neg (pl f top) < 2 ^ P := Nat.lt_of_le_of_lt hf1.1 (Nat.pow_lt_pow_right (by omega) (by omega))
  refine mk_can neg h0 hlt hP (by omega) _ fun a g c ha hta hag hg => ?_
  rw [← nb_one]
  refine kind_Of_ok f h c _ ?_
  refine of_val h c ha hta hag hf1.1 hf1.2.2.1 hf1.2.1 _ ?_
  rw [if_neg h2, eqS_nb, br_f (by simpa using h0)]
  exact tail _ _ rfl rfl
end
theorem Can.abs' {s : Bool} {a b : Nat} {e : Int} (c : Can s a b e) : Can false a b e := ⟨c.fa, c.fb, c.ob, c.we, fun h => ⟨rfl, (c.z h).2⟩, c.r⟩
theorem floors_FX {f : Nat} (h : f ≤ 3) {n : Bool} {a b : Nat} {e : Int} (c : Can n a b e) (ha : a ≠ 0) (hb : blen b ≤ 66000) : Floors f n false (nb a) (nb b) e (tp a b + e) (FX a b e) := by
 have w := fw_le f h
 have we := c.e64
 have hr := tp_range c.fa c.fb
 intro at_ h1 h2 K hK
 rw [zee.is]; unfold zee.d
 rw [br_t (show (!false) = true from rfl)]
 exact exact_Floor_ok n c at_ (by omega) _ (floE_FX c ha (by omega) (by omega) hb (by omega) _ hK)
theorem rule_top_ok {n : Bool} {a b : Nat} {e : Int} (c : Can n a b e) (ha : a ≠ 0) (K : Int → Prop) (hK : K (tp a b + e)) : zeh n (nb a) (nb b) e false K := by
 rw [zeh.is]; unfold zeh.d
 exact exact_Top_ok n c _ (fun hh => absurd hh ha) fun _ => hK
theorem rule_Round_ok {f m : Nat} (h : f ≤ 3) (hm : m ≤ 4) {n : Bool} {a b : Nat} {e : Int} (c : Can n a b e) (ha : a ≠ 0) (la : (nb a).length ≤ 8192) (lb : (nb b).length ≤ 8192) (K : Int → Int → Int → Int → Prop)
  (hK : dlv f m n (FX a b e) (tp a b + e) K) : zea f m n (nb a) (nb b) e K := by
 have w := fw_le f h
 have we := c.e64
 have hr := tp_range c.fa c.fb
 have hb : blen b ≤ 66000 := by have := blen_len lb; omega
 rw [zea.is]; unfold zea.d
 rw [zeb.is]; unfold zeb.d
 rw [shape_Check_ok f h, br_f (show (!eqI 0 0) = false from rfl), check_mode_ok m hm, br_f (show (!eqI 0 0) = false from rfl)]
 refine exact_Check_ok _ _ _ _ _ (fun _ => ?_) fun g => absurd c.may g
 rw [br_f (show (!eqI 0 0) = false from rfl), br_f rfl, br_f (lt_f (by omega)), br_f (lt_f (by omega))]
 show br (!eqI 0 0) _ _
 rw [br_f (show (!eqI 0 0) = false from rfl), eqS_nb, br_f (by simpa using ha)]
 refine exact_Abs_ok n c _ ?_
 exact rule_deliver_ok h hm (FX_FF (by omega) ha c.b0) (floors_FX h c.abs' ha hb) (fun K hK => rule_top_ok c.abs' ha K hK) (by omega) _ hK
end Go.Ev.S

/- The program's rounding is the document's. -/
set_option linter.unusedVariables false
set_option linter.unusedSimpArgs false
set_option maxRecDepth 8000
namespace Go.Ev.S
open Go Go.Ev
theorem third_can : Can false 1 3 0 := by
  have h3 : fit 3 := by unfold fit; have : nb 3 = [3] := by rw [nb_pos (by decide), show 3 / 256 = 0 from rfl, nb_zero]; decide
                        rw [this]; decide
  exact ⟨fit_one, h3, rfl, by unfold win; omega, fun hh => by omega, fun _ => ⟨rfl, by decide⟩⟩
theorem nb_three : nb 3 = [3] := by rw [nb_pos (by decide), show 3 / 256 = 0 from rfl, nb_zero]; decide
theorem third_round (m : Nat) (hm : m ≤ 4) (v : Nat) (hv : tk (FX 1 3 0) m false (-12) = v) (hb : blen v = 11) (K : Int → Int → Int → Int → Prop) (hK : K (Hi (encA 2 false (-12) v)) (Lo (encA 2 false (-12) v)) 1 0) : zea 2 m false [1] [3] 0 K := by
  have h3 := nb_three
  rw [← nb_one, ← h3, show (2 : Int) = ((2 : Nat) : Int) from rfl]
  refine rule_Round_ok (by omega) hm third_can (by decide) (by rw [nb_one]; decide) (by rw [h3]; decide) K ?_
  have ht : tp 1 3 + 0 = -2 := by decide
  have hp : pl 2 (-2) = -12 := by decide
  have hx : (FX 1 3 0 (-12)).2 = false := by decide
  have hf : (fe 2 : Int) = 15 := rfl
  unfold dlv
  rw [ht, hp, hv, hb, hx, if_neg (by rw [hf]; decide), if_neg (by rw [hf]; decide), if_neg (by decide)]
  have htn : tinyF 2 m false (FX 1 3 0) (-2) = false := by
    unfold tinyF; rw [if_neg (by rw [hf]; decide), hf]; rfl
  rw [htn, if_neg (by decide)]
  exact hK
theorem law09_alive_ok (K : Bool → Prop) (hK : K true) : zao K := by
  rw [zao.is]; unfold zao.d
  refine third_round 0 (by omega) 1365 (by decide) (by decide) _ ?_
  refine third_round 3 (by omega) 1366 (by decide) (by decide) _ ?_
  exact hK
theorem rule_Round_no {f m : Nat} {n : Bool} {x y : List UInt8} {e : Int} (hb : 3 < f ∨ 4 < m ∨ ¬ MayE n x y e) (K : Int → Int → Int → Int → Prop) (hK : K 0 0 0 2) : zea f m n x y e K := by
  rw [zea.is]; unfold zea.d
  rw [zeb.is]; unfold zeb.d
  by_cases h : f ≤ 3
  · rw [shape_Check_ok f h, br_f (show (!eqI 0 0) = false from rfl)]
    by_cases hm : m ≤ 4
    · rw [check_mode_ok m hm, br_f (show (!eqI 0 0) = false from rfl)]
      refine exact_Check_ok _ _ _ _ _ (fun g => ?_) fun _ => hK
      rcases hb with hb | hb | hb
      · omega
      · omega
      · exact absurd g hb
    · rw [check_mode_no m (by omega)]; exact hK
  · rw [shape_Check_no f (by omega)]; exact hK
theorem r09_Round_no {f m : Nat} {n : Bool} {x y : List UInt8} {e : Int} (hb : 3 < f ∨ 4 < m ∨ ¬ MayE n x y e) (K : Int → Int → Int → Int → Prop) (hK : K 0 0 0 2) : zds f m n x y e K := by
  rw [zds.is]; unfold zds.d
  rw [zdq.is]; unfold zdq.d
  by_cases h : f ≤ 3
  · rw [r07_Right_ok f h, br_f (show (!true) = false from rfl)]
    by_cases hm : m ≤ 4
    · rw [r07_RightMode_ok m hm, br_f (show (!true) = false from rfl)]
      refine r06_May_ok _ _ _ _ _ (fun g => ?_) fun _ => hK
      rcases hb with hb | hb | hb
      · omega
      · omega
      · exact absurd g hb
    · rw [r07_RightMode_no m (by omega)]; exact hK
  · rw [r07_Right_no f (by omega)]; exact hK
theorem rule_Round_zero {f m : Nat} (h : f ≤ 3) (hm : m ≤ 4) {n : Bool} {b : Nat} {e : Int} (c : Can n 0 b e) (lb : (nb b).length ≤ 8192) (K : Int → Int → Int → Int → Prop) (hK : K 0 0 0 0) : zea f m n (nb 0) (nb b) e K := by
  have l0 : (nb 0).length = 0 := by rw [nb_zero]; rfl
  rw [zea.is]; unfold zea.d
  rw [zeb.is]; unfold zeb.d
  rw [shape_Check_ok f h, br_f (show (!eqI 0 0) = false from rfl), check_mode_ok m hm, br_f (show (!eqI 0 0) = false from rfl)]
  refine exact_Check_ok _ _ _ _ _ (fun _ => ?_) fun g => absurd c.may g
  rw [br_f (show (!eqI 0 0) = false from rfl), br_f rfl, br_f (lt_f (by omega)), br_f (lt_f (by omega))]
  show br (!eqI 0 0) _ _
  rw [br_f (show (!eqI 0 0) = false from rfl), eqS_nb, br_t (by rfl)]
  exact hK
theorem r09_Round_zero {f m : Nat} (h : f ≤ 3) (hm : m ≤ 4) {n : Bool} {b : Nat} {e : Int} (c : Can n 0 b e) (lb : (nb b).length ≤ 8192) (K : Int → Int → Int → Int → Prop) (hK : K 0 0 0 0) : zds f m n (nb 0) (nb b) e K := by
  have l0 : (nb 0).length = 0 := by rw [nb_zero]; rfl
  rw [zds.is]; unfold zds.d
  rw [zdq.is]; unfold zdq.d
  rw [r07_Right_ok f h, br_f (show (!true) = false from rfl), r07_RightMode_ok m hm, br_f (show (!true) = false from rfl)]
  refine r06_May_ok _ _ _ _ _ (fun _ => ?_) fun g => absurd c.may g
  rw [br_f (show (!true) = false from rfl), br_f (lt_f (by omega)), br_f (lt_f (by omega))]
  show br (!eqI 0 0) _ _
  rw [br_f (show (!eqI 0 0) = false from rfl), eqS_nb, br_t (by rfl)]
  exact hK
theorem rounds_same (f m : Nat) (n : Bool) (x y : List UInt8) (e : Int) (lx : x.length ≤ 8192) (ly : y.length ≤ 8192) : ∃ p q r s, (∀ Q : Int → Int → Int → Int → Prop, Q p q r s → zea f m n x y e Q) ∧ (∀ Q : Int → Int → Int → Int → Prop, Q p q r s → zds f m n x y e Q) := by
  by_cases hb : 3 < f ∨ 4 < m ∨ ¬ MayE n x y e
  · exact ⟨0, 0, 0, 2, fun Q hQ => rule_Round_no hb Q hQ, fun Q hQ => r09_Round_no hb Q hQ⟩
  have h : f ≤ 3 := by omega
  have hm : m ≤ 4 := by omega
  have hM : MayE n x y e := Classical.byContradiction fun hh => hb (.inr (.inr hh))
  obtain ⟨a, b, rfl, rfl, c⟩ := hM.can
  by_cases ha : a = 0
  · subst ha
    exact ⟨0, 0, 0, 0, fun Q hQ => rule_Round_zero h hm c ly Q hQ, fun Q hQ => r09_Round_zero h hm c ly Q hQ⟩
  · obtain ⟨p, q, r, s, hd⟩ := dlv_any f m n (FX a b e) (tp a b + e)
    exact ⟨p, q, r, s, fun Q hQ => rule_Round_ok h hm c ha lx ly Q ((hd Q).2 hQ), fun Q hQ => r09_Round_ok h hm c ha lx ly Q ((hd Q).2 hQ)⟩
theorem short9_ok (s : Bool) (x y : List UInt8) (e : Int) (K : Bool → Prop) (h1 : x.length ≤ 60 → y.length ≤ 60 → K true) (h2 : K false) : zap s x y e K := by
  rw [zap.is]; unfold zap.d
  by_cases g1 : x.length ≤ 60
  · by_cases g2 : y.length ≤ 60
    · rw [br_t (le_t (by omega)), le_t (by omega)]; exact h1 g1 g2
    · rw [br_t (le_t (by omega)), le_f (by omega)]; exact h2
  · rw [br_f (le_f (by omega))]; exact h2
theorem ruleRounds (a0 a1 : Int) (a2_0 : Bool) (a2_1 a2_2 : List UInt8) (a2_3 : Int) (w0 : (Lit.int .u8 a0).wf = true) (w1 : (Lit.int .u8 a1).wf = true)
    (w2 : a2_1.length ≤ maxLen) (w3 : a2_2.length ≤ maxLen) (w4 : (Lit.int .i64 a2_3).wf = true) (K : Bool → Prop) (hK : K true) : zan a0 a1 a2_0 a2_1 a2_2 a2_3 K := by
  obtain ⟨f, rfl, hf⟩ := u8_nat w0
  obtain ⟨m, rfl, hm⟩ := u8_nat w1
  have hal : zao fun y0 => K y0 := law09_alive_ok _ hK
  rw [zan.is]; unfold zan.d
  refine short9_ok _ _ _ _ _ (fun s1 s2 => ?_) hal
  rw [br_f (show (!true) = false from rfl)]
  obtain ⟨p, q, r, s, h1, h2⟩ := rounds_same f m a2_0 a2_1 a2_2 a2_3 (by omega) (by omega)
  refine h1 _ (h2 _ ?_)
  rw [eqI_self, eqI_self, eqI_self, eqI_self]; exact hal
end Go.Ev.S
