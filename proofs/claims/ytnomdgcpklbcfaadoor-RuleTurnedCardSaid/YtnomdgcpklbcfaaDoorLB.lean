/- Differences: of words, bit by bit; of numbers of six words. -/
import Derived.Test.YtnomdgcpklbcfaaDoorLA
import Derived.Test.YtnomdgcpklbcfaaDoorDA
set_option linter.unusedVariables false
set_option linter.unusedSimpArgs false
set_option maxRecDepth 8000
namespace Go.Ev.S
open Go Go.Ev
end Go.Ev.S

/- Quiet and next encodings: the abacus and the document's answer; the law KindSigns. -/
set_option linter.unusedVariables false
set_option linter.unusedSimpArgs false
set_option maxRecDepth 8000
namespace Go.Ev.S
open Go Go.Ev
def nanOf (f : Nat) : Nat := enc f false (2 * fe f + 1) (2 ^ (fp f - 2))
def quiet (f x : Nat) : Nat := if 8 ≤ cls f x then x ||| nanOf f else x
end Go.Ev.S

/- The parts of an encoding: the abacus and the document's answer. -/
set_option linter.unusedVariables false
set_option linter.unusedSimpArgs false
set_option maxRecDepth 8000
namespace Go.Ev.S
open Go Go.Ev
end Go.Ev.S

/- Signs put together, words and classes: the abacus and the document's answer; the laws of signs. -/
set_option linter.unusedVariables false
set_option linter.unusedSimpArgs false
set_option maxRecDepth 8000
namespace Go.Ev.S
open Go Go.Ev
end Go.Ev.S

/- The plain laws of SignWords and SignBack. -/
set_option linter.unusedVariables false
set_option linter.unusedSimpArgs false
set_option maxRecDepth 8000
namespace Go.Ev.S
open Go Go.Ev
def ext (w x : Nat) : Nat := cond (x.testBit (w - 1)) (x % 2 ^ w + (18446744073709551616 - 2 ^ w)) (x % 2 ^ w)
end Go.Ev.S

/- Encodings compared: what the functions come to. -/
set_option linter.unusedVariables false
set_option linter.unusedSimpArgs false
set_option maxRecDepth 8000
namespace Go.Ev.S
open Go Go.Ev
end Go.Ev.S

/- The order of all encodings; the lesser and the greater one. -/
set_option linter.unusedVariables false
set_option linter.unusedSimpArgs false
set_option maxRecDepth 8000
namespace Go.Ev.S
open Go Go.Ev
end Go.Ev.S

/- What encodings say: their exact values, in order. -/
set_option linter.unusedVariables false
set_option linter.unusedSimpArgs false
set_option maxRecDepth 8000
namespace Go.Ev.S
open Go Go.Ev
def mg (f x : Nat) : Nat := ex f x * 2 ^ (fp f - 1) + fr f x
def fin (f x : Nat) : Prop := ex f x ≠ 2 * fe f + 1
end Go.Ev.S

/- Exact numbers compared, as rational ones; encodings compared by their values. -/
set_option linter.unusedVariables false
set_option linter.unusedSimpArgs false
set_option maxRecDepth 8000
namespace Go.Ev.S
open Go Go.Ev
theorem mul_lt_iff {x y d : Rat} (hd : 0 < d) : x * d < y * d ↔ x < y := by
 constructor
 ·intro hh
  apply Classical.byContradiction; intro hn
  have h1 : y ≤ x := by grind
  have h2 := Rat.mul_le_mul_of_nonneg_right h1 (show 0 ≤ d by grind)
  grind
 ·intro hh; exact Rat.mul_lt_mul_of_pos_right hh hd
section
variable {n1 n2 : Bool} {a1 b1 a2 b2 : Nat} {e1 e2 : Int}
end
theorem fit_Q6 {x : Nat} (h : x < Q6) : fit x := by
 unfold fit
 obtain ⟨N, hN⟩ : ∃ N, N = 48 := ⟨_, rfl⟩
 have : (nb x).length ≤ N := by rw [nb_len_le, p256, p384' hN]; exact h
 omega
theorem fit_one : fit 1 := by unfold fit; rw [nb_one]; decide
end Go.Ev.S

/- Exact numbers added, multiplied, compared, measured: the abacus. -/
set_option linter.unusedVariables false
set_option linter.unusedSimpArgs false
set_option maxRecDepth 8000
namespace Go.Ev.S
open Go Go.Ev
theorem fit_zero : fit 0 := by unfold fit; rw [nb_zero]; decide
section
variable {n1 n2 : Bool} {a1 b1 a2 b2 : Nat} {e1 e2 : Int}
theorem exact_Neg_ok (s : Bool) {a b : Nat} {e : Int} (c : Can s a b e) (K : Bool → List UInt8 → List UInt8 → Int → Prop) (h : K (!s && decide (a ≠ 0)) (nb a) (nb b) e) : zag s (nb a) (nb b) e K := by
 rw [zag.is]; unfold zag.d
 refine exact_Check_ok _ _ _ _ _ (fun _ => ?_) fun hh => absurd c.may hh
 rw [br_f (by rfl), eqS_nb]
 cases s with
 | true => exact h
 | false =>
  rw [show (!false && decide (a ≠ 0)) = !decide (a = 0) from by simp] at h; exact h
theorem Can.neg {s : Bool} {a b : Nat} {e : Int} (c : Can s a b e) : Can (!s && decide (a ≠ 0)) a b e :=
 ⟨c.fa, c.fb, c.ob, c.we, fun h => ⟨by simp [h], (c.z h).2⟩, c.r⟩
theorem exact_Sign_ok (s : Bool) {a b : Nat} {e : Int} (c : Can s a b e) (K : Int → Prop) (h : K (sgE s a)) : zah s (nb a) (nb b) e K := by
 rw [zah.is]; unfold zah.d
 refine exact_Check_ok _ _ _ _ _ (fun _ => ?_) fun hh => absurd c.may hh
 rw [br_f (by rfl), eqS_nb]
 unfold sgE at h
 by_cases h0 : a = 0
 ·rw [br_t (by simpa using h0)]; rw [if_pos h0] at h; exact h
 ·rw [br_f (by simpa using h0)]; rw [if_neg h0] at h; cases s <;> exact h
theorem exact_Abs_ok (s : Bool) {a b : Nat} {e : Int} (c : Can s a b e) (K : Bool → List UInt8 → List UInt8 → Int → Prop) (h : K false (nb a) (nb b) e) : zac s (nb a) (nb b) e K := by
 rw [zac.is]; unfold zac.d
 refine exact_Check_ok _ _ _ _ _ (fun _ => ?_) fun hh => absurd c.may hh
 rw [br_f (by rfl)]; exact h
end
theorem exact_top_ok (n : Bool) {a b : Nat} {e : Int} (c : Can n a b e) (h0 : a ≠ 0) (K : Int → Prop) (h2 : K (tp a b + e)) : zal n (nb a) (nb b) e K := by
 have w := c.e64
 have la := fit_blen c.fa
 have lb := fit_blen c.fb
 rw [zal.is]; unfold zal.d
 refine nat_Len_n c.fa ?_
 refine nat_Len_n c.fb ?_
 rw [sub_i64 (by omega) (by omega)]
 unfold tp at h2
 by_cases hl : blen b ≤ blen a
 ·rw [if_pos hl] at h2
  rw [br_t (le_t (by omega))]
  have et : ((blen a : Int) - blen b).toNat = blen a - blen b := by omega
  have hf := fit_up c.fa c.b0 hl
  refine nat_Left_n _ (by omega) (by omega) c.fb (tell_of (fun f => ?_) fun f => absurd (by rw [et]; exact hf) f)
  refine nat_Cmp_n c.fa f ?_
  rw [et, sgn_lt0]
  refine br_ndec (fun h3 => ?_) fun h3 => ?_
  ·rw [if_neg h3] at h2
   rw [sub_i64 (by omega) (by omega), add_i64 (by omega) (by omega), show ((blen a : Int) - blen b - 1 + e) = ((blen a - blen b : Nat) : Int) - 1 + e from by omega]; exact h2
  ·rw [if_pos h3] at h2
   rw [add_i64 (by omega) (by omega), show ((blen a : Int) - blen b + e) = ((blen a - blen b : Nat) : Int) + e from by omega]; exact h2
 ·rw [if_neg hl] at h2
  rw [br_f (le_f (by omega))]
  have en : negI .i64 ((blen a : Int) - blen b) = (blen b : Int) - blen a := by
   show IntKind.wrap .i64 _ = _
   rw [i64_id (by omega) (by omega)]; omega
  have et : ((blen b : Int) - blen a).toNat = blen b - blen a := by omega
  have hf := fit_up c.fb h0 (show blen a ≤ blen b by omega)
  rw [en]
  refine nat_Left_n _ (by omega) (by omega) c.fa (tell_of (fun f => ?_) fun f => absurd (by rw [et]; exact hf) f)
  refine nat_Cmp_n f c.fb ?_
  rw [et, sgn_lt0]
  refine br_ndec (fun h3 => ?_) fun h3 => ?_
  ·rw [if_neg h3] at h2
   rw [sub_i64 (by omega) (by omega), add_i64 (by omega) (by omega), show ((blen a : Int) - blen b - 1 + e) = -((blen b - blen a : Nat) : Int) - 1 + e from by omega]; exact h2
  ·rw [if_pos h3] at h2
   rw [add_i64 (by omega) (by omega), show ((blen a : Int) - blen b + e) = -((blen b - blen a : Nat) : Int) + e from by omega]; exact h2
theorem exact_Top_ok (n : Bool) {a b : Nat} {e : Int} (c : Can n a b e) (K : Int → Int → Prop) (h1 : a = 0 → K 0 2) (h2 : a ≠ 0 → K (tp a b + e) 0) : zai n (nb a) (nb b) e K := by
 rw [zai.is]; unfold zai.d
 refine exact_Check_ok _ _ _ _ _ (fun _ => ?_) fun hh => absurd c.may hh
 rw [br_f (by rfl), eqS_nb]
 refine br_dec h1 fun h0 => ?_
 exact exact_top_ok n c h0 _ (h2 h0)
theorem exact_Floor_ok (s : Bool) {a b : Nat} {e : Int} (c : Can s a b e) (n : Int) (hn : -9223372036854775808 ≤ n ∧ n < 9223372036854775808) (K : List UInt8 → Bool → Int → Prop) (h : floE a b e n K) : zae s (nb a) (nb b) e n K := by
 have w := c.e64
 rw [zae.is]; unfold zae.d
 refine exact_Check_ok _ _ _ _ _ (fun _ => ?_) fun hh => absurd c.may hh
 rw [br_f (by rfl)]
 unfold floE at h
 by_cases g1 : n < -2097152
 ·rw [br_t (lt_t g1)]; rw [if_pos (.inl g1)] at h; exact h
 rw [br_f (lt_f (by omega))]
 by_cases g2 : 2097152 < n
 ·rw [br_t (lt_t g2)]; rw [if_pos (.inr g2)] at h; exact h
 rw [br_f (lt_f (by omega)), eqS_nb]
 rw [if_neg (by omega)] at h
 refine br_dec (fun h0 => ?_) fun h0 => ?_
 ·rw [if_pos h0] at h; exact h
 rw [if_neg h0] at h
 by_cases g3 : n ≤ e
 ·rw [br_t (le_t g3)]
  rw [if_pos g3] at h
  rw [sub_i64 (by omega) (by omega)]
  refine nat_Left_n _ (by omega) (by omega) c.fa (tell_of (fun f1 => ?_) fun f1 => ?_)
  ·rw [if_pos f1] at h
   rw [br_f (by rfl)]
   refine nat_Div_n f1 c.fb c.b0 ?_
   rw [eqS_nb]; exact h
  ·rw [if_neg f1] at h
   rw [br_t (by rfl)]; exact h
 ·rw [br_f (le_f (by omega))]
  rw [if_neg g3] at h
  refine exact_top_ok s c h0 _ ?_
  by_cases g4 : tp a b + e < n
  ·rw [br_t (lt_t g4)]; rw [if_pos g4] at h; exact h
  rw [br_f (lt_f (by omega))]
  rw [if_neg g4] at h
  have hf := fit_den h0 c.b0 c.fa g3 g4
  rw [sub_i64 (by omega) (by omega)]
  refine nat_Left_n _ (by omega) (by omega) c.fb (tell_of (fun f1 => ?_) fun f1 => absurd hf f1)
  refine nat_Div_n c.fa hf (Nat.mul_ne_zero c.b0 (Nat.pos_iff_ne_zero.1 (Nat.two_pow_pos _))) ?_
  rw [eqS_nb]; exact h
end Go.Ev.S

/- Encodings of exact numbers. -/
set_option linter.unusedVariables false
set_option linter.unusedSimpArgs false
set_option maxRecDepth 8000
namespace Go.Ev.S
open Go Go.Ev
theorem or_lo (e k t : Nat) (ht : t < 2 ^ k) : (e * 2 ^ k) ||| t = e * 2 ^ k + t := by
 rw [Nat.mul_comm]; exact (Nat.two_pow_add_eq_or_of_lt ht e).symm
theorem kind_build_ok (f e t : Nat) (h : f ≤ 3) (he : e ≤ 2 * fe f + 1) (ht : t < 2 ^ (fp f - 1)) (neg : Bool) (K : Int → Int → Prop) (hK : K (Hi (enc f neg e t)) (Lo (enc f neg e t))) : zap f neg e (W t) K := by
 obtain ⟨w1, w2, w3, w4, w5, w6⟩ := fw_le f h
 have hb := body_lt h he ht
 have hen := enc_lt h he ht neg
 have hb' : e * 2 ^ (fp f - 1) + t < Q6 := p384 (by omega) hb
 have he1 : e * 2 ^ (fp f - 1) < Q6 := by omega
 have ht1 : t < Q6 := p384 (by omega) ht
 rw [zap.is]; unfold zap.d
 rw [cv_u64 (by omega) (by omega), wide_Of_ok e (by omega), shape_Precision_ok f h, fp_m1 f h]
 refine wide_Left_val e (fp f - 1) (p384 (a := 64) (by omega) (by omega)) (by omega) _ fun bb => ?_
 rw [Nat.mod_eq_of_lt he1]
 refine wide_Or_ok _ _ he1 ht1 _ ?_
 rw [or_lo _ _ _ ht]
 cases neg with
 | false =>
  rw [br_f rfl]
  rw [wide_ToBits_ok _ (p128 (by omega) hb)]
  have : enc f false e t = e * 2 ^ (fp f - 1) + t := by simp [enc, sg]
  rw [this] at hK; exact hK
 | true =>
  have e1 : enc f true e t = e * 2 ^ (fp f - 1) + t + 2 ^ (fw f - 1) := by simp [enc, sg]; omega
  rw [e1] at hK hen
  have q1 : quoI IntKind.i64 (subI IntKind.i64 (fw f : Int) 1) 64 = (((fw f - 1) / 64 : Nat) : Int) := by rw [fw_m1 f h, quo64 _ (by omega)]
  have q2 : cvI IntKind.u64 (remI IntKind.i64 (subI IntKind.i64 (fw f : Int) 1) 64) = (((fw f - 1) % 64 : Nat) : Int) := by rw [fw_m1 f h, rem64, cv_u64 (by omega) (by omega)]
  have g1 : (leI 0 (((fw f - 1) / 64 : Nat) : Int) && ltI (((fw f - 1) / 64 : Nat) : Int) 6) = true := idx_ok (by omega) (by omega)
  have g2 : (!ltI (((fw f - 1) % 64 : Nat) : Int) 0) = true := sh_ok (by omega)
  rw [br_t rfl, shape_Width_ok f h, q1, q2, gd_t g1, gd_t g2, gd_t g1, Int.toNat_natCast, W_setbit, or_pow _ _ hb, wide_ToBits_ok _ (p128 (by omega) hen)]
  exact hK
def pl (f : Nat) (t : Int) : Int := (if t < 1 - fe f then 1 - (fe f : Int) else t) - fp f + 1
def encA (f : Nat) (n : Bool) (at_ : Int) (w : Nat) : Nat := sg f n + ((at_ + fe f + fp f - 2).toNat * 2 ^ (fp f - 1) + w)
theorem encA_hi {f : Nat} (h : f ≤ 3) (n : Bool) {t : Int} {w : Nat} (h1 : 2 ^ (fp f - 1) ≤ w) (h2 : w < 2 ^ fp f) :
  encA f n (pl f t) w = enc f n ((pl f t + fe f + fp f - 2).toNat + 1) (w % 2 ^ (fp f - 1)) := by
 have e2 : 2 ^ fp f = 2 ^ (fp f - 1) + 2 ^ (fp f - 1) := by rcases four h with rfl | rfl | rfl | rfl <;> decide
 have e3 : w % 2 ^ (fp f - 1) = w - 2 ^ (fp f - 1) := by
  rw [Nat.mod_eq_sub_mod h1, Nat.mod_eq_of_lt (by omega)]
 rw [e3]; unfold encA enc
 rw [Nat.add_mul]; omega
theorem encA_lo {f : Nat} (n : Bool) {t : Int} {w : Nat} (ht : t < 1 - fe f) : encA f n (pl f t) w = enc f n 0 w := by
 unfold encA enc pl
 rw [if_pos ht, show (1 - (fe f : Int) - fp f + 1 + fe f + fp f - 2).toNat = 0 from by omega, Nat.add_assoc]
theorem tp_one {a : Nat} (h : a ≠ 0) : tp a 1 = (blen a : Int) - 1 := by
 have h1 : blen 1 = 1 := by decide
 have h2 := blen_ge h
 have h3 : 1 ≤ blen a := by
  rcases Nat.eq_zero_or_pos (blen a) with h0 | h0
  ·have := (blen_le a 0).1 (by omega); omega
  ·exact h0
 unfold tp
 rw [h1, if_pos h3, Nat.one_mul, if_pos h2]; omega
def ofE (f : Nat) (n : Bool) (a b : Nat) (e : Int) (K : Int → Int → Bool → Prop) : Prop :=
 if a = 0 then K 0 0 true else if b ≠ 1 ∨ (fe f : Int) < tp a b + e ∨ e < pl f (tp a b + e) then K 0 0 false else
  K (Hi (encA f n (pl f (tp a b + e)) (a * 2 ^ (e - pl f (tp a b + e)).toNat))) (Lo (encA f n (pl f (tp a b + e)) (a * 2 ^ (e - pl f (tp a b + e)).toNat))) true
theorem blen_mul2 {a : Nat} (h : a ≠ 0) (k : Nat) : 2 ^ (blen a - 1 + k) ≤ a * 2 ^ k ∧ a * 2 ^ k < 2 ^ (blen a + k) := by
 rw [Nat.pow_add, Nat.pow_add]
 exact ⟨Nat.mul_le_mul_right _ (blen_ge h), Nat.mul_lt_mul_of_pos_right ((blen_le a _).1 (Nat.le_refl _)) (Nat.two_pow_pos k)⟩
theorem pl_range {f : Nat} (h : f ≤ 3) (t : Int) (h1 : t ≤ fe f) : -16494 ≤ pl f t ∧ pl f t ≤ 16384 ∧ 0 ≤ pl f t + fe f + fp f - 2 := by
 unfold pl
 rcases four h with rfl | rfl | rfl | rfl <;> simp only [fe, fp] at * <;> split <;> omega
theorem wide_nb {w : Nat} (h : w < Q6) : May (nb w) ∧ (nb w).length ≤ 48 := by
 refine ⟨May_nb (fit_Q6 h), ?_⟩
 obtain ⟨N, hN⟩ : ∃ N, N = 48 := ⟨_, rfl⟩
 have : (nb w).length ≤ N := by rw [nb_len_le, p256, p384' hN]; exact h
 omega
theorem nat_ToWide_n {w : Nat} (h : w < Q6) (K : (Nat → Int) → Bool → Prop) (hK : K (W w) true) : zbd (nb w) K := by
 refine nat_ToWide_ok _ _ ?_
 rw [if_pos (wide_nb h), val_nb]; exact hK
theorem bit_top {w p : Nat} (hp : 1 ≤ p) (hw : w < 2 ^ p) : w.testBit (p - 1) = decide (2 ^ (p - 1) ≤ w) := by
 have e2 : 2 ^ p = 2 ^ (p - 1) + 2 ^ (p - 1) := by obtain ⟨q, rfl⟩ : ∃ q, p = q + 1 := ⟨p - 1, by omega⟩; rw [Nat.pow_succ, Nat.add_sub_cancel]; omega
 by_cases h : 2 ^ (p - 1) ≤ w
 ·rw [decide_eq_true h, show w = 2 ^ (p - 1) + (w - 2 ^ (p - 1)) from by omega, Nat.testBit_two_pow_add_eq, Nat.testBit_lt_two_pow (by omega)]; rfl
 ·rw [decide_eq_false h, Nat.testBit_lt_two_pow (by omega)]
section
variable {n : Bool} {a b : Nat} {e : Int}
theorem of_num {f : Nat} (h : f ≤ 3) (h0 : a ≠ 0) (h1 : ¬ (b ≠ 1 ∨ (fe f : Int) < tp a b + e ∨ e < pl f (tp a b + e))) :
  a * 2 ^ (e - pl f (tp a b + e)).toNat < 2 ^ fp f ∧ (1 - (fe f : Int) ≤ tp a b + e ↔ 2 ^ (fp f - 1) ≤ a * 2 ^ (e - pl f (tp a b + e)).toNat) := by
 obtain ⟨w1, w2, w3, w4, w5, w6⟩ := fw_le f h
 have hb : b = 1 := by omega
 subst hb
 have ht := tp_one h0
 have hm := blen_mul2 h0 (e - pl f (tp a 1 + e)).toNat
 have h3 : 1 ≤ blen a := by
  rcases Nat.eq_zero_or_pos (blen a) with hh | hh
  ·have := (blen_le a 0).1 (by omega); omega
  ·exact hh
 have hpl : pl f (tp a 1 + e) ≤ e := by omega
 by_cases hs : tp a 1 + e < 1 - fe f
 ·have hp1 : pl f (tp a 1 + e) = 2 - fe f - fp f := by unfold pl; rw [if_pos hs]; omega
  have l1 : blen a + (e - pl f (tp a 1 + e)).toNat ≤ fp f - 1 := by omega
  have l2 := Nat.pow_le_pow_right (show 0 < 2 by omega) l1
  have l3 := Nat.pow_lt_pow_right (show 1 < 2 by omega) (show fp f - 1 < fp f by omega)
  exact ⟨by omega, by omega, by omega⟩
 ·have hp1 : pl f (tp a 1 + e) = tp a 1 + e - fp f + 1 := by unfold pl; rw [if_neg hs]
  have l1 : blen a + (e - pl f (tp a 1 + e)).toNat = fp f := by omega
  have l2 : blen a - 1 + (e - pl f (tp a 1 + e)).toNat = fp f - 1 := by omega
  rw [l1, l2] at hm
  exact ⟨by omega, fun _ => by omega, fun _ => by omega⟩
theorem kind_Of_ok (f : Nat) (h : f ≤ 3) (c : Can n a b e) (K : Int → Int → Bool → Int → Prop) (hK : ofE f n a b e fun y0 y1 y2 => K y0 y1 y2 0) : zao f n (nb a) (nb b) e K := by
 obtain ⟨w1, w2, w3, w4, w5, w6⟩ := fw_le f h
 have we := c.e64
 have hr := tp_range c.fa c.fb
 unfold ofE at hK
 rw [zao.is]; unfold zao.d
 rw [shape_Check_ok f h, br_f (by rfl)]
 refine exact_Check_ok _ _ _ _ _ (fun _ => ?_) (fun hn => absurd c.may hn)
 rw [br_f (by rfl), eqS_nb]
 refine br_dec (fun h0 => ?_) fun h0 => ?_
 ·rw [if_pos h0] at hK; exact hK
 rw [if_neg h0] at hK
 rw [shape_Precision_ok f h]
 refine exact_Top_ok n c _ (fun hh => absurd hh h0) fun _ => ?_
 rw [shape_Emin_ok f h, eqS_one]
 refine br_ndec (fun hb => ?_) fun hb => ?_
 ·rw [if_pos (.inl hb)] at hK; exact hK
 rw [shape_Emax_ok f h]
 by_cases h2 : (fe f : Int) < tp a b + e
 ·rw [br_t (lt_t h2)]; rw [if_pos (.inr (.inl h2))] at hK; exact hK
 rw [br_f (lt_f (by omega))]
 have hp := pl_range h (tp a b + e) (by omega)
 have e1 : addI .i64 (subI .i64 (maxI (tp a b + e) (1 - (fe f : Int))) (fp f : Int)) 1 = pl f (tp a b + e) := by
  have : maxI (tp a b + e) (1 - (fe f : Int)) = if tp a b + e < 1 - fe f then 1 - (fe f : Int) else tp a b + e := maxI_eq _ _
  rw [this]
  unfold pl
  have hh : -200000 ≤ (if tp a b + e < 1 - (fe f : Int) then 1 - (fe f : Int) else tp a b + e) ∧ (if tp a b + e < 1 - (fe f : Int) then 1 - (fe f : Int) else tp a b + e) ≤ 200000 := by split <;> omega
  rw [sub_i64 (by omega) (by omega), add_i64 (by omega) (by omega)]
 rw [e1]
 by_cases h3 : e < pl f (tp a b + e)
 ·rw [br_t (lt_t h3)]; rw [if_pos (.inr (.inr h3))] at hK; exact hK
 rw [br_f (lt_f (by omega))]
 have hc : ¬ (b ≠ 1 ∨ (fe f : Int) < tp a b + e ∨ e < pl f (tp a b + e)) := by omega
 rw [if_neg hc] at hK
 have hw := of_num h h0 hc
 generalize hwd : a * 2 ^ (e - pl f (tp a b + e)).toNat = w at hw hK
 have hwQ : w < Q6 := p384 (by omega) hw.1
 refine exact_Floor_ok n c _ (by omega) _ ?_
 unfold floE
 rw [if_neg (by omega), if_neg h0, if_pos (show pl f (tp a b + e) ≤ e by omega), hwd, if_pos (fit_Q6 hwQ), hb, Nat.div_one]
 rw [hb] at hw hK
 refine nat_ToWide_n hwQ _ ?_
 rw [fp_m1 f h, wide_Bit_ok w (fp f - 1) (by omega), bit_top (by omega) hw.1]
 refine br_dec (fun hl => ?_) fun hl => ?_
 ·rw [shape_Emin_ok f h]
  refine wide_Mask_ok _ (by omega) _ ?_
  refine wide_And_ok _ _ hwQ _ ?_
  rw [Nat.and_two_pow_sub_one_eq_mod]
  rw [hb] at hp h2
  have e2 : addI .i64 (subI .i64 (pl f (tp a 1 + e)) (1 - (fe f : Int))) (fp f : Int) = (((pl f (tp a 1 + e) + fe f + fp f - 2).toNat + 1 : Nat) : Int) := by
   rw [sub_i64 (by omega) (by omega), add_i64 (by omega) (by omega)]; omega
  rw [e2]
  rw [encA_hi h n hl hw.1] at hK
  refine kind_build_ok f _ _ h ?_ (Nat.mod_lt _ (Nat.two_pow_pos _)) n _ hK
  have hs := hw.2.2 hl
  unfold pl; rw [if_neg (by omega)]; omega
 ·refine wide_Mask_ok _ (by omega) _ ?_
  refine wide_And_ok _ _ hwQ _ ?_
  rw [Nat.and_two_pow_sub_one_eq_mod, Nat.mod_eq_of_lt (by omega)]
  rw [encA_lo n (by have := hw.2; omega)] at hK
  exact kind_build_ok f 0 w h (by omega) (by omega) n _ hK
end
end Go.Ev.S

/- Rounding: what is delivered, by a floor function; the program's packing. -/
set_option linter.unusedVariables false
set_option linter.unusedSimpArgs false
set_option maxRecDepth 8000
namespace Go.Ev.S
open Go Go.Ev
def hf (F : Int → Nat × Bool) (at_ : Int) : Int := if (F (at_ - 1)).1 % 2 = 1 then (if (F (at_ - 1)).2 = true then 0 else 1) else -1
def upB (m : Nat) (n o : Bool) (a : Int) (e : Bool) : Bool :=
 if e = true then false else if m = 0 then (decide (0 < a) || (decide (a = 0) && o)) else if m = 4 then decide (0 ≤ a) else if m = 2 then n else if m = 3 then !n else false
def tk (F : Int → Nat × Bool) (m : Nat) (n : Bool) (at_ : Int) : Nat := (F at_).1 + cond (upB m n (decide ((F at_).1 % 2 = 1)) (hf F at_) (F at_).2) 1 0
def tinyF (f m : Nat) (n : Bool) (F : Int → Nat × Bool) (top : Int) : Bool :=
 if top = -(fe f : Int) then decide (blen (tk F m n (top - fp f + 1)) ≤ fp f) else decide (top < 1 - (fe f : Int))
def dlv (f m : Nat) (n : Bool) (F : Int → Nat × Bool) (top : Int) (K : Int → Int → Int → Int → Prop) : Prop :=
 if (fe f : Int) < top then K (Hi (ov f m n)) (Lo (ov f m n)) 5 0 else
 if (fe f : Int) < (blen (tk F m n (pl f top)) : Int) - 1 + pl f top then K (Hi (ov f m n)) (Lo (ov f m n)) 5 0 else
 K (Hi (encA f n (pl f top) (tk F m n (pl f top)))) (Lo (encA f n (pl f top) (tk F m n (pl f top)))) (if (F (pl f top)).2 = true then 0 else if tinyF f m n F top = true then 3 else 1) 0
def hj (S k : Nat) : Int := if S / 2 ^ (k - 1) % 2 = 1 then (if S % 2 ^ (k - 1) = 0 then 0 else 1) else -1
theorem cond_le (b : Bool) : cond b 1 0 ≤ 1 := by cases b <;> decide
theorem tk_le (F : Int → Nat × Bool) (m : Nat) (n : Bool) (at_ : Int) : tk F m n at_ ≤ (F at_).1 + 1 := by
 unfold tk; have := cond_le (upB m n (decide ((F at_).1 % 2 = 1)) (hf F at_) (F at_).2); omega
theorem fp_Q6 {f : Nat} (h : f ≤ 3) : 2 ^ fp f + 1 < Q6 := by
 have w := fw_le f h
 have h1 : 2 ^ (fp f + 1) < Q6 := lt_Q6 (by omega)
 have h2 := Nat.pow_le_pow_right (show 0 < 2 by omega) (show 1 ≤ fp f by omega)
 rw [Nat.pow_succ] at h1
 omega
theorem body_dlv {f : Nat} (h : f ≤ 3) {top : Int} (ht : top ≤ fe f) {n : Nat} (h1 : n ≤ 2 ^ fp f) (h2 : (blen n : Int) - 1 + pl f top ≤ fe f) :
  (pl f top + fe f + fp f - 2).toNat * 2 ^ (fp f - 1) + n < (2 * fe f + 1) * 2 ^ (fp f - 1) := by
 obtain ⟨w1, w2, w3, w4, w5, w6⟩ := fw_le f h
 have hp := pl_range h top ht
 have e2 : 2 ^ fp f = 2 ^ (fp f - 1) + 2 ^ (fp f - 1) := by rcases four h with rfl | rfl | rfl | rfl <;> decide
 have hfe : 1 ≤ fe f := by rcases four h with rfl | rfl | rfl | rfl <;> decide
 have hpos := Nat.two_pow_pos (fp f - 1)
 obtain ⟨q, hq⟩ : ∃ q : Nat, (q : Int) = pl f top + fe f + fp f - 2 := ⟨(pl f top + fe f + fp f - 2).toNat, by omega⟩
 rw [show (pl f top + fe f + fp f - 2).toNat = q from by omega]
 have hq2 : q + 2 ≤ 2 * fe f + 1 := by
  have : pl f top ≤ fe f - fp f + 1 ∨ q = 0 := by
   by_cases hs : top < 1 - fe f
   ·right; unfold pl at hq; rw [if_pos hs] at hq; omega
   ·left; unfold pl; rw [if_neg hs]; omega
  omega
 by_cases hn : n < 2 ^ fp f
 ·have := Nat.mul_le_mul_right (2 ^ (fp f - 1)) hq2
  rw [Nat.add_mul] at this; omega
 ·have hb : ¬ blen n ≤ fp f := by rw [blen_le]; exact hn
  have hq3 : q + 2 + 1 ≤ 2 * fe f + 1 := by omega
  have := Nat.mul_le_mul_right (2 ^ (fp f - 1)) hq3
  rw [Nat.add_mul, Nat.add_mul q] at this; omega
end Go.Ev.S

/- Exact numbers: made, signs, products, places, sums. -/
set_option linter.unusedVariables false
set_option linter.unusedSimpArgs false
set_option maxRecDepth 8000
namespace Go.Ev.S
open Go Go.Ev
abbrev K5 := Bool → List UInt8 → List UInt8 → Int → Int → Prop
def One5 (T : K5 → Prop) : Prop := ∃ n x y e f, ∀ K : K5, T K = K n x y e f
theorem One5.k (n : Bool) (x y : List UInt8) (e f : Int) : One5 fun K => K n x y e f := ⟨n, x, y, e, f, fun _ => rfl⟩
end Go.Ev.S

/- Exact numbers as rational ones: bounds, sums, products, whole parts. -/
set_option linter.unusedVariables false
set_option linter.unusedSimpArgs false
set_option maxRecDepth 8000
namespace Go.Ev.S
open Go Go.Ev
structure Bd (P E : Nat) (a b : Nat) (e : Int) : Prop where
 a : a < 2 ^ P
 b : b < 2 ^ P
 l : -(E : Int) ≤ e
 u : e ≤ E
theorem Bd.mono {P E P' E' : Nat} {a b : Nat} {e : Int} (h : Bd P E a b e) (hP : P ≤ P') (hE : E ≤ E') : Bd P' E' a b e :=
 ⟨Nat.lt_of_lt_of_le h.a (Nat.pow_le_pow_right (by omega) hP), Nat.lt_of_lt_of_le h.b (Nat.pow_le_pow_right (by omega) hP), by have := h.l; omega, by have := h.u; omega⟩
theorem fit_bits {x P : Nat} (h : x < 2 ^ P) (hP : P ≤ 131072) : fit x := by
 rw [fit_bl]; have := (blen_le x P).2 h; omega
section
variable {n1 n2 : Bool} {a1 b1 a2 b2 : Nat} {e1 e2 : Int} {P1 E1 P2 E2 : Nat}
end
theorem le_mul_iff {x y d : Rat} (hd : 0 < d) : x * d ≤ y * d ↔ x ≤ y := by
 have h := mul_lt_iff (x := y) (y := x) hd
 constructor
 ·intro hh; apply Classical.byContradiction; intro hc
  have := h.2 (by grind); grind
 ·intro hh; exact Rat.mul_le_mul_of_nonneg_right hh (by grind)
theorem eq_mul_iff {x y d : Rat} (hd : 0 < d) : x * d = y * d ↔ x = y := by
 constructor
 ·intro hh
  have h1 := (le_mul_iff (x := x) (y := y) hd).1 (by grind)
  have h2 := (le_mul_iff (x := y) (y := x) hd).1 (by grind)
  grind
 ·intro hh; rw [hh]
structure Flr (X : Rat) (n : Int) (m : Nat) (is : Bool) : Prop where
 le : (m : Rat) * p2 n ≤ X
 lt : X < ((m + 1 : Nat) : Rat) * p2 n
 eq : is = true ↔ (m : Rat) * p2 n = X
theorem flr_of {X : Rat} {N D : Nat} {n : Int} (hD : D ≠ 0) (h : X * D = N * p2 n) : Flr X n (N / D) (decide (N % D = 0)) := by
 have hd := cast_pos hD
 have hp := p2_pos n
 have hdm := Nat.div_add_mod N D
 have hml := Nat.mod_lt N (Nat.pos_of_ne_zero hD)
 have e1 : ∀ m : Nat, (m : Rat) * p2 n * D = ((m * D : Nat) : Rat) * p2 n := by intro m; rw [Rat.natCast_mul]; grind
 refine ⟨?_, ?_, ?_⟩
 ·rw [← le_mul_iff hd, h, e1, le_mul_iff hp, Rat.natCast_le_natCast]
  exact Nat.div_mul_le_self N D
 ·rw [← mul_lt_iff hd, h, e1, mul_lt_iff hp, Rat.natCast_lt_natCast, Nat.add_mul, Nat.mul_comm]
  omega
 ·rw [decide_eq_true_iff, ← eq_mul_iff hd, h, e1, eq_mul_iff hp, Rat.natCast_inj, Nat.mul_comm]
  omega
theorem V_at (a b : Nat) (e n : Int) (hb : b ≠ 0) (hn : n ≤ e) : V false a b e * (b : Rat) = ((a * 2 ^ (e - n).toNat : Nat) : Rat) * p2 n := by
 rw [V_mul false a b e hb, show sR false = 1 from rfl, Rat.natCast_mul, ← p2_nat]
 have : p2 ((e - n).toNat : Int) * p2 n = p2 e := by rw [← p2_add]; congr 1; omega
 grind
theorem V_at' (a b : Nat) (e n : Int) (hb : b ≠ 0) (hn : e ≤ n) : V false a b e * ((b * 2 ^ (n - e).toNat : Nat) : Rat) = (a : Rat) * p2 n := by
 have h := V_mul false a b e hb
 rw [show sR false = 1 from rfl] at h
 rw [Rat.natCast_mul, ← p2_nat]
 have : p2 ((n - e).toNat : Int) * p2 e = p2 n := by rw [← p2_add]; congr 1; omega
 grind
theorem floE_V {s : Bool} {a b : Nat} {e n : Int} (c : Can s a b e) (ha : a ≠ 0) (h1 : -2097152 ≤ n) (h2 : n ≤ 2097152) (hf : n ≤ e → fit (a * 2 ^ (e - n).toNat)) (K : List UInt8 → Bool → Int → Prop)
  (h : ∀ m is, Flr (V false a b e) n m is → (n ≤ e → m ≤ a * 2 ^ (e - n).toNat) → (e < n → m ≤ a) → K (nb m) is 0) : floE a b e n K := by
 unfold floE
 rw [if_neg (by omega), if_neg ha]
 by_cases hn : n ≤ e
 ·rw [if_pos hn, if_pos (hf hn)]
  exact h _ _ (flr_of c.b0 (V_at a b e n c.b0 hn)) (fun _ => Nat.div_le_self _ _) (fun _ => by omega)
 ·rw [if_neg hn]
  have hB : b * 2 ^ (n - e).toNat ≠ 0 := Nat.mul_ne_zero c.b0 (Nat.pos_iff_ne_zero.1 (Nat.two_pow_pos _))
  have fl := flr_of hB (V_at' a b e n c.b0 (by omega))
  by_cases ht : tp a b + e < n
  ·rw [if_pos ht]
   have hlt : a < b * 2 ^ (n - e).toNat := by
    have hs := tp_spec ha c.b0
    by_cases h0 : 0 ≤ tp a b
    ·refine Nat.lt_of_lt_of_le (hs.1 h0).2 (Nat.mul_le_mul_left _ (Nat.pow_le_pow_right (by omega) (by omega)))
    ·have h3 := (hs.2 (by omega)).2
     have h4 : a * 1 ≤ a * 2 ^ ((-tp a b).toNat - 1) := Nat.mul_le_mul_left _ (Nat.two_pow_pos _)
     have h5 : b * 1 ≤ b * 2 ^ (n - e).toNat := Nat.mul_le_mul_left _ (Nat.two_pow_pos _)
     omega
   rw [Nat.div_eq_of_lt hlt, Nat.mod_eq_of_lt hlt, show decide (a = 0) = false from by simpa using ha] at fl
   have := h 0 false fl (fun _ => by omega) (fun _ => by omega)
   rwa [nb_zero] at this
  ·rw [if_neg ht]
   exact h _ _ fl (fun _ => by omega) (fun _ => Nat.div_le_self _ _)
theorem scale_le {a b x y : Rat} (hx : 0 < x) (h : x * y = 1) (hh : b ≤ a * y) : x * b ≤ a := by
 have h1 := Rat.mul_le_mul_of_nonneg_right hh (show 0 ≤ x by grind)
 have h2 : a * y * x = a := by rw [show a * y * x = a * (x * y) from by grind, h]; grind
 grind
theorem scale_lt {a b x y : Rat} (hx : 0 < x) (h : x * y = 1) (hh : a * y < b) : a < x * b := by
 have h1 := Rat.mul_lt_mul_of_pos_right hh hx
 have h2 : a * y * x = a := by rw [show a * y * x = a * (x * y) from by grind, h]; grind
 grind
theorem tp_V {a b : Nat} (e : Int) (ha : a ≠ 0) (hb : b ≠ 0) : p2 (tp a b + e) ≤ V false a b e ∧ V false a b e < p2 (tp a b + e + 1) := by
 have hs := tp_spec ha hb
 have hd := cast_pos hb
 have hv := V_mul false a b e hb
 rw [show sR false = 1 from rfl] at hv
 have hp := p2_pos e
 have key : p2 (tp a b) * (b : Rat) ≤ a ∧ (a : Rat) < p2 (tp a b + 1) * b := by
  by_cases h0 : 0 ≤ tp a b
  ·obtain ⟨h1, h2⟩ := hs.1 h0
   have e1 : p2 (tp a b) = ((2 ^ (tp a b).toNat : Nat) : Rat) := by rw [← p2_nat]; congr 1; omega
   have e2 : p2 (tp a b + 1) = ((2 ^ ((tp a b).toNat + 1) : Nat) : Rat) := by rw [← p2_nat]; congr 1; omega
   rw [e1, e2, ← Rat.natCast_mul, ← Rat.natCast_mul, Rat.natCast_le_natCast, Rat.natCast_lt_natCast, Nat.mul_comm, Nat.mul_comm _ b]
   exact ⟨h1, h2⟩
  ·obtain ⟨h1, h2⟩ := hs.2 (by omega)
   have q1 : p2 (tp a b) * ((2 ^ (-tp a b).toNat : Nat) : Rat) = 1 := by rw [← p2_nat, ← p2_add, show tp a b + ((-tp a b).toNat : Int) = 0 from by omega, p2_zero]
   have q2 : p2 (tp a b + 1) * ((2 ^ ((-tp a b).toNat - 1) : Nat) : Rat) = 1 := by rw [← p2_nat, ← p2_add, show tp a b + 1 + (((-tp a b).toNat - 1 : Nat) : Int) = 0 from by omega, p2_zero]
   have r1 := Rat.natCast_le_natCast.2 h1
   have r2 := Rat.natCast_lt_natCast.2 h2
   rw [Rat.natCast_mul] at r1 r2
   have s1 := p2_pos (tp a b)
   have s2 := p2_pos (tp a b + 1)
   exact ⟨scale_le s1 q1 r1, scale_lt s2 q2 r2⟩
 constructor
 ·rw [← le_mul_iff hd, hv, p2_add]
  have := Rat.mul_le_mul_of_nonneg_right key.1 (show 0 ≤ p2 e by grind)
  grind
 ·rw [← mul_lt_iff hd, hv, show tp a b + e + 1 = (tp a b + 1) + e from by omega, p2_add]
  have := Rat.mul_lt_mul_of_pos_right key.2 hp
  grind
end Go.Ev.S

/- Doubling does not change what is delivered. -/
set_option linter.unusedVariables false
set_option linter.unusedSimpArgs false
set_option maxRecDepth 8000
namespace Go.Ev.S
open Go Go.Ev
end Go.Ev.S

/- Rounding as the document has it. -/
set_option linter.unusedVariables false
set_option linter.unusedSimpArgs false
set_option maxRecDepth 8000
namespace Go.Ev.S
open Go Go.Ev
structure FF (F : Int → Nat × Bool) (p : Nat) (top : Int) : Prop where
 lt : ∀ at_, top - p + 1 ≤ at_ → (F at_).1 < 2 ^ p
 ge : 2 ^ (p - 1) ≤ (F (top - p + 1)).1
 ex : ∀ at_, (F at_).2 = true → (F at_).1 ≠ 0
 half : ∀ at_, (F (at_ + 1)).1 = (F at_).1 / 2
theorem mk_can (n : Bool) {t : Nat} (h0 : t ≠ 0) {P : Nat} (ht : t < 2 ^ P) (hP : P = 200) {at_ : Int} (hr : -100000 ≤ at_ ∧ at_ ≤ 100000) (K : Bool → List UInt8 → List UInt8 → Int → Int → Prop)
  (hK : ∀ a e, Can n a 1 e → a ≠ 0 → t = a * 2 ^ (e - at_).toNat → at_ ≤ e → e ≤ at_ + 200 → K n (nb a) [1] e 0) : mkE n t 1 at_ K := by
 unfold mkE
 have hl := lowb_lt t P h0 ht
 have o1 : odp 1 = 1 := by unfold odp; rw [show lowb 1 = 0 from lowb_of 0 0]
 have hB : rdB t 1 = 1 := by unfold rdB; rw [o1, Nat.gcd_one_right]
 have hA : rdA t 1 = odp t := by unfold rdA; rw [o1, Nat.gcd_one_right, Nat.div_one]
 have hE : rdE t 1 at_ = at_ + lowb t := by unfold rdE; rw [show lowb 1 = 0 from lowb_of 0 0]; omega
 rw [if_neg h0, hA, hB, hE, if_pos (by unfold win; omega), nb_one]
 have ho := odp_spec h0
 have hne := odp_ne h0
 have hfit : fit t := fit_bits ht (by omega)
 refine hK _ _ ⟨fit_div hfit _, fit_one, rfl, by unfold win; omega, fun hh => absurd hh hne, fun _ => ⟨ho.2, Nat.gcd_one_right _⟩⟩ hne ?_ (by omega) (by omega)
 rw [show (at_ + (lowb t : Int) - at_).toNat = lowb t from by omega, Nat.mul_comm]; exact ho.1
theorem of_val {f : Nat} (h : f ≤ 3) {n : Bool} {a t : Nat} {e at_ : Int} (c : Can n a 1 e) (h0 : a ≠ 0) (ht : t = a * 2 ^ (e - at_).toNat) (hle : at_ ≤ e) (h1 : t ≤ 2 ^ fp f)
  (hat : 2 - (fe f : Int) - fp f ≤ at_) (hs : at_ = 2 - (fe f : Int) - fp f ∨ 2 ^ (fp f - 1) ≤ t) (K : Int → Int → Bool → Prop)
  (hK : if (fe f : Int) < (blen t : Int) - 1 + at_ then K 0 0 false else K (Hi (encA f n at_ t)) (Lo (encA f n at_ t)) true) : ofE f n a 1 e K := by
 obtain ⟨w1, w2, w3, w4, w5, w6⟩ := fw_le f h
 obtain ⟨k, hk⟩ : ∃ k : Nat, (k : Int) = e - at_ := ⟨(e - at_).toNat, by omega⟩
 rw [show (e - at_).toNat = k from by omega] at ht
 have hb : blen t = blen a + k := by rw [ht, blen_mul _ _ h0]
 have htp : tp a 1 + e = (blen t : Int) - 1 + at_ := by rw [tp_one h0, hb]; omega
 unfold ofE
 rw [if_neg h0, htp]
 by_cases hf : (fe f : Int) < (blen t : Int) - 1 + at_
 ·rw [if_pos (.inr (.inl hf))]; rw [if_pos hf] at hK; exact hK
 rw [if_neg hf] at hK
 by_cases hp : t < 2 ^ fp f
 ·have hbl := (blen_le t (fp f)).2 hp
  have hpl : pl f ((blen t : Int) - 1 + at_) = at_ := by
   unfold pl
   rcases hs with hs | hs
   ·split <;> omega
   ·have hb2 : ¬ blen t ≤ fp f - 1 := by rw [blen_le]; omega
    rw [if_neg (by omega)]; omega
  rw [hpl, if_neg (by omega), show (e - at_).toNat = k from by omega, ← ht]
  exact hK
 ·have hte : t = 2 ^ fp f := by omega
  have hb2 : blen t = fp f + 1 := by
   have h3 : ¬ blen t ≤ fp f := by rw [blen_le]; omega
   have h4 : blen t ≤ fp f + 1 := by rw [blen_le, hte]; exact Nat.pow_lt_pow_right (by omega) (by omega)
   omega
  have hpl : pl f ((blen t : Int) - 1 + at_) = at_ + 1 := by
   unfold pl; rw [if_neg (by omega)]; omega
  have hk1 : 1 ≤ k := by
   apply Classical.byContradiction; intro hn
   have hk0 : k = 0 := by omega
   rw [hk0, Nat.pow_zero, Nat.mul_one] at ht
   have ho := (c.r h0).1
   have : t % 2 = 0 := by
    rw [hte]
    obtain ⟨q, hq⟩ : ∃ q, fp f = q + 1 := ⟨fp f - 1, by omega⟩
    rw [hq, Nat.pow_succ]; omega
   omega
  rw [hpl, if_neg (by omega), show (e - (at_ + 1)).toNat = k - 1 from by omega]
  have e2 : 2 ^ fp f = 2 ^ (fp f - 1) + 2 ^ (fp f - 1) := by rcases four h with rfl | rfl | rfl | rfl <;> decide
  have hw : a * 2 ^ (k - 1) = 2 ^ (fp f - 1) := by
   have : a * 2 ^ k = a * 2 ^ (k - 1) * 2 := by rw [Nat.mul_assoc, ← Nat.pow_succ, show (k - 1).succ = k from by omega]
   omega
  have he : encA f n (at_ + 1) (a * 2 ^ (k - 1)) = encA f n at_ t := by
   unfold encA
   rw [hw, hte, e2, show (at_ + 1 + (fe f : Int) + fp f - 2).toNat = (at_ + (fe f : Int) + fp f - 2).toNat + 1 from by omega, Nat.add_mul]
   omega
  rw [he]; exact hK
theorem fit_fp {f : Nat} (h : f ≤ 3) {x : Nat} (hx : x < 2 ^ fp f) : fit (x + 1) := fit_Q6 (by have := fp_Q6 h; omega)
section
variable {f m : Nat} {n root : Bool} {x y : List UInt8} {e top : Int} {F : Int → Nat × Bool}
theorem FF.tk_facts (h : f ≤ 3) (m : Nat) (n : Bool) (H : FF F (fp f) top) : tk F m n (pl f top) ≤ 2 ^ fp f ∧ (pl f top = 2 - (fe f : Int) - fp f ∨ 2 ^ (fp f - 1) ≤ tk F m n (pl f top)) ∧ 2 - (fe f : Int) - fp f ≤ pl f top ∧ top - fp f + 1 ≤ pl f top := by
 have w := fw_le f h
 have hge : top - fp f + 1 ≤ pl f top := by unfold pl; split <;> omega
 have hl := H.lt (pl f top) hge
 have ht := tk_le F m n (pl f top)
 refine ⟨by omega, ?_, by unfold pl; split <;> omega, hge⟩
 by_cases hs : top < 1 - (fe f : Int)
 ·left; unfold pl; rw [if_pos hs]; omega
 ·right
  have hp : pl f top = top - fp f + 1 := by unfold pl; rw [if_neg hs]
  have := H.ge
  rw [← hp] at this
  unfold tk; omega
theorem FF.none (h : f ≤ 3) (m : Nat) (n : Bool) (H : FF F (fp f) top) (h0 : tk F m n (pl f top) = 0) : (F (pl f top)).2 = false ∧ tinyF f m n F top = true ∧ pl f top = 2 - (fe f : Int) - fp f := by
 have w := fw_le f h
 have hf1 := H.tk_facts h m n
 have hpos := Nat.two_pow_pos (fp f - 1)
 have hz : (F (pl f top)).1 = 0 := by unfold tk at h0; omega
 have hpl : pl f top = 2 - (fe f : Int) - fp f := by omega
 have hex : (F (pl f top)).2 = false := by
  cases he : (F (pl f top)).2 with
  | false => rfl
  | true => exact absurd hz (H.ex _ he)
 refine ⟨hex, ?_, hpl⟩
 have hge := H.ge
 have hp2 : 2 ≤ 2 ^ (fp f - 1) := by
  have := Nat.pow_le_pow_right (show 0 < 2 by omega) (show 1 ≤ fp f - 1 by omega); omega
 have n1 : top ≠ 1 - (fe f : Int) := by
  intro hh
  rw [show top - (fp f : Int) + 1 = pl f top from by omega, hz] at hge; omega
 have n2 : top ≠ -(fe f : Int) := by
  intro hh
  have h2 := H.half (pl f top - 1)
  rw [show pl f top - 1 + 1 = pl f top from by omega, hz] at h2
  rw [show top - (fp f : Int) + 1 = pl f top - 1 from by omega] at hge
  omega
 have n3 : top < 1 - (fe f : Int) := by
  apply Classical.byContradiction; intro hh
  have : pl f top = top - fp f + 1 := by unfold pl; rw [if_neg hh]
  omega
 unfold tinyF
 rw [if_neg n2, decide_eq_true (by omega)]
end
end Go.Ev.S

/- Floor functions of exact numbers. -/
set_option linter.unusedVariables false
set_option linter.unusedSimpArgs false
set_option maxRecDepth 8000
namespace Go.Ev.S
open Go Go.Ev
theorem p2_lt {a b : Int} (h : a < b) : p2 a < p2 b := by
 obtain ⟨k, hk⟩ : ∃ k : Nat, b = a + ((k + 1 : Nat) : Int) := ⟨(b - a - 1).toNat, by omega⟩
 rw [hk, p2_add, p2_nat]
 have h1 := p2_pos a
 have h2 : (1 : Rat) < ((2 ^ (k + 1) : Nat) : Rat) := by
  have : (1 : Nat) < 2 ^ (k + 1) := Nat.one_lt_two_pow (by omega)
  exact Rat.natCast_lt_natCast.2 this
 have := Rat.mul_lt_mul_of_pos_right h2 h1
 grind
theorem p2_le {a b : Int} (h : a ≤ b) : p2 a ≤ p2 b := by
 rcases Int.lt_or_eq_of_le h with h | h
 ·have := p2_lt h; grind
 ·rw [h]; exact Rat.le_refl
theorem flr_uniq {X : Rat} {at_ : Int} {m m' : Nat} {is is' : Bool} (h : Flr X at_ m is) (h' : Flr X at_ m' is') : m = m' ∧ is = is' := by
 have hp := p2_pos at_
 have h1 := h.le
 have h2 := h.lt
 have h3 := h'.le
 have h4 := h'.lt
 have l1 : m < m' + 1 := by
  rw [← Rat.natCast_lt_natCast, ← mul_lt_iff hp]; grind
 have l2 : m' < m + 1 := by
  rw [← Rat.natCast_lt_natCast, ← mul_lt_iff hp]; grind
 have e : m = m' := by omega
 subst e
 refine ⟨rfl, ?_⟩
 rw [Bool.eq_iff_iff, h.eq, h'.eq]
def FX (a b : Nat) (e at_ : Int) : Nat × Bool :=
 if at_ ≤ e then (a * 2 ^ (e - at_).toNat / b, decide (a * 2 ^ (e - at_).toNat % b = 0)) else (a / (b * 2 ^ (at_ - e).toNat), decide (a % (b * 2 ^ (at_ - e).toNat) = 0))
theorem FX_flr {a b : Nat} (e at_ : Int) (hb : b ≠ 0) : Flr (V false a b e) at_ (FX a b e at_).1 (FX a b e at_).2 := by
 unfold FX
 by_cases h : at_ ≤ e
 ·rw [if_pos h]; exact flr_of hb (V_at a b e at_ hb h)
 ·rw [if_neg h]
  have hB : b * 2 ^ (at_ - e).toNat ≠ 0 := Nat.mul_ne_zero hb (Nat.pos_iff_ne_zero.1 (Nat.two_pow_pos _))
  exact flr_of hB (V_at' a b e at_ hb (by omega))
theorem FF_flr {X : Rat} {F : Int → Nat × Bool} {p : Nat} {top : Int} (hp : 1 ≤ p) (hF : ∀ at_, Flr X at_ (F at_).1 (F at_).2) (h1 : p2 top ≤ X) (h2 : X < p2 (top + 1)) : FF F p top := by
 have hX : 0 < X := by have := p2_pos top; grind
 refine ⟨fun at_ hat => ?_, ?_, fun at_ hat hz => ?_, fun at_ => ?_⟩
 ·have hq := p2_pos at_
  have h3 := (hF at_).le
  have h4 := p2_le (show top + 1 ≤ (p : Int) + at_ by omega)
  rw [p2_add (p : Int), p2_nat] at h4
  generalize 2 ^ p = N at h4
  rw [← Rat.natCast_lt_natCast, ← mul_lt_iff hq]; grind
 ·have hq := p2_pos (top - p + 1)
  have h3 := (hF (top - p + 1)).lt
  have h4 : p2 top = ((2 ^ (p - 1) : Nat) : Rat) * p2 (top - p + 1) := by rw [← p2_nat, ← p2_add]; congr 1; omega
  have : 2 ^ (p - 1) < (F (top - p + 1)).1 + 1 := by
   generalize 2 ^ (p - 1) = N at h4
   rw [← Rat.natCast_lt_natCast, ← mul_lt_iff hq]; grind
  omega
 ·have h3 := (hF at_).eq.1 hat
  rw [hz] at h3
  have : ((0 : Nat) : Rat) = 0 := rfl
  grind
 ·have hq := p2_pos at_
  have hq1 : p2 (at_ + 1) = 2 * p2 at_ := by rw [p2_add, p2_one]; grind
  have a1 := (hF at_).le
  have a2 := (hF at_).lt
  have b1 := (hF (at_ + 1)).le
  have b2 := (hF (at_ + 1)).lt
  rw [hq1] at b1 b2
  have e0 : ((2 : Nat) : Rat) = 2 := rfl
  generalize (F at_).1 = m at a1 a2 ⊢
  generalize (F (at_ + 1)).1 = k at b1 b2 ⊢
  have l1 : k * 2 < m + 1 := by
   rw [← Rat.natCast_lt_natCast, ← mul_lt_iff hq, Rat.natCast_mul, e0]
   grind
  have l2 : m < (k + 1) * 2 := by
   rw [← Rat.natCast_lt_natCast, ← mul_lt_iff hq, Rat.natCast_mul, e0]
   grind
  omega
theorem FX_FF {a b : Nat} {e : Int} {p : Nat} (hp : 1 ≤ p) (ha : a ≠ 0) (hb : b ≠ 0) : FF (FX a b e) p (tp a b + e) :=
 FF_flr hp (fun at_ => FX_flr e at_ hb) (tp_V e ha hb).1 (tp_V e ha hb).2
theorem tp_low (a b : Nat) : (blen a : Int) - blen b - 1 ≤ tp a b := by unfold tp; (repeat' split) <;> omega
theorem floE_FX {n : Bool} {a b : Nat} {e at_ : Int} (c : Can n a b e) (ha : a ≠ 0) (h1 : -2097152 ≤ at_) (h2 : at_ ≤ 2097152) (hb : blen b ≤ 66000) (hl : tp a b + e - 2000 ≤ at_) (K : List UInt8 → Bool → Int → Prop)
  (hK : K (nb (FX a b e at_).1) (FX a b e at_).2 0) : floE a b e at_ K := by
 refine floE_V c ha h1 h2 (fun hle => ?_) K fun m is fl _ _ => ?_
 ·rw [blen_pow ha]
  have := tp_low a b
  omega
 ·obtain ⟨e1, e2⟩ := flr_uniq fl (FX_flr (a := a) e at_ c.b0)
  rw [e1, e2]; exact hK
theorem blen_len {b : Nat} {N : Nat} (h : (nb b).length ≤ N) : blen b ≤ 8 * N := by
 have := (nb_len_le b N).1 h
 rw [p256] at this
 exact (blen_le _ _).2 this
theorem r07_RightMode_ok (m : Nat) (hm : m ≤ 4) (K : Bool → Prop) : zcn m K = K true := by
 rw [zcn.is]; unfold zcn.d; rw [le_t (by omega)]
theorem r07_RightMode_no (m : Nat) (hm : 4 < m) (K : Bool → Prop) : zcn m K = K false := by
 rw [zcn.is]; unfold zcn.d; rw [le_f (by omega)]
end Go.Ev.S

/- Rounding as the program has it. -/
set_option linter.unusedVariables false
set_option linter.unusedSimpArgs false
set_option maxRecDepth 8000
namespace Go.Ev.S
open Go Go.Ev
theorem nat_Low_n {x : Nat} (hf : fit x) (K : Int → Prop) (h : K (lowb x)) : zba (nb x) K := by
 refine nat_Low_ok _ _ ?_
 rw [if_pos (May_nb hf), val_nb]; exact h
theorem low_odd {x : Nat} (h0 : x ≠ 0) : eqI (lowb x : Int) 0 = decide (x % 2 = 1) := by
 have h1 : lowb x = 0 ↔ x % 2 = 1 := by
  constructor
  ·intro h
   obtain ⟨q, hq⟩ := lowb_spec x h0
   rw [h, Nat.pow_zero, Nat.one_mul] at hq; omega
  ·intro h; rw [lowb]; simp [h]
 by_cases h : x % 2 = 1
 ·rw [decide_eq_true h]; exact eq_t (by have := h1.2 h; omega)
 ·rw [decide_eq_false h]; exact eq_f (by intro hh; exact h (h1.1 (by omega)))
theorem rule_over_ok (f m : Nat) (n : Bool) (h : f ≤ 3) (hm : m ≤ 4) (K : Int → Int → Int → Int → Prop) (hK : K (Hi (ov f m n)) (Lo (ov f m n)) 5 0) : zcq f m n K := by
 rw [zcq.is]; unfold zcq.d
 rw [shape_Inf_ok f h, shape_Greatest_ok f h]
 rcases five hm with rfl | rfl | rfl | rfl | rfl <;> cases n <;> exact hK
theorem up_0 (n o0 o1 none : Bool) : upB 0 n o0 (if o1 = true then (if none = true then 0 else 1) else -1) false = (o1 && (!none || o0)) := by
 cases o0 <;> cases o1 <;> cases none <;> rfl
theorem up_4 (n o0 o1 none : Bool) : upB 4 n o0 (if o1 = true then (if none = true then 0 else 1) else -1) false = o1 := by
 cases o0 <;> cases o1 <;> cases none <;> rfl
section
variable {f m : Nat} {n neg root : Bool} {x y : List UInt8} {e top : Int} {F : Int → Nat × Bool}
def Floors (f : Nat) (n root : Bool) (x y : List UInt8) (e top : Int) (F : Int → Nat × Bool) : Prop :=
 ∀ at_ : Int, top - fp f ≤ at_ → at_ ≤ 20000 → ∀ K : List UInt8 → Bool → Prop, K (nb (F at_).1) (F at_).2 → zcs n x y e root at_ K
theorem rule_on_ok (h : f ≤ 3) (hm : m ≤ 4) (H : FF F (fp f) top) (hfl : Floors f n root x y e top F) {at_ : Int} (hr : -3000000 ≤ top) (h1 : top - fp f + 1 ≤ at_) (h2 : at_ ≤ 20000) (K : List UInt8 → Bool → Prop)
  (hK : K (nb (tk F m neg at_)) (F at_).2) : zct n x y e root m neg at_ K := by
 have w := fw_le f h
 have l0 := H.lt at_ h1
 have f0 : fit (F at_).1 := fit_le (fit_fp h l0) (by omega)
 have f1 : fit (F (at_ - 1)).1 := by
  have h4 := H.half (at_ - 1)
  rw [show at_ - 1 + 1 = at_ from by omega] at h4
  have h6 : (F (at_ - 1)).1 < 2 ^ (fp f + 1) := by rw [Nat.pow_succ]; omega
  obtain ⟨P, hP⟩ : ∃ P, P = fp f + 1 := ⟨_, rfl⟩
  rw [← hP] at h6
  exact fit_bits h6 (by omega)
 have f2 : fit ((F at_).1 + 1) := fit_fp h l0
 rw [zct.is]; unfold zct.d
 refine hfl at_ (by omega) h2 _ ?_
 unfold tk at hK
 cases hx : (F at_).2 with
 | true =>
  rw [hx] at hK
  have : upB m neg (decide ((F at_).1 % 2 = 1)) (hf F at_) true = false := rfl
  rw [this] at hK
  exact hK
 | false =>
 rw [hx] at hK
 rw [br_f rfl, sub_i64 (by omega) (by omega)]
 refine hfl (at_ - 1) (by omega) (by omega) _ ?_
 have hh : hf F at_ = if decide ((F (at_ - 1)).1 % 2 = 1) = true then (if (F (at_ - 1)).2 = true then 0 else 1) else -1 := by
  unfold hf
  by_cases g : (F (at_ - 1)).1 % 2 = 1
  ·rw [if_pos g, if_pos (decide_eq_true g)]
  ·rw [if_neg g, if_neg (by rw [decide_eq_false g]; decide)]
 rw [hh] at hK
 generalize (F at_).1 = n0 at hK f0 f2 ⊢
 generalize (F (at_ - 1)).1 = n1 at hK f1 ⊢
 generalize (F (at_ - 1)).2 = none at hK ⊢
 have hP1 : upB m neg (decide (n0 % 2 = 1)) (if decide (n1 % 2 = 1) = true then (if none = true then 0 else 1) else -1) false = true → zat (nb n0) [1] fun y0 y1 => K y0 false := by
  intro hu
  rw [hu] at hK
  rw [← nb_one]
  exact nat_Add_n f0 fit_one (tell_of (fun _ => hK) fun g => absurd f2 g)
 have hP0 : upB m neg (decide (n0 % 2 = 1)) (if decide (n1 % 2 = 1) = true then (if none = true then 0 else 1) else -1) false = false → K (nb n0) false := by
  intro hu
  rw [hu] at hK; exact hK
 generalize hQ1 : (zat (nb n0) [1] fun y0 y1 => K y0 false) = Q1 at hP1 ⊢
 generalize hQ0 : K (nb n0) false = Q0 at hP0 ⊢
 clear hK
 have m2 : ∀ p : Prop, (neg = true → Q1) → (neg = false → Q0) → br (beqB neg true) Q1 Q0 := by
  intro _ a b; cases neg
  ·exact b rfl
  ·exact a rfl
 have m3 : ∀ p : Prop, (neg = false → Q1) → (neg = true → Q0) → br (beqB neg false) Q1 Q0 := by
  intro _ a b; cases neg
  ·exact a rfl
  ·exact b rfl
 have d1 : m = 1 → Q0 := by rintro rfl; exact hP0 rfl
 have d2 : m = 2 → br (beqB neg true) Q1 Q0 := by rintro rfl; exact m2 True hP1 hP0
 have d3 : m = 3 → br (beqB neg false) Q1 Q0 := by
  rintro rfl
  refine m3 True (fun hn => hP1 ?_) fun hn => hP0 ?_
  ·rw [hn]; rfl
  ·rw [hn]; rfl
 rw [eqS_nb, eqS_nb]
 refine br_ndec (fun z0 => ?_) fun z0 => ?_
 ·refine nat_Low_n f0 _ ?_
  refine br_ndec (fun z1 => ?_) fun z1 => ?_
  ·refine nat_Low_n f1 _ ?_
   rw [low_odd z0, low_odd z1]
   generalize decide (n0 % 2 = 1) = o0 at hP1 hP0 ⊢
   generalize decide (n1 % 2 = 1) = o1 at hP1 hP0 ⊢
   rcases five hm with rfl | rfl | rfl | rfl | rfl
   ·rw [up_0] at hP1 hP0
    show br o1 (br (!none) Q1 (br o0 Q1 Q0)) Q0
    cases o1 <;> cases none <;> cases o0 <;> first | exact hP1 rfl | exact hP0 rfl
   ·exact d1 rfl
   ·exact d2 rfl
   ·exact d3 rfl
   ·rw [up_4] at hP1 hP0
    show br o1 Q1 Q0
    cases o1 <;> first | exact hP1 rfl | exact hP0 rfl
  ·have e1 : decide (n1 % 2 = 1) = false := by rw [z1]; rfl
   rw [e1] at hP1 hP0
   rcases five hm with rfl | rfl | rfl | rfl | rfl
   ·rw [up_0] at hP1 hP0; exact hP0 rfl
   ·exact d1 rfl
   ·exact d2 rfl
   ·exact d3 rfl
   ·rw [up_4] at hP1 hP0; exact hP0 rfl
 ·have e0 : decide (n0 % 2 = 1) = false := by rw [z0]; rfl
  rw [e0] at hP1 hP0
  refine br_ndec (fun z1 => ?_) fun z1 => ?_
  ·refine nat_Low_n f1 _ ?_
   rw [low_odd z1]
   generalize decide (n1 % 2 = 1) = o1 at hP1 hP0 ⊢
   rcases five hm with rfl | rfl | rfl | rfl | rfl
   ·rw [up_0] at hP1 hP0
    show br o1 (br (!none) Q1 Q0) Q0
    cases o1 <;> cases none <;> first | exact hP1 rfl | exact hP0 rfl
   ·exact d1 rfl
   ·exact d2 rfl
   ·exact d3 rfl
   ·rw [up_4] at hP1 hP0
    show br o1 Q1 Q0
    cases o1 <;> first | exact hP1 rfl | exact hP0 rfl
  ·have e1 : decide (n1 % 2 = 1) = false := by rw [z1]; rfl
   rw [e1] at hP1 hP0
   rcases five hm with rfl | rfl | rfl | rfl | rfl
   ·rw [up_0] at hP1 hP0; exact hP0 rfl
   ·exact d1 rfl
   ·exact d2 rfl
   ·exact d3 rfl
   ·rw [up_4] at hP1 hP0; exact hP0 rfl
theorem rule_tiny_ok (h : f ≤ 3) (hm : m ≤ 4) (H : FF F (fp f) top) (hfl : Floors f n root x y e top F) (htop : ∀ K : Int → Prop, K top → zcv n x y e root K) (hr : -2000000 ≤ top ∧ top ≤ 3000000) (K : Bool → Prop)
  (hK : K (tinyF f m neg F top)) : zcu n x y e root f m neg K := by
 have w := fw_le f h
 rw [zcu.is]; unfold zcu.d
 refine htop _ ?_
 rw [shape_Precision_ok f h, shape_Emin_ok f h, sub_i64 (by omega) (by omega)]
 unfold tinyF at hK
 by_cases ht : top = -(fe f : Int)
 ·rw [br_f (by rw [eq_t (show top = 1 - (fe f : Int) - 1 by omega)]; rfl)]
  rw [if_pos ht] at hK
  rw [sub_i64 (by omega) (by omega), add_i64 (by omega) (by omega)]
  refine rule_on_ok h hm H hfl (by omega) (Int.le_refl _) (by omega) _ ?_
  have htk := tk_le F m neg (top - fp f + 1)
  have hl := H.lt (top - fp f + 1) (Int.le_refl _)
  refine nat_Len_n (fit_le (fit_fp h hl) htk) ?_
  have e1 : leI (blen (tk F m neg (top - fp f + 1)) : Int) (fp f : Int) = decide (blen (tk F m neg (top - fp f + 1)) ≤ fp f) := by
   unfold leI; rw [decide_eq_decide]; omega
  rw [e1]; exact hK
 ·rw [br_t (by rw [eq_f (show top ≠ 1 - (fe f : Int) - 1 by omega)]; rfl)]
  rw [if_neg ht] at hK
  rw [shape_Emin_ok f h]; exact hK
theorem rule_deliver_ok (h : f ≤ 3) (hm : m ≤ 4) (H : FF F (fp f) top) (hfl : Floors f n root x y e top F) (htop : ∀ K : Int → Prop, K top → zcv n x y e root K) (hr : -2000000 ≤ top ∧ top ≤ 3000000) (K : Int → Int → Int → Int → Prop)
  (hK : dlv f m neg F top K) : zcr n x y e root f m neg K := by
 have w := fw_le f h
 have hf1 := H.tk_facts h m neg
 rw [zcr.is]; unfold zcr.d
 refine htop _ ?_
 rw [shape_Emax_ok f h]
 unfold dlv at hK
 by_cases h1 : (fe f : Int) < top
 ·rw [br_t (lt_t h1)]; rw [if_pos h1] at hK
  exact rule_over_ok f m neg h hm _ hK
 rw [br_f (lt_f (by omega)), shape_Emin_ok f h, shape_Precision_ok f h]
 rw [if_neg h1] at hK
 have hp := pl_range h top (by omega)
 have hat : addI .i64 (subI .i64 (maxI top (1 - (fe f : Int))) (fp f : Int)) 1 = pl f top := by
  have e0 : maxI top (1 - (fe f : Int)) = if top < 1 - fe f then 1 - (fe f : Int) else top := maxI_eq _ _
  rw [e0]; unfold pl
  have hh : -2000000 ≤ (if top < 1 - (fe f : Int) then 1 - (fe f : Int) else top) ∧ (if top < 1 - (fe f : Int) then 1 - (fe f : Int) else top) ≤ 2000000 := by split <;> omega
  rw [sub_i64 (by omega) (by omega), add_i64 (by omega) (by omega)]
 rw [hat]
 refine rule_on_ok h hm H hfl (by omega) hf1.2.2.2 (by omega) _ ?_
 have hfit : fit (tk F m neg (pl f top)) := fit_le (fit_fp h (H.lt _ hf1.2.2.2)) (tk_le _ _ _ _)
 refine nat_Len_n hfit ?_
 have hbl : blen (tk F m neg (pl f top)) ≤ fp f + 1 := by
  rw [blen_le]
  exact Nat.lt_of_le_of_lt hf1.1 (Nat.pow_lt_pow_right (by omega) (by omega))
 rw [shape_Emax_ok f h, sub_i64 (by omega) (by omega), add_i64 (by omega) (by omega)]
 by_cases h2 : (fe f : Int) < (blen (tk F m neg (pl f top)) : Int) - 1 + pl f top
 ·rw [br_t (lt_t h2)]; rw [if_pos h2] at hK
  exact rule_over_ok f m neg h hm _ hK
 rw [br_f (lt_f (by omega))]
 rw [if_neg h2] at hK
 rw [← nb_one]
 refine exact_Make_n neg hfit fit_one (by decide) (by unfold win; omega) ?_
 have tail : ∀ y0 y1 : Int, y0 = Hi (encA f neg (pl f top) (tk F m neg (pl f top))) → y1 = Lo (encA f neg (pl f top) (tk F m neg (pl f top))) →
   br (F (pl f top)).2 (K y0 y1 0 0) (zcu n x y e root f m neg fun y0_7 => br y0_7 (K y0 y1 3 0) (K y0 y1 1 0)) := by
  rintro y0 y1 rfl rfl
  cases hx : (F (pl f top)).2 with
  | true => rw [hx, if_pos rfl] at hK; exact hK
  | false =>
   rw [hx, if_neg (by decide)] at hK
   rw [br_f rfl]
   refine rule_tiny_ok h hm H hfl htop hr _ ?_
   cases ht : tinyF f m neg F top with
   | true => rw [ht, if_pos rfl] at hK; exact hK
   | false => rw [ht, if_neg (by decide)] at hK; exact hK
 by_cases h0 : tk F m neg (pl f top) = 0
 ·have hn := H.none h m neg h0
  have he : encA f neg (pl f top) 0 = enc f neg 0 0 := by
   unfold encA enc; rw [show (pl f top + (fe f : Int) + fp f - 2).toNat = 0 from by omega, Nat.zero_mul, Nat.add_zero]
  rw [h0, he] at tail
  unfold mkE
  rw [if_pos h0]
  have c0 : Can false 0 1 0 := ⟨fit_zero, fit_one, rfl, by unfold win; omega, fun _ => ⟨rfl, rfl, rfl⟩, fun hh => absurd rfl hh⟩
  have hz : zao f false [] [1] 0 = zao f false (nb 0) (nb 1) 0 := by rw [nb_zero, nb_one]
  show zao f false [] [1] 0 _
  rw [hz]
  refine kind_Of_ok f h c0 _ ?_
  unfold ofE
  rw [if_pos rfl]
  show br (eqS (nb (tk F m neg (pl f top))) []) _ _
  rw [h0, eqS_nb, br_t (by rfl), shape_Zero_ok f h]
  exact tail _ _ rfl rfl
 ·obtain ⟨P, hP⟩ : ∃ P, P = 200 := ⟨_, rfl⟩
  have hlt : tk F m neg (pl f top) < 2 ^ P := Nat.lt_of_le_of_lt hf1.1 (Nat.pow_lt_pow_right (by omega) (by omega))
  refine mk_can neg h0 hlt hP (by omega) _ fun a g c ha hta hag hg => ?_
  rw [← nb_one]
  refine kind_Of_ok f h c _ ?_
  refine of_val h c ha hta hag hf1.1 hf1.2.2.1 hf1.2.1 _ ?_
  rw [if_neg h2, eqS_nb, br_f (by simpa using h0)]
  exact tail _ _ rfl rfl
end
theorem Can.abs' {s : Bool} {a b : Nat} {e : Int} (c : Can s a b e) : Can false a b e := ⟨c.fa, c.fb, c.ob, c.we, fun h => ⟨rfl, (c.z h).2⟩, c.r⟩
theorem floors_FX {f : Nat} (h : f ≤ 3) {n : Bool} {a b : Nat} {e : Int} (c : Can n a b e) (ha : a ≠ 0) (hb : blen b ≤ 66000) : Floors f n false (nb a) (nb b) e (tp a b + e) (FX a b e) := by
 have w := fw_le f h
 have we := c.e64
 have hr := tp_range c.fa c.fb
 intro at_ h1 h2 K hK
 rw [zcs.is]; unfold zcs.d
 rw [br_t (show (!false) = true from rfl)]
 exact exact_Floor_ok n c at_ (by omega) _ (floE_FX c ha (by omega) (by omega) hb (by omega) _ hK)
theorem rule_top_ok {n : Bool} {a b : Nat} {e : Int} (c : Can n a b e) (ha : a ≠ 0) (K : Int → Prop) (hK : K (tp a b + e)) : zcv n (nb a) (nb b) e false K := by
 rw [zcv.is]; unfold zcv.d
 exact exact_Top_ok n c _ (fun hh => absurd hh ha) fun _ => hK
theorem rule_Round_ok {f m : Nat} (h : f ≤ 3) (hm : m ≤ 4) {n : Bool} {a b : Nat} {e : Int} (c : Can n a b e) (ha : a ≠ 0) (la : (nb a).length ≤ 8192) (lb : (nb b).length ≤ 8192) (K : Int → Int → Int → Int → Prop)
  (hK : dlv f m n (FX a b e) (tp a b + e) K) : zco f m n (nb a) (nb b) e K := by
 have w := fw_le f h
 have we := c.e64
 have hr := tp_range c.fa c.fb
 have hb : blen b ≤ 66000 := by have := blen_len lb; omega
 rw [zco.is]; unfold zco.d
 rw [zcp.is]; unfold zcp.d
 rw [shape_Check_ok f h, br_f (show (!eqI 0 0) = false from rfl), check_mode_ok m hm, br_f (show (!eqI 0 0) = false from rfl)]
 refine exact_Check_ok _ _ _ _ _ (fun _ => ?_) fun g => absurd c.may g
 rw [br_f (show (!eqI 0 0) = false from rfl), br_f rfl, br_f (lt_f (by omega)), br_f (lt_f (by omega))]
 show br (!eqI 0 0) _ _
 rw [br_f (show (!eqI 0 0) = false from rfl), eqS_nb, br_f (by simpa using ha)]
 refine exact_Abs_ok n c _ ?_
 exact rule_deliver_ok h hm (FX_FF (by omega) ha c.b0) (floors_FX h c.abs' ha hb) (fun K hK => rule_top_ok c.abs' ha K hK) (by omega) _ hK
end Go.Ev.S

/- The program's rounding is the document's. -/
set_option linter.unusedVariables false
set_option linter.unusedSimpArgs false
set_option maxRecDepth 8000
namespace Go.Ev.S
open Go Go.Ev
theorem third_can : Can false 1 3 0 := by
  have h3 : fit 3 := by unfold fit; have : nb 3 = [3] := by rw [nb_pos (by decide), show 3 / 256 = 0 from rfl, nb_zero]; decide
                        rw [this]; decide
  exact ⟨fit_one, h3, rfl, by unfold win; omega, fun hh => by omega, fun _ => ⟨rfl, by decide⟩⟩
theorem nb_three : nb 3 = [3] := by rw [nb_pos (by decide), show 3 / 256 = 0 from rfl, nb_zero]; decide
theorem third_round (m : Nat) (hm : m ≤ 4) (v : Nat) (hv : tk (FX 1 3 0) m false (-12) = v) (hb : blen v = 11) (K : Int → Int → Int → Int → Prop) (hK : K (Hi (encA 2 false (-12) v)) (Lo (encA 2 false (-12) v)) 1 0) : zco 2 m false [1] [3] 0 K := by
  have h3 := nb_three
  rw [← nb_one, ← h3, show (2 : Int) = ((2 : Nat) : Int) from rfl]
  refine rule_Round_ok (by omega) hm third_can (by decide) (by rw [nb_one]; decide) (by rw [h3]; decide) K ?_
  have ht : tp 1 3 + 0 = -2 := by decide
  have hp : pl 2 (-2) = -12 := by decide
  have hx : (FX 1 3 0 (-12)).2 = false := by decide
  have hf : (fe 2 : Int) = 15 := rfl
  unfold dlv
  rw [ht, hp, hv, hb, hx, if_neg (by rw [hf]; decide), if_neg (by rw [hf]; decide), if_neg (by decide)]
  have htn : tinyF 2 m false (FX 1 3 0) (-2) = false := by
    unfold tinyF; rw [if_neg (by rw [hf]; decide), hf]; rfl
  rw [htn, if_neg (by decide)]
  exact hK
theorem law09_alive_ok (K : Bool → Prop) (hK : K true) : zar K := by
  rw [zar.is]; unfold zar.d
  refine third_round 0 (by omega) 1365 (by decide) (by decide) _ ?_
  refine third_round 3 (by omega) 1366 (by decide) (by decide) _ ?_
  exact hK
theorem short9_ok (s : Bool) (x y : List UInt8) (e : Int) (K : Bool → Prop) (h1 : x.length ≤ 60 → y.length ≤ 60 → K true) (h2 : K false) : zas s x y e K := by
  rw [zas.is]; unfold zas.d
  by_cases g1 : x.length ≤ 60
  · by_cases g2 : y.length ≤ 60
    · rw [br_t (le_t (by omega)), le_t (by omega)]; exact h1 g1 g2
    · rw [br_t (le_t (by omega)), le_f (by omega)]; exact h2
  · rw [br_f (le_f (by omega))]; exact h2
end Go.Ev.S

/- Values of encodings and back; the next encoding is next. -/
set_option linter.unusedVariables false
set_option linter.unusedSimpArgs false
set_option maxRecDepth 8000
namespace Go.Ev.S
open Go Go.Ev
theorem mk_lt {f : Nat} (h : f ≤ 3) (n : Bool) {m : Nat} (hm : m < 2 ^ (fw f - 1)) : sg f n + m < 2 ^ fw f := by
 have e : 2 ^ fw f = 2 ^ (fw f - 1) + 2 ^ (fw f - 1) := by rcases four h with rfl | rfl | rfl | rfl <;> decide
 cases n
 ·have : sg f false = 0 := rfl
  omega
 ·have : sg f true = 2 ^ (fw f - 1) := rfl
  omega
def sm (f x : Nat) : Int := cond (ng f x) (-(mg f x : Int)) (mg f x)
end Go.Ev.S

/- The next encoding is next. -/
set_option linter.unusedVariables false
set_option linter.unusedSimpArgs false
set_option maxRecDepth 8000
namespace Go.Ev.S
open Go Go.Ev
end Go.Ev.S

/- Rounding turned about. -/
set_option linter.unusedVariables false
set_option linter.unusedSimpArgs false
set_option maxRecDepth 8000
namespace Go.Ev.S
open Go Go.Ev
def sw (m : Nat) : Nat := if m = 2 then 3 else if m = 3 then 2 else m
theorem up_sw {m : Nat} (hm : m ≤ 4) (n o e : Bool) (a : Int) : upB (sw m) (!n) o a e = upB m n o a e := by
 rcases five hm with rfl | rfl | rfl | rfl | rfl <;> cases n <;> cases e <;> rfl
theorem flip_mk {f : Nat} (n : Bool) {M : Nat} (hM : M < 2 ^ (fw f - 1)) : flip f (sg f n + M) = sg f (!n) + M := by
 have e1 : M ^^^ 2 ^ (fw f - 1) = M + 2 ^ (fw f - 1) := xor_pow _ _ hM
 cases n with
 | false => show (0 + M) ^^^ 2 ^ (fw f - 1) = 2 ^ (fw f - 1) + M; rw [Nat.zero_add, e1]; omega
 | true =>
  show (2 ^ (fw f - 1) + M) ^^^ 2 ^ (fw f - 1) = 0 + M
  rw [Nat.add_comm, ← e1, Nat.xor_assoc, Nat.xor_self, Nat.xor_zero, Nat.zero_add]
theorem flip_enc {f : Nat} (h : f ≤ 3) (n : Bool) {E t : Nat} (he : E ≤ 2 * fe f + 1) (ht : t < 2 ^ (fp f - 1)) : flip f (enc f n E t) = enc f (!n) E t := by
 have hb := body_lt h he ht
 have e1 : ∀ n, enc f n E t = sg f n + (E * 2 ^ (fp f - 1) + t) := by intro n; unfold enc; omega
 rw [e1, e1, flip_mk n hb]
theorem ov_lt {f : Nat} (h : f ≤ 3) (m : Nat) (n : Bool) : ov f m n < 2 ^ fw f := by
 have hp := Nat.two_pow_pos (fp f - 1)
 unfold ov
 cases gr m n
 ·exact enc_lt h (Nat.le_refl _) hp n
 ·exact enc_lt h (by omega) (by omega) n
theorem ov_sw {f m : Nat} (h : f ≤ 3) (hm : m ≤ 4) (n : Bool) : ov f (sw m) (!n) = flip f (ov f m n) := by
 have hp := Nat.two_pow_pos (fp f - 1)
 have hg : gr (sw m) (!n) = gr m n := by rcases five hm with rfl | rfl | rfl | rfl | rfl <;> cases n <;> rfl
 unfold ov
 rw [hg]
 cases gr m n
 ·exact (flip_enc h n (Nat.le_refl _) hp).symm
 ·exact (flip_enc h n (by omega) (by omega)).symm
theorem tk_sw {m : Nat} (hm : m ≤ 4) (F : Int → Nat × Bool) (n : Bool) (at_ : Int) : tk F (sw m) (!n) at_ = tk F m n at_ := by
 unfold tk; rw [up_sw hm]
theorem dlv_turn {f m : Nat} (h : f ≤ 3) (hm : m ≤ 4) (n : Bool) {F : Int → Nat × Bool} {top : Int} (H : FF F (fp f) top) :
  ∃ z fl, z < 2 ^ fw f ∧ (∀ K, dlv f m n F top K ↔ K (Hi z) (Lo z) fl 0) ∧ (∀ K, dlv f (sw m) (!n) F top K ↔ K (Hi (flip f z)) (Lo (flip f z)) fl 0) := by
 have ht : tinyF f (sw m) (!n) F top = tinyF f m n F top := by unfold tinyF; rw [tk_sw hm]
 unfold dlv
 rw [tk_sw hm, ht, ov_sw h hm]
 by_cases h1 : (fe f : Int) < top
 ·simp only [if_pos h1]
  exact ⟨_, _, ov_lt h m n, fun K => Iff.rfl, fun K => Iff.rfl⟩
 ·simp only [if_neg h1]
  by_cases h2 : (fe f : Int) < (blen (tk F m n (pl f top)) : Int) - 1 + pl f top
  ·simp only [if_pos h2]
   exact ⟨_, _, ov_lt h m n, fun K => Iff.rfl, fun K => Iff.rfl⟩
  ·simp only [if_neg h2]
   have hbd := body_dlv h (show top ≤ fe f by omega) (H.tk_facts h m n).1 (by omega)
   have hM : (pl f top + fe f + fp f - 2).toNat * 2 ^ (fp f - 1) + tk F m n (pl f top) < 2 ^ (fw f - 1) := by
    rw [fw_eq f h]; exact Nat.lt_of_lt_of_le hbd (Nat.mul_le_mul_right _ (by omega))
   have e1 : encA f (!n) (pl f top) (tk F m n (pl f top)) = flip f (encA f n (pl f top) (tk F m n (pl f top))) := (flip_mk n hM).symm
   rw [e1]
   exact ⟨_, _, mk_lt h n hM, fun K => Iff.rfl, fun K => Iff.rfl⟩
theorem ruleTurned (a0 a1 : Int) (a2_0 : Bool) (a2_1 a2_2 : List UInt8) (a2_3 : Int) (w0 : (Lit.int .u8 a0).wf = true) (w1 : (Lit.int .u8 a1).wf = true)
  (w2 : a2_1.length ≤ maxLen) (w3 : a2_2.length ≤ maxLen) (w4 : (Lit.int .i64 a2_3).wf = true) (K : Bool → Prop) (hK : K true) : zaq a0 a1 a2_0 a2_1 a2_2 a2_3 K := by
 obtain ⟨f, rfl, hf⟩ := u8_nat w0
 obtain ⟨m, rfl, hm⟩ := u8_nat w1
 have hal : zar fun y0 => K y0 := law09_alive_ok _ hK
 rw [zaq.is]; unfold zaq.d
 refine short9_ok _ _ _ _ _ (fun s1 s2 => ?_) hal
 rw [br_f (show (!true) = false from rfl)]
 refine r06_May_ok _ _ _ _ _ (fun hM => ?_) fun _ => hal
 rw [br_f (show (!true) = false from rfl)]
 by_cases h : f ≤ 3
 rotate_left
 ·rw [r07_Right_no f (by omega)]; exact hal
 rw [r07_Right_ok f h, br_f (show (!true) = false from rfl)]
 by_cases hm4 : m ≤ 4
 rotate_left
 ·rw [r07_RightMode_no m (by omega)]; exact hal
 rw [r07_RightMode_ok m hm4, br_f (show (!true) = false from rfl)]
 obtain ⟨a, b, rfl, rfl, c⟩ := hM.can
 have w := fw_le f h
 refine exact_Sign_ok a2_0 c _ ?_
 by_cases ha : a = 0
 ·have : sgE a2_0 a = 0 := by unfold sgE; rw [if_pos ha]
  rw [this]; exact hal
 have hsg : sgE a2_0 a ≠ 0 := by unfold sgE; rw [if_neg ha]; split <;> omega
 rw [br_f (eq_f hsg)]
 obtain ⟨z, fl, hz, d1, d2⟩ := dlv_turn h hm4 a2_0 (FX_FF (e := a2_3) (p := fp f) (by omega) ha c.b0)
 have hn : (!a2_0 && decide (a ≠ 0)) = !a2_0 := by rw [decide_eq_true ha, Bool.and_true]
 have c' := c.neg
 rw [hn] at c'
 have key : ∀ m' : Nat, m' = sw m → zco f m a2_0 (nb a) (nb b) a2_3 fun y0 y1 y2 y3 => zag a2_0 (nb a) (nb b) a2_3 fun y0_1 y1_1 y2_1 y3_1 => zco f m' y0_1 y1_1 y2_1 y3_1 fun y0_2 y1_2 y2_2 y3_2 => br (eqI y3 0) (br (eqI y3_2 0) (zan f y0 y1 fun y0 y1 => br (eqI y0_2 y0 && eqI y1_2 y1) (br (eqI y2 y2_2) (zar fun y0 => K y0) (K false)) (K false)) (K false)) (K false) := by
  intro m' hm'
  subst hm'
  refine rule_Round_ok h hm4 c ha (by omega) (by omega) _ ((d1 _).2 ?_)
  refine exact_Neg_ok a2_0 c _ ?_
  rw [hn]
  refine rule_Round_ok h (by unfold sw; (repeat' split) <;> omega) c' ha (by omega) (by omega) _ ((d2 _).2 ?_)
  rw [br_t (eqI_self _), br_t (eqI_self _), kind_Flip_ok f z h hz]
  refine br_pair ?_
  rw [br_t (eqI_self _)]; exact hal
 rcases five hm4 with rfl | rfl | rfl | rfl | rfl
 ·exact key 0 rfl
 ·exact key 1 rfl
 ·exact key 3 rfl
 ·exact key 2 rfl
 ·exact key 4 rfl
end Go.Ev.S
