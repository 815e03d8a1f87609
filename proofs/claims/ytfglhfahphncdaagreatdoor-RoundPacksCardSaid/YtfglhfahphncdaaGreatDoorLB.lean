/- Rounding: what is delivered, by a floor function; the program's packing. -/
import Derived.Test.YtfglhfahphncdaaGreatDoorLA
import Derived.Test.YtfglhfahphncdaaGreatDoorDA
set_option linter.unusedVariables false
set_option linter.unusedSimpArgs false
set_option maxRecDepth 8000
namespace Go.Ev.S
open Go Go.Ev
def FS (S : Nat) (e : Int) (more : Bool) (at_ : Int) : Nat × Bool :=
  if at_ ≤ e then (S * 2 ^ (e - at_).toNat, true) else (S / 2 ^ (at_ - e).toNat, decide (S % 2 ^ (at_ - e).toNat = 0) && !more)
def hf (F : Int → Nat × Bool) (at_ : Int) : Int := if (F (at_ - 1)).1 % 2 = 1 then (if (F (at_ - 1)).2 = true then 0 else 1) else -1
def upB (m : Nat) (n o : Bool) (a : Int) (e : Bool) : Bool :=
  if e = true then false else if m = 0 then (decide (0 < a) || (decide (a = 0) && o)) else if m = 4 then decide (0 ≤ a) else if m = 2 then n else if m = 3 then !n else false
def tk (F : Int → Nat × Bool) (m : Nat) (n : Bool) (at_ : Int) : Nat := (F at_).1 + cond (upB m n (decide ((F at_).1 % 2 = 1)) (hf F at_) (F at_).2) 1 0
def tinyF (f m : Nat) (n : Bool) (F : Int → Nat × Bool) (top : Int) : Bool :=
  if top = -(fe f : Int) then decide (blen (tk F m n (top - fp f + 1)) ≤ fp f) else decide (top < 1 - (fe f : Int))
def dlv (f m : Nat) (n : Bool) (F : Int → Nat × Bool) (top : Int) (K : Int → Int → Int → Int → Prop) : Prop :=
  if (fe f : Int) < top then K (Hi (ov f m n)) (Lo (ov f m n)) 5 0 else
  if (fe f : Int) < (blen (tk F m n (pl f top)) : Int) - 1 + pl f top then K (Hi (ov f m n)) (Lo (ov f m n)) 5 0 else
  K (Hi (encA f n (pl f top) (tk F m n (pl f top)))) (Lo (encA f n (pl f top) (tk F m n (pl f top)))) (if (F (pl f top)).2 = true then 0 else if tinyF f m n F top = true then 3 else 1) 0
theorem round_Up_ok (m : Nat) (hm : m ≤ 4) (n o e : Bool) (a : Int) (K : Bool → Prop) : round_Up m n o a e K = K (upB m n o a e) := by
  rw [round_Up.is]; unfold round_Up.d upB
  cases e with
  | true => rfl
  | false =>
    rw [br_f rfl]
    rcases five hm with rfl | rfl | rfl | rfl | rfl
    · show br (ltI 0 a) (K true) (br (eqI a 0) (K o) (K false)) = K (decide (0 < a) || (decide (a = 0) && o))
      by_cases h1 : 0 < a
      · rw [br_t (lt_t h1), decide_eq_true h1]; rfl
      · rw [br_f (lt_f (by omega)), decide_eq_false h1]
        by_cases h2 : a = 0
        · rw [br_t (eq_t h2), decide_eq_true h2]; simp
        · rw [br_f (eq_f h2), decide_eq_false h2]; rfl
    · rfl
    · cases n <;> rfl
    · cases n <;> rfl
    · rfl
theorem wide_Right_385 (x : Nat) (hx : x < Q6) (K : (Nat → Int) → Bool → Prop) (h : K (W 0) (decide (x ≠ 0))) : wide_Right (W x) 385 K := by
  obtain ⟨N, hN⟩ : ∃ N, N = 384 := ⟨_, rfl⟩
  have hQ := Q6_at hN
  have e1 : wide_Right (W x) 385 K = wide_Right (W x) N K := by
    rw [wide_Right.is]; unfold wide_Right.d
    rw [wide_count_ok N (by omega), hN, wide_count.is]; rfl
  rw [e1]
  refine wide_Right_ok x N hx (by omega) K ?_
  rw [hQ, Nat.div_eq_of_lt hx, Nat.mod_eq_of_lt hx]; exact h
def hj (S k : Nat) : Int := if S / 2 ^ (k - 1) % 2 = 1 then (if S % 2 ^ (k - 1) = 0 then 0 else 1) else -1
theorem jam_Cut_ok (S k : Nat) (hS : S < Q6) (hk : 0 < k) (hk2 : k < 9223372036854775808) (K : (Nat → Int) → Int → Bool → Prop) (h : K (W (S / 2 ^ k)) (hj S k) (decide (S % 2 ^ k = 0))) : jam_Cut (W S) k K := by
  obtain ⟨N, hN⟩ : ∃ N, N = 384 := ⟨_, rfl⟩
  have hQ := Q6_at hN
  rw [jam_Cut.is]; unfold jam_Cut.d
  have dn : ∀ p : Prop, ∀ _ : Decidable p, (!decide (¬ p)) = decide p := by intro p _; by_cases hp : p <;> simp [hp]
  by_cases hb : k ≤ 384
  · have e1 : minI (maxI (k : Int) 0) 385 = (k : Int) := by rw [maxI_eq, minI_eq]; (repeat' split) <;> omega
    rw [e1]
    refine wide_Right_ok S k hS hb _ ?_
    rw [br_f (eq_f (by omega)), br_f (eq_f (by omega)), show subI .i64 (k : Int) 1 = ((k - 1 : Nat) : Int) from by rw [sub_i64 (by omega) (by omega)]; omega]
    rw [wide_Bit_ok S (k - 1) (by omega), dn]
    have hb : S.testBit (k - 1) = decide (S / 2 ^ (k - 1) % 2 = 1) := by rw [Nat.testBit_eq_decide_div_mod_eq]
    rw [hb]
    unfold hj at h
    refine br_ndec (fun h1 => ?_) fun h1 => ?_
    · rw [if_neg h1] at h; exact h
    · rw [if_pos h1] at h
      refine wide_Mask_ok _ (by omega) _ ?_
      refine wide_And_ok _ _ hS _ ?_
      rw [Nat.and_two_pow_sub_one_eq_mod, eqN_zero _ (Nat.lt_of_le_of_lt (Nat.mod_le _ _) hS)]
      refine br_ndec (fun h2 => ?_) fun h2 => ?_
      · rw [if_neg h2] at h; exact h
      · rw [if_pos h2] at h; exact h
  · have e1 : minI (maxI (k : Int) 0) 385 = 385 := by rw [maxI_eq, minI_eq]; (repeat' split) <;> omega
    rw [e1]
    refine wide_Right_385 S hS _ ?_
    rw [br_f (show eqI 385 0 = false from rfl), br_t (show eqI 385 385 = true from rfl), dn]
    have l1 : S < 2 ^ (k - 1) := Nat.lt_of_lt_of_le (hQ ▸ hS) (Nat.pow_le_pow_right (by omega) (by omega))
    have l2 : S < 2 ^ k := Nat.lt_of_lt_of_le l1 (Nat.pow_le_pow_right (by omega) (by omega))
    have e2 : hj S k = -1 := by unfold hj; rw [Nat.div_eq_of_lt l1]; rfl
    rw [Nat.div_eq_of_lt l2, Nat.mod_eq_of_lt l2, e2] at h
    exact h
theorem odd_word (q : Nat) : eqI (andI .u64 (W q 0) 1) 1 = decide (q % 2 = 1) := by
  have h1 := (and_two (q % 18446744073709551616) 1 (by omega) (by omega)).2
  have e1 : Lo (q % 18446744073709551616) = W q 0 := by
    rw [W_app]; unfold Lo wd
    rw [Nat.mul_zero, Nat.pow_zero, Nat.div_one, Nat.mod_mod]
  rw [e1, show Lo 1 = 1 from rfl, Nat.and_one_is_mod] at h1
  rw [h1]
  have : q % 18446744073709551616 % 2 = q % 2 := by omega
  rw [this]
  have h2 := Nat.mod_two_eq_zero_or_one q
  rcases h2 with h2 | h2 <;> rw [h2] <;> rfl
theorem up_end (q : Nat) (hq : q + 1 < Q6) (b : Bool) (K : (Nat → Int) → Prop) (h : K (W (q + cond b 1 0))) : br b (wide_Of 1 fun y2 => wide_Add (W q) y2 fun y0 y1 => K y0) (K (W q)) := by
  cases b with
  | false => exact h
  | true =>
    rw [br_t rfl, show (1 : Int) = ((1 : Nat) : Int) from rfl, wide_Of_ok 1 (by omega)]
    refine wide_Add_ok _ _ (by omega) (p384 (a := 64) (by omega) (by omega)) _ ?_
    rw [Nat.mod_eq_of_lt hq]; exact h
theorem round_grid_ok (m : Nat) (hm : m ≤ 4) (neg : Bool) {S : Nat} (h0 : S ≠ 0) (hS : S < Q6) {e at_ : Int} (b1 : -3000000 ≤ e ∧ e ≤ 3000000) (b2 : -3000000 ≤ at_ ∧ at_ ≤ 3000000) (more : Bool)
    (hmo : more = true → e + 2 ≤ at_) (hfit : (FS S e more at_).1 + 1 < Q6) (K : (Nat → Int) → Bool → Prop) (hK : K (W (tk (FS S e more) m neg at_)) (FS S e more at_).2) : round_grid m neg (W S) e more at_ K := by
  obtain ⟨N, hN⟩ : ∃ N, N = 384 := ⟨_, rfl⟩
  have hQ := Q6_at hN
  rw [round_grid.is]; unfold round_grid.d
  rw [sub_i64 (by omega) (by omega)]
  unfold tk at hK
  by_cases hc : at_ ≤ e
  · have hF : FS S e more at_ = (S * 2 ^ (e - at_).toNat, true) := if_pos hc
    rw [hF] at hK hfit
    have hmf : more = false := by cases more with | false => rfl | true => have := hmo rfl; omega
    have hup : upB m neg (decide (S * 2 ^ (e - at_).toNat % 2 = 1)) (hf (FS S e more) at_) true = false := if_pos rfl
    rw [br_t (le_t (by omega))]
    have hk : (e - at_).toNat < N := by
      apply Classical.byContradiction; intro hn
      have := Nat.pow_le_pow_right (show 0 < 2 by omega) (show N ≤ (e - at_).toNat by omega)
      have h3 : 2 ^ (e - at_).toNat ≤ S * 2 ^ (e - at_).toNat := Nat.le_mul_of_pos_left _ (by omega)
      simp only at hfit
      omega
    have e1 : negI .i64 (at_ - e) = (((e - at_).toNat : Nat) : Int) := by
      show IntKind.wrap .i64 _ = _
      rw [i64_id (by omega) (by omega)]; omega
    rw [e1]
    refine wide_Left_val S _ hS (by omega) _ fun b => ?_
    rw [Nat.mod_eq_of_lt (by simp only at hfit; omega), hmf]
    simp only [hup, cond_false, Nat.add_zero] at hK
    exact hK
  · obtain ⟨k, hk⟩ : ∃ k : Nat, (k : Int) = at_ - e := ⟨(at_ - e).toNat, by omega⟩
    have hF : FS S e more at_ = (S / 2 ^ k, decide (S % 2 ^ k = 0) && !more) := by
      unfold FS; rw [if_neg hc, show (at_ - e).toNat = k from by omega]
    rw [hF] at hK hfit
    rw [br_f (le_f (by omega)), ← hk]
    refine jam_Cut_ok S k hS (by omega) (by omega) _ ?_
    rw [odd_word]
    cases more with
    | false =>
      have hh : hf (FS S e false) at_ = hj S k := by
        unfold hf hj FS
        by_cases h1 : at_ - 1 ≤ e
        · rw [if_pos h1, show (e - (at_ - 1)).toNat = 0 from by omega, show k - 1 = 0 from by omega]
          simp only [Nat.pow_zero, Nat.mul_one, Nat.div_one, Nat.mod_one, if_true]
        · rw [if_neg h1, show (at_ - 1 - e).toNat = k - 1 from by omega]
          simp only [Bool.not_false, Bool.and_true, decide_eq_true_eq]
      rw [hh, Bool.not_false, Bool.and_true] at hK
      rw [br_f rfl, round_Up_ok m hm]
      exact up_end _ hfit _ (fun y0 => K y0 (decide (S % 2 ^ k = 0))) hK
    | true =>
      have h2 := hmo rfl
      have hh : hf (FS S e true) at_ = if hj S k = 0 then 1 else hj S k := by
        unfold hf hj FS
        rw [if_neg (show ¬ at_ - 1 ≤ e by omega), show (at_ - 1 - e).toNat = k - 1 from by omega]
        simp only [Bool.not_true, Bool.and_false]
        by_cases g1 : S / 2 ^ (k - 1) % 2 = 1
        · simp only [if_pos g1]
          by_cases g2 : S % 2 ^ (k - 1) = 0
          · simp only [if_pos g2]; rfl
          · simp only [if_neg g2]; rfl
        · simp only [if_neg g1]; rfl
      rw [hh, Bool.not_true, Bool.and_false] at hK
      rw [br_t rfl]
      by_cases g : hj S k = 0
      · rw [br_t (eq_t g), round_Up_ok m hm]
        rw [if_pos g] at hK
        exact up_end _ hfit _ (fun y0 => K y0 false) hK
      · rw [br_f (eq_f g), round_Up_ok m hm]
        rw [if_neg g] at hK
        exact up_end _ hfit _ (fun y0 => K y0 false) hK
theorem cond_le (b : Bool) : cond b 1 0 ≤ 1 := by cases b <;> decide
theorem tk_le (F : Int → Nat × Bool) (m : Nat) (n : Bool) (at_ : Int) : tk F m n at_ ≤ (F at_).1 + 1 := by
  unfold tk; have := cond_le (upB m n (decide ((F at_).1 % 2 = 1)) (hf F at_) (F at_).2); omega
theorem FS_lt {S : Nat} {e at_ : Int} {more : Bool} {p : Nat} (h : (blen S : Int) - 1 + e - p + 1 ≤ at_) : (FS S e more at_).1 < 2 ^ p := by
  have hs := (blen_le S _).1 (Nat.le_refl _)
  unfold FS
  by_cases hc : at_ ≤ e
  · rw [if_pos hc]
    have h1 : S * 2 ^ (e - at_).toNat < 2 ^ blen S * 2 ^ (e - at_).toNat := Nat.mul_lt_mul_of_pos_right hs (Nat.two_pow_pos _)
    rw [← Nat.pow_add] at h1
    exact Nat.lt_of_lt_of_le h1 (Nat.pow_le_pow_right (by omega) (by omega))
  · rw [if_neg hc]
    refine Nat.div_lt_of_lt_mul ?_
    rw [← Nat.pow_add]
    exact Nat.lt_of_lt_of_le hs (Nat.pow_le_pow_right (by omega) (by omega))
theorem fp_Q6 {f : Nat} (h : f ≤ 3) : 2 ^ fp f + 1 < Q6 := by
  have w := fw_le f h
  have h1 : 2 ^ (fp f + 1) < Q6 := lt_Q6 (by omega)
  have h2 := Nat.pow_le_pow_right (show 0 < 2 by omega) (show 1 ≤ fp f by omega)
  rw [Nat.pow_succ] at h1
  omega
theorem blen_Q6 {S : Nat} (h : S < Q6) : blen S ≤ 384 := by
  obtain ⟨N, hN⟩ : ∃ N, N = 384 := ⟨_, rfl⟩
  have := (blen_le S N).2 (by rw [Q6_at hN]; exact h)
  omega
theorem round_tiny_ok (f m : Nat) (h : f ≤ 3) (hm : m ≤ 4) (neg : Bool) {S : Nat} (h0 : S ≠ 0) (hS : S < Q6) {e : Int} (b1 : -1048576 ≤ e ∧ e ≤ 1048576) (more : Bool) (hmo : more = true → fp f + 2 ≤ blen S) (K : Bool → Prop)
    (hK : K (tinyF f m neg (FS S e more) ((blen S : Int) - 1 + e))) : round_tiny f m neg (W S) e more ((blen S : Int) - 1 + e) K := by
  have w := fw_le f h
  have hb := blen_Q6 hS
  have hb2 := blen_pos h0
  have hp := fp_Q6 h
  rw [round_tiny.is]; unfold round_tiny.d
  rw [shape_Emin_ok f h, shape_Precision_ok f h, sub_i64 (by omega) (by omega)]
  unfold tinyF at hK
  by_cases ht : (blen S : Int) - 1 + e = -(fe f : Int)
  · rw [br_f (by rw [eq_t (show (blen S : Int) - 1 + e = 1 - fe f - 1 by omega)]; rfl)]
    rw [if_pos ht] at hK
    rw [sub_i64 (by omega) (by omega), add_i64 (by omega) (by omega)]
    have hl := FS_lt (S := S) (e := e) (at_ := (blen S : Int) - 1 + e - fp f + 1) (more := more) (p := fp f) (Int.le_refl _)
    refine round_grid_ok m hm neg h0 hS (by omega) (by omega) more (fun hh => by have := hmo hh; omega) (by omega) _ ?_
    have ht := tk_le (FS S e more) m neg ((blen S : Int) - 1 + e - fp f + 1)
    refine wide_Len_ok _ (by omega) _ ?_
    have e1 : leI (blen (tk (FS S e more) m neg ((blen S : Int) - 1 + e - fp f + 1)) : Int) (fp f : Int) = decide (blen (tk (FS S e more) m neg ((blen S : Int) - 1 + e - fp f + 1)) ≤ fp f) := by
      unfold leI; rw [decide_eq_decide]; omega
    rw [e1]; exact hK
  · rw [br_t (by rw [eq_f (show (blen S : Int) - 1 + e ≠ 1 - fe f - 1 by omega)]; rfl)]
    rw [if_neg ht] at hK
    exact hK
theorem body_dlv {f : Nat} (h : f ≤ 3) {top : Int} (ht : top ≤ fe f) {n : Nat} (h1 : n ≤ 2 ^ fp f) (h2 : (blen n : Int) - 1 + pl f top ≤ fe f) :
    (pl f top + fe f + fp f - 2).toNat * 2 ^ (fp f - 1) + n < (2 * fe f + 1) * 2 ^ (fp f - 1) := by
  obtain ⟨w1, w2, w3, w4, w5, w6⟩ := fw_le f h
  have hp := pl_range h top ht
  have e2 : 2 ^ fp f = 2 ^ (fp f - 1) + 2 ^ (fp f - 1) := by rcases four h with rfl | rfl | rfl | rfl <;> decide
  have hfe : 1 ≤ fe f := by rcases four h with rfl | rfl | rfl | rfl <;> decide
  have hpos := Nat.two_pow_pos (fp f - 1)
  obtain ⟨q, hq⟩ : ∃ q : Nat, (q : Int) = pl f top + fe f + fp f - 2 := ⟨(pl f top + fe f + fp f - 2).toNat, by omega⟩
  rw [show (pl f top + fe f + fp f - 2).toNat = q from by omega]
  have hq2 : q + 2 ≤ 2 * fe f + 1 := by
    have : pl f top ≤ fe f - fp f + 1 ∨ q = 0 := by
      by_cases hs : top < 1 - fe f
      · right; unfold pl at hq; rw [if_pos hs] at hq; omega
      · left; unfold pl; rw [if_neg hs]; omega
    omega
  by_cases hn : n < 2 ^ fp f
  · have := Nat.mul_le_mul_right (2 ^ (fp f - 1)) hq2
    rw [Nat.add_mul] at this; omega
  · have hb : ¬ blen n ≤ fp f := by rw [blen_le]; exact hn
    have hq3 : q + 2 + 1 ≤ 2 * fe f + 1 := by omega
    have := Nat.mul_le_mul_right (2 ^ (fp f - 1)) hq3
    rw [Nat.add_mul, Nat.add_mul q] at this; omega
theorem round_Pack_ok (f m : Nat) (h : f ≤ 3) (hm : m ≤ 4) (neg : Bool) {S : Nat} (h0 : S ≠ 0) (hS : S < Q6) {e : Int} (b1 : -1048576 ≤ e ∧ e ≤ 1048576) (more : Bool) (hmo : more = true → fp f + 2 ≤ blen S)
    (K : Int → Int → Int → Int → Prop) (hK : dlv f m neg (FS S e more) ((blen S : Int) - 1 + e) K) : round_Pack f m neg (W S) e more K := by
  obtain ⟨w1, w2, w3, w4, w5, w6⟩ := fw_le f h
  have hb := blen_Q6 hS
  have hb2 := blen_pos h0
  have hpQ := fp_Q6 h
  have key : br (eqN 6 (W S) fun x => 0) (shape_Zero f neg fun y0 y1 => K y0 y1 0 0) (wide_Len (W S) fun y0_2 => shape_Emin f fun y0_3 => shape_Emax f fun y0_4 => br (ltI y0_4 (addI IntKind.i64 (subI IntKind.i64 y0_2 1) e)) (round_Over f m neg fun y0 y1 y2 y3 => K y0 y1 y2 y3) (round_grid m neg (W S) e more (addI IntKind.i64 (subI IntKind.i64 (maxI (addI IntKind.i64 (subI IntKind.i64 y0_2 1) e) y0_3) (fp f : Int)) 1) fun y0_5 y1 => wide_Len y0_5 fun y0_6 => shape_Emax f fun y0_7 => br (ltI y0_7 (addI IntKind.i64 (subI IntKind.i64 y0_6 1) (addI IntKind.i64 (subI IntKind.i64 (maxI (addI IntKind.i64 (subI IntKind.i64 y0_2 1) e) y0_3) (fp f : Int)) 1))) (round_Over f m neg fun y0 y1 y2 y3 => K y0 y1 y2 y3) (br (!y1) (round_tiny f m neg (W S) e more (addI IntKind.i64 (subI IntKind.i64 y0_2 1) e) fun y0_8 => br y0_8 (wide_Of (cvI IntKind.u64 (subI IntKind.i64 (addI IntKind.i64 (subI IntKind.i64 (addI IntKind.i64 (subI IntKind.i64 (maxI (addI IntKind.i64 (subI IntKind.i64 y0_2 1) e) y0_3) (fp f : Int)) 1) y0_3) (fp f : Int)) 1)) fun y0_9 => wide_Left y0_9 (subI IntKind.i64 (fp f : Int) 1) fun y0 y1 => wide_Add y0 y0_5 fun y0 y1 => wide_ToBits y0 fun y0 y1 y2 => shape_Zero f neg fun y0_10 y1_1 => K (orI IntKind.u64 y0 y0_10) (orI IntKind.u64 y1 y1_1) 3 0) (wide_Of (cvI IntKind.u64 (subI IntKind.i64 (addI IntKind.i64 (subI IntKind.i64 (addI IntKind.i64 (subI IntKind.i64 (maxI (addI IntKind.i64 (subI IntKind.i64 y0_2 1) e) y0_3) (fp f : Int)) 1) y0_3) (fp f : Int)) 1)) fun y0_9 => wide_Left y0_9 (subI IntKind.i64 (fp f : Int) 1) fun y0 y1 => wide_Add y0 y0_5 fun y0 y1 => wide_ToBits y0 fun y0 y1 y2 => shape_Zero f neg fun y0_10 y1_1 => K (orI IntKind.u64 y0 y0_10) (orI IntKind.u64 y1 y1_1) 1 0)) (wide_Of (cvI IntKind.u64 (subI IntKind.i64 (addI IntKind.i64 (subI IntKind.i64 (addI IntKind.i64 (subI IntKind.i64 (maxI (addI IntKind.i64 (subI IntKind.i64 y0_2 1) e) y0_3) (fp f : Int)) 1) y0_3) (fp f : Int)) 1)) fun y0_8 => wide_Left y0_8 (subI IntKind.i64 (fp f : Int) 1) fun y0 y1 => wide_Add y0 y0_5 fun y0 y1 => wide_ToBits y0 fun y0 y1 y2 => shape_Zero f neg fun y0_9 y1_1 => K (orI IntKind.u64 y0 y0_9) (orI IntKind.u64 y1 y1_1) 0 0)))) := by
    rw [eqN_zero S hS, br_f (by simpa using h0)]
    refine wide_Len_ok S hS _ ?_
    rw [shape_Emin_ok f h, shape_Emax_ok f h, sub_i64 (show -9223372036854775808 ≤ (blen S : Int) - 1 by omega) (by omega), add_i64 (show -9223372036854775808 ≤ (blen S : Int) - 1 + e by omega) (by omega)]
    generalize htop : (blen S : Int) - 1 + e = top at hK ⊢
    unfold dlv at hK
    by_cases h1 : (fe f : Int) < top
    · rw [br_t (lt_t h1)]; rw [if_pos h1] at hK
      exact round_Over_ok f m neg h hm _ hK
    rw [br_f (lt_f (by omega))]; rw [if_neg h1] at hK
    have hp := pl_range h top (by omega)
    have hat : addI .i64 (subI .i64 (maxI top (1 - (fe f : Int))) (fp f : Int)) 1 = pl f top := by
      have e0 : maxI top (1 - (fe f : Int)) = if top < 1 - fe f then 1 - (fe f : Int) else top := maxI_eq _ _
      rw [e0]; unfold pl
      have hh : -2000000 ≤ (if top < 1 - (fe f : Int) then 1 - (fe f : Int) else top) ∧ (if top < 1 - (fe f : Int) then 1 - (fe f : Int) else top) ≤ 2000000 := by split <;> omega
      rw [sub_i64 (by omega) (by omega), add_i64 (by omega) (by omega)]
    rw [hat]
    have hge : top - fp f + 1 ≤ pl f top := by unfold pl; split <;> omega
    have hl := FS_lt (S := S) (e := e) (at_ := pl f top) (more := more) (p := fp f) (by omega)
    refine round_grid_ok m hm neg h0 hS (by omega) (by omega) more (fun hh => by have := hmo hh; omega) (by omega) _ ?_
    have htk := tk_le (FS S e more) m neg (pl f top)
    generalize hn : tk (FS S e more) m neg (pl f top) = n at hK htk ⊢
    have hnQ : n < Q6 := by omega
    refine wide_Len_ok n hnQ _ ?_
    have hbn := blen_Q6 hnQ
    rw [shape_Emax_ok f h, sub_i64 (by omega) (by omega), add_i64 (by omega) (by omega)]
    by_cases h2 : (fe f : Int) < (blen n : Int) - 1 + pl f top
    · rw [br_t (lt_t h2)]; rw [if_pos h2] at hK
      exact round_Over_ok f m neg h hm _ hK
    rw [br_f (lt_f (by omega))]; rw [if_neg h2] at hK
    have hbd := body_dlv h (show top ≤ fe f by omega) (show n ≤ 2 ^ fp f by omega) (by omega)
    have fin_ : ∀ fl : Int, K (Hi (encA f neg (pl f top) n)) (Lo (encA f neg (pl f top) n)) fl 0 → wide_Of (cvI IntKind.u64 (subI IntKind.i64 (addI IntKind.i64 (subI IntKind.i64 (pl f top) (1 - (fe f : Int))) (fp f : Int)) 1)) fun y0_8 => wide_Left y0_8 (subI IntKind.i64 (fp f : Int) 1) fun y0 y1 => wide_Add y0 (W n) fun y0 y1 => wide_ToBits y0 fun y0 y1 y2 => shape_Zero f neg fun y0_9 y1_1 => K (orI IntKind.u64 y0 y0_9) (orI IntKind.u64 y1 y1_1) fl 0 := by
      intro fl hfl
      unfold encA at hfl
      generalize hqv : (pl f top + fe f + fp f - 2).toNat = q at hbd hfl
      have hq : (q : Int) = pl f top + fe f + fp f - 2 := by omega
      have e1 : cvI IntKind.u64 (subI IntKind.i64 (addI IntKind.i64 (subI IntKind.i64 (pl f top) (1 - (fe f : Int))) (fp f : Int)) 1) = (q : Int) := by
        rw [sub_i64 (show -9223372036854775808 ≤ pl f top - (1 - (fe f : Int)) by omega) (by omega), add_i64 (by omega) (by omega), sub_i64 (by omega) (by omega), show pl f top - (1 - (fe f : Int)) + (fp f : Int) - 1 = (q : Int) from by omega, cv_u64 (by omega) (by omega)]
      have hm1 : q * 2 ^ (fp f - 1) + n < 2 ^ (fw f - 1) := by
        rw [fw_eq f h]; exact Nat.lt_of_lt_of_le hbd (Nat.mul_le_mul_right _ (by omega))
      have hm2 : q * 2 ^ (fp f - 1) + n < 2 ^ 128 := p128 (by omega) hm1
      have hm3 : q * 2 ^ (fp f - 1) + n < Q6 := p384 (a := 128) (by omega) hm2
      rw [e1, wide_Of_ok q (by omega), fp_m1 f h]
      refine wide_Left_val q (fp f - 1) (p384 (a := 64) (by omega) (by omega)) (by omega) _ fun bb => ?_
      rw [Nat.mod_eq_of_lt (by omega)]
      refine wide_Add_ok _ _ (by omega) hnQ _ ?_
      rw [Nat.mod_eq_of_lt hm3, wide_ToBits_ok _ hm2, shape_Zero_ok f h]
      have e2 : enc f neg 0 0 = sg f neg := by unfold enc; omega
      have e3 : (q * 2 ^ (fp f - 1) + n) ||| sg f neg = sg f neg + (q * 2 ^ (fp f - 1) + n) := by
        cases neg with
        | false => show _ ||| 0 = 0 + _; rw [Nat.or_zero, Nat.zero_add]
        | true => show _ ||| 2 ^ (fw f - 1) = 2 ^ (fw f - 1) + _; rw [or_pow _ _ hm1, Nat.add_comm]
      rw [e2, (or_two _ _ hm2 (sg_lt f h neg)).1, (or_two _ _ hm2 (sg_lt f h neg)).2, e3]
      exact hfl
    cases hex : (FS S e more (pl f top)).2 with
    | true =>
      rw [br_f (show (!true) = false from rfl)]
      rw [hex, if_pos rfl] at hK
      exact fin_ 0 hK
    | false =>
      rw [br_t (show (!false) = true from rfl)]
      rw [hex, if_neg (by decide)] at hK
      rw [← htop] at hK ⊢
      refine round_tiny_ok f m h hm neg h0 hS b1 more hmo _ ?_
      cases htn : tinyF f m neg (FS S e more) ((blen S : Int) - 1 + e) with
      | true =>
        rw [htn, if_pos rfl, htop] at hK
        rw [br_t rfl, htop]
        exact fin_ 3 hK
      | false =>
        rw [htn, if_neg (by decide), htop] at hK
        rw [br_f rfl, htop]
        exact fin_ 1 hK
  rw [round_Pack.is]; unfold round_Pack.d
  rw [shape_Precision_ok f h, round_right_ok f m h hm, br_f (show (!true) = false from rfl), br_f (lt_f (by omega)), br_f (lt_f (by omega))]
  cases more with
  | false => exact key
  | true =>
    have := hmo rfl
    rw [br_t rfl]
    refine wide_Len_ok S hS _ ?_
    rw [add_i64 (by omega) (by omega), br_f (lt_f (by omega))]
    exact key
end Go.Ev.S

/- Exact numbers: made, signs, products, places, sums. -/
set_option linter.unusedVariables false
set_option linter.unusedSimpArgs false
set_option maxRecDepth 8000
namespace Go.Ev.S
open Go Go.Ev
abbrev K5 := Bool → List UInt8 → List UInt8 → Int → Int → Prop
def One5 (T : K5 → Prop) : Prop := ∃ n x y e f, ∀ K : K5, T K = K n x y e f
theorem One5.k (n : Bool) (x y : List UInt8) (e f : Int) : One5 fun K => K n x y e f := ⟨n, x, y, e, f, fun _ => rfl⟩
end Go.Ev.S

/- Exact numbers as rational ones: bounds, sums, products, whole parts. -/
set_option linter.unusedVariables false
set_option linter.unusedSimpArgs false
set_option maxRecDepth 8000
namespace Go.Ev.S
open Go Go.Ev
structure Bd (P E : Nat) (a b : Nat) (e : Int) : Prop where
  a : a < 2 ^ P
  b : b < 2 ^ P
  l : -(E : Int) ≤ e
  u : e ≤ E
theorem Bd.mono {P E P' E' : Nat} {a b : Nat} {e : Int} (h : Bd P E a b e) (hP : P ≤ P') (hE : E ≤ E') : Bd P' E' a b e :=
  ⟨Nat.lt_of_lt_of_le h.a (Nat.pow_le_pow_right (by omega) hP), Nat.lt_of_lt_of_le h.b (Nat.pow_le_pow_right (by omega) hP), by have := h.l; omega, by have := h.u; omega⟩
theorem fit_bits {x P : Nat} (h : x < 2 ^ P) (hP : P ≤ 131072) : fit x := by
  rw [fit_bl]; have := (blen_le x P).2 h; omega
section
variable {n1 n2 : Bool} {a1 b1 a2 b2 : Nat} {e1 e2 : Int} {P1 E1 P2 E2 : Nat}
end
theorem le_mul_iff {x y d : Rat} (hd : 0 < d) : x * d ≤ y * d ↔ x ≤ y := by
  have h := mul_lt_iff (x := y) (y := x) hd
  constructor
  · intro hh; apply Classical.byContradiction; intro hc
    have := h.2 (by grind); grind
  · intro hh; exact Rat.mul_le_mul_of_nonneg_right hh (by grind)
theorem eq_mul_iff {x y d : Rat} (hd : 0 < d) : x * d = y * d ↔ x = y := by
  constructor
  · intro hh
    have h1 := (le_mul_iff (x := x) (y := y) hd).1 (by grind)
    have h2 := (le_mul_iff (x := y) (y := x) hd).1 (by grind)
    grind
  · intro hh; rw [hh]
structure Flr (X : Rat) (n : Int) (m : Nat) (is : Bool) : Prop where
  le : (m : Rat) * p2 n ≤ X
  lt : X < ((m + 1 : Nat) : Rat) * p2 n
  eq : is = true ↔ (m : Rat) * p2 n = X
theorem flr_of {X : Rat} {N D : Nat} {n : Int} (hD : D ≠ 0) (h : X * D = N * p2 n) : Flr X n (N / D) (decide (N % D = 0)) := by
  have hd := cast_pos hD
  have hp := p2_pos n
  have hdm := Nat.div_add_mod N D
  have hml := Nat.mod_lt N (Nat.pos_of_ne_zero hD)
  have e1 : ∀ m : Nat, (m : Rat) * p2 n * D = ((m * D : Nat) : Rat) * p2 n := by intro m; rw [Rat.natCast_mul]; grind
  refine ⟨?_, ?_, ?_⟩
  · rw [← le_mul_iff hd, h, e1, le_mul_iff hp, Rat.natCast_le_natCast]
    exact Nat.div_mul_le_self N D
  · rw [← mul_lt_iff hd, h, e1, mul_lt_iff hp, Rat.natCast_lt_natCast, Nat.add_mul, Nat.mul_comm]
    omega
  · rw [decide_eq_true_iff, ← eq_mul_iff hd, h, e1, eq_mul_iff hp, Rat.natCast_inj, Nat.mul_comm]
    omega
theorem V_at (a b : Nat) (e n : Int) (hb : b ≠ 0) (hn : n ≤ e) : V false a b e * (b : Rat) = ((a * 2 ^ (e - n).toNat : Nat) : Rat) * p2 n := by
  rw [V_mul false a b e hb, show sR false = 1 from rfl, Rat.natCast_mul, ← p2_nat]
  have : p2 ((e - n).toNat : Int) * p2 n = p2 e := by rw [← p2_add]; congr 1; omega
  grind
theorem V_at' (a b : Nat) (e n : Int) (hb : b ≠ 0) (hn : e ≤ n) : V false a b e * ((b * 2 ^ (n - e).toNat : Nat) : Rat) = (a : Rat) * p2 n := by
  have h := V_mul false a b e hb
  rw [show sR false = 1 from rfl] at h
  rw [Rat.natCast_mul, ← p2_nat]
  have : p2 ((n - e).toNat : Int) * p2 e = p2 n := by rw [← p2_add]; congr 1; omega
  grind
theorem floE_V {s : Bool} {a b : Nat} {e n : Int} (c : Can s a b e) (ha : a ≠ 0) (h1 : -2097152 ≤ n) (h2 : n ≤ 2097152) (hf : n ≤ e → fit (a * 2 ^ (e - n).toNat)) (K : List UInt8 → Bool → Int → Prop)
    (h : ∀ m is, Flr (V false a b e) n m is → (n ≤ e → m ≤ a * 2 ^ (e - n).toNat) → (e < n → m ≤ a) → K (nb m) is 0) : floE a b e n K := by
  unfold floE
  rw [if_neg (by omega), if_neg ha]
  by_cases hn : n ≤ e
  · rw [if_pos hn, if_pos (hf hn)]
    exact h _ _ (flr_of c.b0 (V_at a b e n c.b0 hn)) (fun _ => Nat.div_le_self _ _) (fun _ => by omega)
  · rw [if_neg hn]
    have hB : b * 2 ^ (n - e).toNat ≠ 0 := Nat.mul_ne_zero c.b0 (Nat.pos_iff_ne_zero.1 (Nat.two_pow_pos _))
    have fl := flr_of hB (V_at' a b e n c.b0 (by omega))
    by_cases ht : tp a b + e < n
    · rw [if_pos ht]
      have hlt : a < b * 2 ^ (n - e).toNat := by
        have hs := tp_spec ha c.b0
        by_cases h0 : 0 ≤ tp a b
        · refine Nat.lt_of_lt_of_le (hs.1 h0).2 (Nat.mul_le_mul_left _ (Nat.pow_le_pow_right (by omega) (by omega)))
        · have h3 := (hs.2 (by omega)).2
          have h4 : a * 1 ≤ a * 2 ^ ((-tp a b).toNat - 1) := Nat.mul_le_mul_left _ (Nat.two_pow_pos _)
          have h5 : b * 1 ≤ b * 2 ^ (n - e).toNat := Nat.mul_le_mul_left _ (Nat.two_pow_pos _)
          omega
      rw [Nat.div_eq_of_lt hlt, Nat.mod_eq_of_lt hlt, show decide (a = 0) = false from by simpa using ha] at fl
      have := h 0 false fl (fun _ => by omega) (fun _ => by omega)
      rwa [nb_zero] at this
    · rw [if_neg ht]
      exact h _ _ fl (fun _ => by omega) (fun _ => Nat.div_le_self _ _)
theorem scale_le {a b x y : Rat} (hx : 0 < x) (h : x * y = 1) (hh : b ≤ a * y) : x * b ≤ a := by
  have h1 := Rat.mul_le_mul_of_nonneg_right hh (show 0 ≤ x by grind)
  have h2 : a * y * x = a := by rw [show a * y * x = a * (x * y) from by grind, h]; grind
  grind
theorem scale_lt {a b x y : Rat} (hx : 0 < x) (h : x * y = 1) (hh : a * y < b) : a < x * b := by
  have h1 := Rat.mul_lt_mul_of_pos_right hh hx
  have h2 : a * y * x = a := by rw [show a * y * x = a * (x * y) from by grind, h]; grind
  grind
theorem tp_V {a b : Nat} (e : Int) (ha : a ≠ 0) (hb : b ≠ 0) : p2 (tp a b + e) ≤ V false a b e ∧ V false a b e < p2 (tp a b + e + 1) := by
  have hs := tp_spec ha hb
  have hd := cast_pos hb
  have hv := V_mul false a b e hb
  rw [show sR false = 1 from rfl] at hv
  have hp := p2_pos e
  have key : p2 (tp a b) * (b : Rat) ≤ a ∧ (a : Rat) < p2 (tp a b + 1) * b := by
    by_cases h0 : 0 ≤ tp a b
    · obtain ⟨h1, h2⟩ := hs.1 h0
      have e1 : p2 (tp a b) = ((2 ^ (tp a b).toNat : Nat) : Rat) := by rw [← p2_nat]; congr 1; omega
      have e2 : p2 (tp a b + 1) = ((2 ^ ((tp a b).toNat + 1) : Nat) : Rat) := by rw [← p2_nat]; congr 1; omega
      rw [e1, e2, ← Rat.natCast_mul, ← Rat.natCast_mul, Rat.natCast_le_natCast, Rat.natCast_lt_natCast, Nat.mul_comm, Nat.mul_comm _ b]
      exact ⟨h1, h2⟩
    · obtain ⟨h1, h2⟩ := hs.2 (by omega)
      have q1 : p2 (tp a b) * ((2 ^ (-tp a b).toNat : Nat) : Rat) = 1 := by rw [← p2_nat, ← p2_add, show tp a b + ((-tp a b).toNat : Int) = 0 from by omega, p2_zero]
      have q2 : p2 (tp a b + 1) * ((2 ^ ((-tp a b).toNat - 1) : Nat) : Rat) = 1 := by rw [← p2_nat, ← p2_add, show tp a b + 1 + (((-tp a b).toNat - 1 : Nat) : Int) = 0 from by omega, p2_zero]
      have r1 := Rat.natCast_le_natCast.2 h1
      have r2 := Rat.natCast_lt_natCast.2 h2
      rw [Rat.natCast_mul] at r1 r2
      have s1 := p2_pos (tp a b)
      have s2 := p2_pos (tp a b + 1)
      exact ⟨scale_le s1 q1 r1, scale_lt s2 q2 r2⟩
  constructor
  · rw [← le_mul_iff hd, hv, p2_add]
    have := Rat.mul_le_mul_of_nonneg_right key.1 (show 0 ≤ p2 e by grind)
    grind
  · rw [← mul_lt_iff hd, hv, show tp a b + e + 1 = (tp a b + 1) + e from by omega, p2_add]
    have := Rat.mul_lt_mul_of_pos_right key.2 hp
    grind
end Go.Ev.S

/- Doubling does not change what is delivered. -/
set_option linter.unusedVariables false
set_option linter.unusedSimpArgs false
set_option maxRecDepth 8000
namespace Go.Ev.S
open Go Go.Ev
theorem dlv_any (f m : Nat) (n : Bool) (F : Int → Nat × Bool) (top : Int) : ∃ x y z w, ∀ K : Int → Int → Int → Int → Prop, dlv f m n F top K ↔ K x y z w := by
  unfold dlv
  by_cases h1 : (fe f : Int) < top
  · simp only [if_pos h1]; exact ⟨_, _, _, _, fun K => Iff.rfl⟩
  · simp only [if_neg h1]
    by_cases h2 : (fe f : Int) < (blen (tk F m n (pl f top)) : Int) - 1 + pl f top
    · simp only [if_pos h2]; exact ⟨_, _, _, _, fun K => Iff.rfl⟩
    · simp only [if_neg h2]; exact ⟨_, _, _, _, fun K => Iff.rfl⟩
theorem round_Pack_zero (f m : Nat) (h : f ≤ 3) (hm : m ≤ 4) (neg : Bool) {e : Int} (b1 : -1048576 ≤ e ∧ e ≤ 1048576) (K : Int → Int → Int → Int → Prop) (hK : K (Hi (enc f neg 0 0)) (Lo (enc f neg 0 0)) 0 0) : round_Pack f m neg (W 0) e false K := by
  rw [round_Pack.is]; unfold round_Pack.d
  rw [shape_Precision_ok f h, round_right_ok f m h hm, br_f (show (!true) = false from rfl), br_f (lt_f (by omega)), br_f (lt_f (by omega)), br_f rfl, eqN_zero 0 (by exact p384 (a := 1) (by omega) (by decide)), br_t (by rfl), shape_Zero_ok f h]
  exact hK
theorem round_Pack_no (f m : Nat) (hf : f < 256) (hb : 3 < f ∨ 4 < m) (neg : Bool) (s : Nat → Int) (e : Int) (more : Bool) (K : Int → Int → Int → Int → Prop) (hK : K 0 0 0 2) : round_Pack f m neg s e more K := by
  have hp : ∃ p, ∀ Q : Int → Prop, shape_Precision f Q = Q p := by
    by_cases h : f ≤ 3
    · exact ⟨_, shape_Precision_ok f h⟩
    · exact ⟨_, shape_Precision_no f (by omega) hf⟩
  obtain ⟨p, hp⟩ := hp
  rw [round_Pack.is]; unfold round_Pack.d
  rw [hp, round_right_no f m hb, br_t (show (!false) = true from rfl)]
  exact hK
end Go.Ev.S

/- Rounding as the document has it. -/
set_option linter.unusedVariables false
set_option linter.unusedSimpArgs false
set_option maxRecDepth 8000
namespace Go.Ev.S
open Go Go.Ev
structure FF (F : Int → Nat × Bool) (p : Nat) (top : Int) : Prop where
  lt : ∀ at_, top - p + 1 ≤ at_ → (F at_).1 < 2 ^ p
  ge : 2 ^ (p - 1) ≤ (F (top - p + 1)).1
  ex : ∀ at_, (F at_).2 = true → (F at_).1 ≠ 0
  half : ∀ at_, (F (at_ + 1)).1 = (F at_).1 / 2
theorem mk_can (n : Bool) {t : Nat} (h0 : t ≠ 0) {P : Nat} (ht : t < 2 ^ P) (hP : P = 200) {at_ : Int} (hr : -100000 ≤ at_ ∧ at_ ≤ 100000) (K : Bool → List UInt8 → List UInt8 → Int → Int → Prop)
    (hK : ∀ a e, Can n a 1 e → a ≠ 0 → t = a * 2 ^ (e - at_).toNat → at_ ≤ e → e ≤ at_ + 200 → K n (nb a) [1] e 0) : mkE n t 1 at_ K := by
  unfold mkE
  have hl := lowb_lt t P h0 ht
  have o1 : odp 1 = 1 := by unfold odp; rw [show lowb 1 = 0 from lowb_of 0 0]
  have hB : rdB t 1 = 1 := by unfold rdB; rw [o1, Nat.gcd_one_right]
  have hA : rdA t 1 = odp t := by unfold rdA; rw [o1, Nat.gcd_one_right, Nat.div_one]
  have hE : rdE t 1 at_ = at_ + lowb t := by unfold rdE; rw [show lowb 1 = 0 from lowb_of 0 0]; omega
  rw [if_neg h0, hA, hB, hE, if_pos (by unfold win; omega), nb_one]
  have ho := odp_spec h0
  have hne := odp_ne h0
  have hfit : fit t := fit_bits ht (by omega)
  refine hK _ _ ⟨fit_div hfit _, fit_one, rfl, by unfold win; omega, fun hh => absurd hh hne, fun _ => ⟨ho.2, Nat.gcd_one_right _⟩⟩ hne ?_ (by omega) (by omega)
  rw [show (at_ + (lowb t : Int) - at_).toNat = lowb t from by omega, Nat.mul_comm]; exact ho.1
theorem of_val {f : Nat} (h : f ≤ 3) {n : Bool} {a t : Nat} {e at_ : Int} (c : Can n a 1 e) (h0 : a ≠ 0) (ht : t = a * 2 ^ (e - at_).toNat) (hle : at_ ≤ e) (h1 : t ≤ 2 ^ fp f)
    (hat : 2 - (fe f : Int) - fp f ≤ at_) (hs : at_ = 2 - (fe f : Int) - fp f ∨ 2 ^ (fp f - 1) ≤ t) (K : Int → Int → Bool → Prop)
    (hK : if (fe f : Int) < (blen t : Int) - 1 + at_ then K 0 0 false else K (Hi (encA f n at_ t)) (Lo (encA f n at_ t)) true) : ofE f n a 1 e K := by
  obtain ⟨w1, w2, w3, w4, w5, w6⟩ := fw_le f h
  obtain ⟨k, hk⟩ : ∃ k : Nat, (k : Int) = e - at_ := ⟨(e - at_).toNat, by omega⟩
  rw [show (e - at_).toNat = k from by omega] at ht
  have hb : blen t = blen a + k := by rw [ht, blen_mul _ _ h0]
  have htp : tp a 1 + e = (blen t : Int) - 1 + at_ := by rw [tp_one h0, hb]; omega
  unfold ofE
  rw [if_neg h0, htp]
  by_cases hf : (fe f : Int) < (blen t : Int) - 1 + at_
  · rw [if_pos (.inr (.inl hf))]; rw [if_pos hf] at hK; exact hK
  rw [if_neg hf] at hK
  by_cases hp : t < 2 ^ fp f
  · have hbl := (blen_le t (fp f)).2 hp
    have hpl : pl f ((blen t : Int) - 1 + at_) = at_ := by
      unfold pl
      rcases hs with hs | hs
      · split <;> omega
      · have hb2 : ¬ blen t ≤ fp f - 1 := by rw [blen_le]; omega
        rw [if_neg (by omega)]; omega
    rw [hpl, if_neg (by omega), show (e - at_).toNat = k from by omega, ← ht]
    exact hK
  · have hte : t = 2 ^ fp f := by omega
    have hb2 : blen t = fp f + 1 := by
      have h3 : ¬ blen t ≤ fp f := by rw [blen_le]; omega
      have h4 : blen t ≤ fp f + 1 := by rw [blen_le, hte]; exact Nat.pow_lt_pow_right (by omega) (by omega)
      omega
    have hpl : pl f ((blen t : Int) - 1 + at_) = at_ + 1 := by
      unfold pl; rw [if_neg (by omega)]; omega
    have hk1 : 1 ≤ k := by
      apply Classical.byContradiction; intro hn
      have hk0 : k = 0 := by omega
      rw [hk0, Nat.pow_zero, Nat.mul_one] at ht
      have ho := (c.r h0).1
      have : t % 2 = 0 := by
        rw [hte]
        obtain ⟨q, hq⟩ : ∃ q, fp f = q + 1 := ⟨fp f - 1, by omega⟩
        rw [hq, Nat.pow_succ]; omega
      omega
    rw [hpl, if_neg (by omega), show (e - (at_ + 1)).toNat = k - 1 from by omega]
    have e2 : 2 ^ fp f = 2 ^ (fp f - 1) + 2 ^ (fp f - 1) := by rcases four h with rfl | rfl | rfl | rfl <;> decide
    have hw : a * 2 ^ (k - 1) = 2 ^ (fp f - 1) := by
      have : a * 2 ^ k = a * 2 ^ (k - 1) * 2 := by rw [Nat.mul_assoc, ← Nat.pow_succ, show (k - 1).succ = k from by omega]
      omega
    have he : encA f n (at_ + 1) (a * 2 ^ (k - 1)) = encA f n at_ t := by
      unfold encA
      rw [hw, hte, e2, show (at_ + 1 + (fe f : Int) + fp f - 2).toNat = (at_ + (fe f : Int) + fp f - 2).toNat + 1 from by omega, Nat.add_mul]
      omega
    rw [he]; exact hK
theorem r09_last_ok (x : Nat) (hf : fit x) (K : Bool → Prop) (h : K (decide (x % 2 = 1))) : r09_last (nb x) K := by
  have hl := fit_len hf
  have hv : val (nb x) = x := val_nb x
  rw [← hv] at h
  generalize nb x = a at h hl
  rw [r09_last.is]; unfold r09_last.d
  rw [eqS_nil]
  by_cases h0 : a = []
  · subst h0
    rw [br_f (by rfl)]; exact h
  · have hp : 0 < a.length := List.length_pos_iff.2 h0
    rw [br_t (by simp [h0]), sub_i64 (by omega) (by omega), le_t (by omega), lt_t (by omega), gd_t (by rfl), show Int.toNat ((a.length : Int) - 1) = a.length - 1 from by omega, odd_byte a h0]
    exact h
theorem r09_up_ok (m : Nat) (hm : m ≤ 4) (n : Bool) {x : Nat} (hf : fit x) (at_ hh : Int) (e : Bool) (K : Bool → Prop) (hK : K (upB m n (decide (x % 2 = 1)) hh e)) : r09_up m n (nb x) at_ hh e K := by
  rw [r09_up.is]; unfold r09_up.d
  unfold upB at hK
  cases e with
  | true => exact hK
  | false =>
    rw [br_f rfl]
    rcases five hm with rfl | rfl | rfl | rfl | rfl
    · show br (ltI 0 hh) (K true) (br (eqI hh 0) (r09_last (nb x) fun y0 => K y0) (K false))
      have hK' : K (decide (0 < hh) || (decide (hh = 0) && decide (x % 2 = 1))) := hK
      by_cases h1 : 0 < hh
      · rw [br_t (lt_t h1)]; rw [decide_eq_true h1] at hK'; exact hK'
      · rw [br_f (lt_f (by omega))]; rw [decide_eq_false h1] at hK'
        by_cases h2 : hh = 0
        · rw [br_t (eq_t h2)]; rw [decide_eq_true h2] at hK'
          exact r09_last_ok x hf _ (by simpa using hK')
        · rw [br_f (eq_f h2)]; rw [decide_eq_false h2] at hK'; exact hK'
    · exact hK
    · exact hK
    · exact hK
    · exact hK
theorem r09_taken_ok (m : Nat) (hm : m ≤ 4) (n : Bool) {x : Nat} (hf : fit (x + 1)) (at_ hh : Int) (e : Bool) (K : List UInt8 → Prop) (hK : K (nb (x + cond (upB m n (decide (x % 2 = 1)) hh e) 1 0))) : r09_taken m n (nb x) at_ hh e K := by
  have hx : fit x := fit_le hf (by omega)
  rw [r09_taken.is]; unfold r09_taken.d
  refine r09_up_ok m hm n hx at_ hh e _ ?_
  cases hu : upB m n (decide (x % 2 = 1)) hh e with
  | false => rw [hu] at hK; rw [br_t (show (!false) = true from rfl)]; exact hK
  | true =>
    rw [hu] at hK
    rw [br_f (show (!true) = false from rfl), ← nb_one]
    exact r05_Add_n hx fit_one (tell_of (fun _ => hK) fun hh => absurd hf hh)
theorem fit_fp {f : Nat} (h : f ≤ 3) {x : Nat} (hx : x < 2 ^ fp f) : fit (x + 1) := fit_Q6 (by have := fp_Q6 h; omega)
section
variable {f m : Nat} {n root : Bool} {x y : List UInt8} {e top : Int} {F : Int → Nat × Bool}
def Finds (f : Nat) (n root : Bool) (x y : List UInt8) (e top : Int) (F : Int → Nat × Bool) : Prop :=
  ∀ at_ : Int, top - fp f + 1 ≤ at_ → at_ ≤ 20000 → ∀ K : List UInt8 → Int → Int → Bool → Prop, (∀ hh : Int, ((F at_).2 = false → hh = hf F at_) → K (nb (F at_).1) at_ hh (F at_).2) → r09_find n x y e root at_ K
theorem found_taken (h : f ≤ 3) (hm : m ≤ 4) (H : FF F (fp f) top) (hfd : Finds f n root x y e top F) {at_ : Int} (h1 : top - fp f + 1 ≤ at_) (h2 : at_ ≤ 20000) (K : List UInt8 → Int → Bool → Prop)
    (hK : K (nb (tk F m n at_)) at_ (F at_).2) : r09_find n x y e root at_ fun y0 y1 y2 y3 => r09_taken m n y0 y1 y2 y3 fun y0 => K y0 y1 y3 := by
  refine hfd at_ h1 h2 _ fun hh hq => ?_
  refine r09_taken_ok m hm n (fit_fp h (H.lt at_ h1)) _ _ _ _ ?_
  have : upB m n (decide ((F at_).1 % 2 = 1)) hh (F at_).2 = upB m n (decide ((F at_).1 % 2 = 1)) (hf F at_) (F at_).2 := by
    cases he : (F at_).2 with
    | true => rfl
    | false => rw [hq he]
  rw [this]; exact hK
theorem r09_tiny_ok (h : f ≤ 3) (hm : m ≤ 4) (H : FF F (fp f) top) (hfd : Finds f n root x y e top F) (htop : ∀ K : Int → Prop, K top → r09_top n x y e root K) (hr : -3000000 ≤ top ∧ top ≤ 3000000) (K : Bool → Prop)
    (hK : K (tinyF f m n F top)) : r09_tiny f m n x y e root K := by
  have w := fw_le f h
  rw [r09_tiny.is]; unfold r09_tiny.d
  refine htop _ ?_
  rw [r07_Emin_ok f h, sub_i64 (by omega) (by omega), r07_Precision_ok f h]
  unfold tinyF at hK
  by_cases h1 : 1 - (fe f : Int) ≤ top
  · rw [br_t (le_t h1)]
    rw [if_neg (by omega), decide_eq_false (by omega)] at hK; exact hK
  rw [br_f (le_f (by omega))]
  by_cases h2 : top < 1 - (fe f : Int) - 1
  · rw [br_t (lt_t h2)]
    rw [if_neg (by omega), decide_eq_true (by omega)] at hK; exact hK
  rw [br_f (lt_f (by omega)), sub_i64 (by omega) (by omega), add_i64 (by omega) (by omega)]
  rw [if_pos (by omega)] at hK
  refine found_taken h hm H hfd (Int.le_refl _) (by omega) (fun y0 _ _ => r05_Len y0 fun y0 => r07_Precision f fun y0_3 => K (leI y0 y0_3)) ?_
  have ht := tk_le F m n (top - fp f + 1)
  have hl := H.lt (top - fp f + 1) (Int.le_refl _)
  refine r05_Len_n (fit_le (fit_fp h hl) ht) ?_
  rw [r07_Precision_ok f h]
  have e1 : leI (blen (tk F m n (top - fp f + 1)) : Int) (fp f : Int) = decide (blen (tk F m n (top - fp f + 1)) ≤ fp f) := by
    unfold leI; rw [decide_eq_decide]; omega
  rw [e1]; exact hK
theorem FF.tk_facts (h : f ≤ 3) (m : Nat) (n : Bool) (H : FF F (fp f) top) : tk F m n (pl f top) ≤ 2 ^ fp f ∧ (pl f top = 2 - (fe f : Int) - fp f ∨ 2 ^ (fp f - 1) ≤ tk F m n (pl f top)) ∧ 2 - (fe f : Int) - fp f ≤ pl f top ∧ top - fp f + 1 ≤ pl f top := by
  have w := fw_le f h
  have hge : top - fp f + 1 ≤ pl f top := by unfold pl; split <;> omega
  have hl := H.lt (pl f top) hge
  have ht := tk_le F m n (pl f top)
  refine ⟨by omega, ?_, by unfold pl; split <;> omega, hge⟩
  by_cases hs : top < 1 - (fe f : Int)
  · left; unfold pl; rw [if_pos hs]; omega
  · right
    have hp : pl f top = top - fp f + 1 := by unfold pl; rw [if_neg hs]
    have := H.ge
    rw [← hp] at this
    unfold tk; omega
theorem FF.none (h : f ≤ 3) (m : Nat) (n : Bool) (H : FF F (fp f) top) (h0 : tk F m n (pl f top) = 0) : (F (pl f top)).2 = false ∧ tinyF f m n F top = true ∧ pl f top = 2 - (fe f : Int) - fp f := by
  have w := fw_le f h
  have hf1 := H.tk_facts h m n
  have hpos := Nat.two_pow_pos (fp f - 1)
  have hz : (F (pl f top)).1 = 0 := by unfold tk at h0; omega
  have hpl : pl f top = 2 - (fe f : Int) - fp f := by omega
  have hex : (F (pl f top)).2 = false := by
    cases he : (F (pl f top)).2 with
    | false => rfl
    | true => exact absurd hz (H.ex _ he)
  refine ⟨hex, ?_, hpl⟩
  have hge := H.ge
  have hp2 : 2 ≤ 2 ^ (fp f - 1) := by
    have := Nat.pow_le_pow_right (show 0 < 2 by omega) (show 1 ≤ fp f - 1 by omega); omega
  have n1 : top ≠ 1 - (fe f : Int) := by
    intro hh
    rw [show top - (fp f : Int) + 1 = pl f top from by omega, hz] at hge; omega
  have n2 : top ≠ -(fe f : Int) := by
    intro hh
    have h2 := H.half (pl f top - 1)
    rw [show pl f top - 1 + 1 = pl f top from by omega, hz] at h2
    rw [show top - (fp f : Int) + 1 = pl f top - 1 from by omega] at hge
    omega
  have n3 : top < 1 - (fe f : Int) := by
    apply Classical.byContradiction; intro hh
    have : pl f top = top - fp f + 1 := by unfold pl; rw [if_neg hh]
    omega
  unfold tinyF
  rw [if_neg n2, decide_eq_true (by omega)]
theorem r09_deliver_ok (h : f ≤ 3) (hm : m ≤ 4) (H : FF F (fp f) top) (hfd : Finds f n root x y e top F) (htop : ∀ K : Int → Prop, K top → r09_top n x y e root K) (hr : -3000000 ≤ top ∧ top ≤ 3000000) (K : Int → Int → Int → Prop)
    (hK : dlv f m n F top fun a b c _ => K a b c) : r09_deliver f m n x y e root K := by
  have w := fw_le f h
  have hf1 := H.tk_facts h m n
  rw [r09_deliver.is]; unfold r09_deliver.d
  refine htop _ ?_
  rw [r07_Precision_ok f h, r07_Emax_ok f h]
  unfold dlv at hK
  by_cases h1 : (fe f : Int) < top
  · rw [br_t (lt_t h1)]; rw [if_pos h1] at hK
    exact r09_Over_ok f m n h hm _ hK
  rw [br_f (lt_f (by omega)), r07_Emin_ok f h]
  rw [if_neg h1] at hK
  have hp := pl_range h top (by omega)
  have key : ∀ at_ : Int, at_ = pl f top → r09_find n x y e root at_ fun y0 y1 y2 y3 => r09_taken m n y0 y1 y2 y3 fun y0 => r06_Make n y0 [1] y1 fun y0 y1 y2 y3_1 y4 => br (eqS y1 []) (r07_Zero f n fun y0 y1 => K y0 y1 3) (r08_Of f y0 y1 y2 y3_1 fun y0 y1 y2 => br (!y2) (r09_Over f m n fun y0 y1 => K y0 y1 5) (br y3 (K y0 y1 0) (r09_tiny f m n x y e root fun y0_4 => br y0_4 (K y0 y1 3) (K y0 y1 1)))) := by
    intro at_ hat
    subst hat
    refine found_taken h hm H hfd hf1.2.2.2 (by omega) (fun y0 y1 y3 => r06_Make n y0 [1] y1 fun y0 y1 y2 y3_1 y4 => br (eqS y1 []) (r07_Zero f n fun y0 y1 => K y0 y1 3) (r08_Of f y0 y1 y2 y3_1 fun y0 y1 y2 => br (!y2) (r09_Over f m n fun y0 y1 => K y0 y1 5) (br y3 (K y0 y1 0) (r09_tiny f m n x y e root fun y0_4 => br y0_4 (K y0 y1 3) (K y0 y1 1))))) ?_
    have hfit : fit (tk F m n (pl f top)) := fit_le (fit_fp h (H.lt _ hf1.2.2.2)) (tk_le _ _ _ _)
    rw [← nb_one]
    refine r06_Make_n n hfit fit_one (by decide) (by unfold win; omega) ?_
    by_cases h0 : tk F m n (pl f top) = 0
    · unfold mkE
      rw [if_pos h0]
      have hn := H.none h m n h0
      show br (eqS [] []) _ _
      rw [br_t (show eqS [] [] = true from rfl)]
      refine r07_Zero_ok f h n _ ?_
      have hb0 : blen 0 = 0 := by decide
      rw [h0, hb0, if_neg (by omega), hn.1, if_neg (by decide), hn.2.1, if_pos rfl] at hK
      have he : encA f n (pl f top) 0 = enc f n 0 0 := by
        unfold encA enc; rw [show (pl f top + (fe f : Int) + fp f - 2).toNat = 0 from by omega, Nat.zero_mul, Nat.add_zero]
      rw [he] at hK; exact hK
    · obtain ⟨P, hP⟩ : ∃ P, P = 200 := ⟨_, rfl⟩
      have hlt : tk F m n (pl f top) < 2 ^ P := Nat.lt_of_le_of_lt hf1.1 (Nat.pow_lt_pow_right (by omega) (by omega))
      refine mk_can n h0 hlt hP (by omega) _ fun a g c ha hta hag hg => ?_
      rw [eqS_nb, br_f (by simpa using ha), ← nb_one]
      refine r08_Of_ok f h c _ ?_
      refine of_val h c ha hta hag hf1.1 hf1.2.2.1 hf1.2.1 _ ?_
      by_cases h2 : (fe f : Int) < (blen (tk F m n (pl f top)) : Int) - 1 + pl f top
      · rw [if_pos h2] at hK ⊢
        rw [br_t (show (!false) = true from rfl)]
        exact r09_Over_ok f m n h hm _ hK
      · rw [if_neg h2] at hK ⊢
        rw [br_f (show (!true) = false from rfl)]
        cases hx : (F (pl f top)).2 with
        | true => rw [hx, if_pos rfl] at hK; exact hK
        | false =>
          rw [hx, if_neg (by decide)] at hK
          rw [br_f rfl]
          refine r09_tiny_ok h hm H hfd htop hr _ ?_
          cases ht : tinyF f m n F top with
          | true => rw [ht, if_pos rfl] at hK; exact hK
          | false => rw [ht, if_neg (by decide)] at hK; exact hK
  by_cases hs : top < 1 - (fe f : Int)
  · rw [br_t (lt_t hs), r07_Emin_ok f h]
    exact key _ (by rw [sub_i64 (by omega) (by omega), add_i64 (by omega) (by omega)]; unfold pl; rw [if_pos hs])
  · rw [br_f (lt_f (by omega))]
    exact key _ (by rw [sub_i64 (by omega) (by omega), add_i64 (by omega) (by omega)]; unfold pl; rw [if_neg hs])
end
end Go.Ev.S

/- Floor functions of exact numbers. -/
set_option linter.unusedVariables false
set_option linter.unusedSimpArgs false
set_option maxRecDepth 8000
namespace Go.Ev.S
open Go Go.Ev
theorem p2_lt {a b : Int} (h : a < b) : p2 a < p2 b := by
  obtain ⟨k, hk⟩ : ∃ k : Nat, b = a + ((k + 1 : Nat) : Int) := ⟨(b - a - 1).toNat, by omega⟩
  rw [hk, p2_add, p2_nat]
  have h1 := p2_pos a
  have h2 : (1 : Rat) < ((2 ^ (k + 1) : Nat) : Rat) := by
    have : (1 : Nat) < 2 ^ (k + 1) := Nat.one_lt_two_pow (by omega)
    exact Rat.natCast_lt_natCast.2 this
  have := Rat.mul_lt_mul_of_pos_right h2 h1
  grind
theorem p2_le {a b : Int} (h : a ≤ b) : p2 a ≤ p2 b := by
  rcases Int.lt_or_eq_of_le h with h | h
  · have := p2_lt h; grind
  · rw [h]; exact Rat.le_refl
theorem top_uniq {X : Rat} {s t : Int} (h1 : p2 s ≤ X) (h2 : X < p2 (s + 1)) (h3 : p2 t ≤ X) (h4 : X < p2 (t + 1)) : s = t := by
  apply Classical.byContradiction; intro hn
  rcases Int.lt_or_gt_of_ne hn with h | h
  · have := p2_le (show s + 1 ≤ t by omega); grind
  · have := p2_le (show t + 1 ≤ s by omega); grind
theorem flr_uniq {X : Rat} {at_ : Int} {m m' : Nat} {is is' : Bool} (h : Flr X at_ m is) (h' : Flr X at_ m' is') : m = m' ∧ is = is' := by
  have hp := p2_pos at_
  have h1 := h.le
  have h2 := h.lt
  have h3 := h'.le
  have h4 := h'.lt
  have l1 : m < m' + 1 := by
    rw [← Rat.natCast_lt_natCast, ← mul_lt_iff hp]; grind
  have l2 : m' < m + 1 := by
    rw [← Rat.natCast_lt_natCast, ← mul_lt_iff hp]; grind
  have e : m = m' := by omega
  subst e
  refine ⟨rfl, ?_⟩
  rw [Bool.eq_iff_iff, h.eq, h'.eq]
def FX (a b : Nat) (e at_ : Int) : Nat × Bool :=
  if at_ ≤ e then (a * 2 ^ (e - at_).toNat / b, decide (a * 2 ^ (e - at_).toNat % b = 0)) else (a / (b * 2 ^ (at_ - e).toNat), decide (a % (b * 2 ^ (at_ - e).toNat) = 0))
theorem FX_flr {a b : Nat} (e at_ : Int) (hb : b ≠ 0) : Flr (V false a b e) at_ (FX a b e at_).1 (FX a b e at_).2 := by
  unfold FX
  by_cases h : at_ ≤ e
  · rw [if_pos h]; exact flr_of hb (V_at a b e at_ hb h)
  · rw [if_neg h]
    have hB : b * 2 ^ (at_ - e).toNat ≠ 0 := Nat.mul_ne_zero hb (Nat.pos_iff_ne_zero.1 (Nat.two_pow_pos _))
    exact flr_of hB (V_at' a b e at_ hb (by omega))
theorem FX_same {a b a' b' : Nat} {e e' : Int} (hb : b ≠ 0) (hb' : b' ≠ 0) (h : V false a b e = V false a' b' e') : FX a b e = FX a' b' e' := by
  funext at_
  have h1 := FX_flr (a := a) e at_ hb
  have h2 := FX_flr (a := a') e' at_ hb'
  rw [h] at h1
  obtain ⟨e1, e2⟩ := flr_uniq h1 h2
  exact Prod.ext e1 e2
theorem FF_flr {X : Rat} {F : Int → Nat × Bool} {p : Nat} {top : Int} (hp : 1 ≤ p) (hF : ∀ at_, Flr X at_ (F at_).1 (F at_).2) (h1 : p2 top ≤ X) (h2 : X < p2 (top + 1)) : FF F p top := by
  have hX : 0 < X := by have := p2_pos top; grind
  refine ⟨fun at_ hat => ?_, ?_, fun at_ hat hz => ?_, fun at_ => ?_⟩
  · have hq := p2_pos at_
    have h3 := (hF at_).le
    have h4 := p2_le (show top + 1 ≤ (p : Int) + at_ by omega)
    rw [p2_add (p : Int), p2_nat] at h4
    generalize 2 ^ p = N at h4
    rw [← Rat.natCast_lt_natCast, ← mul_lt_iff hq]; grind
  · have hq := p2_pos (top - p + 1)
    have h3 := (hF (top - p + 1)).lt
    have h4 : p2 top = ((2 ^ (p - 1) : Nat) : Rat) * p2 (top - p + 1) := by rw [← p2_nat, ← p2_add]; congr 1; omega
    have : 2 ^ (p - 1) < (F (top - p + 1)).1 + 1 := by
      generalize 2 ^ (p - 1) = N at h4
      rw [← Rat.natCast_lt_natCast, ← mul_lt_iff hq]; grind
    omega
  · have h3 := (hF at_).eq.1 hat
    rw [hz] at h3
    have : ((0 : Nat) : Rat) = 0 := rfl
    grind
  · have hq := p2_pos at_
    have hq1 : p2 (at_ + 1) = 2 * p2 at_ := by rw [p2_add, p2_one]; grind
    have a1 := (hF at_).le
    have a2 := (hF at_).lt
    have b1 := (hF (at_ + 1)).le
    have b2 := (hF (at_ + 1)).lt
    rw [hq1] at b1 b2
    have e0 : ((2 : Nat) : Rat) = 2 := rfl
    generalize (F at_).1 = m at a1 a2 ⊢
    generalize (F (at_ + 1)).1 = k at b1 b2 ⊢
    have l1 : k * 2 < m + 1 := by
      rw [← Rat.natCast_lt_natCast, ← mul_lt_iff hq, Rat.natCast_mul, e0]
      grind
    have l2 : m < (k + 1) * 2 := by
      rw [← Rat.natCast_lt_natCast, ← mul_lt_iff hq, Rat.natCast_mul, e0]
      grind
    omega
theorem FX_FF {a b : Nat} {e : Int} {p : Nat} (hp : 1 ≤ p) (ha : a ≠ 0) (hb : b ≠ 0) : FF (FX a b e) p (tp a b + e) :=
  FF_flr hp (fun at_ => FX_flr e at_ hb) (tp_V e ha hb).1 (tp_V e ha hb).2
theorem tp_low (a b : Nat) : (blen a : Int) - blen b - 1 ≤ tp a b := by unfold tp; (repeat' split) <;> omega
theorem floE_FX {n : Bool} {a b : Nat} {e at_ : Int} (c : Can n a b e) (ha : a ≠ 0) (h1 : -2097152 ≤ at_) (h2 : at_ ≤ 2097152) (hb : blen b ≤ 66000) (hl : tp a b + e - 2000 ≤ at_) (K : List UInt8 → Bool → Int → Prop)
    (hK : K (nb (FX a b e at_).1) (FX a b e at_).2 0) : floE a b e at_ K := by
  refine floE_V c ha h1 h2 (fun hle => ?_) K fun m is fl _ _ => ?_
  · rw [blen_pow ha]
    have := tp_low a b
    omega
  · obtain ⟨e1, e2⟩ := flr_uniq fl (FX_flr (a := a) e at_ c.b0)
    rw [e1, e2]; exact hK
theorem blen_len {b : Nat} {N : Nat} (h : (nb b).length ≤ N) : blen b ≤ 8 * N := by
  have := (nb_len_le b N).1 h
  rw [p256] at this
  exact (blen_le _ _).2 this
theorem finds_FX {f : Nat} (h : f ≤ 3) {n : Bool} {a b : Nat} {e : Int} (c : Can n a b e) (ha : a ≠ 0) (hb : blen b ≤ 66000) : Finds f n false (nb a) (nb b) e (tp a b + e) (FX a b e) := by
  have w := fw_le f h
  have we := c.e64
  have hr := tp_range c.fa c.fb
  have H := FX_FF (e := e) (p := fp f) (by omega) ha c.b0
  intro at_ h1 h2 K hK
  rw [r09_find.is]; unfold r09_find.d
  rw [br_t (show (!false) = true from rfl)]
  refine r06_Floor_ok n c at_ (by omega) _ (floE_FX c ha (by omega) (by omega) hb (by omega) _ ?_)
  cases hx : (FX a b e at_).2 with
  | true => rw [hx] at hK; exact hK _ (fun hh => by cases hh)
  | false =>
    rw [hx] at hK
    rw [br_f rfl, sub_i64 (by omega) (by omega)]
    refine r06_Floor_ok n c _ (by omega) _ (floE_FX c ha (by omega) (by omega) hb (by omega) _ ?_)
    have hfit : fit (FX a b e (at_ - 1)).1 := by
      have h4 := H.half (at_ - 1)
      have h5 := H.lt at_ h1
      rw [show at_ - 1 + 1 = at_ from by omega] at h4
      have h6 : (FX a b e (at_ - 1)).1 < 2 ^ (fp f + 1) := by rw [Nat.pow_succ]; omega
      obtain ⟨P, hP⟩ : ∃ P, P = fp f + 1 := ⟨_, rfl⟩
      rw [← hP] at h6
      exact fit_bits h6 (by omega)
    refine r09_last_ok _ hfit _ ?_
    have hhf : hf (FX a b e) at_ = if (FX a b e (at_ - 1)).1 % 2 = 1 then (if (FX a b e (at_ - 1)).2 = true then 0 else 1) else -1 := rfl
    refine br_dec (fun ho => ?_) fun ho => ?_
    · rw [if_pos ho] at hhf
      cases hy : (FX a b e (at_ - 1)).2 with
      | true => rw [hy, if_pos rfl] at hhf; exact hK _ fun _ => hhf.symm
      | false => rw [hy, if_neg (by decide)] at hhf; exact hK _ fun _ => hhf.symm
    · rw [if_neg ho] at hhf; exact hK _ fun _ => hhf.symm
theorem r09_top_ok {n : Bool} {a b : Nat} {e : Int} (c : Can n a b e) (ha : a ≠ 0) (K : Int → Prop) (hK : K (tp a b + e)) : r09_top n (nb a) (nb b) e false K := by
  rw [r09_top.is]; unfold r09_top.d
  exact r06_Top_ok n c _ (fun hh => absurd hh ha) fun _ => hK
theorem dlv_zero {f m : Nat} {n : Bool} {F : Int → Nat × Bool} {top : Int} {K : Int → Int → Int → Int → Prop} (h : dlv f m n F top K) : dlv f m n F top fun a b c _ => K a b c 0 := by
  unfold dlv at *
  by_cases h1 : (fe f : Int) < top
  · rw [if_pos h1] at *; exact h
  · rw [if_neg h1] at *
    by_cases h2 : (fe f : Int) < (blen (tk F m n (pl f top)) : Int) - 1 + pl f top
    · rw [if_pos h2] at *; exact h
    · rw [if_neg h2] at *; exact h
theorem tk_congr {F F' : Int → Nat × Bool} {at_ : Int} (m : Nat) (n : Bool) (h1 : F at_ = F' at_) (h2 : F (at_ - 1) = F' (at_ - 1)) : tk F m n at_ = tk F' m n at_ := by
  unfold tk hf; rw [h1, h2]
theorem dlv_congr {f : Nat} {F F' : Int → Nat × Bool} {top : Int} (m : Nat) (n : Bool) (h : ∀ at_, top - fp f ≤ at_ → F at_ = F' at_) (K : Int → Int → Int → Int → Prop) : dlv f m n F top K ↔ dlv f m n F' top K := by
  have hge : top - fp f + 1 ≤ pl f top := by unfold pl; split <;> omega
  have e1 := tk_congr m n (h (pl f top) (by omega)) (h (pl f top - 1) (by omega))
  have e2 : tinyF f m n F top = tinyF f m n F' top := by
    unfold tinyF
    have := tk_congr m n (h (top - fp f + 1) (by omega)) (h (top - fp f + 1 - 1) (by omega))
    rw [this]
  unfold dlv
  rw [e1, e2, h (pl f top) (by omega)]
theorem dlv_deep {f : Nat} (h : f ≤ 3) {F F' : Int → Nat × Bool} {top top' : Int} (m : Nat) (n : Bool) (h1 : top < -(fe f : Int) - fp f - 5) (h2 : top' < -(fe f : Int) - fp f - 5)
    (hF : ∀ at_, top < at_ → F at_ = (0, false)) (hF' : ∀ at_, top' < at_ → F' at_ = (0, false)) (K : Int → Int → Int → Int → Prop) : dlv f m n F top K ↔ dlv f m n F' top' K := by
  have p1 : pl f top = 1 - (fe f : Int) - fp f + 1 := by unfold pl; rw [if_pos (by omega)]
  have p2 : pl f top' = 1 - (fe f : Int) - fp f + 1 := by unfold pl; rw [if_pos (by omega)]
  have t1 : tinyF f m n F top = true := by unfold tinyF; rw [if_neg (by omega)]; exact decide_eq_true (by omega)
  have t2 : tinyF f m n F' top' = true := by unfold tinyF; rw [if_neg (by omega)]; exact decide_eq_true (by omega)
  have e1 := tk_congr (F := F) (F' := F') (at_ := 1 - (fe f : Int) - fp f + 1) m n (by rw [hF _ (by omega), hF' _ (by omega)]) (by rw [hF _ (by omega), hF' _ (by omega)])
  unfold dlv
  rw [p1, p2, t1, t2, e1, hF _ (by omega), hF' _ (by omega), if_neg (show ¬ (fe f : Int) < top by omega), if_neg (show ¬ (fe f : Int) < top' by omega)]
theorem r07_RightMode_ok (m : Nat) (hm : m ≤ 4) (K : Bool → Prop) : r07_RightMode m K = K true := by
  rw [r07_RightMode.is]; unfold r07_RightMode.d; rw [le_t (by omega)]
theorem r07_RightMode_no (m : Nat) (hm : 4 < m) (K : Bool → Prop) : r07_RightMode m K = K false := by
  rw [r07_RightMode.is]; unfold r07_RightMode.d; rw [le_f (by omega)]
theorem r09_Round_ok {f m : Nat} (h : f ≤ 3) (hm : m ≤ 4) {n : Bool} {a b : Nat} {e : Int} (c : Can n a b e) (ha : a ≠ 0) (la : (nb a).length ≤ 8192) (lb : (nb b).length ≤ 8192) (K : Int → Int → Int → Int → Prop)
    (hK : dlv f m n (FX a b e) (tp a b + e) K) : r09_Round f m n (nb a) (nb b) e K := by
  have w := fw_le f h
  have we := c.e64
  have hr := tp_range c.fa c.fb
  have hb : blen b ≤ 66000 := by have := blen_len lb; omega
  rw [r09_Round.is]; unfold r09_Round.d
  rw [r09_Fault.is]; unfold r09_Fault.d
  rw [r07_Right_ok f h, br_f (show (!true) = false from rfl), r07_RightMode_ok m hm, br_f (show (!true) = false from rfl)]
  refine r06_May_ok _ _ _ _ _ (fun _ => ?_) fun g => absurd c.may g
  rw [br_f (show (!true) = false from rfl), br_f (lt_f (by omega)), br_f (lt_f (by omega))]
  show br (!eqI 0 0) _ _
  rw [br_f (show (!eqI 0 0) = false from rfl), eqS_nb, br_f (by simpa using ha)]
  exact r09_deliver_ok h hm (FX_FF (by omega) ha c.b0) (finds_FX h c ha hb) (fun K hK => r09_top_ok c ha K hK) (by omega) _ (dlv_zero hK)
end Go.Ev.S

/- The program's packing is the document's. -/
set_option linter.unusedVariables false
set_option linter.unusedSimpArgs false
set_option maxRecDepth 8000
namespace Go.Ev.S
open Go Go.Ev
theorem FS_FX (S : Nat) (e : Int) : FS S e false = FX S 1 e := by
  funext at_
  unfold FS FX
  by_cases h : at_ ≤ e
  · rw [if_pos h, if_pos h, Nat.div_one, Nat.mod_one]; rfl
  · rw [if_neg h, if_neg h, Nat.one_mul, Bool.not_false, Bool.and_true]
theorem FS_FXm (S : Nat) {e at_ : Int} (h : e < at_) : FS S e true at_ = FX (2 * S + 1) 2 e at_ := by
  unfold FS FX
  rw [if_neg (by omega), if_neg (by omega), Bool.not_true, Bool.and_false]
  refine Prod.ext ?_ ?_
  · show S / 2 ^ (at_ - e).toNat = (2 * S + 1) / (2 * 2 ^ (at_ - e).toNat)
    rw [← Nat.div_div_eq_div_mul, show (2 * S + 1) / 2 = S from by omega]
  · show false = decide ((2 * S + 1) % (2 * 2 ^ (at_ - e).toNat) = 0)
    symm
    rw [decide_eq_false_iff_not]
    intro hh
    have h1 := Nat.div_add_mod (2 * S + 1) (2 * 2 ^ (at_ - e).toNat)
    rw [hh, Nat.mul_assoc] at h1
    omega
theorem top_more {S : Nat} (h0 : S ≠ 0) : tp (2 * S + 1) 2 = (blen S : Int) - 1 := by
  have h1 := blen_ge h0
  have h2 := blen_pos h0
  have h3 := (blen_le S _).1 (Nat.le_refl _)
  have e2 : blen 2 = 2 := by decide
  have p1 : 2 ^ blen S = 2 ^ (blen S - 1) * 2 := by rw [← Nat.pow_succ]; congr 1; omega
  have p2 : 2 ^ (blen S + 1) = 2 ^ blen S * 2 := Nat.pow_succ ..
  have h4 : blen (2 * S + 1) ≤ blen S + 1 := by rw [blen_le]; omega
  have h5 : ¬ blen (2 * S + 1) ≤ blen S := by rw [blen_le]; omega
  have h6 : blen (2 * S + 1) = blen S + 1 := by omega
  unfold tp
  rw [h6, e2, if_pos (by omega), show blen S + 1 - 2 = blen S - 1 from by omega, if_pos (by omega)]; omega
theorem len_small {x P : Nat} (hP : P = 400) (h : x < 2 ^ P) : (nb x).length ≤ 8192 := by
  obtain ⟨N, hN⟩ : ∃ N, N = 50 := ⟨_, rfl⟩
  have : (nb x).length ≤ N := by rw [nb_len_le, p256, show 8 * N = P from by omega]; exact h
  omega
theorem mk_small (n : Bool) {A B P : Nat} (hA : A ≠ 0) (hB : B ≠ 0) (hP : P = 400) (lA : A < 2 ^ P) (lB : B < 2 ^ P) {e : Int} (he : -30000 ≤ e ∧ e ≤ 30000) (K : Bool → List UInt8 → List UInt8 → Int → Int → Prop)
    (hK : ∀ a b g, Can n a b g → a ≠ 0 → V false a b g = V false A B e → (nb a).length ≤ 8192 → (nb b).length ≤ 8192 → K n (nb a) (nb b) g 0) : mkE n A B e K := by
  obtain ⟨r1, r2, r3⟩ := rd_canon hA hB
  have l1 := lowb_lt A P hA lA
  have l2 := lowb_lt B P hB lB
  have w : win (rdE A B e) := by unfold win rdE; omega
  have q1 : rdA A B < 2 ^ P := Nat.lt_of_le_of_lt (Nat.le_trans (Nat.div_le_self _ _) (Nat.div_le_self _ _)) lA
  have q2 : rdB A B < 2 ^ P := Nat.lt_of_le_of_lt (Nat.le_trans (Nat.div_le_self _ _) (Nat.div_le_self _ _)) lB
  unfold mkE
  rw [if_neg hA, if_pos w]
  exact hK _ _ _ ⟨fit_bits q1 (by omega), fit_bits q2 (by omega), r2, w, fun hh => by omega, fun _ => ⟨r1, r3⟩⟩ (by omega) (V_rd false e hA hB) (len_small hP q1) (len_small hP q2)
theorem nb_two : nb 2 = [2] := by rw [nb_pos (by decide), show 2 / 256 = 0 from rfl, nb_zero]; decide
section
variable {f m : Nat} {n : Bool} {S : Nat} {e : Int} {more : Bool}
theorem r10_val (h : f ≤ 3) (hm : m ≤ 4) (h0 : S ≠ 0) (hS : S < Q6) (he : -20000 ≤ e ∧ e ≤ 20000) (hmo : more = true → fp f + 2 ≤ blen S) (K : Int → Int → Int → Int → Prop)
    (hK : dlv f m n (FS S e more) ((blen S : Int) - 1 + e) K) : r10_Value n (W S) e more fun y0 y1 y2 y3 y4 => r09_Round f m y0 y1 y2 y3 fun y0 y1 y2 y3 => K y0 y1 y2 y3 := by
  have w := fw_le f h
  obtain ⟨N, hN⟩ : ∃ N, N = 384 := ⟨_, rfl⟩
  obtain ⟨P, hP⟩ : ∃ P, P = 400 := ⟨_, rfl⟩
  have hQ := Q6_at hN
  have l1 : S < 2 ^ N := by omega
  have l2 : S * 2 + 1 < 2 ^ P := by
    have : 2 ^ (N + 1) ≤ 2 ^ P := Nat.pow_le_pow_right (by omega) (by omega)
    rw [Nat.pow_succ] at this; omega
  have lo : 2 < 2 ^ P := by
    have := Nat.pow_le_pow_right (show 0 < 2 by omega) (show 2 ≤ P by omega); omega
  rw [r10_Value.is]; unfold r10_Value.d
  refine r05_OfWide_ok S hS _ ?_
  cases more with
  | false =>
    rw [br_t (show (!false) = true from rfl), ← nb_one]
    refine r06_Make_n n (fit_Q6 hS) fit_one (by decide) (by unfold win; omega) ?_
    refine mk_small n h0 (by decide) hP (by omega) (by omega) (by omega) _ fun a b g c ha hv la lb => ?_
    refine r09_Round_ok h hm c ha la lb _ ?_
    have t1 := tp_V g ha c.b0
    have t2 := tp_V e h0 (show (1 : Nat) ≠ 0 by decide)
    rw [hv] at t1
    rw [FX_same c.b0 (by decide) hv, ← FS_FX, top_uniq t1.1 t1.2 t2.1 t2.2, tp_one h0]
    exact hK
  | true =>
    have hbl := hmo rfl
    rw [br_f (show (!true) = false from rfl)]
    have eT : 2 ^ (1 : Int).toNat = 2 := rfl
    refine r05_Left_n 1 (by omega) (by omega) (fit_Q6 hS) (tell_of (fun f1 => ?_) fun f1 => absurd (fit_bits (P := P) (by rw [eT]; omega) (by omega)) f1)
    rw [← nb_one]
    refine r05_Add_n f1 fit_one (tell_of (fun f2 => ?_) fun f2 => absurd (fit_bits (P := P) (by rw [eT]; omega) (by omega)) f2)
    rw [← nb_two]
    have e1 : S * 2 ^ (1 : Int).toNat + 1 = 2 * S + 1 := by rw [eT]; omega
    rw [e1] at f2 ⊢
    refine r06_Make_n n f2 (fit_bits (P := P) lo (by omega)) (by decide) (by unfold win; omega) ?_
    refine mk_small n (by omega) (by decide) hP (by omega) (by omega) (by omega) _ fun a b g c ha hv la lb => ?_
    refine r09_Round_ok h hm c ha la lb _ ?_
    have t1 := tp_V g ha c.b0
    have t2 := tp_V e (show 2 * S + 1 ≠ 0 by omega) (show (2 : Nat) ≠ 0 by decide)
    rw [hv] at t1
    rw [FX_same c.b0 (by decide) hv, top_uniq t1.1 t1.2 t2.1 t2.2, top_more h0]
    refine (dlv_congr m n (fun at_ hat => ?_) K).1 hK
    exact FS_FXm S (by omega)
theorem FS_deep (h0 : S ≠ 0) {at_ : Int} (hat : (blen S : Int) - 1 + e < at_) : FS S e more at_ = (0, false) := by
  have h1 := blen_pos h0
  have h2 := (blen_le S _).1 (Nat.le_refl _)
  unfold FS
  have h3 : S < 2 ^ (at_ - e).toNat := Nat.lt_of_lt_of_le h2 (Nat.pow_le_pow_right (by omega) (by omega))
  rw [if_neg (by omega), Nat.div_eq_of_lt h3, Nat.mod_eq_of_lt h3, decide_eq_false h0]; rfl
theorem r10_Pack_ok (h : f ≤ 3) (hm : m ≤ 4) (h0 : S ≠ 0) (hS : S < Q6) (b1 : -1048576 ≤ e ∧ e ≤ 1048576) (hmo : more = true → fp f + 2 ≤ blen S) (K : Int → Int → Int → Int → Prop)
    (hK : dlv f m n (FS S e more) ((blen S : Int) - 1 + e) K) : r10_Pack f m n (W S) e more K := by
  have w := fw_le f h
  have hb := blen_Q6 hS
  have hb2 := blen_pos h0
  rw [r10_Pack.is]; unfold r10_Pack.d
  rw [r07_Right_ok f h, br_f (show (!true) = false from rfl), r07_RightMode_ok m hm, br_f (show (!true) = false from rfl)]
  have hmay : ∀ Q : Bool → Prop, Q true → r10_May f n (W S) e more Q := by
    intro Q hQ
    rw [r10_May.is]; unfold r10_May.d
    rw [br_t (le_t (by omega)), br_t (le_t (by omega))]
    cases more with
    | false => exact hQ
    | true =>
      rw [br_f (show (!true) = false from rfl)]
      refine r02_Len_ok S hS _ ?_
      have := hmo rfl
      rw [r07_Precision_ok f h, add_i64 (by omega) (by omega), le_t (by omega)]; exact hQ
  refine hmay _ ?_
  rw [br_f (show (!true) = false from rfl), eqN_zero S hS, br_f (by simpa using h0)]
  by_cases c1 : (20000 : Int) < e
  · rw [br_t (lt_t c1)]
    refine r10_val h hm h0 hS (by omega) hmo K ?_
    unfold dlv at hK ⊢
    rw [if_pos (by omega)] at hK ⊢; exact hK
  rw [br_f (lt_f (by omega))]
  by_cases c2 : e < -20000
  · rw [br_t (lt_t c2)]
    refine r10_val h hm h0 hS (by omega) hmo K ?_
    exact (dlv_deep h m n (by omega) (by omega) (fun at_ hat => FS_deep h0 hat) (fun at_ hat => FS_deep h0 hat) K).1 hK
  rw [br_f (lt_f (by omega))]
  exact r10_val h hm h0 hS (by omega) hmo K hK
end
theorem roundPacks (a0 a1 : Int) (a2_0 : Bool) (a2_1 : Nat → Int) (a2_2 : Int) (a2_3 : Bool) (w0 : (Lit.int .u8 a0).wf = true) (w1 : (Lit.int .u8 a1).wf = true)
    (w2 : ∀ i, i < 6 → (Lit.int .u64 (a2_1 i)).wf = true) (z2 : ∀ i, 6 ≤ i → a2_1 i = 0) (w3 : (Lit.int .i64 a2_2).wf = true)
    (K : Bool → Prop) (hK : K true) : law10_RoundPacks a0 a1 a2_0 a2_1 a2_2 a2_3 K := by
  obtain ⟨f, rfl, hf⟩ := u8_nat w0
  obtain ⟨m, rfl, hm⟩ := u8_nat w1
  obtain ⟨S, hS, rfl⟩ := wide_of _ w2 z2
  have hal : law10_alive fun y0 => K y0 := law10_alive_ok _ hK
  have fin_ : ∀ x y z w : Int, br (eqI x x && eqI y y) (br (eqI z z) (br (eqI w w) (law10_alive fun y0 => K y0) (K false)) (K false)) (K false) := by
    intro x y z w
    rw [eqI_self, eqI_self, eqI_self, eqI_self]; exact hal
  rw [law10_RoundPacks.is]; unfold law10_RoundPacks.d
  by_cases hb : f ≤ 3 ∧ m ≤ 4
  rotate_left
  · refine round_Pack_no f m hf (by omega) _ _ _ _ _ ?_
    show r10_Pack f m a2_0 (W S) a2_2 a2_3 _
    rw [r10_Pack.is]; unfold r10_Pack.d
    by_cases h3 : f ≤ 3
    · rw [r07_Right_ok f h3, br_f (show (!true) = false from rfl), r07_RightMode_no m (by omega), br_t (show (!false) = true from rfl)]
      exact fin_ 0 0 0 2
    · rw [r07_Right_no f (by omega), br_t (show (!false) = true from rfl)]
      exact fin_ 0 0 0 2
  obtain ⟨h, hm4⟩ := hb
  have w := fw_le f h
  by_cases hw : -1048576 ≤ a2_2 ∧ a2_2 ≤ 1048576
  rotate_left
  · have hno : ∀ Q : Int → Int → Int → Int → Prop, Q 0 0 0 2 → round_Pack f m a2_0 (W S) a2_2 a2_3 Q := by
      intro Q hQ
      rw [round_Pack.is]; unfold round_Pack.d
      rw [shape_Precision_ok f h, round_right_ok f m h hm4, br_f (show (!true) = false from rfl)]
      by_cases c1 : a2_2 < -1048576
      · rw [br_t (lt_t c1)]; exact hQ
      · rw [br_f (lt_f (by omega)), br_t (lt_t (by omega))]; exact hQ
    refine hno _ ?_
    show r10_Pack f m a2_0 (W S) a2_2 a2_3 _
    rw [r10_Pack.is]; unfold r10_Pack.d
    rw [r07_Right_ok f h, br_f (show (!true) = false from rfl), r07_RightMode_ok m hm4, br_f (show (!true) = false from rfl), r10_May.is]; unfold r10_May.d
    by_cases c1 : a2_2 < -1048576
    · rw [br_f (le_f (by omega))]; exact fin_ 0 0 0 2
    · rw [br_t (le_t (by omega)), br_f (le_f (by omega))]; exact fin_ 0 0 0 2
  by_cases hmo : a2_3 = true → fp f + 2 ≤ blen S
  rotate_left
  · have hmt : a2_3 = true := by
      cases a2_3 with
      | true => rfl
      | false => exact absurd (fun hh => by cases hh) hmo
    subst hmt
    have hlt : ¬ fp f + 2 ≤ blen S := fun hh => hmo fun _ => hh
    rw [round_Pack.is]; unfold round_Pack.d
    rw [shape_Precision_ok f h, round_right_ok f m h hm4, br_f (show (!true) = false from rfl), br_f (lt_f (by omega)), br_f (lt_f (by omega)), br_t rfl]
    refine wide_Len_ok S hS _ ?_
    rw [add_i64 (by omega) (by omega), br_t (lt_t (by omega))]
    show r10_Pack f m a2_0 (W S) a2_2 true _
    rw [r10_Pack.is]; unfold r10_Pack.d
    rw [r07_Right_ok f h, br_f (show (!true) = false from rfl), r07_RightMode_ok m hm4, br_f (show (!true) = false from rfl), r10_May.is]; unfold r10_May.d
    rw [br_t (le_t (by omega)), br_t (le_t (by omega)), br_f (show (!true) = false from rfl)]
    refine r02_Len_ok S hS _ ?_
    rw [r07_Precision_ok f h, add_i64 (by omega) (by omega), le_f (by omega)]
    exact fin_ 0 0 0 2
  by_cases h0 : S = 0
  · subst h0
    have hmf : a2_3 = false := by
      cases a2_3 with
      | false => rfl
      | true => have := hmo rfl; rw [show blen 0 = 0 from by decide] at this; omega
    subst hmf
    refine round_Pack_zero f m h hm4 _ hw _ ?_
    show r10_Pack f m a2_0 (W 0) a2_2 false _
    rw [r10_Pack.is]; unfold r10_Pack.d
    rw [r07_Right_ok f h, br_f (show (!true) = false from rfl), r07_RightMode_ok m hm4, br_f (show (!true) = false from rfl), r10_May.is]; unfold r10_May.d
    rw [br_t (le_t (by omega)), br_t (le_t (by omega)), br_t (show (!false) = true from rfl)]
    show br (!true) _ (br (eqN 6 (W 0) fun x => 0) _ _)
    rw [br_f (show (!true) = false from rfl), eqN_zero 0 hS, br_t (by rfl)]
    refine r07_Zero_ok f h _ _ ?_
    exact fin_ _ _ 0 0
  · obtain ⟨x, y, z, v, hd⟩ := dlv_any f m a2_0 (FS S a2_2 a2_3) ((blen S : Int) - 1 + a2_2)
    refine round_Pack_ok f m h hm4 _ h0 hS hw _ hmo _ ((hd _).2 ?_)
    refine r10_Pack_ok h hm4 h0 hS hw hmo _ ((hd _).2 ?_)
    exact fin_ x y z v
end Go.Ev.S
