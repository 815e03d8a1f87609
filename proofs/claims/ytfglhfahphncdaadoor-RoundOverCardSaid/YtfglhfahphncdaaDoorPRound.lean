/- The law RoundOver. -/
import Derived.Test.YtfglhfahphncdaaDoorLWide2
import Derived.Test.YtfglhfahphncdaaDoorLKind
import Derived.Test.YtfglhfahphncdaaDoorPShape
import Derived.Test.YtfglhfahphncdaaDoorDLaw10
set_option linter.unusedVariables false
set_option linter.unusedSimpArgs false
set_option maxRecDepth 8000
namespace Go.Ev.S
open Go Go.Ev

theorem check_mode_ok (m : Nat) (h : m ≤ 4) (K : Int → Prop) : shape_CheckMode m K = K 0 := by
  rw [shape_CheckMode.is]; unfold shape_CheckMode.d; rw [br_f (lt_f (by omega))]
theorem check_mode_no (m : Nat) (h : 4 < m) (K : Int → Prop) : shape_CheckMode m K = K 2 := by
  rw [shape_CheckMode.is]; unfold shape_CheckMode.d; rw [br_t (lt_t (by omega))]
theorem round_right_ok (f m : Nat) (h : f ≤ 3) (hm : m ≤ 4) (K : Bool → Prop) : round_right f m K = K true := by
  rw [round_right.is]; unfold round_right.d
  rw [shape_Check_ok f h, br_t (by decide), check_mode_ok m hm]; rfl
theorem round_right_no (f m : Nat) (h : 3 < f ∨ 4 < m) (K : Bool → Prop) : round_right f m K = K false := by
  rw [round_right.is]; unfold round_right.d
  by_cases hf : f ≤ 3
  · rw [shape_Check_ok f hf, br_t (by decide), check_mode_no m (by omega)]; rfl
  · rw [shape_Check_no f (by omega)]; rfl
/-- Whether the greatest finite number is delivered. -/
def gr (m : Nat) (n : Bool) : Bool := m == 1 || (m == 2 && !n) || (m == 3 && n)
def ov (f m : Nat) (n : Bool) : Nat := cond (gr m n) (enc f n (2 * fe f) (2 ^ (fp f - 1) - 1)) (enc f n (2 * fe f + 1) 0)
theorem five {m : Nat} (h : m ≤ 4) : m = 0 ∨ m = 1 ∨ m = 2 ∨ m = 3 ∨ m = 4 := by omega
theorem round_Over_ok (f m : Nat) (n : Bool) (h : f ≤ 3) (hm : m ≤ 4) (K : Int → Int → Int → Int → Prop) (hK : K (Hi (ov f m n)) (Lo (ov f m n)) 5 0) : round_Over f m n K := by
  rw [round_Over.is]; unfold round_Over.d
  rw [round_right_ok f m h hm, br_f (show (!true) = false from rfl), shape_Greatest_ok f h, shape_Inf_ok f h]
  rcases five hm with rfl | rfl | rfl | rfl | rfl <;> cases n <;> exact hK
theorem round_Over_no (f m : Nat) (n : Bool) (h : 3 < f ∨ 4 < m) (K : Int → Int → Int → Int → Prop) : round_Over f m n K = K 0 0 0 2 := by
  rw [round_Over.is]; unfold round_Over.d
  rw [round_right_no f m h]; rfl
theorem r09_Over_ok (f m : Nat) (n : Bool) (h : f ≤ 3) (hm : m ≤ 4) (K : Int → Int → Prop) (hK : K (Hi (ov f m n)) (Lo (ov f m n))) : r09_Over f m n K := by
  have g : gr m n = true → r07_Greatest f n K := fun hg => by
    unfold ov at hK; rw [hg] at hK; exact r07_Greatest_ok f h n _ hK
  have i : gr m n = false → r07_Inf f n K := fun hg => by
    unfold ov at hK; rw [hg] at hK; exact r07_Inf_ok f h n _ hK
  rw [r09_Over.is]; unfold r09_Over.d
  rcases five hm with rfl | rfl | rfl | rfl | rfl <;> cases n <;> first | exact g rfl | exact i rfl
theorem r10_Over_ok (f m : Nat) (n : Bool) (h : f ≤ 3) (hm : m ≤ 4) (K : Int → Int → Int → Int → Prop) (hK : K (Hi (ov f m n)) (Lo (ov f m n)) 5 0) : r10_Over f m n K := by
  rw [r10_Over.is]; unfold r10_Over.d
  rw [r07_Right_ok f h, br_f (show (!true) = false from rfl), r07_RightMode.is]; unfold r07_RightMode.d
  rw [le_t (by omega)]
  show br (!true) (K 0 0 0 2) (r09_Over f m n fun y0 y1 => K y0 y1 5 0)
  rw [br_f (show (!true) = false from rfl)]
  exact r09_Over_ok f m n h hm _ hK
theorem r10_Over_no (f m : Nat) (n : Bool) (h : 3 < f ∨ 4 < m) (K : Int → Int → Int → Int → Prop) : r10_Over f m n K = K 0 0 0 2 := by
  rw [r10_Over.is]; unfold r10_Over.d
  by_cases hf : f ≤ 3
  · rw [r07_Right_ok f hf, br_f (show (!true) = false from rfl), r07_RightMode.is]; unfold r07_RightMode.d
    rw [le_f (by omega)]; rfl
  · rw [r07_Right_no f (by omega)]; rfl
/-- Which neighbour is taken. -/
theorem ups (m : Nat) (n o e : Bool) (a : Int) (K : Bool → Bool → Prop) (hK : ∀ b, K b b) : round_Up m n o a e fun x => r10_Up m n o a e fun y => K x y := by
  rw [round_Up.is, r10_Up.is]; unfold round_Up.d r10_Up.d
  cases e with
  | true => exact hK _
  | false =>
    rw [br_f rfl]
    by_cases h0 : m = 0
    · subst h0
      by_cases h1 : 0 < a
      · rw [lt_t h1]
        exact hK _
      · by_cases h2 : a = 0
        · subst h2; exact hK _
        · rw [lt_f (by omega), eq_f h2]
          exact hK _
    · by_cases h4 : m = 4
      · subst h4; exact hK _
      · by_cases h2 : m = 2
        · subst h2
          cases n <;> exact hK _
        · by_cases h3 : m = 3
          · subst h3
            cases n <;> exact hK _
          · have q0 : eqI (m : Int) 0 = false := eq_f (by omega)
            have q2 : eqI (m : Int) 2 = false := eq_f (by omega)
            have q3 : eqI (m : Int) 3 = false := eq_f (by omega)
            have q4 : eqI (m : Int) 4 = false := eq_f (by omega)
            rw [q0, q2, q3, q4]
            exact hK _
/-- The answers that keep the law from being empty. -/
theorem grid_one (K : (Nat → Int) → Bool → Prop) (hK : K (W 2048) false) : round_grid 0 false (W 4095) 0 false 1 K := by
  have hq : ∀ v : Nat, v < 18446744073709551616 → v < Q6 := fun v hv => p384 (a := 64) (by omega) hv
  rw [round_grid.is]; unfold round_grid.d
  have e1 : subI .i64 1 0 = 1 := by decide
  rw [e1, br_f (by decide), jam_Cut.is]; unfold jam_Cut.d
  have e2 : minI (maxI 1 0) 385 = ((1 : Nat) : Int) := by decide
  rw [e2]
  refine wide_Right_ok 4095 1 (hq _ (by omega)) (by omega) _ ?_
  rw [br_f (by decide), br_f (by decide), show subI .i64 ((1 : Nat) : Int) 1 = ((0 : Nat) : Int) from by decide, wide_Bit_ok _ _ (by omega), br_f (by decide)]
  refine wide_Mask_ok 0 (by omega) _ ?_
  refine wide_And_ok _ _ (hq _ (by omega)) _ ?_
  rw [show 4095 &&& (2 ^ 0 - 1) = 0 from by decide, eqN_zero 0 (hq _ (by omega)), br_f (by decide)]
  show br false _ (round_Up 0 false (eqI (andI .u64 (W (4095 / 2 ^ 1) 0) 1) 1) 0 (!decide (4095 % 2 ^ 1 ≠ 0)) fun y0_1 => br y0_1 (wide_Of 1 fun y0_2 => wide_Add (W (4095 / 2 ^ 1)) y0_2 fun y0 y1 => K y0 (!decide (4095 % 2 ^ 1 ≠ 0))) (K (W (4095 / 2 ^ 1)) (!decide (4095 % 2 ^ 1 ≠ 0))))
  rw [br_f rfl]
  have e3 : eqI (andI .u64 (W (4095 / 2 ^ 1) 0) 1) 1 = true := by decide
  have e4 : (!decide (4095 % 2 ^ 1 ≠ 0)) = false := by decide
  rw [e3, e4, show ∀ K', round_Up 0 false true 0 false K' = K' true from fun K' => by rw [round_Up.is]; rfl]
  show br true (wide_Of 1 fun y0_2 => wide_Add (W (4095 / 2 ^ 1)) y0_2 fun y0 y1 => K y0 false) (K (W (4095 / 2 ^ 1)) false)
  rw [br_t rfl, show (1 : Int) = ((1 : Nat) : Int) from rfl, wide_Of_ok 1 (by omega)]
  refine wide_Add_ok _ _ (hq _ (by omega)) (hq _ (by omega)) _ ?_
  rw [show 4095 / 2 ^ 1 + 1 = 2048 from by decide, Nat.mod_eq_of_lt (hq _ (by omega))]
  exact hK
theorem pack_one (K : Int → Int → Int → Int → Prop) (hK : K 0 27648 1 0) : round_Pack 2 0 false (upd (fun _ => 0) 0 4095) 0 false K := by
  have hq : ∀ v : Nat, v < 18446744073709551616 → v < Q6 := fun v hv => p384 (a := 64) (by omega) hv
  have w : upd (fun _ => 0) 0 4095 = W 4095 := W_one 4095 (by omega)
  have h2 : (2 : Int) = ((2 : Nat) : Int) := rfl
  rw [w, round_Pack.is]; unfold round_Pack.d
  rw [show shape_Precision (2 : Int) = shape_Precision ((2 : Nat) : Int) from rfl, shape_Precision_ok 2 (by omega), show round_right (2 : Int) 0 = round_right ((2 : Nat) : Int) ((0 : Nat) : Int) from rfl, round_right_ok 2 0 (by omega) (by omega)]
  rw [br_f (show (!true) = false from rfl), br_f (by decide), br_f (by decide), br_f rfl, eqN_zero 4095 (hq _ (by omega)), br_f (by decide)]
  refine wide_Len_ok 4095 (hq _ (by omega)) _ ?_
  have b1 : blen 4095 = 12 := by decide
  rw [b1, show shape_Emin (2 : Int) = shape_Emin ((2 : Nat) : Int) from rfl, shape_Emin_ok 2 (by omega), show shape_Emax (2 : Int) = shape_Emax ((2 : Nat) : Int) from rfl, shape_Emax_ok 2 (by omega), br_f (by decide)]
  have e1 : addI IntKind.i64 (subI IntKind.i64 (maxI (addI IntKind.i64 (subI IntKind.i64 ((12 : Nat) : Int) 1) 0) (1 - (fe 2 : Int))) (fp 2 : Int)) 1 = 1 := by decide
  rw [e1]
  refine grid_one _ ?_
  refine wide_Len_ok 2048 (hq _ (by omega)) _ ?_
  have b2 : blen 2048 = 12 := by decide
  rw [b2, shape_Emax_ok 2 (by omega), br_f (by decide), br_t (show (!false) = true from rfl), round_tiny.is]; unfold round_tiny.d
  rw [show shape_Emin (2 : Int) = shape_Emin ((2 : Nat) : Int) from rfl, shape_Emin_ok 2 (by omega), show shape_Precision (2 : Int) = shape_Precision ((2 : Nat) : Int) from rfl, shape_Precision_ok 2 (by omega), br_t (by decide)]
  have e5 : ltI (addI IntKind.i64 (subI IntKind.i64 ((12 : Nat) : Int) 1) 0) (1 - (fe 2 : Int)) = false := by decide
  rw [e5]
  show br false _ (wide_Of (cvI IntKind.u64 (subI IntKind.i64 (addI IntKind.i64 (subI IntKind.i64 1 (1 - (fe 2 : Int))) (fp 2 : Int)) 1)) fun y0_9 => wide_Left y0_9 (subI IntKind.i64 (fp 2 : Int) 1) fun y0 y1 => wide_Add y0 (W 2048) fun y0 y1 => wide_ToBits y0 fun y0 y1 y2 => shape_Zero 2 false fun y0_10 y1_1 => K (orI IntKind.u64 y0 y0_10) (orI IntKind.u64 y1 y1_1) 1 0)
  rw [br_f rfl]
  have e2 : cvI IntKind.u64 (subI IntKind.i64 (addI IntKind.i64 (subI IntKind.i64 1 (1 - (fe 2 : Int))) (fp 2 : Int)) 1) = ((25 : Nat) : Int) := by decide
  rw [e2, wide_Of_ok 25 (by omega), show subI .i64 (fp 2 : Int) 1 = ((10 : Nat) : Int) from by decide]
  refine wide_Left_val 25 10 (hq _ (by omega)) (by omega) _ fun b => ?_
  rw [show 25 * 2 ^ 10 = 25600 from by decide, Nat.mod_eq_of_lt (hq _ (by omega))]
  refine wide_Add_ok _ _ (hq _ (by omega)) (hq _ (by omega)) _ ?_
  rw [show 25600 + 2048 = 27648 from by decide, Nat.mod_eq_of_lt (hq _ (by omega)), wide_ToBits_ok _ (by decide), show shape_Zero (2 : Int) = shape_Zero ((2 : Nat) : Int) from rfl, shape_Zero_ok 2 (by omega)]
  have e3 : orI .u64 (Hi 27648) (Hi (enc 2 false 0 0)) = 0 := by decide
  have e4 : orI .u64 (Lo 27648) (Lo (enc 2 false 0 0)) = 27648 := by decide
  rw [e3, e4]
  exact hK
theorem pack_bad (K : Int → Int → Int → Int → Prop) (hK : K 0 0 0 2) : round_Pack 2 3 false (upd (fun _ => 0) 0 4095) 0 true K := by
  have hq : ∀ v : Nat, v < 18446744073709551616 → v < Q6 := fun v hv => p384 (a := 64) (by omega) hv
  have w : upd (fun _ => 0) 0 4095 = W 4095 := W_one 4095 (by omega)
  rw [w, round_Pack.is]; unfold round_Pack.d
  rw [show shape_Precision (2 : Int) = shape_Precision ((2 : Nat) : Int) from rfl, shape_Precision_ok 2 (by omega), show round_right (2 : Int) 3 = round_right ((2 : Nat) : Int) ((3 : Nat) : Int) from rfl, round_right_ok 2 3 (by omega) (by omega)]
  rw [br_f (show (!true) = false from rfl), br_f (by decide), br_f (by decide), br_t rfl]
  refine wide_Len_ok 4095 (hq _ (by omega)) _ ?_
  have b1 : blen 4095 = 12 := by decide
  rw [b1, br_t (by decide)]
  exact hK
theorem law10_alive_ok (K : Bool → Prop) (hK : K true) : law10_alive K := by
  rw [law10_alive.is]; unfold law10_alive.d
  refine pack_one _ ?_
  refine pack_bad _ ?_
  exact hK

theorem roundOver (a0 a1 : Int) (a2 a3 : Bool) (a4 : Int) (a5 : Bool) (w0 : (Lit.int .u8 a0).wf = true) (w1 : (Lit.int .u8 a1).wf = true) (w4 : (Lit.int .i64 a4).wf = true)
    (K : Bool → Prop) (hK : K true) : law10_RoundOver a0 a1 a2 a3 a4 a5 K := by
  obtain ⟨f, rfl, hf⟩ := u8_nat w0
  obtain ⟨m, rfl, hm⟩ := u8_nat w1
  have hal : law10_alive fun y0 => K y0 := law10_alive_ok _ hK
  have tail : round_Up m a2 a3 a4 a5 fun y0 => r10_Up m a2 a3 a4 a5 fun y0_2 => br (beqB y0 y0_2) (law10_alive fun y0 => K y0) (K false) :=
    ups m a2 a3 a5 a4 (fun x y => br (beqB x y) (law10_alive fun y0 => K y0) (K false)) fun b => br_beq hal
  rw [law10_RoundOver.is]; unfold law10_RoundOver.d
  by_cases h : f ≤ 3 ∧ m ≤ 4
  · refine round_Over_ok f m a2 h.1 h.2 _ ?_
    refine r10_Over_ok f m a2 h.1 h.2 _ (br_pair ?_)
    exact tail
  · have hb : 3 < f ∨ 4 < m := by omega
    rw [round_Over_no f m a2 hb, r10_Over_no f m a2 hb]
    exact tail
end Go.Ev.S
