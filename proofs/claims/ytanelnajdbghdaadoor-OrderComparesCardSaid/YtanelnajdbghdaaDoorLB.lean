/- Encodings compared, as their values are. -/
import Derived.Test.YtanelnajdbghdaaDoorLA
set_option linter.unusedVariables false
set_option linter.unusedSimpArgs false
set_option maxRecDepth 8000
namespace Go.Ev.S
open Go Go.Ev
theorem r08_IsInf_ok (f x : Nat) (h : f ≤ 3) (hx : x < 2 ^ fw f) (K : Bool → Prop) (hK : K (decide (cls f x = 0 ∨ cls f x = 7))) : r08_IsInf f (Hi x) (Lo x) K := by
  rw [r08_IsInf.is]; unfold r08_IsInf.d
  refine r08_Class_ok f x h hx _ ?_
  by_cases c : cls f x = 0
  · rw [br_t (eq_t c)]
    rw [show decide (cls f x = 0 ∨ cls f x = 7) = true from by simp [c]] at hK; exact hK
  · rw [br_f (eq_f c)]
    by_cases d : cls f x = 7
    · rw [eq_t d]
      rw [show decide (cls f x = 0 ∨ cls f x = 7) = true from by simp [d]] at hK; exact hK
    · rw [eq_f d]
      rw [show decide (cls f x = 0 ∨ cls f x = 7) = false from by simp [c, d]] at hK; exact hK
def rank (f x : Nat) : Int := if cls f x = 0 ∨ cls f x = 7 then cond (ng f x) (-1) 1 else 0
theorem r16_rank_ok (f x : Nat) (h : f ≤ 3) (hx : x < 2 ^ fw f) (K : Int → Prop) (hK : K (rank f x)) : r16_rank f (Hi x) (Lo x) K := by
  rw [r16_rank.is]; unfold r16_rank.d
  refine r08_IsInf_ok f x h hx _ ?_
  unfold rank at hK
  by_cases c : cls f x = 0 ∨ cls f x = 7
  · rw [if_pos c] at hK
    rw [show decide (cls f x = 0 ∨ cls f x = 7) = true from by simp [c], br_f (by rfl)]
    refine r08_Sign_ok f x h hx _ ?_
    cases hn : ng f x <;> rw [hn] at hK <;> exact hK
  · rw [if_neg c] at hK
    rw [show decide (cls f x = 0 ∨ cls f x = 7) = false from by simp [c], br_t (by rfl)]
    exact hK
theorem inf_mg (f x : Nat) (h : cls f x = 0 ∨ cls f x = 7) : mg f x = (2 * fe f + 1) * 2 ^ (fp f - 1) := by
  unfold mg
  have : ex f x = 2 * fe f + 1 ∧ fr f x = 0 := by
    unfold cls at h
    revert h
    cases ng f x <;> cases (fr f x).testBit (fp f - 2) <;> simp only [cond_true, cond_false] <;> (repeat' split) <;> intros <;> first | omega | simp_all
  rw [this.1, this.2]; omega
theorem fin_mg (f x : Nat) (h : fin f x) : mg f x < (2 * fe f + 1) * 2 ^ (fp f - 1) := by
  have h1 := ex_le f x
  have h2 := fr_lt f x
  unfold fin at h
  unfold mg
  have : (ex f x + 1) * 2 ^ (fp f - 1) ≤ (2 * fe f + 1) * 2 ^ (fp f - 1) := Nat.mul_le_mul_right _ (by omega)
  rw [Nat.add_mul] at this; omega
theorem no_nan (f x : Nat) (h : ¬ 8 ≤ cls f x) : fin f x ∨ (cls f x = 0 ∨ cls f x = 7) := by
  rw [fin_iff]; have := cls_range f x; omega
theorem rank_fin (f x : Nat) (h : fin f x) : rank f x = 0 := by
  have := (fin_iff f x).1 h
  unfold rank; rw [if_neg (by omega)]
theorem mg_lt (f x : Nat) (h : f ≤ 3) (hx : x < 2 ^ fw f) : mg f x < 2 ^ (fw f - 1) := by
  unfold mg
  exact body_lt h (ex_le f x) (fr_lt f x)
theorem rank_lt (f x y : Nat) (h : f ≤ 3) (hx : x < 2 ^ fw f) (hy : y < 2 ^ fw f) (nx : ¬ 8 ≤ cls f x) (ny : ¬ 8 ≤ cls f y) (hl : rank f x < rank f y) : rk f (uz f x) < rk f (uz f y) := by
  have m1 := mg_lt f x h hx
  have m2 := mg_lt f y h hy
  have hp : 0 < (2 * fe f + 1) * 2 ^ (fp f - 1) := Nat.mul_pos (by omega) (Nat.two_pow_pos _)
  have hq := Nat.two_pow_pos (fw f - 1)
  rw [uz_rk f x h hx, uz_rk f y h hy, rk_mg f x h hx, rk_mg f y h hy]
  rcases no_nan f x nx with g1 | g1 <;> rcases no_nan f y ny with g2 | g2
  · rw [rank_fin f x g1, rank_fin f y g2] at hl; omega
  · have i2 := inf_mg f y g2
    have i1 := fin_mg f x g1
    rw [rank_fin f x g1] at hl
    unfold rank at hl; rw [if_pos g2] at hl
    revert hl
    cases ng f y <;> cases ng f x <;> simp only [cond_true, cond_false] <;> intro hl <;> (repeat' split) <;> omega
  · have i1 := inf_mg f x g1
    have i2 := fin_mg f y g2
    rw [rank_fin f y g2] at hl
    unfold rank at hl; rw [if_pos g1] at hl
    revert hl
    cases ng f y <;> cases ng f x <;> simp only [cond_true, cond_false] <;> intro hl <;> (repeat' split) <;> omega
  · have i1 := inf_mg f x g1
    have i2 := inf_mg f y g2
    unfold rank at hl; rw [if_pos g1, if_pos g2] at hl
    revert hl
    cases ng f y <;> cases ng f x <;> simp only [cond_true, cond_false] <;> intro hl <;> (repeat' split) <;> omega
theorem rank_eq (f x y : Nat) (h : f ≤ 3) (hx : x < 2 ^ fw f) (hy : y < 2 ^ fw f) (he : rank f x = rank f y) (h0 : rank f x ≠ 0) : rk f (uz f x) = rk f (uz f y) := by
  have g1 : cls f x = 0 ∨ cls f x = 7 := by unfold rank at h0; apply Classical.byContradiction; intro hc; rw [if_neg hc] at h0; exact h0 rfl
  have g2 : cls f y = 0 ∨ cls f y = 7 := by rw [he] at h0; unfold rank at h0; apply Classical.byContradiction; intro hc; rw [if_neg hc] at h0; exact h0 rfl
  rw [uz_rk f x h hx, uz_rk f y h hy, rk_mg f x h hx, rk_mg f y h hy, inf_mg f x g1, inf_mg f y g2]
  unfold rank at he; rw [if_pos g1, if_pos g2] at he
  revert he
  cases ng f y <;> cases ng f x <;> intro hl <;> first | rfl | (exact absurd hl (by decide))
theorem rank_zero (f x : Nat) (h : f ≤ 3) (hx : x < 2 ^ fw f) (nx : ¬ 8 ≤ cls f x) (h0 : rank f x = 0) : fin f x := by
  rcases no_nan f x nx with g | g
  · exact g
  · unfold rank at h0; rw [if_pos g] at h0; revert h0; cases ng f x <;> intro h0 <;> exact absurd h0 (by decide)
theorem tot_uz (f x y : Nat) : tot f (uz f x) (uz f y) = if rk f (uz f x) < rk f (uz f y) then -1 else if rk f (uz f x) = rk f (uz f y) then 0 else 1 := rfl
theorem fit_lv_small {a b : Nat} {e m : Int} {n : Nat} (ha : a < 2 ^ n) (hn : n ≤ 113) (hb : b = 1) (h : (e - m).toNat ≤ 40000) : fit (lv a b e m) := by
  unfold lv; rw [hb, Nat.mul_one]
  rw [fit_bl]
  by_cases h0 : a = 0
  · rw [h0, Nat.zero_mul, blen_zero]; omega
  · rw [blen_mul _ _ h0]
    have := (blen_le a n).2 ha
    omega
theorem r16_Compare_ok (f x y : Nat) (h : f ≤ 3) (hx : x < 2 ^ fw f) (hy : y < 2 ^ fw f) (K : Int → Prop) (hK : K (rel f x y)) : r16_Compare f (Hi x) (Lo x) (Hi y) (Lo y) K := by
  rw [r16_Compare.is]; unfold r16_Compare.d
  refine r08_IsNaN_ok f x h hx _ ?_
  unfold rel at hK
  by_cases nx : 8 ≤ cls f x
  · rw [br_t (le_t nx)]; rw [if_pos (.inl nx)] at hK; exact hK
  rw [br_f (le_f (by omega))]
  refine r08_IsNaN_ok f y h hy _ ?_
  by_cases ny : 8 ≤ cls f y
  · rw [br_t (le_t ny)]; rw [if_pos (.inr ny)] at hK; exact hK
  rw [br_f (le_f (by omega))]
  rw [if_neg (by omega)] at hK
  refine r16_rank_ok f x h hx _ ?_
  refine r16_rank_ok f y h hy _ ?_
  by_cases he : rank f x = rank f y
  · rw [br_f (by rw [eq_t he]; rfl)]
    by_cases h0 : rank f x = 0
    · rw [br_t (eq_t h0)]
      have f1 := rank_zero f x h hx nx h0
      have f2 := rank_zero f y h hy ny (by omega)
      have hp : fp f ≤ 113 := by rcases four h with rfl | rfl | rfl | rfl <;> decide
      refine r08_Value_ok f x h hx f1 _ (value_mk f x h _ fun n a e c1 v1 l1 l2 l3 => ?_)
      refine r08_Value_ok f y h hy f2 _ (value_mk f y h _ fun n' a' e' c2 v2 k1 k2 k3 => ?_)
      show r06_Cmp n (nb a) [1] e n' (nb a') [1] e' _
      rw [← nb_one]
      refine r06_Cmp_ok c1 c2 _ ?_
      refine cmpE_V c1 c2 ?_ ?_ _ ?_
      · exact fit_lv_small l1 hp rfl (by unfold mn; split <;> omega)
      · exact fit_lv_small k1 hp rfl (by unfold mn; split <;> omega)
      · rw [v1, v2]
        have e1 := V_lt f x y h hx hy f1 f2
        have e2 := V_lt f y x h hy hx f2 f1
        rw [tot_uz] at hK
        unfold cmpR
        rw [ifc e1, ifc e2]
        by_cases g1 : rk f (uz f x) < rk f (uz f y)
        · rw [if_pos g1] at hK ⊢; exact hK
        · rw [if_neg g1] at hK ⊢
          by_cases g2 : rk f (uz f y) < rk f (uz f x)
          · rw [if_neg (by omega)] at hK
            rw [if_pos g2]; exact hK
          · rw [if_pos (by omega)] at hK
            rw [if_neg g2]; exact hK
    · rw [br_f (eq_f h0)]
      rw [tot_uz, if_neg (by have := rank_eq f x y h hx hy he h0; omega), if_pos (rank_eq f x y h hx hy he h0)] at hK
      exact hK
  · rw [br_t (by rw [eq_f he]; rfl)]
    rw [tot_uz] at hK
    by_cases hl : rank f x < rank f y
    · rw [br_t (lt_t hl)]
      rw [if_pos (rank_lt f x y h hx hy nx ny hl)] at hK; exact hK
    · rw [br_f (lt_f (by omega))]
      have := rank_lt f y x h hy hx ny nx (by omega)
      rw [if_neg (by omega), if_neg (by omega)] at hK; exact hK
theorem orderCompares (a0 a1_0 a1_1 a2_0 a2_1 : Int) (w0 : (Lit.int .u8 a0).wf = true) (w1 : (Lit.int .u64 a1_0).wf = true) (w2 : (Lit.int .u64 a1_1).wf = true) (w3 : (Lit.int .u64 a2_0).wf = true) (w4 : (Lit.int .u64 a2_1).wf = true)
    (K : Bool → Prop) (hK : K true) : law16_OrderCompares a0 a1_0 a1_1 a2_0 a2_1 K := by
  obtain ⟨f, rfl, hf⟩ := u8_nat w0
  obtain ⟨x, hx, rfl, rfl⟩ := pair_nat w1 w2
  obtain ⟨y, hy, rfl, rfl⟩ := pair_nat w3 w4
  have hal : law16_alive fun y0 => K y0 := law16_alive_ok _ hK
  rw [law16_OrderCompares.is]; unfold law16_OrderCompares.d
  by_cases hb : bad2 f x y
  · refine order_Compare_no f x y hx hy hb _ ?_
    refine order_Eq_no f x y hx hy hb _ ?_
    refine order_Lt_no f x y hx hy hb _ ?_
    refine order_Le_no f x y hx hy hb _ ?_
    refine r16_Fits_no f x y hx hy hb _ ?_
    exact hal
  · obtain ⟨h, hx', hy'⟩ := bad2_of hb
    refine order_Compare_ok f x y h hx' hy' _ ?_
    refine order_Eq_ok f x y h hx' hy' _ ?_
    refine order_Lt_ok f x y h hx' hy' _ ?_
    refine order_Le_ok f x y h hx' hy' _ ?_
    refine r16_Fits_ok f x y h hx' hy' _ ?_
    rw [br_f (by rfl), br_f (by rfl), br_f (by rfl), br_f (by rfl), br_f (by rfl)]
    refine r16_Compare_ok f x y h hx' hy' _ ?_
    refine r16_Some_ok f x y h hx' hy' _ ?_
    refine br_eq (br_beq (br_beq ?_))
    have last : ∀ u v : Int, u = ldf false (cls f x) (cls f y) → v = ldf true (cls f x) (cls f y) → r16_Loud f (Hi x) (Lo x) (Hi y) (Lo y) fun y0 => br (eqI u y0) (br (eqI v v) (br (eqI v v) (law16_alive fun y0 => K y0) (K false)) (K false)) (K false) := by
      rintro u v rfl rfl
      refine r16_Loud_ok f x y h hx' hy' _ ?_
      exact br_eq (br_eq (br_eq hal))
    cases hr : eqI (rel f x y) 1 with
    | true => rw [br_t rfl, br_t (by rfl)]; exact last _ _ rfl rfl
    | false =>
      rw [br_f rfl, Bool.false_or]
      exact br_beq (last _ _ rfl rfl)
end Go.Ev.S
