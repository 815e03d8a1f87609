/- The plain laws of BoxReads, BoxWithin and BoxBack. -/
import Derived.Test.YtdnndfaojopnbaaLBox
import Derived.Test.YtdnndfaojopnbaaDLaw22
import Derived.KernelRfl
set_option linter.unusedVariables false
set_option linter.unusedSimpArgs false
set_option maxRecDepth 8000
namespace Go.Ev.S
open Go Go.Ev

theorem u8_of {a : Int} (w : (Lit.int .u8 a).wf = true) : ∃ n : Nat, a = n ∧ n < 256 := by
  obtain ⟨h1, h2⟩ := range_u8 w
  exact ⟨a.toNat, by omega, by omega⟩
theorem pair_of {a b : Int} (w : (Lit.int .u64 a).wf = true) (w2 : (Lit.int .u64 b).wf = true) : ∃ x : Nat, x < 2 ^ 128 ∧ a = Hi x ∧ b = Lo x := by
  obtain ⟨h1, h2⟩ := range_u64 w
  obtain ⟨h3, h4⟩ := range_u64 w2
  refine ⟨two a.toNat b.toNat, two_lt (by omega) (by omega), ?_, ?_⟩
  · rw [Hi_two (by omega)]; omega
  · rw [Lo_two (by omega)]; omega
theorem bx {x : Nat} : (eqI (Hi x) (Hi x) && eqI (Lo x) (Lo x)) = true := by rw [pair_eq]; simp
theorem nbx {x : Nat} : (!(eqI (Hi x) (Hi x) && eqI (Lo x) (Lo x))) = false := by rw [bx]; rfl
theorem beq_self (b : Bool) : beqB b b = true := beqB_eq.2 rfl
theorem nbeq_self (b : Bool) : (!beqB b b) = false := by rw [beq_self]; rfl

theorem law22_lives_ok (K : Bool → Prop) (h : K true) : law22_lives K := by
  have : law22_lives K = K true := by
    rw [law22_lives.is]
    simp only [law22_lives.d, box_Box.is, box_Box.d, box_Unbox.is, box_Unbox.d, box_Low.is, box_Low.d, box_IsBoxed.is, box_IsBoxed.d, box_Above.is, box_Above.d, box_above.is, shape_Fits.is, shape_Fits.d, shape_Check.is, shape_NaN.is, shape_NaN.d,
      shape_Width.is, shape_Width.d, shape_Emax.is, shape_Emax.d, shape_Precision.is, shape_Precision.d, shape_numbers.is, shape_at.is]
    kernel_rfl
  rw [this]; exact h

theorem boxReads (a0 b0 b1 : Int) (w0 : (Lit.int .u8 a0).wf = true) (w1 : (Lit.int .u64 b0).wf = true) (w2 : (Lit.int .u64 b1).wf = true) (K : Bool → Prop) (hK : K true) : law22_BoxReads a0 b0 b1 K := by
  obtain ⟨f, rfl, hf⟩ := u8_of w0
  obtain ⟨x, hx, rfl, rfl⟩ := pair_of w1 w2
  have hal : law22_lives fun y0 => K y0 := law22_lives_ok _ hK
  rw [law22_BoxReads.is]; unfold law22_BoxReads.d
  by_cases h : f ≤ 3
  · obtain ⟨w1, w2⟩ := fw_le2 f h
    have tail : ∀ q : Nat, x < 2 ^ fw f → q = x + ab f → r22_Fits f (Hi x) (Lo x) fun y0 => br (!y0) (br (eqI (Hi q) 0 && eqI (Lo q) 0) (br (eqI 0 2) (law22_lives fun y0 => K y0) (K false)) (K false)) (r22_Box f (Hi x) (Lo x) fun y0 y1 => br (eqI (Hi q) y0 && eqI (Lo q) y1) (br (eqI 0 0) (law22_lives fun y0 => K y0) (K false)) (K false)) := by
      intro q hlt hq
      subst hq
      refine r22_Fits_ok f x h hx _ ?_
      rw [br_f (by simp [hlt])]
      refine r22_Box_ok f x h hlt _ ?_
      rw [br_t bx]
      exact hal
    have tail2 : ¬ x < 2 ^ fw f → r22_Fits f (Hi x) (Lo x) fun y0 => br (!y0) (br (eqI 0 0 && eqI 0 0) (br (eqI 2 2) (law22_lives fun y0 => K y0) (K false)) (K false)) (r22_Box f (Hi x) (Lo x) fun y0 y1 => br (eqI 0 y0 && eqI 0 y1) (br (eqI 2 0) (law22_lives fun y0 => K y0) (K false)) (K false)) := by
      intro hlt
      refine r22_Fits_ok f x h hx _ ?_
      rw [br_t (by simp [hlt])]
      exact hal
    rw [r22_Width_ok f h, box_Above_ok f h, box_Unbox_ok f x h hx, box_Low_ok f x h hx, box_Box_ok f x h hx]
    by_cases hlt : x < 2 ^ fw f
    · rw [br_t (by simp [hlt]), box_IsBoxed_ok f x h hx]
      refine r22_IsBoxed_ok f x h hx _ ?_
      rw [br_f (nbeq_self _), br_f (by rw [lt_t (by omega)]; rfl), br_f (by decide), br_f (by decide), br_f (by decide)]
      refine r22_Above_ok f h _ ?_
      rw [br_f nbx]
      refine r22_Unbox_ok f x h hx _ ?_
      rw [br_f nbx]
      refine r22_Low_ok f x h hx _ ?_
      rw [br_f nbx]
      exact tail _ hlt rfl
    · rw [br_f (by simp [hlt]), box_IsBoxed_ok f x h hx]
      refine r22_IsBoxed_ok f x h hx _ ?_
      rw [br_f (nbeq_self _), br_f (by rw [lt_t (by omega)]; rfl), br_f (by decide), br_f (by decide), br_f (by decide)]
      refine r22_Above_ok f h _ ?_
      rw [br_f nbx]
      refine r22_Unbox_ok f x h hx _ ?_
      rw [br_f nbx]
      refine r22_Low_ok f x h hx _ ?_
      rw [br_f nbx]
      exact tail2 hlt
  · have h : 3 < f := by omega
    rw [r22_Width_no f h, box_Above_no f h, box_Unbox_no f h, box_Low_no f h, box_Box_no f h, box_IsBoxed_no f h]
    refine r22_IsBoxed_no f x h hx _ ?_
    exact hal

theorem rem4 (a : Nat) : remI .u8 (a : Int) 4 = ((a % 4 : Nat) : Int) := rem_nat .u8 a 4
theorem law22_width_ok (f : Nat) (h : f ≤ 3) (K : Int → Prop) : law22_width f K = K (fw f) := by
  rw [law22_width.is]
  rcases four h with rfl | rfl | rfl | rfl <;> kernel_rfl
theorem fw_order {f g : Nat} (hf : f ≤ 3) (hg : g ≤ 3) (h : fw f ≤ fw g) : 2 ^ fw f ≤ 2 ^ fw g ∧ ab g ≤ ab f := by
  have h1 : 2 ^ fw f ≤ 2 ^ fw g := Nat.pow_le_pow_right (by omega) h
  refine ⟨h1, ?_⟩
  unfold ab; omega
theorem boxed_split (f x : Nat) (h : f ≤ 3) (hx : x < 2 ^ 128) (hb : boxed f x = true) : x = x % 2 ^ fw f + ab f := by
  unfold boxed at hb
  rw [decide_eq_true_eq, ← ab_mod f x h hx, and_ab f x h hx] at hb
  have := Nat.mod_le x (2 ^ fw f)
  omega
theorem boxed_box (f b : Nat) (h : f ≤ 3) (hb : b < 2 ^ fw f) : boxed f (b + ab f) = true := by unfold boxed; simp
theorem box_mod (f b : Nat) (h : f ≤ 3) (hb : b < 2 ^ fw f) : (b + ab f) % 2 ^ fw f = b := by
  have h4 : 2 ^ fw f ∣ ab f := by
    unfold ab
    exact Nat.dvd_sub (Nat.pow_dvd_pow 2 (fw_le2 f h).2) (Nat.dvd_refl _)
  obtain ⟨c, hc⟩ := h4
  rw [hc, Nat.add_mul_mod_self_left, Nat.mod_eq_of_lt hb]
theorem unbox_box (f b : Nat) (h : f ≤ 3) (hb : b < 2 ^ fw f) : unbox f (b + ab f) = b := by
  unfold unbox; rw [boxed_box f b h hb]; exact box_mod f b h hb
/-- A box of a narrower format is one of a wider one; what is read of it is boxed as the narrower one again. -/
theorem boxed_wider {f g x : Nat} (hf : f ≤ 3) (hg : g ≤ 3) (h : fw f ≤ fw g) (hb : boxed f x = true) : boxed g x = true := by
  unfold boxed at *
  rw [decide_eq_true_eq] at *
  have := (fw_order hf hg h).2
  omega
theorem unbox_wider {f g x : Nat} (hf : f ≤ 3) (hg : g ≤ 3) (h : fw f ≤ fw g) (hx : x < 2 ^ 128) (hb : boxed f x = true) : unbox g x + ab g = x := by
  have hbg := boxed_wider hf hg h hb
  unfold unbox
  rw [hbg]
  exact (boxed_split g x hg hx hbg).symm

theorem boxWithin (a0 a1 b0 b1 : Int) (w0 : (Lit.int .u8 a0).wf = true) (w1 : (Lit.int .u8 a1).wf = true) (w2 : (Lit.int .u64 b0).wf = true) (w3 : (Lit.int .u64 b1).wf = true) (K : Bool → Prop) (hK : K true) : law22_BoxWithin a0 a1 b0 b1 K := by
  obtain ⟨f, rfl, _⟩ := u8_of w0
  obtain ⟨g, rfl, _⟩ := u8_of w1
  obtain ⟨x, hx, rfl, rfl⟩ := pair_of w2 w3
  have hal : law22_lives fun y0 => K y0 := law22_lives_ok _ hK
  rw [law22_BoxWithin.is]; unfold law22_BoxWithin.d
  rw [rem4, rem4]
  have hf : f % 4 ≤ 3 := by omega
  have hg : g % 4 ≤ 3 := by omega
  generalize f % 4 = f at *
  generalize g % 4 = g at *
  rw [box_Within_ok f f x hf hf hx, box_Unbox_ok f x hf hx, br_f (by decide), br_f (by decide), unbox_box f _ hf (unbox_lt f x hf), br_f nbx, law22_width_ok g hg, law22_width_ok f hf, lt_nat]
  by_cases hw : fw g < fw f
  · rw [br_t (by simp [hw])]; exact hal
  · rw [br_f (by simp [hw]), box_IsBoxed_ok f x hf hx]
    cases hb : boxed f x with
    | false => exact hal
    | true =>
      rw [br_f (by decide), box_Within_ok g f x hg hf hx, unbox_wider hf hg (by omega) hx hb, br_t (by decide), br_t bx]
      exact hal

theorem law22_bit_ok (x k : Nat) (hx : x < 2 ^ 128) (hk : k < 128) (K : Bool → Prop) : law22_bit (Hi x) (Lo x) k K = K (x.testBit k) := by
  rw [law22_bit.is]; exact pair_bit x k hx hk K
theorem ones_loop (x wf wg : Nat) (hx : x < 2 ^ 128) (hg : wg ≤ 128) (e : Int) (k0 : Int → Int → Int → Int → Prop) (hk : k0 wf wg e ((wg - wf : Nat) : Int)) (hb : ∀ i, wf ≤ i → i < wg → x.testBit i = true) :
    ∀ (j i : Nat), wf ≤ i → i + j = wg → law22_BoxBack.l19 k0 (j + 1) wf wg e ((i - wf : Nat) : Int) i (Hi x) (Lo x) := by
  intro j
  induction j with
  | zero =>
    intro i h1 hij
    have : i = wg := by omega
    subst this
    unfold law22_BoxBack.l19 law22_BoxBack.l19.step
    rw [br_f (lt_f (by omega))]
    exact hk
  | succ j ih =>
    intro i h1 hij
    have ih := ih (i + 1) (by omega) (by omega)
    have e1 : ((i + 1 : Nat) : Int) = (i : Int) + 1 := by omega
    have e2 : ((i + 1 - wf : Nat) : Int) = ((i - wf : Nat) : Int) + 1 := by omega
    rw [e1, e2] at ih
    unfold law22_BoxBack.l19 law22_BoxBack.l19.step
    rw [br_t (lt_t (by omega)), law22_bit_ok x i hx (by omega), hb i h1 (by omega), br_t rfl, add_i64 (a := ((i - wf : Nat) : Int)) (b := 1) (by omega) (by omega), add_i64 (a := (i : Int)) (b := 1) (by omega) (by omega)]
    exact ih

theorem boxBack (a0 a1 b0 b1 : Int) (w0 : (Lit.int .u8 a0).wf = true) (w1 : (Lit.int .u8 a1).wf = true) (w2 : (Lit.int .u64 b0).wf = true) (w3 : (Lit.int .u64 b1).wf = true) (K : Bool → Prop) (hK : K true) : law22_BoxBack a0 a1 b0 b1 K := by
  obtain ⟨f, rfl, _⟩ := u8_of w0
  obtain ⟨g, rfl, _⟩ := u8_of w1
  obtain ⟨x, hx, rfl, rfl⟩ := pair_of w2 w3
  have hal : law22_lives fun y0 => K y0 := law22_lives_ok _ hK
  rw [law22_BoxBack.is]; unfold law22_BoxBack.d
  rw [rem4, rem4]
  have hf : f % 4 ≤ 3 := by omega
  have hg : g % 4 ≤ 3 := by omega
  generalize f % 4 = f at *
  generalize g % 4 = g at *
  have hl : x % 2 ^ fw f < 2 ^ fw f := Nat.mod_lt _ (Nat.two_pow_pos _)
  have hl' := fw_128 hf hl
  have hr := box_lt hf hl
  rw [box_Low_ok f x hf hx, box_Box_ok f _ hf hl', br_t (by simp [hl]), box_Unbox_ok f _ hf hr, unbox_box f _ hf hl, box_Low_ok f _ hf hr, box_mod f _ hf hl]
  rw [br_f (by decide), br_f (by decide), br_f (by decide), br_f (by decide), br_f nbx, br_f nbx, box_IsBoxed_ok f _ hf hr, boxed_box f _ hf hl, br_f (by decide)]
  have hu := unbox_lt f x hf
  rw [box_Unbox_ok f x hf hx, box_Box_ok f _ hf (fw_128 hf hu), br_t (by simp [hu]), box_IsBoxed_ok f x hf hx]
  have tail : law22_width f fun y0 => law22_width g fun y0_5 => br (ltI y0 y0_5) (box_IsBoxed g (Hi (x % 2 ^ fw f + ab f)) (Lo (x % 2 ^ fw f + ab f)) fun y0_6 => br (!y0_6) (K false) (box_Unbox g (Hi (x % 2 ^ fw f + ab f)) (Lo (x % 2 ^ fw f + ab f)) fun y0_7 y1 y2 => ∃ n, law22_BoxBack.l19 (fun y0 y1 y2 y3 => br (!eqI y2 0) (K false) (br (!eqI y3 (subI IntKind.i64 y1 y0)) (K false) (law22_lives fun y0 => K y0))) n y0 y0_5 y2 0 y0 y0_7 y1)) (law22_lives fun y0 => K y0) := by
    rw [law22_width_ok f hf, law22_width_ok g hg, lt_nat]
    by_cases hw : fw f < fw g
    · obtain ⟨g1, g2⟩ := fw_le2 g hg
      have hbw := boxed_wider hf hg (by omega) (boxed_box f _ hf hl)
      rw [br_t (by simp [hw]), box_IsBoxed_ok g _ hg hr, hbw, br_f (by decide), box_Unbox_ok g _ hg hr]
      refine ⟨fw g - fw f + 1, ?_⟩
      have hug := unbox_lt g (x % 2 ^ fw f + ab f) hg
      have := ones_loop (unbox g (x % 2 ^ fw f + ab f)) (fw f) (fw g) (fw_128 hg hug) g2 0 (fun y0 y1 y2 y3 => br (!eqI y2 0) (K false) (br (!eqI y3 (subI IntKind.i64 y1 y0)) (K false) (law22_lives fun y0 => K y0))) (by
        rw [br_f (by decide), sub_i64 (by omega) (by omega), br_f (by rw [eq_t (by omega)]; rfl)]
        exact hal) (by
        intro i h1 h2
        unfold unbox
        rw [hbw]
        show ((x % 2 ^ fw f + ab f) % 2 ^ fw g).testBit i = true
        rw [Nat.testBit_mod_two_pow, (ab_bits f _ hf hr).1 (by omega) i h1 (by omega)]
        simp [h2]) (fw g - fw f) (fw f) (Nat.le_refl _) (by omega)
      rw [Nat.sub_self] at this
      exact this
    · rw [br_f (by simp [hw])]; exact hal
  -- what is no box comes back as another register, unless the format is the widest
  by_cases hq : (!beqB (boxed f x) (eqI (Hi (unbox f x + ab f)) (Hi x) && eqI (Lo (unbox f x + ab f)) (Lo x))) = true
  · rw [br_t hq]
    have h3 : f = 3 := by
      rw [pair_eq] at hq
      cases hb : boxed f x with
      | true =>
        have := boxed_split f x hf hx hb
        have hun : unbox f x = x % 2 ^ fw f := by unfold unbox; rw [hb]; rfl
        rw [hun, ← this, hb] at hq
        simp [beqB] at hq
      | false =>
        have hne : unbox f x + ab f = x := by
          apply Classical.byContradiction
          intro hc
          rw [hb] at hq
          simp [hc, beqB] at hq
        exfalso
        unfold boxed at hb
        rw [decide_eq_false_iff_not] at hb
        omega
    subst h3
    rw [br_f (by decide)]
    exact tail
  · rw [br_f (by simpa using hq)]
    exact tail
end Go.Ev.S
