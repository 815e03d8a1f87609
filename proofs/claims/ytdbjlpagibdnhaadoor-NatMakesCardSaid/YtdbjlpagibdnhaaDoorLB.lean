/- The laws of natural numbers that need no quotient: sums, products, a ring. -/
import Derived.Test.YtdbjlpagibdnhaaDoorLA
import Derived.Test.YtdbjlpagibdnhaaDoorDA
import Derived.KernelRfl
import Derived.Test.YtdbjlpagibdnhaaDoorDB
set_option linter.unusedVariables false
set_option linter.unusedSimpArgs false
set_option maxRecDepth 8000
namespace Go.Ev.S
open Go Go.Ev

theorem may_lit (a : List UInt8) (h : (decide (a.length ≤ 16384) && lead a) = true) : May a := by
  simp only [Bool.and_eq_true, decide_eq_true_eq] at h; exact h
theorem law05_alive_ok (K : Bool → Prop) (h : K true) : law05_alive K := by
  rw [law05_alive.is]; unfold law05_alive.d
  have m255 : May [255] := may_lit _ (by decide)
  have m1 : May [1] := may_lit _ (by decide)
  have m2 : May [2] := may_lit _ (by decide)
  have v255 : val [255] = 255 := rfl
  have v1 : val [1] = 1 := rfl
  have v2 : val [2] = 2 := rfl
  have n256 : nb 256 = [1, 0] := nb_val (a := [1, 0]) rfl
  refine nat_Add_ok _ _ _ (fun hn => absurd ⟨m255, m1⟩ hn) fun _ _ => ?_
  rw [v255, v1, show 255 + 1 = 256 from rfl]
  unfold tell
  rw [n256, if_neg (by decide)]
  refine nat_Sub_ok _ _ _ (fun hn => absurd ⟨m1, m2⟩ hn) (fun _ _ _ => ?_) (fun _ _ hc => absurd hc (by rw [v1, v2]; omega))
  refine nat_Text_ok _ _ (fun hn => absurd m255 hn) fun _ => ?_
  have ht : tx [255] = [102, 102] := by
    unfold tx
    rw [if_neg (by decide), v255, show 255 = 0 * 256 + 255 from rfl, hx_byte 0 255 (by omega) (.inr (by omega)), hx_zero]
    decide
  rw [ht]
  exact h
theorem law05_wrong_ok (a b : List UInt8) (K : Bool → Prop) : law05_wrong a b K = K (!decide (May a ∧ May b)) := by
  rw [law05_wrong.is]; unfold law05_wrong.d
  rw [r05_May_ok, r05_May_ok]
  by_cases ha : May a
  · rw [br_f (by simp [ha])]; simp [ha]
  · rw [br_t (by simp [ha])]; simp [ha]
theorem may_nil : May [] := ⟨by simp, rfl⟩
theorem law05_play_ok (a b : List UInt8) (n : Nat) (K : Bool → Prop) : law05_play a b n K = K (decide (a.length ≤ n ∧ b.length ≤ n)) := by
  rw [law05_play.is]; unfold law05_play.d
  rw [le_nat, le_nat]
  by_cases ha : a.length ≤ n
  · rw [br_t (by simpa using ha)]; simp [ha]
  · rw [br_f (by simpa using ha)]; simp [ha]

theorem eqS_self (a : List UInt8) : eqS a a = true := by simp [eqS]
theorem eqI_self (a : Int) : eqI a a = true := by simp [eqI]

theorem natSums (a b : List UInt8) (ha : a.length ≤ 140737488351232) (hb : b.length ≤ 140737488351232) (K : Bool → Prop) (h : K true) : law05_NatSums a b K := by
  rw [law05_NatSums.is]; unfold law05_NatSums.d
  by_cases hm : May a ∧ May b
  · have l1 := hm.1.1; have l2 := hm.2.1
    refine nat_Cmp_ok a b _ (fun hn => absurd hm hn) fun m1 m2 => ?_
    refine nat_Add_ok a b _ (fun hn => absurd hm hn) fun _ _ => ?_
    have key : ∀ (s : List UInt8) (e : Int), (∀ k : List UInt8 → Int → Prop, tell k (val a + val b) → k s e) →
        nat_Sub a b fun y0_2 y1_2 => law05_wrong a b fun y0_3 => br y0_3 (br (eqI (sgn (val a) (val b)) 0) (br (eqS s []) (br (eqS y0_2 []) (br (eqI 0 2) (br (eqI e 2) (br (eqI y1_2 2) (law05_alive fun y0 => K y0) (K false)) (K false)) (K false)) (K false)) (K false)) (K false)) (r05_Add a b fun y0_4 y1_3 => r05_Sub a b fun y0_5 y1_4 => br (eqI 0 0) (r05_Cmp a b fun y0_6 => br (eqI (sgn (val a) (val b)) y0_6) (br (eqS s y0_4) (br (eqI e y1_3) (br (eqS y0_2 y0_5) (br (eqI y1_2 y1_4) (law05_alive fun y0 => K y0) (K false)) (K false)) (K false)) (K false)) (K false)) (K false)) := by
      intro s e hse
      have fin : ∀ (d : List UInt8) (e2 : Int), (∀ k : List UInt8 → Int → Prop, (val a < val b → k [] 2) → (val b ≤ val a → k (nb (val a - val b)) 0) → k d e2) →
          law05_wrong a b fun y0_3 => br y0_3 (br (eqI (sgn (val a) (val b)) 0) (br (eqS s []) (br (eqS d []) (br (eqI 0 2) (br (eqI e 2) (br (eqI e2 2) (law05_alive fun y0 => K y0) (K false)) (K false)) (K false)) (K false)) (K false)) (K false)) (r05_Add a b fun y0_4 y1_3 => r05_Sub a b fun y0_5 y1_4 => br (eqI 0 0) (r05_Cmp a b fun y0_6 => br (eqI (sgn (val a) (val b)) y0_6) (br (eqS s y0_4) (br (eqI e y1_3) (br (eqS d y0_5) (br (eqI e2 y1_4) (law05_alive fun y0 => K y0) (K false)) (K false)) (K false)) (K false)) (K false)) (K false)) := by
        intro d e2 hd
        rw [law05_wrong_ok, br_f (by simp [hm])]
        refine r05_Add_ok a b (by omega) (by omega) _ ?_
        have hs := hse (fun s' e' => r05_Sub a b fun y0_5 y1_4 => br (eqI 0 0) (r05_Cmp a b fun y0_6 => br (eqI (sgn (val a) (val b)) y0_6) (br (eqS s s') (br (eqI e e') (br (eqS d y0_5) (br (eqI e2 y1_4) (law05_alive fun y0 => K y0) (K false)) (K false)) (K false)) (K false)) (K false)) (K false))
        have g : ∀ s' e', s' = s → e' = e → r05_Sub a b fun y0_5 y1_4 => br (eqI 0 0) (r05_Cmp a b fun y0_6 => br (eqI (sgn (val a) (val b)) y0_6) (br (eqS s s') (br (eqI e e') (br (eqS d y0_5) (br (eqI e2 y1_4) (law05_alive fun y0 => K y0) (K false)) (K false)) (K false)) (K false)) (K false)) (K false) := by
          intro s' e' h1 h2
          subst h1; subst h2
          have g2 : ∀ d' e3, d' = d → e3 = e2 → br (eqI 0 0) (r05_Cmp a b fun y0_6 => br (eqI (sgn (val a) (val b)) y0_6) (br (eqS s' s') (br (eqI e' e') (br (eqS d d') (br (eqI e2 e3) (law05_alive fun y0 => K y0) (K false)) (K false)) (K false)) (K false)) (K false)) (K false) := by
            intro d' e3 h3 h4
            subst h3; subst h4
            rw [br_t (eqI_self 0), r05_Cmp_ok a b hm.1.2 hm.2.2, br_t (eqI_self _), br_t (eqS_self _), br_t (eqI_self _), br_t (eqS_self _), br_t (eqI_self _)]
            exact law05_alive_ok _ h
          have e3 := hd (fun d' e3 => d' = d ∧ e3 = e2)
          refine r05_Sub_ok a b hm.1 hm.2 _ (fun hl => ?_) (fun hl => ?_)
          · have := hd (fun x y => x = [] ∧ y = 2) (fun _ => ⟨rfl, rfl⟩) (fun hc => by omega)
            exact g2 _ _ this.1.symm this.2.symm
          · have := hd (fun x y => x = nb (val a - val b) ∧ y = 0) (fun hc => by omega) (fun _ => ⟨rfl, rfl⟩)
            exact g2 _ _ this.1.symm this.2.symm
        unfold tell
        by_cases hl : 16384 < (nb (val a + val b)).length
        · rw [if_pos hl]
          have := hse (fun x y => x = [] ∧ y = 4) (by unfold tell; rw [if_pos hl]; exact ⟨rfl, rfl⟩)
          exact g _ _ this.1.symm this.2.symm
        · rw [if_neg hl]
          have := hse (fun x y => x = nb (val a + val b) ∧ y = 0) (by unfold tell; rw [if_neg hl]; exact ⟨rfl, rfl⟩)
          exact g _ _ this.1.symm this.2.symm
      refine nat_Sub_ok a b _ (fun hn => absurd hm hn) (fun _ _ hl => ?_) (fun _ _ hl => ?_)
      · exact fin _ _ fun k k1 k2 => k1 hl
      · exact fin _ _ fun k k1 k2 => k2 hl
    unfold tell
    by_cases hl : 16384 < (nb (val a + val b)).length
    · rw [if_pos hl]
      exact key _ _ fun k hk => by unfold tell at hk; rwa [if_pos hl] at hk
    · rw [if_neg hl]
      exact key _ _ fun k hk => by unfold tell at hk; rwa [if_neg hl] at hk
  · refine nat_Cmp_ok a b _ (fun _ => ?_) fun m1 m2 => absurd ⟨m1, m2⟩ hm
    refine nat_Add_ok a b _ (fun _ => ?_) fun m1 m2 => absurd ⟨m1, m2⟩ hm
    refine nat_Sub_ok a b _ (fun _ => ?_) (fun m1 m2 => absurd ⟨m1, m2⟩ hm) fun m1 m2 => absurd ⟨m1, m2⟩ hm
    rw [law05_wrong_ok, br_t (by simp [hm])]
    exact law05_alive_ok _ h

theorem natRing (a b c : List UInt8) (ha : a.length ≤ 140737488351232) (hb : b.length ≤ 140737488351232) (hc : c.length ≤ 140737488351232) (K : Bool → Prop) (h : K true) : law05_NatRing a b c K := by
  rw [law05_NatRing.is]; unfold law05_NatRing.d
  have al : law05_alive fun y0 => K y0 := law05_alive_ok _ h
  have p := law05_play_ok a b 60
  have p2 := law05_play_ok c [] 60
  rw [show ((60 : Nat) : Int) = 60 from rfl] at p p2
  rw [p]
  by_cases h1 : a.length ≤ 60 ∧ b.length ≤ 60
  · rw [br_f (by simp [h1]), p2]
    by_cases h2 : c.length ≤ 60 ∧ ([] : List UInt8).length ≤ 60
    · rw [br_f (by simp [h2]), law05_wrong_ok]
      by_cases h3 : May a ∧ May b
      · rw [br_f (by simp [h3]), law05_wrong_ok]
        by_cases h4 : May c ∧ May []
        · rw [br_f (by simp [h4])]
          have bound : ∀ x n : Nat, x < 256 ^ n → n ≤ 16384 → (nb x).length ≤ 16384 := fun x n hx hn => Nat.le_trans ((nb_len_le x n).2 hx) hn
          have va : val a < 256 ^ 60 := Nat.lt_of_lt_of_le (val_lt a) (Nat.pow_le_pow_right (by omega) h1.1)
          have vb : val b < 256 ^ 60 := Nat.lt_of_lt_of_le (val_lt b) (Nat.pow_le_pow_right (by omega) h1.2)
          have vc : val c < 256 ^ 60 := Nat.lt_of_lt_of_le (val_lt c) (Nat.pow_le_pow_right (by omega) h2.1)
          have e61 : (256 : Nat) ^ 61 = 256 ^ 60 * 256 := Nat.pow_succ ..
          have vs : val a + val b < 256 ^ 61 := by omega
          have prod : ∀ x y : Nat, x < 256 ^ 61 → y < 256 ^ 60 → x * y < 256 ^ 121 := fun x y hx hy => by
            rw [show 121 = 61 + 60 from rfl, Nat.pow_add]; exact Nat.mul_lt_mul_of_lt_of_lt hx hy
          have mn : ∀ x : Nat, x < 256 ^ 121 → May (nb x) := fun x hx => ⟨bound x 121 hx (by omega), lead_nb x⟩
          have l121 : ∀ x : Nat, x < 256 ^ 121 → (nb x).length ≤ 121 := fun x hx => (nb_len_le x 121).2 hx
          have e121 : (256 : Nat) ^ 61 ≤ 256 ^ 121 := Nat.pow_le_pow_right (by omega) (by omega)
          refine nat_Add_ok a b _ (fun hn => absurd h3 hn) fun _ _ => tell_ok (bound _ 61 vs (by omega)) ?_
          have ms : May (nb (val a + val b)) := mn _ (by omega)
          have ls := l121 (val a + val b) (by omega)
          have mul : ∀ (x y : List UInt8) (k : List UInt8 → Int → Prop), May x → May y → x.length ≤ 121 → y.length ≤ 121 → val x * val y < 256 ^ 121 → k (nb (val x * val y)) 0 → nat_Mul x y k := by
            intro x y k mx my lx ly hv hk
            exact nat_Mul_ok x y k (fun hn => absurd ⟨mx, my⟩ hn) (fun _ _ hl => absurd hl (by omega)) fun _ _ _ => tell_ok (bound _ 121 hv (by omega)) hk
          have p1 := prod (val a + val b) (val c) vs vc
          have p2 := prod (val a) (val c) (by omega) vc
          have p3 := prod (val b) (val c) (by omega) vc
          have p4 := prod (val c) (val a) (by omega) va
          refine mul _ c _ ms h4.1 ls (by omega) (by rw [val_nb]; exact p1) ?_
          refine mul a c _ h3.1 h4.1 (by omega) (by omega) p2 ?_
          refine mul b c _ h3.2 h4.1 (by omega) (by omega) p3 ?_
          have hsum : val a * val c + val b * val c = (val a + val b) * val c := (Nat.add_mul _ _ _).symm
          refine nat_Add_ok _ _ _ (fun hn => absurd ⟨mn _ p2, mn _ p3⟩ hn) fun _ _ => tell_ok (by rw [val_nb, val_nb, hsum]; exact bound _ 121 p1 (by omega)) ?_
          refine nat_Sub_ok _ _ _ (fun hn => absurd ⟨ms, h3.2⟩ hn) (fun _ _ hl => absurd hl (by rw [val_nb]; omega)) fun _ _ _ => ?_
          refine mul c a _ h4.1 h3.1 (by omega) (by omega) p4 ?_
          simp only [val_nb, hsum, eqI_self, br_true, eqS_self, Nat.add_sub_cancel, nb_val h3.1.2, Nat.mul_comm (val c)]
          exact al
        · rw [br_t (by simp [h4])]; exact al
      · rw [br_t (by simp [h3])]; exact al
    · rw [br_t (by rw [decide_eq_false h2]; rfl)]; exact al
  · rw [br_t (by rw [decide_eq_false h1]; rfl)]; exact al
end Go.Ev.S

/- The formats: their numbers, and the encodings that have names. -/
set_option linter.unusedVariables false
set_option linter.unusedSimpArgs false
set_option maxRecDepth 8000
namespace Go.Ev.S
open Go Go.Ev

/-- Width, precision, greatest exponent of the format of a number. -/
def fw : Nat → Nat | 0 => 32 | 1 => 64 | 2 => 16 | 3 => 128 | _ => 0
def fp : Nat → Nat | 0 => 24 | 1 => 53 | 2 => 11 | 3 => 113 | _ => 0
def fe : Nat → Nat | 0 => 127 | 1 => 1023 | 2 => 15 | 3 => 16383 | _ => 0
def sg (f : Nat) (neg : Bool) : Nat := cond neg (2 ^ (fw f - 1)) 0
/-- An encoding of its three fields. -/
def enc (f : Nat) (neg : Bool) (e t : Nat) : Nat := sg f neg + e * 2 ^ (fp f - 1) + t

theorem four {f : Nat} (h : f ≤ 3) : f = 0 ∨ f = 1 ∨ f = 2 ∨ f = 3 := by omega

theorem shape_Check_ok (f : Nat) (h : f ≤ 3) (K : Int → Prop) : shape_Check f K = K 0 := by
  rw [shape_Check.is]; unfold shape_Check.d; rw [br_f (lt_f (by omega))]
theorem shape_Check_no (f : Nat) (h : 3 < f) (K : Int → Prop) : shape_Check f K = K 2 := by
  rw [shape_Check.is]; unfold shape_Check.d; rw [br_t (lt_t (by omega))]
theorem shape_numbers_no (f : Nat) (h : 3 < f) (h2 : f < 256) (K : Int → Int → Int → List UInt8 → Prop) : shape_numbers f K = K 0 0 0 [] := by
  rw [shape_numbers.is]; unfold shape_numbers.d
  rw [br_t (le_t (by rw [cv_i64 (by omega) (by omega)]; omega))]
theorem shape_Width_ok (f : Nat) (h : f ≤ 3) (K : Int → Prop) : shape_Width f K = K (fw f) := by
  rw [shape_Width.is]; unfold shape_Width.d; rw [shape_numbers.is]
  rcases four h with rfl | rfl | rfl | rfl <;> kernel_rfl
theorem shape_Width_no (f : Nat) (h : 3 < f) (h2 : f < 256) (K : Int → Prop) : shape_Width f K = K 0 := by
  rw [shape_Width.is]; unfold shape_Width.d; rw [shape_numbers_no f h h2]
theorem shape_Precision_ok (f : Nat) (h : f ≤ 3) (K : Int → Prop) : shape_Precision f K = K (fp f) := by
  rw [shape_Precision.is]; unfold shape_Precision.d; rw [shape_numbers.is]
  rcases four h with rfl | rfl | rfl | rfl <;> kernel_rfl
theorem shape_Precision_no (f : Nat) (h : 3 < f) (h2 : f < 256) (K : Int → Prop) : shape_Precision f K = K 0 := by
  rw [shape_Precision.is]; unfold shape_Precision.d; rw [shape_numbers_no f h h2]
theorem shape_Emax_ok (f : Nat) (h : f ≤ 3) (K : Int → Prop) : shape_Emax f K = K (fe f) := by
  rw [shape_Emax.is]; unfold shape_Emax.d; rw [shape_numbers.is]
  rcases four h with rfl | rfl | rfl | rfl <;> kernel_rfl
theorem shape_Emax_no (f : Nat) (h : 3 < f) (h2 : f < 256) (K : Int → Prop) : shape_Emax f K = K 0 := by
  rw [shape_Emax.is]; unfold shape_Emax.d; rw [shape_numbers_no f h h2]
theorem shape_Emin_ok (f : Nat) (h : f ≤ 3) (K : Int → Prop) : shape_Emin f K = K (1 - (fe f : Int)) := by
  rw [shape_Emin.is]; unfold shape_Emin.d; rw [shape_Check_ok f h, shape_Emax_ok f h]
  rcases four h with rfl | rfl | rfl | rfl <;> kernel_rfl
theorem shape_Emin_no (f : Nat) (h : 3 < f) (K : Int → Prop) : shape_Emin f K = K 0 := by
  rw [shape_Emin.is]; unfold shape_Emin.d; rw [shape_Check_no f h]; rfl

theorem shape_NaN_ok (f : Nat) (h : f ≤ 3) (K : Int → Int → Prop) : shape_NaN f K = K (Hi (enc f false (2 * fe f + 1) (2 ^ (fp f - 2)))) (Lo (enc f false (2 * fe f + 1) (2 ^ (fp f - 2)))) := by
  rw [shape_NaN.is]; unfold shape_NaN.d; rw [shape_Check.is, shape_Emax.is, shape_Precision.is, shape_at.is]; unfold shape_Emax.d shape_Precision.d; rw [shape_numbers.is]
  rcases four h with rfl | rfl | rfl | rfl <;> kernel_rfl
theorem shape_NaN_no (f : Nat) (h : 3 < f) (K : Int → Int → Prop) : shape_NaN f K = K 0 0 := by
  rw [shape_NaN.is]; unfold shape_NaN.d; rw [shape_Check_no f h]; rfl

theorem shape_with_sg (f : Nat) (h : f ≤ 3) (K : Int → Int → Prop) : (shape_Width f fun y0 => shape_at 1 (subI IntKind.i64 y0 1) K) = K (Hi (2 ^ (fw f - 1))) (Lo (2 ^ (fw f - 1))) := by
  rw [shape_Width_ok f h, shape_at.is]
  rcases four h with rfl | rfl | rfl | rfl <;> kernel_rfl
theorem sg_lt (f : Nat) (h : f ≤ 3) (neg : Bool) : sg f neg < 2 ^ 128 := by
  rcases four h with rfl | rfl | rfl | rfl <;> cases neg <;> decide
theorem shape_with_ok (f x : Nat) (h : f ≤ 3) (hx : x < 2 ^ 128) (neg : Bool) (K : Int → Int → Prop) : shape_with f (Hi x) (Lo x) neg K = K (Hi (x ||| sg f neg)) (Lo (x ||| sg f neg)) := by
  rw [shape_with.is]; unfold shape_with.d; rw [shape_Check_ok f h, br_f (by decide)]
  cases neg with
  | false => rw [br_f rfl]; simp [sg]
  | true =>
    rw [br_t rfl, shape_with_sg f h]
    obtain ⟨h1, h2⟩ := or_two x (2 ^ (fw f - 1)) hx (sg_lt f h true)
    rw [h1, h2]; rfl
theorem shape_with_no (f : Nat) (h : 3 < f) (hi lo : Int) (neg : Bool) (K : Int → Int → Prop) : shape_with f hi lo neg K = K 0 0 := by
  rw [shape_with.is]; unfold shape_with.d; rw [shape_Check_no f h]; rfl
theorem HiLo_zero : Hi 0 = 0 ∧ Lo 0 = 0 := ⟨rfl, rfl⟩
theorem shape_Zero_ok (f : Nat) (h : f ≤ 3) (neg : Bool) (K : Int → Int → Prop) : shape_Zero f neg K = K (Hi (enc f neg 0 0)) (Lo (enc f neg 0 0)) := by
  rw [shape_Zero.is]; unfold shape_Zero.d
  have := shape_with_ok f 0 h (by decide) neg K
  rw [HiLo_zero.1, HiLo_zero.2, Nat.zero_or] at this
  rw [this]; simp [enc]
theorem shape_Zero_no (f : Nat) (h : 3 < f) (neg : Bool) (K : Int → Int → Prop) : shape_Zero f neg K = K 0 0 := by
  rw [shape_Zero.is]; unfold shape_Zero.d; rw [shape_with_no f h]
theorem shape_Least_ok (f : Nat) (h : f ≤ 3) (neg : Bool) (K : Int → Int → Prop) : shape_Least f neg K = K (Hi (enc f neg 0 1)) (Lo (enc f neg 0 1)) := by
  rw [shape_Least.is]; unfold shape_Least.d
  have := shape_with_ok f 1 h (by decide) neg K
  rw [show Hi 1 = 0 from rfl, show Lo 1 = 1 from rfl] at this
  rw [this]
  have e : 1 ||| sg f neg = enc f neg 0 1 := by rcases four h with rfl | rfl | rfl | rfl <;> cases neg <;> decide
  rw [e]
theorem shape_Least_no (f : Nat) (h : 3 < f) (neg : Bool) (K : Int → Int → Prop) : shape_Least f neg K = K 0 0 := by
  rw [shape_Least.is]; unfold shape_Least.d; rw [shape_with_no f h]
theorem shape_field_ok (f e : Nat) (h : f ≤ 3) (he : e = 1 ∨ e = fe f ∨ e = 2 * fe f + 1) (K : Int → Int → Prop) : shape_field f e K = K (Hi (e * 2 ^ (fp f - 1))) (Lo (e * 2 ^ (fp f - 1))) := by
  rw [shape_field.is]; unfold shape_field.d; rw [shape_Precision_ok f h, shape_at.is]
  rcases he with rfl | rfl | rfl <;> rcases four h with rfl | rfl | rfl | rfl <;> kernel_rfl
theorem field_or (f e : Nat) (h : f ≤ 3) (he : e = 1 ∨ e = fe f ∨ e = 2 * fe f + 1) (neg : Bool) : (e * 2 ^ (fp f - 1)) ||| sg f neg = enc f neg e 0 ∧ e * 2 ^ (fp f - 1) < 2 ^ 128 := by
  rcases he with rfl | rfl | rfl <;> rcases four h with rfl | rfl | rfl | rfl <;> cases neg <;> decide
theorem shape_Inf_ok (f : Nat) (h : f ≤ 3) (neg : Bool) (K : Int → Int → Prop) : shape_Inf f neg K = K (Hi (enc f neg (2 * fe f + 1) 0)) (Lo (enc f neg (2 * fe f + 1) 0)) := by
  rw [shape_Inf.is]; unfold shape_Inf.d; rw [shape_Check_ok f h, br_f (by decide), shape_Emax_ok f h]
  have e1 : addI IntKind.i64 (mulI IntKind.i64 2 (fe f)) 1 = ((2 * fe f + 1 : Nat) : Int) := by rcases four h with rfl | rfl | rfl | rfl <;> decide
  obtain ⟨h1, h2⟩ := field_or f _ h (.inr (.inr rfl)) neg
  rw [e1, shape_field_ok f _ h (.inr (.inr rfl)), shape_with_ok f _ h h2 neg, h1]
theorem shape_Inf_no (f : Nat) (h : 3 < f) (neg : Bool) (K : Int → Int → Prop) : shape_Inf f neg K = K 0 0 := by
  rw [shape_Inf.is]; unfold shape_Inf.d; rw [shape_Check_no f h]; rfl
theorem shape_One_ok (f : Nat) (h : f ≤ 3) (neg : Bool) (K : Int → Int → Prop) : shape_One f neg K = K (Hi (enc f neg (fe f) 0)) (Lo (enc f neg (fe f) 0)) := by
  rw [shape_One.is]; unfold shape_One.d; rw [shape_Check_ok f h, br_f (by decide), shape_Emax_ok f h]
  obtain ⟨h1, h2⟩ := field_or f _ h (.inr (.inl rfl)) neg
  rw [shape_field_ok f _ h (.inr (.inl rfl)), shape_with_ok f _ h h2 neg, h1]
theorem shape_One_no (f : Nat) (h : 3 < f) (neg : Bool) (K : Int → Int → Prop) : shape_One f neg K = K 0 0 := by
  rw [shape_One.is]; unfold shape_One.d; rw [shape_Check_no f h]; rfl
theorem shape_LeastNormal_ok (f : Nat) (h : f ≤ 3) (neg : Bool) (K : Int → Int → Prop) : shape_LeastNormal f neg K = K (Hi (enc f neg 1 0)) (Lo (enc f neg 1 0)) := by
  rw [shape_LeastNormal.is]; unfold shape_LeastNormal.d; rw [shape_Check_ok f h, br_f (by decide)]
  obtain ⟨h1, h2⟩ := field_or f _ h (.inl rfl) neg
  have := shape_field_ok f 1 h (.inl rfl)
  rw [show (1 : Int) = ((1 : Nat) : Int) from rfl, this, shape_with_ok f _ h h2 neg, h1]
theorem shape_LeastNormal_no (f : Nat) (h : 3 < f) (neg : Bool) (K : Int → Int → Prop) : shape_LeastNormal f neg K = K 0 0 := by
  rw [shape_LeastNormal.is]; unfold shape_LeastNormal.d; rw [shape_Check_no f h]; rfl
theorem shape_Greatest_ok (f : Nat) (h : f ≤ 3) (neg : Bool) (K : Int → Int → Prop) : shape_Greatest f neg K = K (Hi (enc f neg (2 * fe f) (2 ^ (fp f - 1) - 1))) (Lo (enc f neg (2 * fe f) (2 ^ (fp f - 1) - 1))) := by
  rw [shape_Greatest.is]; unfold shape_Greatest.d; rw [shape_Inf_ok f h]; simp only [shape_Check_ok f h, shape_Width_ok f h]
  have key : ∀ x : Nat, x < 2 ^ 128 → x ||| sg f neg = enc f neg (2 * fe f) (2 ^ (fp f - 1) - 1) → shape_with f (Hi x) (Lo x) neg (fun y0 y1 => K y0 y1) = K (Hi (enc f neg (2 * fe f) (2 ^ (fp f - 1) - 1))) (Lo (enc f neg (2 * fe f) (2 ^ (fp f - 1) - 1))) := by
    intro x hx hq
    rw [shape_with_ok f x h hx neg, hq]
  have k2 := key ((2 * fe f) * 2 ^ (fp f - 1) + (2 ^ (fp f - 1) - 1)) (by rcases four h with rfl | rfl | rfl | rfl <;> decide) (by rcases four h with rfl | rfl | rfl | rfl <;> cases neg <;> decide)
  rw [← k2]
  clear key k2
  generalize hq : (shape_with f : Int → Int → Bool → (Int → Int → Prop) → Prop) = sw
  clear hq
  rcases four h with rfl | rfl | rfl | rfl <;> (refine Eq.trans ?_ rfl; kernel_rfl)
theorem shape_Greatest_no (f : Nat) (h : 3 < f) (neg : Bool) (K : Int → Int → Prop) : shape_Greatest f neg K = K 0 0 := by
  rw [shape_Greatest.is]; unfold shape_Greatest.d; rw [shape_Inf_no f h]; rfl
theorem shape_Fits_ok (f x : Nat) (h : f ≤ 3) (hx : x < 2 ^ 128) (K : Bool → Prop) : shape_Fits f (Hi x) (Lo x) K = K (decide (x < 2 ^ fw f)) := by
  rw [shape_Fits.is]; unfold shape_Fits.d
  have ez : eqI (Hi x) 0 = decide (x / 18446744073709551616 = 0) := by
    unfold Hi; rw [show (0 : Int) = ((0 : Nat) : Int) from rfl, eq_nat]
  have es : ∀ w : Nat, w < 64 → eqI (shrI .u64 (Lo x) (w : Int)) 0 = decide (x % 18446744073709551616 < 2 ^ w) := by
    intro w hw
    unfold Lo
    rw [shr_nat _ w hw, Nat.shiftRight_eq_div_pow, show (0 : Int) = ((0 : Nat) : Int) from rfl, eq_nat, decide_eq_decide, Nat.div_eq_zero_iff]
    have := Nat.two_pow_pos w
    omega
  have hx' : x < 340282366920938463463374607431768211456 := hx
  rcases four h with rfl | rfl | rfl | rfl
  · rw [br_f (by decide), br_f (by decide), br_t (by decide), br_t (by decide), ez, shape_Width_ok 0 (by omega)]
    show br (decide (x / 18446744073709551616 = 0)) (gd (!ltI (cvI IntKind.u64 ((32 : Nat) : Int)) 0) (K (eqI (shrI .u64 (Lo x) (cvI IntKind.u64 ((32 : Nat) : Int))) 0))) (K false) = K (decide (x < 2 ^ 32))
    rw [cv_u64 (by omega) (by omega), gd_t (sh_ok (by omega)), es 32 (by omega), show (2 : Nat) ^ 32 = 4294967296 from rfl]
    by_cases hq : x / 18446744073709551616 = 0
    · rw [br_t (by simp [hq])]; congr 1; rw [decide_eq_decide]; omega
    · rw [br_f (by simp [hq])]; congr 1; symm; rw [decide_eq_false_iff_not]; omega
  · rw [br_f (by decide), br_t (by decide), ez]
    show K _ = K (decide (x < 2 ^ 64))
    congr 1; rw [decide_eq_decide, show (2 : Nat) ^ 64 = 18446744073709551616 from rfl]; omega
  · rw [br_f (by decide), br_f (by decide), br_f (by decide), br_t (by decide), ez, shape_Width_ok 2 (by omega)]
    show br (decide (x / 18446744073709551616 = 0)) (gd (!ltI (cvI IntKind.u64 ((16 : Nat) : Int)) 0) (K (eqI (shrI .u64 (Lo x) (cvI IntKind.u64 ((16 : Nat) : Int))) 0))) (K false) = K (decide (x < 2 ^ 16))
    rw [cv_u64 (by omega) (by omega), gd_t (sh_ok (by omega)), es 16 (by omega), show (2 : Nat) ^ 16 = 65536 from rfl]
    by_cases hq : x / 18446744073709551616 = 0
    · rw [br_t (by simp [hq])]; congr 1; rw [decide_eq_decide]; omega
    · rw [br_f (by simp [hq])]; congr 1; symm; rw [decide_eq_false_iff_not]; omega
  · rw [br_t (by decide)]
    congr 1; symm; rw [decide_eq_true_eq]; exact hx
theorem shape_Fits_no (f : Nat) (h : 3 < f) (hi lo : Int) (K : Bool → Prop) : shape_Fits f hi lo K = K false := by
  rw [shape_Fits.is]; unfold shape_Fits.d
  rw [br_f (eq_f (by omega)), br_f (eq_f (by omega)), br_f (eq_f (by omega)), br_f (eq_f (by omega))]
end Go.Ev.S

/- The document's answer on formats: an encoding of its fields, and its fields. -/
set_option linter.unusedVariables false
set_option linter.unusedSimpArgs false
set_option maxRecDepth 8000
namespace Go.Ev.S
open Go Go.Ev

theorem r07_Right_ok (f : Nat) (h : f ≤ 3) (K : Bool → Prop) : r07_Right f K = K true := by
  rw [r07_Right.is]; unfold r07_Right.d; rw [le_t (by omega)]
theorem r07_Right_no (f : Nat) (h : 3 < f) (K : Bool → Prop) : r07_Right f K = K false := by
  rw [r07_Right.is]; unfold r07_Right.d; rw [le_f (by omega)]
theorem r07_Width_ok (f : Nat) (h : f ≤ 3) (K : Int → Prop) : r07_Width f K = K (fw f) := by
  rw [r07_Width.is]
  rcases four h with rfl | rfl | rfl | rfl <;> kernel_rfl
theorem r07_Precision_ok (f : Nat) (h : f ≤ 3) (K : Int → Prop) : r07_Precision f K = K (fp f) := by
  rw [r07_Precision.is]
  rcases four h with rfl | rfl | rfl | rfl <;> kernel_rfl
theorem r07_Emax_ok (f : Nat) (h : f ≤ 3) (K : Int → Prop) : r07_Emax f K = K (fe f) := by
  rw [r07_Emax.is]
  rcases four h with rfl | rfl | rfl | rfl <;> kernel_rfl
theorem r07_Emin_ok (f : Nat) (h : f ≤ 3) (K : Int → Prop) : r07_Emin f K = K (1 - (fe f : Int)) := by
  rw [r07_Emin.is]; unfold r07_Emin.d; rw [r07_Right_ok f h, r07_Emax_ok f h]
  rcases four h with rfl | rfl | rfl | rfl <;> kernel_rfl
theorem r07_Ones_ok (f : Nat) (h : f ≤ 3) (K : Int → Prop) : r07_Ones f K = K ((2 * fe f + 1 : Nat)) := by
  rw [r07_Ones.is]; unfold r07_Ones.d; rw [r07_Emax_ok f h]
  rcases four h with rfl | rfl | rfl | rfl <;> kernel_rfl

theorem fw_eq (f : Nat) (h : f ≤ 3) : 2 ^ (fw f - 1) = (2 * fe f + 2) * 2 ^ (fp f - 1) := by rcases four h with rfl | rfl | rfl | rfl <;> decide
theorem fw_le (f : Nat) (h : f ≤ 3) : 1 ≤ fw f ∧ fw f ≤ 128 ∧ 2 ≤ fp f ∧ fp f ≤ 113 ∧ fp f < fw f ∧ 2 * fe f + 1 < 32768 := by rcases four h with rfl | rfl | rfl | rfl <;> decide
theorem body_lt {f e t : Nat} (h : f ≤ 3) (he : e ≤ 2 * fe f + 1) (ht : t < 2 ^ (fp f - 1)) : e * 2 ^ (fp f - 1) + t < 2 ^ (fw f - 1) := by
  rw [fw_eq f h]
  have : (e + 1) * 2 ^ (fp f - 1) ≤ (2 * fe f + 2) * 2 ^ (fp f - 1) := Nat.mul_le_mul_right _ (by omega)
  rw [Nat.add_mul, Nat.one_mul] at this
  omega
theorem enc_lt {f e t : Nat} (h : f ≤ 3) (he : e ≤ 2 * fe f + 1) (ht : t < 2 ^ (fp f - 1)) (neg : Bool) : enc f neg e t < 2 ^ fw f := by
  have h1 := body_lt h he ht
  have h2 := (fw_le f h).1
  have h3 : 2 ^ fw f = 2 ^ (fw f - 1) + 2 ^ (fw f - 1) := by
    have : fw f = fw f - 1 + 1 := by omega
    conv => lhs; rw [this, Nat.pow_succ]
    omega
  unfold enc sg
  cases neg <;> simp <;> omega
theorem p128 {a : Nat} (h : a ≤ 128) {x : Nat} (hx : x < 2 ^ a) : x < 2 ^ 128 := Nat.lt_of_lt_of_le hx (Nat.pow_le_pow_right (by omega) h)

theorem r07_Build_ok (f e t : Nat) (h : f ≤ 3) (he : e ≤ 2 * fe f + 1) (ht : t < 2 ^ (fp f - 1)) (neg : Bool) (K : Int → Int → Prop) (hK : K (Hi (enc f neg e t)) (Lo (enc f neg e t))) : r07_Build f neg e (W t) K := by
  obtain ⟨w1, w2, w3, w4, w5, w6⟩ := fw_le f h
  have hb := body_lt h he ht
  have hen := enc_lt h he ht neg
  have hb' : e * 2 ^ (fp f - 1) + t < Q6 := p384 (by omega) hb
  have he1 : e * 2 ^ (fp f - 1) < Q6 := by omega
  have ht1 : t < Q6 := p384 (by omega) ht
  rw [r07_Build.is]; unfold r07_Build.d
  rw [r07_Right_ok f h, br_f (by decide), cv_u64 (by omega) (by omega), r02_Of_ok e (by omega), r07_Precision_ok f h, show subI IntKind.i64 (fp f : Int) 1 = ((fp f - 1 : Nat) : Int) from by rw [sub_i64 (by omega) (by omega)]; omega]
  refine r02_Left_ok e (fp f - 1) (p384 (a := 64) (by omega) (by omega)) (by omega) _ ?_
  rw [Nat.mod_eq_of_lt he1]
  refine r02_Add_ok _ _ he1 ht1 _ ?_
  rw [Nat.mod_eq_of_lt hb']
  cases neg with
  | false =>
    rw [br_f rfl]
    rw [r02_ToBits_ok _ (p128 (by omega) hb)]
    have : enc f false e t = e * 2 ^ (fp f - 1) + t := by simp [enc, sg]
    rw [this] at hK; exact hK
  | true =>
    have e1 : enc f true e t = e * 2 ^ (fp f - 1) + t + 2 ^ (fw f - 1) := by simp [enc, sg]; omega
    rw [e1] at hK hen
    have hen' : e * 2 ^ (fp f - 1) + t + 2 ^ (fw f - 1) < Q6 := p384 (by omega) hen
    rw [br_t rfl, show (1 : Int) = ((1 : Nat) : Int) from rfl, r02_Of_ok 1 (by omega), r07_Width_ok f h, show subI IntKind.i64 (fw f : Int) ((1 : Nat) : Int) = ((fw f - 1 : Nat) : Int) from by rw [sub_i64 (by omega) (by omega)]; omega]
    refine r02_Left_ok 1 (fw f - 1) (p384 (a := 64) (by omega) (by omega)) (by omega) _ ?_
    have h1 : 2 ^ (fw f - 1) < Q6 := lt_Q6 (by omega)
    rw [Nat.one_mul, Nat.mod_eq_of_lt h1]
    refine r02_Add_ok _ _ hb' h1 _ ?_
    rw [Nat.mod_eq_of_lt hen', r02_ToBits_ok _ (p128 (by omega) hen)]
    exact hK
theorem r07_Build_no (f : Nat) (h : 3 < f) (neg : Bool) (e : Int) (t : Nat → Int) (K : Int → Int → Prop) : r07_Build f neg e t K = K 0 0 := by
  rw [r07_Build.is]; unfold r07_Build.d; rw [r07_Right_no f h]; rfl

theorem W0 : (fun _ => (0 : Int)) = W 0 := W_zero.symm
theorem r07_NaN_ok (f : Nat) (h : f ≤ 3) (K : Int → Int → Prop) (hK : K (Hi (enc f false (2 * fe f + 1) (2 ^ (fp f - 2)))) (Lo (enc f false (2 * fe f + 1) (2 ^ (fp f - 2))))) : r07_NaN f K := by
  obtain ⟨w1, w2, w3, w4, w5, w6⟩ := fw_le f h
  rw [r07_NaN.is]; unfold r07_NaN.d
  have h1 : 2 ^ (fp f - 2) < Q6 := lt_Q6 (by omega)
  rw [show (1 : Int) = ((1 : Nat) : Int) from rfl, r02_Of_ok 1 (by omega), r07_Precision_ok f h, show subI IntKind.i64 (fp f : Int) 2 = ((fp f - 2 : Nat) : Int) from by rw [sub_i64 (by omega) (by omega)]; omega]
  refine r02_Left_ok 1 (fp f - 2) (p384 (a := 64) (by omega) (by omega)) (by omega) _ ?_
  rw [Nat.one_mul, Nat.mod_eq_of_lt h1, r07_Ones_ok f h]
  exact r07_Build_ok f _ _ h (Nat.le_refl _) (Nat.pow_lt_pow_right (by omega) (by omega)) false _ hK
theorem r07_Inf_ok (f : Nat) (h : f ≤ 3) (neg : Bool) (K : Int → Int → Prop) (hK : K (Hi (enc f neg (2 * fe f + 1) 0)) (Lo (enc f neg (2 * fe f + 1) 0))) : r07_Inf f neg K := by
  rw [r07_Inf.is]; unfold r07_Inf.d; rw [r07_Ones_ok f h, W0]
  exact r07_Build_ok f _ _ h (Nat.le_refl _) (Nat.two_pow_pos _) neg _ hK
theorem r07_Zero_ok (f : Nat) (h : f ≤ 3) (neg : Bool) (K : Int → Int → Prop) (hK : K (Hi (enc f neg 0 0)) (Lo (enc f neg 0 0))) : r07_Zero f neg K := by
  rw [r07_Zero.is]; unfold r07_Zero.d; rw [W0, show (0 : Int) = ((0 : Nat) : Int) from rfl]
  exact r07_Build_ok f _ _ h (by omega) (Nat.two_pow_pos _) neg _ hK
theorem r07_Least_ok (f : Nat) (h : f ≤ 3) (neg : Bool) (K : Int → Int → Prop) (hK : K (Hi (enc f neg 0 1)) (Lo (enc f neg 0 1))) : r07_Least f neg K := by
  obtain ⟨w1, w2, w3, w4, w5, w6⟩ := fw_le f h
  rw [r07_Least.is]; unfold r07_Least.d; rw [show (1 : Int) = ((1 : Nat) : Int) from rfl, r02_Of_ok 1 (by omega), show (0 : Int) = ((0 : Nat) : Int) from rfl]
  exact r07_Build_ok f _ _ h (by omega) (Nat.one_lt_two_pow (by omega)) neg _ hK
theorem r07_LeastNormal_ok (f : Nat) (h : f ≤ 3) (neg : Bool) (K : Int → Int → Prop) (hK : K (Hi (enc f neg 1 0)) (Lo (enc f neg 1 0))) : r07_LeastNormal f neg K := by
  rw [r07_LeastNormal.is]; unfold r07_LeastNormal.d; rw [W0, show (1 : Int) = ((1 : Nat) : Int) from rfl]
  exact r07_Build_ok f _ _ h (by omega) (Nat.two_pow_pos _) neg _ hK
theorem r07_One_ok (f : Nat) (h : f ≤ 3) (neg : Bool) (K : Int → Int → Prop) (hK : K (Hi (enc f neg (fe f) 0)) (Lo (enc f neg (fe f) 0))) : r07_One f neg K := by
  rw [r07_One.is]; unfold r07_One.d; rw [W0, r07_Emax_ok f h]
  exact r07_Build_ok f _ _ h (by omega) (Nat.two_pow_pos _) neg _ hK
theorem r07_Greatest_ok (f : Nat) (h : f ≤ 3) (neg : Bool) (K : Int → Int → Prop) (hK : K (Hi (enc f neg (2 * fe f) (2 ^ (fp f - 1) - 1))) (Lo (enc f neg (2 * fe f) (2 ^ (fp f - 1) - 1)))) : r07_Greatest f neg K := by
  obtain ⟨w1, w2, w3, w4, w5, w6⟩ := fw_le f h
  rw [r07_Greatest.is]; unfold r07_Greatest.d
  rw [r07_Ones_ok f h, r07_Precision_ok f h, show subI IntKind.i64 (fp f : Int) 1 = ((fp f - 1 : Nat) : Int) from by rw [sub_i64 (by omega) (by omega)]; omega,
    show subI IntKind.i64 ((2 * fe f + 1 : Nat) : Int) 1 = ((2 * fe f : Nat) : Int) from by rw [sub_i64 (by omega) (by omega)]; omega]
  refine r02_Mask_ok _ (by omega) _ ?_
  have := Nat.two_pow_pos (fp f - 1)
  exact r07_Build_ok f _ _ h (by omega) (by omega) neg _ hK

theorem r07_Fits_ok (f x : Nat) (h : f ≤ 3) (hx : x < 2 ^ 128) (K : Bool → Prop) (hK : K (decide (x < 2 ^ fw f))) : r07_Fits f (Hi x) (Lo x) K := by
  rw [r07_Fits.is]; unfold r07_Fits.d; rw [r07_Right_ok f h, br_t (by decide), r02_OfBits_ok x hx]
  refine r02_Len_ok x (p384 (a := 128) (by omega) hx) _ ?_
  rw [r07_Width_ok f h, le_nat]
  have : decide (blen x ≤ fw f) = decide (x < 2 ^ fw f) := by rw [decide_eq_decide]; exact blen_le x _
  rw [this]; exact hK
theorem r07_Fits_no (f : Nat) (h : 3 < f) (hi lo : Int) (K : Bool → Prop) : r07_Fits f hi lo K = K false := by
  rw [r07_Fits.is]; unfold r07_Fits.d; rw [r07_Right_no f h]; rfl
end Go.Ev.S

/- The plain law of ShapeMakes, and that of ShapeNumbers. -/
set_option linter.unusedVariables false
set_option linter.unusedSimpArgs false
set_option maxRecDepth 8000
namespace Go.Ev.S
open Go Go.Ev

theorem u8_nat {a : Int} (w : (Lit.int .u8 a).wf = true) : ∃ n : Nat, a = n ∧ n < 256 := by
  obtain ⟨h1, h2⟩ := range_u8 w
  exact ⟨a.toNat, by omega, by omega⟩
theorem u64_nat {a : Int} (w : (Lit.int .u64 a).wf = true) : ∃ n : Nat, a = n ∧ n < 18446744073709551616 := by
  obtain ⟨h1, h2⟩ := range_u64 w
  exact ⟨a.toNat, by omega, by omega⟩
theorem pair_nat {a b : Int} (w : (Lit.int .u64 a).wf = true) (w2 : (Lit.int .u64 b).wf = true) : ∃ x : Nat, x < 2 ^ 128 ∧ a = Hi x ∧ b = Lo x := by
  obtain ⟨n, rfl, h1⟩ := u64_nat w
  obtain ⟨m, rfl, h2⟩ := u64_nat w2
  exact ⟨two n m, two_lt h1 h2, (Hi_two h2).symm, (Lo_two h2).symm⟩
theorem br_pair {x : Nat} {p q : Prop} (h : p) : br (eqI (Hi x) (Hi x) && eqI (Lo x) (Lo x)) p q := by rw [pair_eq, br_t (by simp)]; exact h
theorem br_eq {x : Int} {p q : Prop} (h : p) : br (eqI x x) p q := by rw [br_t (eq_t rfl)]; exact h
theorem br_beq {b : Bool} {p q : Prop} (h : p) : br (beqB b b) p q := by rw [br_t (beqB_eq.2 rfl)]; exact h
theorem br_00 {p q : Prop} (h : p) : br (eqI 0 0 && eqI 0 0) p q := h

theorem law07_alive_ok (K : Bool → Prop) (h : K true) : law07_alive K := by
  have : law07_alive K = K true := by
    rw [law07_alive.is]
    simp only [law07_alive.d, shape_Width.is, shape_Width.d, shape_Emax.is, shape_Emax.d, shape_NaN.is, shape_NaN.d, shape_Check.is, shape_CheckMode.is, shape_numbers.is, shape_at.is, shape_Precision.is, shape_Precision.d]
    kernel_rfl
  rw [this]; exact h

theorem shapeMakes (a0 : Int) (a1 : Bool) (w0 : (Lit.int .u8 a0).wf = true) (K : Bool → Prop) (hK : K true) : law07_ShapeMakes a0 a1 K := by
  obtain ⟨f, rfl, hf⟩ := u8_nat w0
  rw [law07_ShapeMakes.is]; unfold law07_ShapeMakes.d
  by_cases h : f ≤ 3
  · rw [r07_Right_ok f h, br_f (by decide)]
    rw [shape_NaN_ok f h]; refine r07_NaN_ok f h _ (br_pair ?_)
    rw [shape_Inf_ok f h]; refine r07_Inf_ok f h a1 _ (br_pair ?_)
    rw [shape_Zero_ok f h]; refine r07_Zero_ok f h a1 _ (br_pair ?_)
    rw [shape_Greatest_ok f h]; refine r07_Greatest_ok f h a1 _ (br_pair ?_)
    rw [shape_LeastNormal_ok f h]; refine r07_LeastNormal_ok f h a1 _ (br_pair ?_)
    rw [shape_Least_ok f h]; refine r07_Least_ok f h a1 _ (br_pair ?_)
    rw [shape_One_ok f h]; refine r07_One_ok f h a1 _ (br_pair ?_)
    exact law07_alive_ok _ hK
  · have h : 3 < f := by omega
    rw [r07_Right_no f h, br_t (by decide)]
    rw [shape_NaN_no f h]; refine br_00 ?_
    rw [shape_Inf_no f h]; refine br_00 ?_
    rw [shape_Zero_no f h]; refine br_00 ?_
    rw [shape_Greatest_no f h]; refine br_00 ?_
    rw [shape_LeastNormal_no f h]; refine br_00 ?_
    rw [shape_Least_no f h]; refine br_00 ?_
    rw [shape_One_no f h]; refine br_00 ?_
    exact law07_alive_ok _ hK
end Go.Ev.S

/- Natural numbers made of words, told as words. -/
set_option linter.unusedVariables false
set_option linter.unusedSimpArgs false
set_option maxRecDepth 8000
namespace Go.Ev.S
open Go Go.Ev

theorem app_put (k n z w : Nat) (hz : z < 2 ^ (k * n)) : app n (G k z) (G k w) = G k (z + w * 2 ^ (k * n)) := by
  funext i
  unfold app
  cases hb : Nat.blt i n with
  | true =>
    have hi : i < n := Nat.le_of_ble_eq_true hb
    rw [cond_true, G_app, G_app]
    have h := dg_mod k (z + w * 2 ^ (k * n)) n i hi
    rw [Nat.add_mul_mod_self_right, Nat.mod_eq_of_lt hz] at h
    rw [h]
  | false =>
    have hi : n ≤ i := by
      apply Classical.byContradiction; intro hc
      have : Nat.blt i n = true := Nat.ble_eq_true_of_le (show i + 1 ≤ n by omega)
      rw [hb] at this; cases this
    rw [cond_false, G_app, G_app]
    have h := dg_div k (z + w * 2 ^ (k * n)) n (i - n)
    rw [Nat.add_mul_div_right _ _ (Nat.two_pow_pos _), Nat.div_eq_of_lt hz, Nat.zero_add, show n + (i - n) = i from by omega] at h
    rw [h]
theorem halves (x : Nat) (hx : x < 18446744073709551616) : upd (upd (fun _ => 0) 0 (cvI .u32 (x : Int))) 1 (cvI .u32 (shrI .u64 (x : Int) 32)) = G 32 x := by
  have e1 : cvI .u32 (x : Int) = ((x % 2 ^ 32 : Nat) : Int) := by rw [cv_u32', show (2 : Nat) ^ 32 = 4294967296 from rfl]; omega
  have e2 : cvI .u32 (shrI .u64 (x : Int) 32) = ((x / 2 ^ 32 : Nat) : Int) := by
    rw [shr_u64_32, cv_u32', show (2 : Nat) ^ 32 = 4294967296 from rfl]; omega
  rw [e1, e2, ← G_zero 32, G_put 32 0 _ 0 (by decide) (Nat.mod_lt _ (Nat.two_pow_pos _)), G_put 32 _ _ 1 (by rw [Nat.zero_add, Nat.mul_zero, Nat.pow_zero, Nat.mul_one, Nat.mul_one]; exact Nat.mod_lt _ (Nat.two_pow_pos _)) (by rw [show (2 : Nat) ^ 32 = 4294967296 from rfl]; omega)]
  refine congrArg (G 32) ?_
  rw [show (2 : Nat) ^ (32 * 0) = 1 from rfl, show (2 : Nat) ^ (32 * 1) = 4294967296 from rfl]; omega
theorem nat_Of_ok (x : Nat) (hx : x < 18446744073709551616) (K : List UInt8 → Prop) (h : K (nb x)) : nat_Of x K := by
  rw [nat_Of.is]; unfold nat_Of.d
  rw [halves x hx]
  exact nat_number_ok 2 x (by omega) hx _ h
theorem pow_G6 {n : Nat} (h : n = 12) : 2 ^ (32 * n) = Q6 := Q6_at (by omega)
theorem word_up (x m n : Nat) (h : n = 2 * m) : x % 2 ^ (32 * n) + wd x m * 2 ^ (32 * n) = x % 2 ^ (32 * (n + 2)) := by
  have := mod_dg 64 x m
  rw [show 64 * (m + 1) = 32 * (n + 2) from by omega, show 64 * m = 32 * n from by omega] at this
  exact this.symm
theorem app_word (x m n n2 : Nat) (h : n = 2 * m) (h2 : n2 = n + 2) (g : Nat → Int) (hg : g = G 32 (x % 2 ^ (32 * n))) : app n g (upd (upd (fun _ => 0) 0 (cvI .u32 (W x m))) 1 (cvI .u32 (shrI .u64 (W x m) 32))) = G 32 (x % 2 ^ (32 * n2)) := by
  rw [hg, W_app, halves _ (wd_lt x m), app_put 32 n _ _ (Nat.mod_lt _ (Nat.two_pow_pos _)), word_up x m n h, h2]
theorem word_first (x n : Nat) (h : n = 2) : upd (upd (fun _ => 0) 0 (cvI IntKind.u32 (W x 0))) 1 (cvI IntKind.u32 (shrI IntKind.u64 (W x 0) 32)) = G 32 (x % 2 ^ (32 * n)) := by
  subst h
  rw [W_app, halves _ (wd_lt x 0)]
  refine congrArg (G 32) ?_
  unfold wd
  rw [show (2 : Nat) ^ (64 * 0) = 1 from rfl, Nat.div_one]
theorem nat_OfWide_row (x n2 n4 n6 n8 n10 n12 : Nat) (h2 : n2 = 2) (h4 : n4 = n2 + 2) (h6 : n6 = n4 + 2) (h8 : n8 = n6 + 2) (h10 : n10 = n8 + 2) (h12 : n12 = n10 + 2) (hx : x < Q6) :
    app n10 (app n8 (app n6 (app n4 (app n2 (upd (upd (fun _ => 0) 0 (cvI IntKind.u32 (W x 0))) 1 (cvI IntKind.u32 (shrI IntKind.u64 (W x 0) 32))) (upd (upd (fun x => 0) 0 (cvI IntKind.u32 (W x 1))) 1 (cvI IntKind.u32 (shrI IntKind.u64 (W x 1) 32)))) (upd (upd (fun x => 0) 0 (cvI IntKind.u32 (W x 2))) 1 (cvI IntKind.u32 (shrI IntKind.u64 (W x 2) 32)))) (upd (upd (fun x => 0) 0 (cvI IntKind.u32 (W x 3))) 1 (cvI IntKind.u32 (shrI IntKind.u64 (W x 3) 32)))) (upd (upd (fun x => 0) 0 (cvI IntKind.u32 (W x 4))) 1 (cvI IntKind.u32 (shrI IntKind.u64 (W x 4) 32)))) (upd (upd (fun x => 0) 0 (cvI IntKind.u32 (W x 5))) 1 (cvI IntKind.u32 (shrI IntKind.u64 (W x 5) 32))) = G 32 x := by
  have e0 := word_first x n2 h2
  have e1 := app_word x 1 n2 n4 (by omega) h4 _ e0
  have e2 := app_word x 2 n4 n6 (by omega) h6 _ e1
  have e3 := app_word x 3 n6 n8 (by omega) h8 _ e2
  have e4 := app_word x 4 n8 n10 (by omega) h10 _ e3
  have e5 := app_word x 5 n10 n12 (by omega) h12 _ e4
  rw [e5, pow_G6 (by omega), Nat.mod_eq_of_lt hx]
theorem nat_OfWide_ok (x : Nat) (hx : x < Q6) (K : List UInt8 → Prop) (h : K (nb x)) : nat_OfWide (W x) K := by
  rw [nat_OfWide.is]; unfold nat_OfWide.d
  rw [nat_OfWide_row x 2 4 6 8 10 12 rfl rfl rfl rfl rfl rfl hx]
  refine nat_number_ok 12 x (by omega) ?_ _ h
  rw [pow_G6 (n := 12) rfl]; exact hx
theorem nat_ToWide_loop (a : List UInt8) (x : Nat) (n : Nat) (hn : n ≤ 12) (k0 : List UInt8 → (Nat → Int) → Prop) (h : k0 a (G 64 (x % 2 ^ (32 * n)))) :
    ∀ (j i : Nat), i + j = n → nat_ToWide.l4 k0 (j + 1) a n (G 32 x) n i (G 64 (x % 2 ^ (32 * i))) := by
  intro j
  induction j with
  | zero =>
    intro i hi
    unfold nat_ToWide.l4 nat_ToWide.l4.step
    rw [br_f (lt_f (by omega)), show i = n from by omega]
    exact h
  | succ j ih =>
    intro i hi
    have ih := ih (i + 1) (by omega)
    have e : ((i + 1 : Nat) : Int) = (i : Int) + 1 := by omega
    rw [e] at ih
    unfold nat_ToWide.l4 nat_ToWide.l4.step
    simp (disch := omega) only [quo_i64, rem_i, add_i64, mul_i64, cv_u64, lt_t, le_t, lt_f, gd_true, br_true, Bool.and_self, Bool.not_false]
    have e1 : Int.toNat ((i : Int) / 2) = i / 2 := by omega
    have e2 : Int.toNat (i : Int) = i := by omega
    have e3 : 32 * ((i : Int) % 2) = ((32 * (i % 2) : Nat) : Int) := by omega
    have hd := dg_lt 32 x i
    have e8 : (2 : Nat) ^ 32 = 4294967296 := rfl
    have hlow := dg_low 64 (x % 2 ^ (32 * i)) (i / 2) (32 * (i % 2)) (by rw [show 64 * (i / 2) + 32 * (i % 2) = 32 * i from by omega]; exact Nat.mod_lt _ (Nat.two_pow_pos _))
    rw [e1, e2, e3, G_app, G_app, cv_u64 (by omega) (by omega), or_shl64 _ _ _ 32 hlow (by omega) hd]
    rw [G_upd (k := 64) (N' := x % 2 ^ (32 * (i + 1)))]
    · exact ih
    · rw [mod_dg, Nat.add_mul, Nat.mul_assoc, ← Nat.pow_add, show 32 * (i % 2) + 64 * (i / 2) = 32 * i from by omega]; omega
    · exact put_fits hlow (by omega) hd
theorem nat_ToWide_ok (a : List UInt8) (K : (Nat → Int) → Bool → Prop) (h : if May a ∧ a.length ≤ 48 then K (W (val a)) true else K (W 0) false) : nat_ToWide a K := by
  rw [nat_ToWide.is]; unfold nat_ToWide.d
  rw [nat_Check_ok]
  by_cases hm : May a
  · rw [if_pos hm, br_f (by rfl)]
    by_cases hl : a.length ≤ 48
    · rw [if_pos ⟨hm, hl⟩] at h
      rw [br_f (lt_f (by omega))]
      refine nat_words_ok a (by omega) _ ?_
      refine ⟨(a.length + 3) / 4 + 1, ?_⟩
      have hlt : val a < 2 ^ (32 * ((a.length + 3) / 4)) := Nat.lt_of_lt_of_le (val_lt8 a) (Nat.pow_le_pow_right (by omega) (by omega))
      have hQ : val a < Q6 := Nat.lt_of_lt_of_le (val_lt8 a) (le_Q6 (by omega))
      have := nat_ToWide_loop a (val a) ((a.length + 3) / 4) (by omega) (fun y0 y1 => wide_Len y1 fun y0_1 => nat_Len y0 fun y0 => K y1 (eqI y0_1 y0)) ?_ ((a.length + 3) / 4) 0 (by omega)
      · rw [show (2 : Nat) ^ (32 * 0) = 1 from rfl, Nat.mod_one, G_zero] at this
        exact this
      · rw [Nat.mod_eq_of_lt hlt, ← W_G]
        refine wide_Len_ok (val a) hQ _ ?_
        refine nat_Len_ok a _ ?_
        rw [if_pos hm, eq_t rfl]; exact h
    · rw [if_neg (by omega)] at h
      rw [br_t (lt_t (by omega))]
      rw [W_zero] at h; exact h
  · rw [if_neg (by simp [hm])] at h
    rw [if_neg hm, br_t (by rfl)]
    rw [W_zero] at h; exact h

theorem eqN_self : ∀ (n : Nat) (g : Nat → Int), eqN n g g = true
  | 0, _ => rfl
  | n + 1, g => by unfold eqN; simp [eqN_self n g, eqI_self]
/-- A contract that says what is told. -/
theorem natMakes_x (a0 : Int) (w0 : (Lit.int .u64 a0).wf = true) (x : Nat) (hx : x < Q6) (a2 : List UInt8) (K : Bool → Prop) (hK : K true) : law05_NatMakes a0 (W x) a2 K := by
  obtain ⟨n, rfl, hn⟩ := u64_nat w0
  rw [law05_NatMakes.is]; unfold law05_NatMakes.d
  have tail : ∀ (g : Nat → Int) (b : Bool), nat_Of n fun y0_5 => r05_Of n fun y0_6 => br (eqS y0_5 y0_6) (nat_OfWide (W x) fun y0_7 => r05_OfWide (W x) fun y0_8 => br (eqS y0_7 y0_8) (br (eqN 6 g g) (br (beqB b b) (nat_Len a2 fun y0 => r05_Len a2 fun y0_9 => br (eqI y0 y0_9) (nat_Low a2 fun y0 => r05_Low a2 fun y0_10 => br (eqI y0 y0_10) (law05_alive fun y0 => K y0) (K false)) (K false)) (K false)) (K false)) (K false)) (K false) := by
    intro g b
    refine nat_Of_ok n hn _ ?_
    refine r05_Of_ok n hn _ ?_
    rw [eqS_self, br_t rfl]
    refine nat_OfWide_ok x hx _ ?_
    refine r05_OfWide_ok x hx _ ?_
    rw [eqS_self, br_t rfl, eqN_self, br_t rfl]
    refine br_beq ?_
    refine nat_Len_ok a2 _ ?_
    refine r05_Len_ok a2 _ ?_
    refine br_eq ?_
    refine nat_Low_ok a2 _ ?_
    refine r05_Low_ok a2 _ ?_
    refine br_eq ?_
    exact law05_alive_ok _ hK
  have head : ∀ (g : Nat → Int) (b : Bool), nat_Check a2 fun y0_2 => r05_May a2 fun y0_3 => br (beqB (eqI y0_2 0) y0_3) (nat_Check a2 fun y0_4 => br (eqI y0_4 0) (nat_Of n fun y0_5 => r05_Of n fun y0_6 => br (eqS y0_5 y0_6) (nat_OfWide (W x) fun y0_7 => r05_OfWide (W x) fun y0_8 => br (eqS y0_7 y0_8) (br (eqN 6 g g) (br (beqB b b) (nat_Len a2 fun y0 => r05_Len a2 fun y0_9 => br (eqI y0 y0_9) (nat_Low a2 fun y0 => r05_Low a2 fun y0_10 => br (eqI y0 y0_10) (law05_alive fun y0 => K y0) (K false)) (K false)) (K false)) (K false)) (K false)) (K false)) (nat_Check a2 fun y0_5 => br (eqI y0_5 2) (nat_Of n fun y0_6 => r05_Of n fun y0_7 => br (eqS y0_6 y0_7) (nat_OfWide (W x) fun y0_8 => r05_OfWide (W x) fun y0_9 => br (eqS y0_8 y0_9) (br (eqN 6 g g) (br (beqB b b) (nat_Len a2 fun y0 => r05_Len a2 fun y0_10 => br (eqI y0 y0_10) (nat_Low a2 fun y0 => r05_Low a2 fun y0_11 => br (eqI y0 y0_11) (law05_alive fun y0 => K y0) (K false)) (K false)) (K false)) (K false)) (K false)) (K false)) (K false))) (K false) := by
    intro g b
    rw [nat_Check_ok, r05_May_ok]
    by_cases hm : May a2
    · rw [if_pos hm, br_t (by simp only [hm, decide_true, decide_false]; rfl), nat_Check_ok, if_pos hm, br_t (by rfl)]
      exact tail g b
    · rw [if_neg hm, br_t (by simp only [hm, decide_true, decide_false]; rfl), nat_Check_ok, if_neg hm, br_f (by rfl), nat_Check_ok, if_neg hm, br_t (by rfl)]
      exact tail g b
  refine nat_ToWide_ok a2 _ ?_
  by_cases hm : May a2 ∧ a2.length ≤ 48
  · rw [if_pos hm]
    refine r05_ToWide_ok a2 _ ?_
    rw [if_pos hm]
    exact head _ _
  · rw [if_neg hm]
    refine r05_ToWide_ok a2 _ ?_
    rw [if_neg hm]
    exact head _ _
/-- Six words are a number. -/
theorem words_of (g : Nat → Int) : ∀ (n : Nat), (∀ i, i < n → (Lit.int .u64 (g i)).wf = true) → ∃ x, x < 2 ^ (64 * n) ∧ ∀ j, G 64 x j = if j < n then g j else 0
  | 0, _ => ⟨0, by rw [Nat.mul_zero]; decide, fun j => by rw [G_zero]; simp⟩
  | n + 1, h => by
    obtain ⟨x, hx, hg⟩ := words_of g n fun i hi => h i (by omega)
    obtain ⟨w, hw, hw2⟩ := u64_nat (h n (by omega))
    refine ⟨x + w * 2 ^ (64 * n), put_lt 64 x w n hx hw2, fun j => ?_⟩
    rw [← G_put 64 x w n hx hw2]
    by_cases hj : j = n
    · subst hj; rw [upd_same, if_pos (by omega), hw]
    · rw [upd_ne _ _ _ _ hj, hg]
      by_cases h2 : j < n
      · rw [if_pos h2, if_pos (by omega)]
      · rw [if_neg h2, if_neg (by omega)]
theorem wide_of (g : Nat → Int) (h : ∀ i, i < 6 → (Lit.int .u64 (g i)).wf = true) (z : ∀ i, 6 ≤ i → g i = 0) : ∃ x, x < Q6 ∧ g = W x := by
  obtain ⟨n, hn⟩ : ∃ n, n = 6 := ⟨_, rfl⟩
  rw [← hn] at h z
  obtain ⟨x, hx, hg⟩ := words_of g n h
  refine ⟨x, by rwa [Q6_at (by omega)] at hx, ?_⟩
  rw [W_G]
  funext j
  rw [hg]
  split
  · rfl
  · exact z j (by omega)
theorem natMakes (a0 : Int) (a1 : Nat → Int) (a2 : List UInt8) (w0 : (Lit.int .u64 a0).wf = true) (w1 : ∀ i, i < 6 → (Lit.int .u64 (a1 i)).wf = true) (z1 : ∀ i, 6 ≤ i → a1 i = 0) (hl : a2.length ≤ 140737488351232) (K : Bool → Prop) (hK : K true) : law05_NatMakes a0 a1 a2 K := by
  obtain ⟨x, hx, rfl⟩ := wide_of a1 w1 z1
  exact natMakes_x a0 w0 x hx a2 K hK
end Go.Ev.S
