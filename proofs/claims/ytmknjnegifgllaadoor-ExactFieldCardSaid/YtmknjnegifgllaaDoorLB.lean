/- Exact numbers: made, signs, products, places, sums. -/
import Derived.Test.YtmknjnegifgllaaDoorLA
import Derived.Test.YtmknjnegifgllaaDoorDA
set_option linter.unusedVariables false
set_option linter.unusedSimpArgs false
set_option maxRecDepth 8000
namespace Go.Ev.S
open Go Go.Ev
abbrev K5 := Bool → List UInt8 → List UInt8 → Int → Int → Prop
def One5 (T : K5 → Prop) : Prop := ∃ n x y e f, ∀ K : K5, T K = K n x y e f
theorem One5.k (n : Bool) (x y : List UInt8) (e f : Int) : One5 fun K => K n x y e f := ⟨n, x, y, e, f, fun _ => rfl⟩
theorem br_same4 {n : Bool} {x y : List UInt8} {e : Int} {p q : Prop} (h : p) : br (beqB n n && (eqS x x && (eqS y y && eqI e e))) p q := by
  rw [br_t]
  · exact h
  · rw [eqS_self, eqS_self, eqI_self, beqB_eq.2 rfl]; rfl
theorem nbr_same4 {n : Bool} {x y : List UInt8} {e : Int} {p q : Prop} (h : q) : br (!(beqB n n && (eqS x x && (eqS y y && eqI e e)))) p q := by
  rw [br_f]
  · exact h
  · rw [eqS_self, eqS_self, eqI_self, beqB_eq.2 rfl]; rfl
theorem short_ok (n : Bool) (x y : List UInt8) (e : Int) (m : Nat) (K : Bool → Prop) (h1 : x.length ≤ m → y.length ≤ m → K true) (h2 : K false) : law06_short n x y e m K := by
  rw [law06_short.is]; unfold law06_short.d
  by_cases g1 : x.length ≤ m
  · rw [br_t (le_t (by omega))]
    by_cases g2 : y.length ≤ m
    · rw [le_t (by omega)]; exact h1 g1 g2
    · rw [le_f (by omega)]; exact h2
  · rw [br_f (le_f (by omega))]; exact h2
theorem fit_few {x : Nat} (h : x < 18446744073709551616) : fit x := fit_Q6 (p384 (a := 64) (by omega) h)
theorem law06_alive_ok (K : Bool → Prop) (hK : K true) : law06_alive K := by
  rw [law06_alive.is]; unfold law06_alive.d
  have n6 : nb 6 = [6] := by rw [nb_pos (by decide), nb_zero]; decide
  have n4 : nb 4 = [4] := by rw [nb_pos (by decide), nb_zero]; decide
  have n3 : nb 3 = [3] := by rw [nb_pos (by decide), nb_zero]; decide
  have l6 : lowb 6 = 1 := lowb_of 1 1
  have l4 : lowb 4 = 2 := lowb_of 2 0
  rw [← n6, ← n4]
  refine exact_Make_n false (fit_few (by omega)) (fit_few (by omega)) (by decide) (by unfold win; omega) ?_
  have eA : rdA 6 4 = 3 := by unfold rdA odp; rw [l6, l4]; decide
  have eB : rdB 6 4 = 1 := by unfold rdB odp; rw [l6, l4]; decide
  have eE : rdE 6 4 0 = -1 := by unfold rdE; rw [l6, l4]; rfl
  unfold mkE
  rw [if_neg (by decide), eE, if_pos (by unfold win; omega), eA, eB, n3, nb_one]
  refine exact_Make_ok false [1] [] 0 _ (fun _ => ?_) fun _ _ h => absurd rfl h
  exact hK
end Go.Ev.S

/- Exact numbers as rational ones: bounds, sums, products, whole parts. -/
set_option linter.unusedVariables false
set_option linter.unusedSimpArgs false
set_option maxRecDepth 8000
namespace Go.Ev.S
open Go Go.Ev
structure Bd (P E : Nat) (a b : Nat) (e : Int) : Prop where
  a : a < 2 ^ P
  b : b < 2 ^ P
  l : -(E : Int) ≤ e
  u : e ≤ E
theorem Bd.mono {P E P' E' : Nat} {a b : Nat} {e : Int} (h : Bd P E a b e) (hP : P ≤ P') (hE : E ≤ E') : Bd P' E' a b e :=
  ⟨Nat.lt_of_lt_of_le h.a (Nat.pow_le_pow_right (by omega) hP), Nat.lt_of_lt_of_le h.b (Nat.pow_le_pow_right (by omega) hP), by have := h.l; omega, by have := h.u; omega⟩
theorem fit_bits {x P : Nat} (h : x < 2 ^ P) (hP : P ≤ 131072) : fit x := by
  rw [fit_bl]; have := (blen_le x P).2 h; omega
theorem mul_bits {a b P P' : Nat} (ha : a < 2 ^ P) (hb : b < 2 ^ P') : a * b < 2 ^ (P + P') := by
  rw [Nat.pow_add]; exact Nat.mul_lt_mul'' ha hb
theorem lv_bits {a b P P' k : Nat} {e m : Int} (ha : a < 2 ^ P) (hb : b < 2 ^ P') (hk : (e - m).toNat ≤ k) : lv a b e m < 2 ^ (P + P' + k) := by
  unfold lv
  rw [Nat.pow_add]
  have h1 := mul_bits ha hb
  have h2 : 2 ^ (e - m).toNat ≤ 2 ^ k := Nat.pow_le_pow_right (by omega) hk
  have h3 : 0 < 2 ^ (e - m).toNat := Nat.two_pow_pos _
  exact Nat.lt_of_lt_of_le (Nat.mul_lt_mul_of_pos_right h1 h3) (Nat.mul_le_mul_left _ h2)
theorem lowb_le {x P : Nat} (h : x < 2 ^ P) : lowb x ≤ P := by
  by_cases h0 : x = 0
  · subst h0; rw [lowb_zero]; omega
  · exact Nat.le_of_lt (lowb_lt x P h0 h)
theorem mkE_B (n : Bool) {P E : Nat} {a b : Nat} {e : Int} (h : Bd P E a b e) (hb : b ≠ 0) (hP : P ≤ 131072) (hE : P + E ≤ 1048576) (K : K5)
    (h1 : ∀ n' a' b' e', Can n' a' b' e' → V n' a' b' e' = V n a b e → Bd P (P + E) a' b' e' → K n' (nb a') (nb b') e' 0) : mkE n a b e K := by
  have la := lowb_le h.a
  have lb := lowb_le h.b
  have hl := h.l
  have hu := h.u
  unfold mkE
  by_cases h0 : a = 0
  · rw [if_pos h0]
    have := h1 false 0 1 0 ⟨fit_zero, fit_one, rfl, by unfold win; omega, fun _ => ⟨rfl, rfl, rfl⟩, fun h => absurd rfl h⟩ (by rw [h0, V_zero, V_zero]) ⟨Nat.two_pow_pos _, by have := h.b; omega, by omega, by omega⟩
    rwa [nb_zero, nb_one] at this
  · rw [if_neg h0]
    have w : win (rdE a b e) := by unfold win rdE; omega
    rw [if_pos w]
    obtain ⟨r1, r2, r3⟩ := rd_canon h0 hb
    have l1 : rdA a b ≤ a := Nat.le_trans (Nat.div_le_self _ _) (Nat.div_le_self _ _)
    have l2 : rdB a b ≤ b := Nat.le_trans (Nat.div_le_self _ _) (Nat.div_le_self _ _)
    refine h1 _ _ _ _ ⟨fit_le (fit_bits h.a hP) l1, fit_le (fit_bits h.b hP) l2, r2, w, fun h => by omega, fun _ => ⟨r1, r3⟩⟩ (V_rd n e h0 hb) ⟨?_, ?_, ?_, ?_⟩
    · have := h.a; omega
    · have := h.b; omega
    · unfold rdE; omega
    · unfold rdE; omega
theorem can_eq {n n' : Bool} {a b a' b' : Nat} {e e' : Int} (c : Can n a b e) (c' : Can n' a' b' e') (h : V n a b e = V n' a' b' e') : n = n' ∧ a = a' ∧ b = b' ∧ e = e' := by
  by_cases h0 : a = 0
  · by_cases h1 : a' = 0
    · obtain ⟨z1, z2, z3⟩ := c.z h0
      obtain ⟨y1, y2, y3⟩ := c'.z h1
      subst z1 z2 z3 y1 y2 y3 h0 h1
      exact ⟨rfl, rfl, rfl, rfl⟩
    · rw [h0, V_zero] at h
      have s := V_sign (n := n') h1 c'.b0 e'
      cases n' with
      | false => have := s.1.1 rfl; grind
      | true => have := s.2.1 rfl; grind
  · by_cases h1 : a' = 0
    · rw [h1, V_zero] at h
      have s := V_sign (n := n) h0 c.b0 e
      cases n with
      | false => have := s.1.1 rfl; grind
      | true => have := s.2.1 rfl; grind
    · obtain ⟨r1, r2⟩ := c.r h0
      obtain ⟨q1, q2⟩ := c'.r h1
      exact V_inj r1 c.ob q1 c'.ob r2 q2 h
theorem V_can_neg' {n : Bool} {a b : Nat} {e : Int} : V (!n && decide (a ≠ 0)) a b e = -V n a b e := by
  by_cases h0 : a = 0
  · rw [h0, V_zero, V_zero]; grind
  · rw [show decide (a ≠ 0) = true from by simpa using h0, Bool.and_true, V_neg]
section
variable {n1 n2 : Bool} {a1 b1 a2 b2 : Nat} {e1 e2 : Int} {P1 E1 P2 E2 : Nat}
theorem V_same (n : Bool) (A B D : Nat) (m : Int) (hD : D ≠ 0) : V n (A + B) D m = V n A D m + V n B D m := by
  have := cast_ne hD
  unfold V; rw [Rat.natCast_add]; grind
theorem V_diff (n : Bool) (A B D : Nat) (m : Int) (hD : D ≠ 0) (h : B ≤ A) : V n (A - B) D m = V n A D m - V n B D m := by
  have h1 := V_same n (A - B) B D m hD
  rw [Nat.sub_add_cancel h] at h1
  rw [h1]; grind
theorem V_common (n : Bool) (a b b' : Nat) (e m : Int) (hb : b ≠ 0) (hb' : b' ≠ 0) (hm : m ≤ e) : V n (lv a b' e m) (b * b') m = V n a b e := by
  have h1 := V_lv n a b b' e m hb hm
  have hD := Nat.mul_ne_zero hb hb'
  have h2 := V_mul n (lv a b' e m) (b * b') m hD
  have h3 := cast_ne hD
  rw [← h1] at h2
  generalize V n (lv a b' e m) (b * b') m = u at h2
  generalize V n a b e = v at h2
  generalize ((b * b' : Nat) : Rat) = d at h2 h3
  have : u * d * d⁻¹ = v * d * d⁻¹ := by rw [h2]
  grind
theorem addE_B (c1 : Can n1 a1 b1 e1) (c2 : Can n2 a2 b2 e2) (d1 : Bd P1 E1 a1 b1 e1) (d2 : Bd P2 E2 a2 b2 e2) (hP : P1 + P2 + (E1 + E2) + 1 + (E1 + E2) ≤ 131072) (K : K5)
    (h : ∀ n a b e, Can n a b e → V n a b e = V n1 a1 b1 e1 + V n2 a2 b2 e2 → Bd (P1 + P2 + (E1 + E2) + 1) (P1 + P2 + (E1 + E2) + 1 + (E1 + E2)) a b e → K n (nb a) (nb b) e 0) : addE n1 a1 b1 e1 n2 a2 b2 e2 K := by
  have u1 := d1.u
  have l1 := d1.l
  have u2 := d2.u
  have l2 := d2.l
  have m1 : mn e1 e2 ≤ e1 := by unfold mn; split <;> omega
  have m2 : mn e1 e2 ≤ e2 := by unfold mn; split <;> omega
  have m3 : -((E1 + E2 : Nat) : Int) ≤ mn e1 e2 ∧ mn e1 e2 ≤ (E1 + E2 : Nat) := by unfold mn; split <;> omega
  unfold addE
  by_cases z1 : a1 = 0
  · rw [if_pos z1]
    exact h _ _ _ _ c2 (by rw [z1, V_zero]; grind) (d2.mono (by omega) (by omega))
  rw [if_neg z1]
  by_cases z2 : a2 = 0
  · rw [if_pos z2]
    exact h _ _ _ _ c1 (by rw [z2, V_zero]; grind) (d1.mono (by omega) (by omega))
  rw [if_neg z2]
  have hA : lv a1 b2 e1 (mn e1 e2) < 2 ^ (P1 + P2 + (E1 + E2)) := lv_bits d1.a d2.b (by unfold mn; split <;> omega)
  have hB : lv a2 b1 e2 (mn e1 e2) < 2 ^ (P1 + P2 + (E1 + E2)) := by
    rw [Nat.add_comm P1 P2]
    exact lv_bits d2.a d1.b (by unfold mn; split <;> omega)
  have hD : b1 * b2 < 2 ^ (P1 + P2) := mul_bits d1.b d2.b
  have hD0 := Nat.mul_ne_zero c1.b0 c2.b0
  rw [if_pos ⟨fit_bits hA (by omega), fit_bits hB (by omega), fit_bits hD (by omega)⟩]
  have vA := V_common n1 a1 b1 b2 e1 (mn e1 e2) c1.b0 c2.b0 m1
  have vB := V_common n2 a2 b2 b1 e2 (mn e1 e2) c2.b0 c1.b0 m2
  rw [Nat.mul_comm b2 b1] at vB
  have hp2 : 2 ^ (P1 + P2 + (E1 + E2) + 1) = 2 ^ (P1 + P2 + (E1 + E2)) + 2 ^ (P1 + P2 + (E1 + E2)) := by rw [Nat.pow_succ]; omega
  have hD' : b1 * b2 < 2 ^ (P1 + P2 + (E1 + E2) + 1) := Nat.lt_of_lt_of_le hD (Nat.pow_le_pow_right (by omega) (by omega))
  have fin : ∀ n X, X < 2 ^ (P1 + P2 + (E1 + E2) + 1) → V n X (b1 * b2) (mn e1 e2) = V n1 a1 b1 e1 + V n2 a2 b2 e2 → mkE n X (b1 * b2) (mn e1 e2) K := by
    intro n X hX hV
    refine mkE_B n (P := P1 + P2 + (E1 + E2) + 1) (E := E1 + E2) ⟨hX, hD', m3.1, m3.2⟩ hD0 (by omega) (by omega) K ?_
    intro n' a' b' e' c' v' d'
    exact h _ _ _ _ c' (v'.trans hV) d'
  by_cases hn : n1 = n2
  · rw [if_pos hn]
    have hS : lv a1 b2 e1 (mn e1 e2) + lv a2 b1 e2 (mn e1 e2) < 2 ^ (P1 + P2 + (E1 + E2) + 1) := by omega
    rw [if_pos (fit_bits hS (by omega))]
    refine fin n1 _ hS ?_
    rw [V_same _ _ _ _ _ hD0, vA, hn, vB]
  · rw [if_neg hn]
    by_cases hl : lv a2 b1 e2 (mn e1 e2) ≤ lv a1 b2 e1 (mn e1 e2)
    · rw [if_pos hl]
      refine fin n1 _ (by omega) ?_
      rw [V_diff _ _ _ _ _ hD0 hl, vA]
      have : n2 = !n1 := by cases n1 <;> cases n2 <;> simp_all
      rw [← vB, this, V_neg]; grind
    · rw [if_neg hl]
      refine fin n2 _ (by omega) ?_
      rw [V_diff _ _ _ _ _ hD0 (by omega), vB]
      have : n1 = !n2 := by cases n1 <;> cases n2 <;> simp_all
      rw [← vA, this, V_neg]; grind
theorem V_times (n1 n2 : Bool) (a b c d : Nat) (e1 e2 : Int) (hc : c ≠ 0) (hd : d ≠ 0) : V (decide (n1 ≠ n2)) (a * b) (c * d) (e1 + e2) = V n1 a c e1 * V n2 b d e2 := by
  have hs : sR (decide (n1 ≠ n2)) = sR n1 * sR n2 := by
    cases n1 <;> cases n2
    · show (1 : Rat) = 1 * 1; grind
    · show (-1 : Rat) = 1 * -1; grind
    · show (-1 : Rat) = -1 * 1; grind
    · show (1 : Rat) = -1 * -1; grind
  have h1 := cast_ne hc
  have h2 := cast_ne hd
  unfold V
  rw [hs, p2_add, Rat.natCast_mul, Rat.natCast_mul]
  grind
theorem timE_B (n : Bool) {a b c d : Nat} {e : Int} {P P' E : Nat} (ha : a < 2 ^ P) (hb : b < 2 ^ P') (hc : c < 2 ^ P) (hd : d < 2 ^ P') (c0 : c ≠ 0) (d0 : d ≠ 0) (l : -(E : Int) ≤ e) (u : e ≤ E) (hP : P + P' ≤ 131072) (hE : P + P' + E ≤ 1048576) (K : K5)
    (h : ∀ n' a' b' e', Can n' a' b' e' → V n' a' b' e' = V n (a * b) (c * d) e → Bd (P + P') (P + P' + E) a' b' e' → K n' (nb a') (nb b') e' 0) : timE n a b c d e K := by
  unfold timE
  rw [if_pos ⟨fit_bits (mul_bits ha hb) hP, fit_bits (mul_bits hc hd) hP, by unfold win; omega⟩]
  exact mkE_B n ⟨mul_bits ha hb, mul_bits hc hd, l, u⟩ (Nat.mul_ne_zero c0 d0) hP hE K h
theorem mulE_B (c1 : Can n1 a1 b1 e1) (c2 : Can n2 a2 b2 e2) (d1 : Bd P1 E1 a1 b1 e1) (d2 : Bd P2 E2 a2 b2 e2) (hP : P1 + P2 ≤ 131072) (hE : P1 + P2 + (E1 + E2) ≤ 1048576) (K : K5)
    (h : ∀ n a b e, Can n a b e → V n a b e = V n1 a1 b1 e1 * V n2 a2 b2 e2 → Bd (P1 + P2) (P1 + P2 + (E1 + E2)) a b e → K n (nb a) (nb b) e 0) : mulE n1 a1 b1 e1 n2 a2 b2 e2 K := by
  have u1 := d1.u
  have l1 := d1.l
  have u2 := d2.u
  have l2 := d2.l
  unfold mulE
  by_cases z : a1 = 0 ∨ a2 = 0
  · rw [if_pos z]
    have := h false 0 1 0 ⟨fit_zero, fit_one, rfl, by unfold win; omega, fun _ => ⟨rfl, rfl, rfl⟩, fun h => absurd rfl h⟩ (by rcases z with z | z <;> rw [z, V_zero, V_zero] <;> grind) ⟨Nat.two_pow_pos _, ?_, by omega, by omega⟩
    · rwa [nb_zero, nb_one] at this
    · have h1 := d1.b; have h2 := c1.b0
      have h3 : 2 ^ P1 ≤ 2 ^ (P1 + P2) := Nat.pow_le_pow_right (by omega) (by omega)
      omega
  · rw [if_neg z]
    refine timE_B _ d1.a d2.a d1.b d2.b c1.b0 c2.b0 (E := E1 + E2) (by omega) (by omega) hP hE K ?_
    intro n' a' b' e' c' v' d'
    rw [V_times n1 n2 a1 a2 b1 b2 e1 e2 c1.b0 c2.b0] at v'
    exact h _ _ _ _ c' v' d'
theorem quoE_B (c1 : Can n1 a1 b1 e1) (c2 : Can n2 a2 b2 e2) (d1 : Bd P1 E1 a1 b1 e1) (d2 : Bd P2 E2 a2 b2 e2) (z2 : a2 ≠ 0) (hP : P1 + P2 ≤ 131072) (hE : P1 + P2 + (E1 + E2) ≤ 1048576) (K : K5)
    (h : ∀ n a b e, Can n a b e → V n a b e * V n2 a2 b2 e2 = V n1 a1 b1 e1 → Bd (P1 + P2) (P1 + P2 + (E1 + E2)) a b e → K n (nb a) (nb b) e 0) : quoE n1 a1 b1 e1 n2 a2 b2 e2 K := by
  have u1 := d1.u
  have l1 := d1.l
  have u2 := d2.u
  have l2 := d2.l
  unfold quoE
  rw [if_neg z2]
  by_cases z : a1 = 0
  · rw [if_pos z]
    have := h false 0 1 0 ⟨fit_zero, fit_one, rfl, by unfold win; omega, fun _ => ⟨rfl, rfl, rfl⟩, fun h => absurd rfl h⟩ (by rw [z, V_zero, V_zero]; grind) ⟨Nat.two_pow_pos _, ?_, by omega, by omega⟩
    · rwa [nb_zero, nb_one] at this
    · have h1 := d1.b; have h2 := c1.b0
      have h3 : 2 ^ P1 ≤ 2 ^ (P1 + P2) := Nat.pow_le_pow_right (by omega) (by omega)
      omega
  · rw [if_neg z]
    refine timE_B _ d1.a d2.b d1.b d2.a c1.b0 z2 (E := E1 + E2) (by omega) (by omega) hP hE K ?_
    intro n' a' b' e' c' v' d'
    refine h _ _ _ _ c' ?_ d'
    have hs : decide (n1 ≠ n2) = decide (n1 ≠ n2) := rfl
    have h1 := V_times n1 n2 a1 b2 b1 a2 e1 (-e2) c1.b0 z2
    rw [show e1 + -e2 = e1 - e2 from by omega] at h1
    rw [v', h1]
    have q1 := cast_ne c2.b0
    have q2 := cast_ne z2
    have q3 := sR_sq n2
    have q4 := p2_neg e2
    have : V n2 b2 a2 (-e2) * V n2 a2 b2 e2 = 1 := by
      unfold V
      generalize (a2 : Rat) = x at *
      generalize (b2 : Rat) = y at *
      generalize sR n2 = s at *
      generalize p2 (-e2) = u at *
      generalize p2 e2 = v at *
      have e0 : y / x * (x / y) = 1 := by grind
      have : s * (y / x) * u * (s * (x / y) * v) = (s * s) * (y / x * (x / y)) * (u * v) := by grind
      rw [this, q3, e0, q4]; grind
    rw [Rat.mul_assoc, this]; grind
end
structure Flr (X : Rat) (n : Int) (m : Nat) (is : Bool) : Prop where
  le : (m : Rat) * p2 n ≤ X
  lt : X < ((m + 1 : Nat) : Rat) * p2 n
  eq : is = true ↔ (m : Rat) * p2 n = X
end Go.Ev.S

/- A field's laws; a whole part and the next. -/
set_option linter.unusedVariables false
set_option linter.unusedSimpArgs false
set_option maxRecDepth 8000
namespace Go.Ev.S
open Go Go.Ev
theorem bytes_bits {x : List UInt8} {m P : Nat} (h : x.length ≤ m) (hP : 8 * m ≤ P) : val x < 2 ^ P :=
  Nat.lt_of_lt_of_le (val_lt8 x) (Nat.pow_le_pow_right (by omega) (by omega))
theorem nb_bits {a m P : Nat} (h : (nb a).length ≤ m) (hP : 8 * m ≤ P) : a < 2 ^ P := by
  have := bytes_bits h hP; rwa [val_nb] at this
theorem exp_br {e : Int} {p q : Prop} (h1 : p) (h2 : -900 ≤ e → e ≤ 900 → q) : br (ltI 900 e) p (br (ltI e (-900)) p q) := by
  by_cases c1 : 900 < e
  · rw [br_t (lt_t c1)]; exact h1
  · rw [br_f (lt_f (by omega))]
    by_cases c2 : e < -900
    · rw [br_t (lt_t c2)]; exact h1
    · rw [br_f (lt_f (by omega))]; exact h2 (by omega) (by omega)
theorem eq0 {p q : Prop} (h : q) : br (!eqI 0 0) p q := h
theorem exactField (n1 : Bool) (x1 y1 : List UInt8) (e1 : Int) (n2 : Bool) (x2 y2 : List UInt8) (e2 : Int) (n3 : Bool) (x3 y3 : List UInt8) (e3 : Int) (w1 : x1.length ≤ maxLen) (w2 : y1.length ≤ maxLen) (w3 : (Lit.int .i64 e1).wf = true) (w4 : x2.length ≤ maxLen) (w5 : y2.length ≤ maxLen) (w6 : (Lit.int .i64 e2).wf = true) (w7 : x3.length ≤ maxLen) (w8 : y3.length ≤ maxLen) (w9 : (Lit.int .i64 e3).wf = true)
    (K : Bool → Prop) (hK : K true) : law06_ExactField n1 x1 y1 e1 n2 x2 y2 e2 n3 x3 y3 e3 K := by
  have hal : law06_alive fun y0 => K y0 := law06_alive_ok _ hK
  rw [law06_ExactField.is]; unfold law06_ExactField.d
  refine short_ok n1 x1 y1 e1 20 _ (fun s1 t1 => ?_) hal
  rw [br_f (by rfl)]
  refine short_ok n2 x2 y2 e2 20 _ (fun s2 t2 => ?_) hal
  rw [br_f (by rfl)]
  refine short_ok n3 x3 y3 e3 20 _ (fun s3 t3 => ?_) hal
  rw [br_f (by rfl)]
  refine r06_May_ok _ _ _ _ _ (fun m1 => ?_) fun _ => hal
  rw [br_f (by rfl)]
  refine r06_May_ok _ _ _ _ _ (fun m2 => ?_) fun _ => hal
  rw [br_f (by rfl)]
  refine r06_May_ok _ _ _ _ _ (fun m3 => ?_) fun _ => hal
  rw [br_f (by rfl)]
  refine exp_br hal fun l1 u1 => exp_br hal fun l2 u2 => exp_br hal fun l3 u3 => ?_
  obtain ⟨a1, b1, rfl, rfl, c1⟩ := m1.can
  obtain ⟨a2, b2, rfl, rfl, c2⟩ := m2.can
  obtain ⟨a3, b3, rfl, rfl, c3⟩ := m3.can
  have d1 : Bd 160 900 a1 b1 e1 := ⟨nb_bits s1 (by omega), nb_bits t1 (by omega), by omega, by omega⟩
  have d2 : Bd 160 900 a2 b2 e2 := ⟨nb_bits s2 (by omega), nb_bits t2 (by omega), by omega, by omega⟩
  have d3 : Bd 160 900 a3 b3 e3 := ⟨nb_bits s3 (by omega), nb_bits t3 (by omega), by omega, by omega⟩
  refine exact_Add_ok c1 c2 _ ?_
  refine addE_B c1 c2 d1 d2 (by omega) _ fun ns as bs es cs vs ds => ?_
  refine exact_Mul_ok cs c3 _ ?_
  refine mulE_B cs c3 ds d3 (by omega) (by omega) _ fun np ap bp ep cp vp dp => ?_
  refine exact_Mul_ok c1 c3 _ ?_
  refine mulE_B c1 c3 d1 d3 (by omega) (by omega) _ fun na aa ba ea ca va da => ?_
  refine exact_Mul_ok c2 c3 _ ?_
  refine mulE_B c2 c3 d2 d3 (by omega) (by omega) _ fun nb' ab bb eb cb vb db => ?_
  refine exact_Add_ok ca cb _ ?_
  refine addE_B ca cb da db (by omega) _ fun nq aq bq eq cq vq dq => ?_
  refine exact_Sub_ok cs c2 _ ?_
  refine addE_B cs c2.neg ds d2 (by omega) _ fun nd ad bd ed cd vd dd => ?_
  refine eq0 (eq0 (eq0 (eq0 (eq0 (eq0 ?_)))))
  have epq : V np ap bp ep = V nq aq bq eq := by rw [vp, vs, vq, va, vb]; grind
  obtain ⟨g1, g2, g3, g4⟩ := can_eq cp cq epq
  subst g1 g2 g3 g4
  refine nbr_same4 ?_
  have edx : V nd ad bd ed = V n1 a1 b1 e1 := by rw [vd, V_can_neg', vs]; grind
  obtain ⟨g1, g2, g3, g4⟩ := can_eq cd c1 edx
  subst g1 g2 g3 g4
  refine nbr_same4 ?_
  refine exact_Sign_ok n3 c3 _ ?_
  by_cases z3 : a3 = 0
  · have : sgE n3 a3 = 0 := by unfold sgE; rw [if_pos z3]
    rw [this]; exact hal
  · have : sgE n3 a3 ≠ 0 := by unfold sgE; rw [if_neg z3]; split <;> omega
    rw [br_f (eq_f this)]
    refine exact_Quo_ok ca c3 _ ?_
    refine quoE_B ca c3 da d3 z3 (by omega) (by omega) _ fun nr ar br' er cr vr dr => ?_
    have v3 : V n3 a3 b3 e3 ≠ 0 := by
      have hs := V_sign (n := n3) z3 c3.b0 e3
      cases n3 with
      | false => have := hs.1.1 rfl; grind
      | true => have := hs.2.1 rfl; grind
    have erx : V nr ar br' er = V nd ad bd ed := by rw [va] at vr; grind
    obtain ⟨g1, g2, g3, g4⟩ := can_eq cr cd erx
    subst g1 g2 g3 g4
    exact br_same4 hal
end Go.Ev.S
