/- Exact numbers: made, signs, products, places, sums. -/
import Derived.Test.YtmknjnegifgllaaDoorLA
import Derived.Test.YtmknjnegifgllaaDoorDA
set_option linter.unusedVariables false
set_option linter.unusedSimpArgs false
set_option maxRecDepth 8000
namespace Go.Ev.S
open Go Go.Ev
abbrev K5 := Bool → List UInt8 → List UInt8 → Int → Int → Prop
def One5 (T : K5 → Prop) : Prop := ∃ n x y e f, ∀ K : K5, T K = K n x y e f
theorem One5.k (n : Bool) (x y : List UInt8) (e f : Int) : One5 fun K => K n x y e f := ⟨n, x, y, e, f, fun _ => rfl⟩
theorem short_ok (n : Bool) (x y : List UInt8) (e : Int) (m : Nat) (K : Bool → Prop) (h1 : x.length ≤ m → y.length ≤ m → K true) (h2 : K false) : law06_short n x y e m K := by
  rw [law06_short.is]; unfold law06_short.d
  by_cases g1 : x.length ≤ m
  · rw [br_t (le_t (by omega))]
    by_cases g2 : y.length ≤ m
    · rw [le_t (by omega)]; exact h1 g1 g2
    · rw [le_f (by omega)]; exact h2
  · rw [br_f (le_f (by omega))]; exact h2
theorem fit_few {x : Nat} (h : x < 18446744073709551616) : fit x := fit_Q6 (p384 (a := 64) (by omega) h)
theorem law06_alive_ok (K : Bool → Prop) (hK : K true) : law06_alive K := by
  rw [law06_alive.is]; unfold law06_alive.d
  have n6 : nb 6 = [6] := by rw [nb_pos (by decide), nb_zero]; decide
  have n4 : nb 4 = [4] := by rw [nb_pos (by decide), nb_zero]; decide
  have n3 : nb 3 = [3] := by rw [nb_pos (by decide), nb_zero]; decide
  have l6 : lowb 6 = 1 := lowb_of 1 1
  have l4 : lowb 4 = 2 := lowb_of 2 0
  rw [← n6, ← n4]
  refine exact_Make_n false (fit_few (by omega)) (fit_few (by omega)) (by decide) (by unfold win; omega) ?_
  have eA : rdA 6 4 = 3 := by unfold rdA odp; rw [l6, l4]; decide
  have eB : rdB 6 4 = 1 := by unfold rdB odp; rw [l6, l4]; decide
  have eE : rdE 6 4 0 = -1 := by unfold rdE; rw [l6, l4]; rfl
  unfold mkE
  rw [if_neg (by decide), eE, if_pos (by unfold win; omega), eA, eB, n3, nb_one]
  refine exact_Make_ok false [1] [] 0 _ (fun _ => ?_) fun _ _ h => absurd rfl h
  exact hK
end Go.Ev.S

/- Exact numbers as rational ones: bounds, sums, products, whole parts. -/
set_option linter.unusedVariables false
set_option linter.unusedSimpArgs false
set_option maxRecDepth 8000
namespace Go.Ev.S
open Go Go.Ev
structure Bd (P E : Nat) (a b : Nat) (e : Int) : Prop where
  a : a < 2 ^ P
  b : b < 2 ^ P
  l : -(E : Int) ≤ e
  u : e ≤ E
theorem Bd.mono {P E P' E' : Nat} {a b : Nat} {e : Int} (h : Bd P E a b e) (hP : P ≤ P') (hE : E ≤ E') : Bd P' E' a b e :=
  ⟨Nat.lt_of_lt_of_le h.a (Nat.pow_le_pow_right (by omega) hP), Nat.lt_of_lt_of_le h.b (Nat.pow_le_pow_right (by omega) hP), by have := h.l; omega, by have := h.u; omega⟩
theorem fit_bits {x P : Nat} (h : x < 2 ^ P) (hP : P ≤ 131072) : fit x := by
  rw [fit_bl]; have := (blen_le x P).2 h; omega
theorem mul_bits {a b P P' : Nat} (ha : a < 2 ^ P) (hb : b < 2 ^ P') : a * b < 2 ^ (P + P') := by
  rw [Nat.pow_add]; exact Nat.mul_lt_mul'' ha hb
theorem lv_bits {a b P P' k : Nat} {e m : Int} (ha : a < 2 ^ P) (hb : b < 2 ^ P') (hk : (e - m).toNat ≤ k) : lv a b e m < 2 ^ (P + P' + k) := by
  unfold lv
  rw [Nat.pow_add]
  have h1 := mul_bits ha hb
  have h2 : 2 ^ (e - m).toNat ≤ 2 ^ k := Nat.pow_le_pow_right (by omega) hk
  have h3 : 0 < 2 ^ (e - m).toNat := Nat.two_pow_pos _
  exact Nat.lt_of_lt_of_le (Nat.mul_lt_mul_of_pos_right h1 h3) (Nat.mul_le_mul_left _ h2)
theorem lowb_le {x P : Nat} (h : x < 2 ^ P) : lowb x ≤ P := by
  by_cases h0 : x = 0
  · subst h0; rw [lowb_zero]; omega
  · exact Nat.le_of_lt (lowb_lt x P h0 h)
theorem mkE_B (n : Bool) {P E : Nat} {a b : Nat} {e : Int} (h : Bd P E a b e) (hb : b ≠ 0) (hP : P ≤ 131072) (hE : P + E ≤ 1048576) (K : K5)
    (h1 : ∀ n' a' b' e', Can n' a' b' e' → V n' a' b' e' = V n a b e → Bd P (P + E) a' b' e' → K n' (nb a') (nb b') e' 0) : mkE n a b e K := by
  have la := lowb_le h.a
  have lb := lowb_le h.b
  have hl := h.l
  have hu := h.u
  unfold mkE
  by_cases h0 : a = 0
  · rw [if_pos h0]
    have := h1 false 0 1 0 ⟨fit_zero, fit_one, rfl, by unfold win; omega, fun _ => ⟨rfl, rfl, rfl⟩, fun h => absurd rfl h⟩ (by rw [h0, V_zero, V_zero]) ⟨Nat.two_pow_pos _, by have := h.b; omega, by omega, by omega⟩
    rwa [nb_zero, nb_one] at this
  · rw [if_neg h0]
    have w : win (rdE a b e) := by unfold win rdE; omega
    rw [if_pos w]
    obtain ⟨r1, r2, r3⟩ := rd_canon h0 hb
    have l1 : rdA a b ≤ a := Nat.le_trans (Nat.div_le_self _ _) (Nat.div_le_self _ _)
    have l2 : rdB a b ≤ b := Nat.le_trans (Nat.div_le_self _ _) (Nat.div_le_self _ _)
    refine h1 _ _ _ _ ⟨fit_le (fit_bits h.a hP) l1, fit_le (fit_bits h.b hP) l2, r2, w, fun h => by omega, fun _ => ⟨r1, r3⟩⟩ (V_rd n e h0 hb) ⟨?_, ?_, ?_, ?_⟩
    · have := h.a; omega
    · have := h.b; omega
    · unfold rdE; omega
    · unfold rdE; omega
section
variable {n1 n2 : Bool} {a1 b1 a2 b2 : Nat} {e1 e2 : Int} {P1 E1 P2 E2 : Nat}
end
theorem le_mul_iff {x y d : Rat} (hd : 0 < d) : x * d ≤ y * d ↔ x ≤ y := by
  have h := mul_lt_iff (x := y) (y := x) hd
  constructor
  · intro hh; apply Classical.byContradiction; intro hc
    have := h.2 (by grind); grind
  · intro hh; exact Rat.mul_le_mul_of_nonneg_right hh (by grind)
theorem eq_mul_iff {x y d : Rat} (hd : 0 < d) : x * d = y * d ↔ x = y := by
  constructor
  · intro hh
    have h1 := (le_mul_iff (x := x) (y := y) hd).1 (by grind)
    have h2 := (le_mul_iff (x := y) (y := x) hd).1 (by grind)
    grind
  · intro hh; rw [hh]
structure Flr (X : Rat) (n : Int) (m : Nat) (is : Bool) : Prop where
  le : (m : Rat) * p2 n ≤ X
  lt : X < ((m + 1 : Nat) : Rat) * p2 n
  eq : is = true ↔ (m : Rat) * p2 n = X
theorem flr_of {X : Rat} {N D : Nat} {n : Int} (hD : D ≠ 0) (h : X * D = N * p2 n) : Flr X n (N / D) (decide (N % D = 0)) := by
  have hd := cast_pos hD
  have hp := p2_pos n
  have hdm := Nat.div_add_mod N D
  have hml := Nat.mod_lt N (Nat.pos_of_ne_zero hD)
  have e1 : ∀ m : Nat, (m : Rat) * p2 n * D = ((m * D : Nat) : Rat) * p2 n := by intro m; rw [Rat.natCast_mul]; grind
  refine ⟨?_, ?_, ?_⟩
  · rw [← le_mul_iff hd, h, e1, le_mul_iff hp, Rat.natCast_le_natCast]
    exact Nat.div_mul_le_self N D
  · rw [← mul_lt_iff hd, h, e1, mul_lt_iff hp, Rat.natCast_lt_natCast, Nat.add_mul, Nat.mul_comm]
    omega
  · rw [decide_eq_true_iff, ← eq_mul_iff hd, h, e1, eq_mul_iff hp, Rat.natCast_inj, Nat.mul_comm]
    omega
theorem V_at (a b : Nat) (e n : Int) (hb : b ≠ 0) (hn : n ≤ e) : V false a b e * (b : Rat) = ((a * 2 ^ (e - n).toNat : Nat) : Rat) * p2 n := by
  rw [V_mul false a b e hb, show sR false = 1 from rfl, Rat.natCast_mul, ← p2_nat]
  have : p2 ((e - n).toNat : Int) * p2 n = p2 e := by rw [← p2_add]; congr 1; omega
  grind
theorem V_at' (a b : Nat) (e n : Int) (hb : b ≠ 0) (hn : e ≤ n) : V false a b e * ((b * 2 ^ (n - e).toNat : Nat) : Rat) = (a : Rat) * p2 n := by
  have h := V_mul false a b e hb
  rw [show sR false = 1 from rfl] at h
  rw [Rat.natCast_mul, ← p2_nat]
  have : p2 ((n - e).toNat : Int) * p2 e = p2 n := by rw [← p2_add]; congr 1; omega
  grind
theorem floE_V {s : Bool} {a b : Nat} {e n : Int} (c : Can s a b e) (ha : a ≠ 0) (h1 : -2097152 ≤ n) (h2 : n ≤ 2097152) (hf : n ≤ e → fit (a * 2 ^ (e - n).toNat)) (K : List UInt8 → Bool → Int → Prop)
    (h : ∀ m is, Flr (V false a b e) n m is → (n ≤ e → m ≤ a * 2 ^ (e - n).toNat) → (e < n → m ≤ a) → K (nb m) is 0) : floE a b e n K := by
  unfold floE
  rw [if_neg (by omega), if_neg ha]
  by_cases hn : n ≤ e
  · rw [if_pos hn, if_pos (hf hn)]
    exact h _ _ (flr_of c.b0 (V_at a b e n c.b0 hn)) (fun _ => Nat.div_le_self _ _) (fun _ => by omega)
  · rw [if_neg hn]
    have hB : b * 2 ^ (n - e).toNat ≠ 0 := Nat.mul_ne_zero c.b0 (Nat.pos_iff_ne_zero.1 (Nat.two_pow_pos _))
    have fl := flr_of hB (V_at' a b e n c.b0 (by omega))
    by_cases ht : tp a b + e < n
    · rw [if_pos ht]
      have hlt : a < b * 2 ^ (n - e).toNat := by
        have hs := tp_spec ha c.b0
        by_cases h0 : 0 ≤ tp a b
        · refine Nat.lt_of_lt_of_le (hs.1 h0).2 (Nat.mul_le_mul_left _ (Nat.pow_le_pow_right (by omega) (by omega)))
        · have h3 := (hs.2 (by omega)).2
          have h4 : a * 1 ≤ a * 2 ^ ((-tp a b).toNat - 1) := Nat.mul_le_mul_left _ (Nat.two_pow_pos _)
          have h5 : b * 1 ≤ b * 2 ^ (n - e).toNat := Nat.mul_le_mul_left _ (Nat.two_pow_pos _)
          omega
      rw [Nat.div_eq_of_lt hlt, Nat.mod_eq_of_lt hlt, show decide (a = 0) = false from by simpa using ha] at fl
      have := h 0 false fl (fun _ => by omega) (fun _ => by omega)
      rwa [nb_zero] at this
    · rw [if_neg ht]
      exact h _ _ fl (fun _ => by omega) (fun _ => Nat.div_le_self _ _)
theorem scale_le {a b x y : Rat} (hx : 0 < x) (h : x * y = 1) (hh : b ≤ a * y) : x * b ≤ a := by
  have h1 := Rat.mul_le_mul_of_nonneg_right hh (show 0 ≤ x by grind)
  have h2 : a * y * x = a := by rw [show a * y * x = a * (x * y) from by grind, h]; grind
  grind
theorem scale_lt {a b x y : Rat} (hx : 0 < x) (h : x * y = 1) (hh : a * y < b) : a < x * b := by
  have h1 := Rat.mul_lt_mul_of_pos_right hh hx
  have h2 : a * y * x = a := by rw [show a * y * x = a * (x * y) from by grind, h]; grind
  grind
theorem tp_V {a b : Nat} (e : Int) (ha : a ≠ 0) (hb : b ≠ 0) : p2 (tp a b + e) ≤ V false a b e ∧ V false a b e < p2 (tp a b + e + 1) := by
  have hs := tp_spec ha hb
  have hd := cast_pos hb
  have hv := V_mul false a b e hb
  rw [show sR false = 1 from rfl] at hv
  have hp := p2_pos e
  have key : p2 (tp a b) * (b : Rat) ≤ a ∧ (a : Rat) < p2 (tp a b + 1) * b := by
    by_cases h0 : 0 ≤ tp a b
    · obtain ⟨h1, h2⟩ := hs.1 h0
      have e1 : p2 (tp a b) = ((2 ^ (tp a b).toNat : Nat) : Rat) := by rw [← p2_nat]; congr 1; omega
      have e2 : p2 (tp a b + 1) = ((2 ^ ((tp a b).toNat + 1) : Nat) : Rat) := by rw [← p2_nat]; congr 1; omega
      rw [e1, e2, ← Rat.natCast_mul, ← Rat.natCast_mul, Rat.natCast_le_natCast, Rat.natCast_lt_natCast, Nat.mul_comm, Nat.mul_comm _ b]
      exact ⟨h1, h2⟩
    · obtain ⟨h1, h2⟩ := hs.2 (by omega)
      have q1 : p2 (tp a b) * ((2 ^ (-tp a b).toNat : Nat) : Rat) = 1 := by rw [← p2_nat, ← p2_add, show tp a b + ((-tp a b).toNat : Int) = 0 from by omega, p2_zero]
      have q2 : p2 (tp a b + 1) * ((2 ^ ((-tp a b).toNat - 1) : Nat) : Rat) = 1 := by rw [← p2_nat, ← p2_add, show tp a b + 1 + (((-tp a b).toNat - 1 : Nat) : Int) = 0 from by omega, p2_zero]
      have r1 := Rat.natCast_le_natCast.2 h1
      have r2 := Rat.natCast_lt_natCast.2 h2
      rw [Rat.natCast_mul] at r1 r2
      have s1 := p2_pos (tp a b)
      have s2 := p2_pos (tp a b + 1)
      exact ⟨scale_le s1 q1 r1, scale_lt s2 q2 r2⟩
  constructor
  · rw [← le_mul_iff hd, hv, p2_add]
    have := Rat.mul_le_mul_of_nonneg_right key.1 (show 0 ≤ p2 e by grind)
    grind
  · rw [← mul_lt_iff hd, hv, show tp a b + e + 1 = (tp a b + 1) + e from by omega, p2_add]
    have := Rat.mul_lt_mul_of_pos_right key.2 hp
    grind
end Go.Ev.S

/- A field's laws; a whole part and the next. -/
set_option linter.unusedVariables false
set_option linter.unusedSimpArgs false
set_option maxRecDepth 8000
namespace Go.Ev.S
open Go Go.Ev
theorem bytes_bits {x : List UInt8} {m P : Nat} (h : x.length ≤ m) (hP : 8 * m ≤ P) : val x < 2 ^ P :=
  Nat.lt_of_lt_of_le (val_lt8 x) (Nat.pow_le_pow_right (by omega) (by omega))
theorem nb_bits {a m P : Nat} (h : (nb a).length ≤ m) (hP : 8 * m ≤ P) : a < 2 ^ P := by
  have := bytes_bits h hP; rwa [val_nb] at this
theorem exp_br {e : Int} {p q : Prop} (h1 : p) (h2 : -900 ≤ e → e ≤ 900 → q) : br (ltI 900 e) p (br (ltI e (-900)) p q) := by
  by_cases c1 : 900 < e
  · rw [br_t (lt_t c1)]; exact h1
  · rw [br_f (lt_f (by omega))]
    by_cases c2 : e < -900
    · rw [br_t (lt_t c2)]; exact h1
    · rw [br_f (lt_f (by omega))]; exact h2 (by omega) (by omega)
theorem eq0 {p q : Prop} (h : q) : br (!eqI 0 0) p q := h
theorem and_2047 (a : Int) : 0 ≤ andI .i64 a 2047 ∧ andI .i64 a 2047 ≤ 2047 := by
  have h : (BitVec.ofInt 64 a &&& BitVec.ofInt 64 2047).toNat ≤ 2047 := by
    rw [BitVec.toNat_and]; exact Nat.and_le_right
  show 0 ≤ IntKind.wrap .i64 (((BitVec.ofInt 64 a &&& BitVec.ofInt 64 2047 : BitVec 64).toNat : Nat) : Int) ∧ _
  have e : andI .i64 a 2047 = (((BitVec.ofInt 64 a &&& BitVec.ofInt 64 2047 : BitVec 64).toNat : Nat) : Int) := by
    show IntKind.wrap .i64 (((BitVec.ofInt 64 a &&& BitVec.ofInt 64 2047 : BitVec 64).toNat : Nat) : Int) = _
    exact i64_id (by omega) (by omega)
  have e2 : IntKind.wrap .i64 (((BitVec.ofInt 64 a &&& BitVec.ofInt 64 2047 : BitVec 64).toNat : Nat) : Int) = (((BitVec.ofInt 64 a &&& BitVec.ofInt 64 2047 : BitVec 64).toNat : Nat) : Int) := e
  rw [e, e2]; omega
theorem V_one (m : Nat) (n : Int) : V false m 1 n = (m : Rat) * p2 n := by
  unfold V; rw [show sR false = 1 from rfl, show ((1 : Nat) : Rat) = 1 from rfl]; grind
theorem Can.abs {s : Bool} {a b : Nat} {e : Int} (c : Can s a b e) : Can false a b e := ⟨c.fa, c.fb, c.ob, c.we, fun h => ⟨rfl, (c.z h).2⟩, c.r⟩
theorem cmpE_B {n1 n2 : Bool} {a1 b1 a2 b2 : Nat} {e1 e2 : Int} {P1 E1 P2 E2 : Nat} (c1 : Can n1 a1 b1 e1) (c2 : Can n2 a2 b2 e2) (d1 : Bd P1 E1 a1 b1 e1) (d2 : Bd P2 E2 a2 b2 e2) (hP : P1 + P2 + (E1 + E2) ≤ 131072) (K : Int → Int → Prop)
    (h : K (cmpR (V n1 a1 b1 e1) (V n2 a2 b2 e2)) 0) : cmpE n1 a1 b1 e1 n2 a2 b2 e2 K := by
  have u1 := d1.u
  have l1 := d1.l
  have u2 := d2.u
  have l2 := d2.l
  refine cmpE_V c1 c2 (fit_bits (lv_bits d1.a d2.b (by unfold mn; split <;> omega)) hP) (fit_bits (P := P2 + P1 + (E1 + E2)) (lv_bits d2.a d1.b (by unfold mn; split <;> omega)) (by omega)) K h
theorem cmpR_le {r s : Rat} (h : r ≤ s) : cmpR r s ≤ 0 ∧ (cmpR r s = 0 ↔ r = s) := by
  unfold cmpR
  by_cases h1 : r < s
  · rw [if_pos h1]; exact ⟨by omega, by constructor; (intro h; omega); (intro h; grind)⟩
  · rw [if_neg h1, if_neg (by grind)]; exact ⟨by omega, ⟨fun _ => by grind, fun _ => rfl⟩⟩
theorem cmpR_lt {r s : Rat} (h : r < s) : cmpR r s = -1 := if_pos h
theorem exactBetween (s : Bool) (x y : List UInt8) (e n : Int) (w1 : x.length ≤ maxLen) (w2 : y.length ≤ maxLen) (w3 : (Lit.int .i64 e).wf = true) (w4 : (Lit.int .i64 n).wf = true) (K : Bool → Prop) (hK : K true) : law06_ExactBetween s x y e n K := by
  have hal : law06_alive fun y0 => K y0 := law06_alive_ok _ hK
  rw [law06_ExactBetween.is]; unfold law06_ExactBetween.d
  refine short_ok s x y e 40 _ (fun s1 t1 => ?_) hal
  rw [br_f (by rfl)]
  refine r06_May_ok _ _ _ _ _ (fun m1 => ?_) fun _ => hal
  rw [br_f (by rfl)]
  refine exp_br hal fun l1 u1 => ?_
  obtain ⟨a, b, rfl, rfl, c⟩ := m1.can
  obtain ⟨P, hP⟩ : ∃ P, P = 320 := ⟨_, rfl⟩
  obtain ⟨M, hM⟩ : ∃ M, M = 2000 := ⟨_, rfl⟩
  have d : Bd P 900 a b e := ⟨nb_bits s1 (by omega), nb_bits t1 (by omega), by omega, by omega⟩
  have hn := and_2047 n
  rw [sub_i64 (by omega) (by omega)]
  generalize hk0 : andI .i64 n 2047 - 1024 = k
  have hk : -1024 ≤ k ∧ k ≤ 1023 := by omega
  refine exact_Sign_ok s c _ ?_
  by_cases z : a = 0
  · have : sgE s a = 0 := by unfold sgE; rw [if_pos z]
    rw [this]; exact hal
  have : sgE s a ≠ 0 := by unfold sgE; rw [if_neg z]; split <;> omega
  rw [br_f (eq_f this)]
  refine exact_Floor_ok s c k (by omega) _ ?_
  refine floE_V c z (by omega) (by omega) (fun h => fit_bits (P := P + M) ?_ (by omega)) _ fun m is fl q1 q2 => ?_
  · rw [Nat.pow_add]
    exact Nat.lt_of_lt_of_le (Nat.mul_lt_mul_of_pos_right d.a (Nat.two_pow_pos _)) (Nat.mul_le_mul_left _ (Nat.pow_le_pow_right (by omega) (by omega)))
  obtain ⟨N, hN⟩ : ∃ N, N = 2321 := ⟨_, rfl⟩
  have hm1 : m + 1 < 2 ^ N := by
    obtain ⟨N', hN'⟩ : ∃ N', N' = 2320 := ⟨_, rfl⟩
    have h1 : m < 2 ^ N' := by
      by_cases h : k ≤ e
      · refine Nat.lt_of_le_of_lt (q1 h) ?_
        rw [show N' = P + M from by omega, Nat.pow_add]
        exact Nat.lt_of_lt_of_le (Nat.mul_lt_mul_of_pos_right d.a (Nat.two_pow_pos _)) (Nat.mul_le_mul_left _ (Nat.pow_le_pow_right (by omega) (by omega)))
      · exact Nat.lt_of_le_of_lt (q2 (by omega)) (Nat.lt_of_lt_of_le d.a (Nat.pow_le_pow_right (by omega) (by omega)))
    rw [show N = N' + 1 from by omega, Nat.pow_succ]
    have := Nat.two_pow_pos N'
    omega
  have hm0 : m < 2 ^ N := by omega
  have one_lt : 1 < 2 ^ N := Nat.one_lt_two_pow (by omega)
  rw [← nb_one]
  refine nat_Add_n (fit_bits hm0 (by omega)) fit_one (tell_of (fun f1 => ?_) fun f1 => absurd (fit_bits hm1 (by omega)) f1)
  refine exact_Make_n false (fit_bits hm0 (by omega)) fit_one (by decide) (by unfold win; omega) ?_
  refine mkE_B false (P := N) (E := 1024) ⟨hm0, one_lt, by omega, by omega⟩ (by decide) (by omega) (by omega) _ fun n2 a2 b2 e2 c2 v2 d2 => ?_
  refine exact_Make_n false f1 fit_one (by decide) (by unfold win; omega) ?_
  refine mkE_B false (P := N) (E := 1024) ⟨hm1, one_lt, by omega, by omega⟩ (by decide) (by omega) (by omega) _ fun n3 a3 b3 e3 c3 v3 d3 => ?_
  refine exact_Abs_ok s c _ ?_
  refine exact_Cmp_ok c2 c.abs _ ?_
  refine cmpE_B c2 c.abs d2 d (by omega) _ ?_
  refine exact_Abs_ok s c _ ?_
  refine exact_Cmp_ok c.abs c3 _ ?_
  refine cmpE_B c.abs c3 d d3 (by omega) _ ?_
  rw [v2, v3, V_one, V_one]
  refine eq0 (eq0 (eq0 (eq0 (eq0 (eq0 ?_)))))
  have hle := cmpR_le fl.le
  rw [br_f (lt_f hle.1), cmpR_lt fl.lt, br_f (by decide)]
  have his : beqB is (eqI (cmpR ((m : Rat) * p2 k) (V false a b e)) 0) = true := by
    rw [beqB_eq]
    cases is with
    | true => rw [eq_t (hle.2.2 (fl.eq.1 rfl))]
    | false => rw [eq_f (fun h => by have := fl.eq.2 (hle.2.1 h); cases this)]
  rw [his, br_f (by rfl)]
  refine exact_Top_ok s c _ (fun h => absurd h z) fun _ => ?_
  have ht := tp_range c.fa c.fb
  have htV := tp_V e z c.b0
  have hb2 : -131973 ≤ tp a b + e ∧ tp a b + e ≤ 131972 := by omega
  have htt : -1300 ≤ tp a b + e ∧ tp a b + e ≤ 1300 := by
    have ba := (blen_le a P).2 d.a
    have bb := (blen_le b P).2 d.b
    unfold tp; (repeat' split) <;> omega
  generalize tp a b + e = t at *
  refine exact_Make_n false fit_one fit_one (by decide) (by unfold win; omega) ?_
  refine mkE_B false (P := N) (E := 1301) ⟨one_lt, one_lt, by omega, by omega⟩ (by decide) (by omega) (by omega) _ fun n4 a4 b4 e4 c4 v4 d4 => ?_
  rw [add_i64 (by omega) (by omega)]
  refine exact_Make_n false fit_one fit_one (by decide) (by unfold win; omega) ?_
  refine mkE_B false (P := N) (E := 1301) ⟨one_lt, one_lt, by omega, by omega⟩ (by decide) (by omega) (by omega) _ fun n5 a5 b5 e5 c5 v5 d5 => ?_
  refine exact_Abs_ok s c _ ?_
  refine exact_Cmp_ok c4 c.abs _ ?_
  refine cmpE_B c4 c.abs d4 d (by omega) _ ?_
  refine exact_Abs_ok s c _ ?_
  refine exact_Cmp_ok c.abs c5 _ ?_
  refine cmpE_B c.abs c5 d d5 (by omega) _ ?_
  rw [v4, v5, V_one, V_one, show ((1 : Nat) : Rat) = 1 from rfl, Rat.one_mul, Rat.one_mul]
  refine br_eq ?_
  rw [br_t (le_t (cmpR_le htV.1).1), cmpR_lt htV.2]
  exact hal
end Go.Ev.S
