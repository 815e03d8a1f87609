/- Exact numbers added, multiplied, compared, measured: the document's. -/
import Derived.Test.YtmknjnegifgllaaDoorLA
import Derived.Test.YtmknjnegifgllaaDoorDA
set_option linter.unusedVariables false
set_option linter.unusedSimpArgs false
set_option maxRecDepth 8000
namespace Go.Ev.S
open Go Go.Ev
structure Can (n : Bool) (a b : Nat) (e : Int) : Prop where
  fa : fit a
  fb : fit b
  ob : b % 2 = 1
  we : win e
  z : a = 0 → n = false ∧ b = 1 ∧ e = 0
  r : a ≠ 0 → a % 2 = 1 ∧ Nat.gcd a b = 1
theorem MayE.can {n : Bool} {x y : List UInt8} {e : Int} (h : MayE n x y e) : ∃ a b, x = nb a ∧ y = nb b ∧ Can n a b e := by
  refine ⟨val x, val y, (nb_May h.ma).symm, (nb_May h.mb).symm, fit_val h.ma, fit_val h.mb, h.ob, h.we, ?_, ?_⟩
  · intro h0
    have hx : x = [] := by rw [← nb_May h.ma, h0, nb_zero]
    obtain ⟨h1, h2, h3⟩ := h.z hx
    exact ⟨h1, by rw [h2]; decide, h3⟩
  · intro h0; exact h.r ((val_ne h.ma).1 h0)
theorem nb_nil {a : Nat} : nb a = [] ↔ a = 0 := by
  constructor
  · intro h; rw [← val_nb a, h, val_nil]
  · rintro rfl; exact nb_zero
theorem Can.may {n : Bool} {a b : Nat} {e : Int} (h : Can n a b e) : MayE n (nb a) (nb b) e := by
  refine ⟨May_nb h.fa, May_nb h.fb, by rw [val_nb]; exact h.ob, h.we, ?_, ?_⟩
  · intro h0
    obtain ⟨h1, h2, h3⟩ := h.z (nb_nil.1 h0)
    exact ⟨h1, by rw [h2]; exact nb_one, h3⟩
  · intro h0
    rw [val_nb, val_nb]; exact h.r fun h1 => h0 (nb_nil.2 h1)
theorem Can.b0 {n : Bool} {a b : Nat} {e : Int} (h : Can n a b e) : b ≠ 0 := by have := h.ob; omega
theorem Can.e64 {n : Bool} {a b : Nat} {e : Int} (h : Can n a b e) : -1048576 ≤ e ∧ e ≤ 1048576 := h.we
theorem eqS_nb (a : Nat) : eqS (nb a) [] = decide (a = 0) := by rw [eqS_nil, decide_eq_decide]; exact nb_nil
theorem r05_Mul_n {a b : Nat} (ha : fit a) (hb : fit b) {K : List UInt8 → Int → Prop} (h : tell K (a * b)) : r05_Mul (nb a) (nb b) K := by
  refine r05_Mul_t (May_nb ha) (May_nb hb) ?_; rw [val_nb, val_nb]; exact h
theorem nat_Mul_n {a b : Nat} (ha : fit a) (hb : fit b) {K : List UInt8 → Int → Prop} (h : tell K (a * b)) : nat_Mul (nb a) (nb b) K := by
  refine nat_Mul_t (May_nb ha) (May_nb hb) ?_; rw [val_nb, val_nb]; exact h
theorem r05_Left_n {a : Nat} (n : Int) (h0 : 0 ≤ n) (hn : n < 9223372036854775808) (ha : fit a) {K : List UInt8 → Int → Prop} (h : tell K (a * 2 ^ n.toNat)) : r05_Left (nb a) n K := by
  refine r05_Left_t n h0 hn (May_nb ha) ?_; rw [val_nb]; exact h
theorem nat_Left_n {a : Nat} (n : Int) (h0 : 0 ≤ n) (hn : n < 9223372036854775808) (ha : fit a) {K : List UInt8 → Int → Prop} (h : tell K (a * 2 ^ n.toNat)) : nat_Left (nb a) n K := by
  refine nat_Left_t n h0 hn (May_nb ha) ?_; rw [val_nb]; exact h
theorem r05_Cmp_n (a b : Nat) (K : Int → Prop) : r05_Cmp (nb a) (nb b) K = K (sgn a b) := by rw [r05_Cmp_ok _ _ (lead_nb a) (lead_nb b), val_nb, val_nb]
theorem nat_Cmp_n {a b : Nat} (ha : fit a) (hb : fit b) {K : Int → Int → Prop} (h : K (sgn a b) 0) : nat_Cmp (nb a) (nb b) K := by
  refine nat_Cmp_ok _ _ K (fun hn => absurd ⟨May_nb ha, May_nb hb⟩ hn) fun _ _ => ?_
  rw [val_nb, val_nb]; exact h
theorem fit_len {a : Nat} (h : fit a) : (nb a).length ≤ 16384 := h
theorem r05_Add_n {a b : Nat} (ha : fit a) (hb : fit b) {K : List UInt8 → Int → Prop} (h : tell K (a + b)) : r05_Add (nb a) (nb b) K := by
  have h1 := fit_len ha
  have h2 := fit_len hb
  refine r05_Add_ok _ _ (by omega) (by omega) K ?_; rw [val_nb, val_nb]; exact h
theorem nat_Add_n {a b : Nat} (ha : fit a) (hb : fit b) {K : List UInt8 → Int → Prop} (h : tell K (a + b)) : nat_Add (nb a) (nb b) K := by
  refine nat_Add_ok _ _ K (fun hn => absurd ⟨May_nb ha, May_nb hb⟩ hn) fun _ _ => ?_; rw [val_nb, val_nb]; exact h
theorem r05_Sub_n {a b : Nat} (ha : fit a) (hb : fit b) (hle : b ≤ a) {K : List UInt8 → Int → Prop} (h : K (nb (a - b)) 0) : r05_Sub (nb a) (nb b) K := by
  refine r05_Sub_ok _ _ (May_nb ha) (May_nb hb) K ?_ ?_ <;> rw [val_nb, val_nb]
  · intro; omega
  · intro; exact h
theorem nat_Sub_n {a b : Nat} (ha : fit a) (hb : fit b) (hle : b ≤ a) {K : List UInt8 → Int → Prop} (h : K (nb (a - b)) 0) : nat_Sub (nb a) (nb b) K := by
  refine nat_Sub_ok _ _ K (fun hn => absurd ⟨May_nb ha, May_nb hb⟩ hn) ?_ ?_ <;> rw [val_nb, val_nb]
  · intro _ _ _; omega
  · intro _ _ _; exact h
theorem r06_Make_n (n : Bool) {a b : Nat} {e : Int} (ha : fit a) (hb : fit b) (h0 : b ≠ 0) (we : win e) {K : Bool → List UInt8 → List UInt8 → Int → Int → Prop} (h : mkE n a b e K) : r06_Make n (nb a) (nb b) e K := by
  refine r06_Make_ok n _ _ e K (fun hn => absurd ⟨May_nb ha, May_nb hb, nb_ne h0, we⟩ hn) fun _ _ _ _ => ?_; rw [val_nb, val_nb]; exact h
theorem exact_Make_n (n : Bool) {a b : Nat} {e : Int} (ha : fit a) (hb : fit b) (h0 : b ≠ 0) (we : win e) {K : Bool → List UInt8 → List UInt8 → Int → Int → Prop} (h : mkE n a b e K) : exact_Make n (nb a) (nb b) e K := by
  refine exact_Make_ok n _ _ e K (fun hn => absurd ⟨May_nb ha, May_nb hb, nb_ne h0, we⟩ hn) fun _ _ _ _ => ?_; rw [val_nb, val_nb]; exact h
def lv (a bd : Nat) (ae n : Int) : Nat := a * bd * 2 ^ (ae - n).toNat
def mn (a b : Int) : Int := if b < a then b else a
theorem fit_of_lv {a bd : Nat} {ae n : Int} (h : fit (lv a bd ae n)) : fit (a * bd) := fit_le h (Nat.le_mul_of_pos_right _ (Nat.two_pow_pos _))
theorem win_mn {a b : Int} (ha : win a) (hb : win b) : win (mn a b) := by unfold win mn at *; split <;> omega
section
variable {n1 n2 : Bool} {a1 b1 a2 b2 : Nat} {e1 e2 : Int}
theorem r06_Two_ok (c1 : Can n1 a1 b1 e1) (c2 : Can n2 a2 b2 e2) (K : List UInt8 → List UInt8 → Int → Int → Prop)
    (h1 : fit (lv a1 b2 e1 (mn e1 e2)) → fit (lv a2 b1 e2 (mn e1 e2)) → K (nb (lv a1 b2 e1 (mn e1 e2))) (nb (lv a2 b1 e2 (mn e1 e2))) (mn e1 e2) 0)
    (h2 : ¬ (fit (lv a1 b2 e1 (mn e1 e2)) ∧ fit (lv a2 b1 e2 (mn e1 e2))) → K [] [] 0 4) : r06_Two n1 (nb a1) (nb b1) e1 n2 (nb a2) (nb b2) e2 K := by
  have w1 := c1.e64
  have w2 := c2.e64
  rw [r06_Two.is]; unfold r06_Two.d
  have key : ∀ n : Int, n = mn e1 e2 → n ≤ e1 → n ≤ e2 → -1048576 ≤ n → r05_Mul (nb a1) (nb b2) fun y0 y1 => r05_Mul (nb a2) (nb b1) fun y0_1 y1_1 => br (!eqI y1 0) (K [] [] 0 4) (br (!eqI y1_1 0) (K [] [] 0 4) (r05_Left y0 (subI .i64 e1 n) fun y0 y1 => r05_Left y0_1 (subI .i64 e2 n) fun y0_2 y1_2 => br (!eqI y1 0) (K [] [] 0 4) (br (!eqI y1_2 0) (K [] [] 0 4) (K y0 y0_2 n 0)))) := by
    intro n hn l1 l2 l3
    rw [← hn] at h1 h2
    refine r05_Mul_n c1.fa c2.fb (tell_of (fun f1 => ?_) fun f1 => ?_)
    · refine r05_Mul_n c2.fa c1.fb (tell_of (fun f2 => ?_) fun f2 => ?_)
      · rw [br_f (by rfl), br_f (by rfl), sub_i64 (by omega) (by omega), sub_i64 (by omega) (by omega)]
        refine r05_Left_n _ (by omega) (by omega) f1 (tell_of (fun f3 => ?_) fun f3 => ?_)
        · refine r05_Left_n _ (by omega) (by omega) f2 (tell_of (fun f4 => ?_) fun f4 => ?_)
          · rw [br_f (by rfl), br_f (by rfl)]; exact h1 f3 f4
          · rw [br_f (by rfl), br_t (by rfl)]; exact h2 fun h => f4 h.2
        · refine r05_Left_n _ (by omega) (by omega) f2 (tell_of (fun f4 => ?_) fun f4 => ?_) <;> (rw [br_t (by rfl)]; exact h2 fun h => f3 h.1)
      · rw [br_f (by rfl), br_t (by rfl)]; exact h2 fun h => f2 (fit_of_lv h.2)
    · refine r05_Mul_n c2.fa c1.fb (tell_of (fun f2 => ?_) fun f2 => ?_) <;> (rw [br_t (by rfl)]; exact h2 fun h => f1 (fit_of_lv h.1))
  by_cases hl : e2 < e1
  · rw [br_t (lt_t hl)]
    exact key e2 (by unfold mn; rw [if_pos hl]) (by omega) (by omega) (by omega)
  · rw [br_f (lt_f (by omega))]
    exact key e1 (by unfold mn; rw [if_neg hl]) (by omega) (by omega) (by omega)
def addE (n1 : Bool) (a1 b1 : Nat) (e1 : Int) (n2 : Bool) (a2 b2 : Nat) (e2 : Int) (K : Bool → List UInt8 → List UInt8 → Int → Int → Prop) : Prop :=
  if a1 = 0 then K n2 (nb a2) (nb b2) e2 0 else if a2 = 0 then K n1 (nb a1) (nb b1) e1 0 else
  if fit (lv a1 b2 e1 (mn e1 e2)) ∧ fit (lv a2 b1 e2 (mn e1 e2)) ∧ fit (b1 * b2) then
    if n1 = n2 then (if fit (lv a1 b2 e1 (mn e1 e2) + lv a2 b1 e2 (mn e1 e2)) then mkE n1 (lv a1 b2 e1 (mn e1 e2) + lv a2 b1 e2 (mn e1 e2)) (b1 * b2) (mn e1 e2) K else K false [] [] 0 4)
    else if lv a2 b1 e2 (mn e1 e2) ≤ lv a1 b2 e1 (mn e1 e2) then mkE n1 (lv a1 b2 e1 (mn e1 e2) - lv a2 b1 e2 (mn e1 e2)) (b1 * b2) (mn e1 e2) K
    else mkE n2 (lv a2 b1 e2 (mn e1 e2) - lv a1 b2 e1 (mn e1 e2)) (b1 * b2) (mn e1 e2) K
  else K false [] [] 0 4
theorem sgn_le0 (a b : Nat) : leI 0 (sgn a b) = decide (b ≤ a) := by
  unfold sgn leI
  rw [decide_eq_decide]
  (repeat' split) <;> omega
theorem beqB_dec (a b : Bool) : beqB a b = decide (a = b) := by cases a <;> cases b <;> rfl
theorem br_dec {c : Prop} [Decidable c] {p q : Prop} (h1 : c → p) (h2 : ¬ c → q) : br (decide c) p q := by
  by_cases h : c
  · rw [br_t (by simpa using h)]; exact h1 h
  · rw [br_f (by simpa using h)]; exact h2 h
theorem br_ndec {c : Prop} [Decidable c] {p q : Prop} (h1 : ¬ c → p) (h2 : c → q) : br (!decide c) p q := by
  by_cases h : c
  · rw [br_f (by simpa using h)]; exact h2 h
  · rw [br_t (by simpa using h)]; exact h1 h
theorem r06_Add_ok (c1 : Can n1 a1 b1 e1) (c2 : Can n2 a2 b2 e2) (K : Bool → List UInt8 → List UInt8 → Int → Int → Prop) (h : addE n1 a1 b1 e1 n2 a2 b2 e2 K) :
    r06_Add n1 (nb a1) (nb b1) e1 n2 (nb a2) (nb b2) e2 K := by
  rw [r06_Add.is]; unfold r06_Add.d
  unfold addE at h
  rw [eqS_nb, eqS_nb]
  refine br_dec (fun h0 => ?_) fun h0 => ?_
  · rw [if_pos h0] at h; exact h
  rw [if_neg h0] at h
  refine br_dec (fun h0 => ?_) fun h0 => ?_
  · rw [if_pos h0] at h; exact h
  rw [if_neg h0] at h
  refine r06_Two_ok c1 c2 _ (fun f1 f2 => ?_) fun hf => ?_
  rotate_left
  · rw [br_t (by rfl)]; rw [if_neg fun hh => hf ⟨hh.1, hh.2.1⟩] at h; exact h
  rw [br_f (by rfl)]
  refine r05_Mul_n c1.fb c2.fb (tell_of (fun f3 => ?_) fun f3 => ?_)
  rotate_left
  · rw [br_t (by rfl)]; rw [if_neg fun hh => f3 hh.2.2] at h; exact h
  rw [br_f (by rfl)]
  rw [if_pos ⟨f1, f2, f3⟩] at h
  have hb : b1 * b2 ≠ 0 := Nat.mul_ne_zero c1.b0 c2.b0
  have hw := win_mn c1.we c2.we
  rw [beqB_dec]
  refine br_dec (fun hn => ?_) fun hn => ?_
  · rw [if_pos hn] at h
    refine r05_Add_n f1 f2 (tell_of (fun f4 => ?_) fun f4 => ?_)
    · rw [if_pos f4] at h
      rw [br_f (by rfl)]
      exact r06_Make_n n1 f4 f3 hb hw h
    · rw [if_neg f4] at h
      rw [br_t (by rfl)]; exact h
  · rw [if_neg hn] at h
    rw [r05_Cmp_n, sgn_le0]
    refine br_dec (fun hl => ?_) fun hl => ?_
    · rw [if_pos hl] at h
      refine r05_Sub_n f1 f2 hl ?_
      exact r06_Make_n n1 (fit_le f1 (Nat.sub_le _ _)) f3 hb hw h
    · rw [if_neg hl] at h
      refine r05_Sub_n f2 f1 (by omega) ?_
      exact r06_Make_n n2 (fit_le f2 (Nat.sub_le _ _)) f3 hb hw h
def sgE (n : Bool) (a : Nat) : Int := if a = 0 then 0 else if n = true then -1 else 1
theorem r06_sign_ok (n : Bool) (a b : Nat) (e : Int) (K : Int → Prop) (h : K (sgE n a)) : r06_sign n (nb a) (nb b) e K := by
  rw [r06_sign.is]; unfold r06_sign.d
  rw [eqS_nb]
  unfold sgE at h
  by_cases h0 : a = 0
  · rw [br_t (by simpa using h0)]; rw [if_pos h0] at h; exact h
  · rw [br_f (by simpa using h0)]; rw [if_neg h0] at h; cases n <;> exact h
def cmpE (n1 : Bool) (a1 b1 : Nat) (e1 : Int) (n2 : Bool) (a2 b2 : Nat) (e2 : Int) (K : Int → Int → Prop) : Prop :=
  if sgE n1 a1 < sgE n2 a2 then K (-1) 0 else if sgE n2 a2 < sgE n1 a1 then K 1 0 else if sgE n1 a1 = 0 then K 0 0 else
  if fit (lv a1 b2 e1 (mn e1 e2)) ∧ fit (lv a2 b1 e2 (mn e1 e2)) then K (sgE n1 a1 * sgn (lv a1 b2 e1 (mn e1 e2)) (lv a2 b1 e2 (mn e1 e2))) 0 else K 0 4
theorem sgE_range (n : Bool) (a : Nat) : sgE n a = -1 ∨ sgE n a = 0 ∨ sgE n a = 1 := by unfold sgE; (repeat' split) <;> simp
theorem sgn_range (a b : Nat) : sgn a b = -1 ∨ sgn a b = 0 ∨ sgn a b = 1 := by unfold sgn; (repeat' split) <;> simp
theorem mul_sgn {s t : Int} (hs : s = -1 ∨ s = 0 ∨ s = 1) (ht : t = -1 ∨ t = 0 ∨ t = 1) : mulI .i64 s t = s * t := by
  rcases hs with rfl | rfl | rfl <;> rcases ht with rfl | rfl | rfl <;> decide
theorem r06_Cmp_ok (c1 : Can n1 a1 b1 e1) (c2 : Can n2 a2 b2 e2) (K : Int → Int → Prop) (h : cmpE n1 a1 b1 e1 n2 a2 b2 e2 K) : r06_Cmp n1 (nb a1) (nb b1) e1 n2 (nb a2) (nb b2) e2 K := by
  rw [r06_Cmp.is]; unfold r06_Cmp.d
  refine r06_sign_ok n1 a1 b1 e1 _ ?_
  refine r06_sign_ok n2 a2 b2 e2 _ ?_
  unfold cmpE at h
  by_cases hs : sgE n1 a1 = sgE n2 a2
  · rw [br_f (by rw [eq_t hs]; rfl)]
    rw [if_neg (by omega), if_neg (by omega)] at h
    by_cases h0 : sgE n1 a1 = 0
    · rw [br_t (eq_t h0), br_f (lt_f (by omega)), br_f (lt_f (by omega))]
      rw [if_pos h0] at h; exact h
    · rw [br_f (eq_f h0)]
      rw [if_neg h0] at h
      refine r06_Two_ok c1 c2 _ (fun f1 f2 => ?_) fun hf => ?_
      · rw [br_f (by rfl), r05_Cmp_n, mul_sgn (sgE_range _ _) (sgn_range _ _)]
        rw [if_pos ⟨f1, f2⟩] at h; exact h
      · rw [br_t (by rfl)]
        rw [if_neg hf] at h; exact h
  · rw [br_t (by rw [eq_f hs]; rfl)]
    by_cases hl : sgE n1 a1 < sgE n2 a2
    · rw [if_pos hl] at h
      rw [br_t (lt_t hl)]; exact h
    · rw [if_neg hl, if_pos (by omega)] at h
      rw [br_f (lt_f (by omega)), br_t (lt_t (by omega))]; exact h
end
end Go.Ev.S

/- Exact numbers scaled, measured, cut: the document's. -/
set_option linter.unusedVariables false
set_option linter.unusedSimpArgs false
set_option maxRecDepth 8000
namespace Go.Ev.S
open Go Go.Ev
theorem r06_Neg_ok (s : Bool) {a b : Nat} {e : Int} (c : Can s a b e) (K : Bool → List UInt8 → List UInt8 → Int → Prop) (h : K (!s && decide (a ≠ 0)) (nb a) (nb b) e) : r06_Neg s (nb a) (nb b) e K := by
  rw [r06_Neg.is]; unfold r06_Neg.d
  refine r06_May_ok _ _ _ _ _ (fun _ => ?_) fun hh => absurd c.may hh
  rw [br_f (by rfl), eqS_nb]
  refine br_ndec (fun h0 => ?_) fun h0 => ?_
  · rw [show decide (a ≠ 0) = true from by simpa using h0, Bool.and_true] at h; exact h
  · rw [show decide (a ≠ 0) = false from by simpa using h0, Bool.and_false, ← (c.z h0).1] at h; exact h
end Go.Ev.S

/- Exact numbers added, multiplied, compared, measured: the abacus. -/
set_option linter.unusedVariables false
set_option linter.unusedSimpArgs false
set_option maxRecDepth 8000
namespace Go.Ev.S
open Go Go.Ev
theorem firm_ok (e : Int) (a : List UInt8) (f : Int) (K : List UInt8 → Int → Prop) : exact_firm_nat e a f K = if e = 0 then K a f else K a e := by
  rw [exact_firm_nat.is]; unfold exact_firm_nat.d
  by_cases h : e = 0
  · rw [br_t (eq_t h), if_pos h]
  · rw [br_f (eq_f h), if_neg h]
theorem firm_0 (a : List UInt8) (f : Int) (K : List UInt8 → Int → Prop) : exact_firm_nat 0 a f K = K a f := by rw [firm_ok]; rfl
theorem firm_4 (a : List UInt8) (f : Int) (K : List UInt8 → Int → Prop) : exact_firm_nat 4 a f K = K a 4 := by rw [firm_ok]; rfl
theorem exact_right_ok (n1 : Bool) (x1 y1 : List UInt8) (e1 : Int) (n2 : Bool) (x2 y2 : List UInt8) (e2 : Int) (K : Bool → Prop) (h1 : MayE n1 x1 y1 e1 → MayE n2 x2 y2 e2 → K true) (h2 : ¬ (MayE n1 x1 y1 e1 ∧ MayE n2 x2 y2 e2) → K false) : exact_right n1 x1 y1 e1 n2 x2 y2 e2 K := by
  rw [exact_right.is]; unfold exact_right.d
  refine exact_Check_ok _ _ _ _ _ (fun g1 => ?_) fun g1 => ?_
  · rw [br_t (by rfl)]
    refine exact_Check_ok _ _ _ _ _ (fun g2 => ?_) fun g2 => ?_
    · exact h1 g1 g2
    · exact h2 fun h => g2 h.2
  · rw [br_f (by rfl)]; exact h2 fun h => g1 h.1
theorem minI_mn (a b : Int) : minI a b = mn a b := by rw [minI_eq]; rfl
theorem nat_Left_any {a : List UInt8} (ha : May a) (n : Int) (h0 : 0 ≤ n) (hn : n < 9223372036854775808) {K : List UInt8 → Int → Prop} (h : ∀ b e, May b → (e = 0 ∨ e = 4) → K b e) : nat_Left a n K := by
  refine nat_Left_t n h0 hn ha (tell_of (fun f => h _ _ (May_nb f) (.inl rfl)) fun _ => h _ _ May_nil (.inr rfl))
section
variable {n1 n2 : Bool} {a1 b1 a2 b2 : Nat} {e1 e2 : Int}
theorem exact_level_ok (c1 : Can n1 a1 b1 e1) (c2 : Can n2 a2 b2 e2) (K : List UInt8 → List UInt8 → Int → Int → Prop)
    (h1 : fit (lv a1 b2 e1 (mn e1 e2)) → fit (lv a2 b1 e2 (mn e1 e2)) → K (nb (lv a1 b2 e1 (mn e1 e2))) (nb (lv a2 b1 e2 (mn e1 e2))) (mn e1 e2) 0)
    (h2 : ¬ (fit (lv a1 b2 e1 (mn e1 e2)) ∧ fit (lv a2 b1 e2 (mn e1 e2))) → ∀ u v m, K u v m 4) : exact_level n1 (nb a1) (nb b1) e1 n2 (nb a2) (nb b2) e2 K := by
  have w1 := c1.e64
  have w2 := c2.e64
  have l1 : mn e1 e2 ≤ e1 := by unfold mn; split <;> omega
  have l2 : mn e1 e2 ≤ e2 := by unfold mn; split <;> omega
  have l3 : -1048576 ≤ mn e1 e2 := by unfold mn; split <;> omega
  rw [exact_level.is]; unfold exact_level.d
  rw [minI_mn, sub_i64 (by omega) (by omega), sub_i64 (by omega) (by omega)]
  have bad : ¬ (fit (lv a1 b2 e1 (mn e1 e2)) ∧ fit (lv a2 b1 e2 (mn e1 e2))) → ∀ x y, May x → May y → nat_Left x (e1 - mn e1 e2) fun y0 y1_2 => exact_firm_nat 4 y0 y1_2 fun y0 y1 => nat_Left y (e2 - mn e1 e2) fun y0_3 y1_3 => exact_firm_nat y1 y0_3 y1_3 fun y0_4 y1 => K y0 y0_4 (mn e1 e2) y1 := by
    intro hb x y mx my
    refine nat_Left_any mx _ (by omega) (by omega) fun u e _ _ => ?_
    rw [firm_4]
    refine nat_Left_any my _ (by omega) (by omega) fun v e _ _ => ?_
    rw [firm_4]; exact h2 hb _ _ _
  refine nat_Mul_n c1.fa c2.fb (tell_of (fun f1 => ?_) fun f1 => ?_)
  · rw [firm_0]
    refine nat_Mul_n c2.fa c1.fb (tell_of (fun f2 => ?_) fun f2 => ?_)
    · rw [firm_0]
      refine nat_Left_n _ (by omega) (by omega) f1 (tell_of (fun f3 => ?_) fun f3 => ?_)
      · rw [firm_0]
        refine nat_Left_n _ (by omega) (by omega) f2 (tell_of (fun f4 => ?_) fun f4 => ?_)
        · rw [firm_0]; exact h1 f3 f4
        · rw [firm_0]; exact h2 (fun h => f4 h.2) _ _ _
      · rw [firm_0]
        refine nat_Left_n _ (by omega) (by omega) f2 (tell_of (fun f4 => ?_) fun f4 => ?_) <;> (rw [firm_4]; exact h2 (fun h => f3 h.1) _ _ _)
    · rw [firm_0]
      exact bad (fun h => f2 (fit_of_lv h.2)) _ _ (May_nb f1) May_nil
  · rw [firm_0]
    refine nat_Mul_n c2.fa c1.fb (tell_of (fun f2 => ?_) fun f2 => ?_)
    · rw [firm_4]
      exact bad (fun h => f1 (fit_of_lv h.1)) _ _ May_nil (May_nb f2)
    · rw [firm_4]
      exact bad (fun h => f1 (fit_of_lv h.1)) _ _ May_nil May_nil
theorem exact_Add_ok (c1 : Can n1 a1 b1 e1) (c2 : Can n2 a2 b2 e2) (K : Bool → List UInt8 → List UInt8 → Int → Int → Prop) (h : addE n1 a1 b1 e1 n2 a2 b2 e2 K) :
    exact_Add n1 (nb a1) (nb b1) e1 n2 (nb a2) (nb b2) e2 K := by
  rw [exact_Add.is]; unfold exact_Add.d
  refine exact_right_ok _ _ _ _ _ _ _ _ _ (fun _ _ => ?_) fun hh => absurd ⟨c1.may, c2.may⟩ hh
  rw [br_f (by rfl)]
  unfold addE at h
  rw [eqS_nb, eqS_nb]
  refine br_dec (fun h0 => ?_) fun h0 => ?_
  · rw [if_pos h0] at h; exact h
  rw [if_neg h0] at h
  refine br_dec (fun h0 => ?_) fun h0 => ?_
  · rw [if_pos h0] at h; exact h
  rw [if_neg h0] at h
  refine exact_level_ok c1 c2 _ (fun f1 f2 => ?_) fun hf u v m => ?_
  rotate_left
  · rw [br_t (by rfl)]; rw [if_neg fun hh => hf ⟨hh.1, hh.2.1⟩] at h; exact h
  rw [br_f (by rfl)]
  have hb : b1 * b2 ≠ 0 := Nat.mul_ne_zero c1.b0 c2.b0
  have hw := win_mn c1.we c2.we
  rw [beqB_dec]
  refine nat_Mul_n c1.fb c2.fb (tell_of (fun f3 => ?_) fun f3 => ?_)
  · rw [if_pos ⟨f1, f2, f3⟩] at h
    rw [firm_0]
    refine br_dec (fun hn => ?_) fun hn => ?_
    · rw [if_pos hn] at h
      refine nat_Add_n f1 f2 (tell_of (fun f4 => ?_) fun f4 => ?_)
      · rw [if_pos f4] at h
        rw [firm_0, br_f (by rfl)]
        exact exact_Make_n n1 f4 f3 hb hw h
      · rw [if_neg f4] at h
        rw [firm_0, br_t (by rfl)]; exact h
    · rw [if_neg hn] at h
      refine nat_Cmp_n f1 f2 ?_
      rw [sgn_le0]
      refine br_dec (fun hl => ?_) fun hl => ?_
      · rw [if_pos hl] at h
        refine nat_Sub_n f1 f2 hl ?_
        rw [firm_0, br_f (by rfl)]
        exact exact_Make_n n1 (fit_le f1 (Nat.sub_le _ _)) f3 hb hw h
      · rw [if_neg hl] at h
        refine nat_Sub_n f2 f1 (by omega) ?_
        rw [firm_0, br_f (by rfl)]
        exact exact_Make_n n2 (fit_le f2 (Nat.sub_le _ _)) f3 hb hw h
  · rw [if_neg fun hh => f3 hh.2.2] at h
    rw [firm_0]
    refine br_dec (fun hn => ?_) fun hn => ?_
    · refine nat_Add_n f1 f2 (tell_of (fun f4 => ?_) fun f4 => ?_) <;> (rw [firm_4, br_t (by rfl)]; exact h)
    · refine nat_Cmp_n f1 f2 ?_
      rw [sgn_le0]
      refine br_dec (fun hl => ?_) fun hl => ?_
      · refine nat_Sub_n f1 f2 hl ?_
        rw [firm_4, br_t (by rfl)]; exact h
      · refine nat_Sub_n f2 f1 (by omega) ?_
        rw [firm_4, br_t (by rfl)]; exact h
theorem exact_Neg_ok (s : Bool) {a b : Nat} {e : Int} (c : Can s a b e) (K : Bool → List UInt8 → List UInt8 → Int → Prop) (h : K (!s && decide (a ≠ 0)) (nb a) (nb b) e) : exact_Neg s (nb a) (nb b) e K := by
  rw [exact_Neg.is]; unfold exact_Neg.d
  refine exact_Check_ok _ _ _ _ _ (fun _ => ?_) fun hh => absurd c.may hh
  rw [br_f (by rfl), eqS_nb]
  cases s with
  | true => exact h
  | false =>
    rw [show (!false && decide (a ≠ 0)) = !decide (a = 0) from by simp] at h; exact h
theorem Can.neg {s : Bool} {a b : Nat} {e : Int} (c : Can s a b e) : Can (!s && decide (a ≠ 0)) a b e :=
  ⟨c.fa, c.fb, c.ob, c.we, fun h => ⟨by simp [h], (c.z h).2⟩, c.r⟩
theorem exact_Sub_ok (c1 : Can n1 a1 b1 e1) (c2 : Can n2 a2 b2 e2) (K : Bool → List UInt8 → List UInt8 → Int → Int → Prop) (h : addE n1 a1 b1 e1 (!n2 && decide (a2 ≠ 0)) a2 b2 e2 K) :
    exact_Sub n1 (nb a1) (nb b1) e1 n2 (nb a2) (nb b2) e2 K := by
  rw [exact_Sub.is]; unfold exact_Sub.d
  refine exact_right_ok _ _ _ _ _ _ _ _ _ (fun _ _ => ?_) fun hh => absurd ⟨c1.may, c2.may⟩ hh
  rw [br_f (by rfl)]
  refine exact_Neg_ok n2 c2 _ ?_
  exact exact_Add_ok c1 c2.neg K h
theorem exact_Sign_ok (s : Bool) {a b : Nat} {e : Int} (c : Can s a b e) (K : Int → Prop) (h : K (sgE s a)) : exact_Sign s (nb a) (nb b) e K := by
  rw [exact_Sign.is]; unfold exact_Sign.d
  refine exact_Check_ok _ _ _ _ _ (fun _ => ?_) fun hh => absurd c.may hh
  rw [br_f (by rfl), eqS_nb]
  unfold sgE at h
  by_cases h0 : a = 0
  · rw [br_t (by simpa using h0)]; rw [if_pos h0] at h; exact h
  · rw [br_f (by simpa using h0)]; rw [if_neg h0] at h; cases s <;> exact h
theorem exact_Cmp_ok (c1 : Can n1 a1 b1 e1) (c2 : Can n2 a2 b2 e2) (K : Int → Int → Prop) (h : cmpE n1 a1 b1 e1 n2 a2 b2 e2 K) : exact_Cmp n1 (nb a1) (nb b1) e1 n2 (nb a2) (nb b2) e2 K := by
  rw [exact_Cmp.is]; unfold exact_Cmp.d
  refine exact_right_ok _ _ _ _ _ _ _ _ _ (fun _ _ => ?_) fun hh => absurd ⟨c1.may, c2.may⟩ hh
  rw [br_f (by rfl)]
  refine exact_Sign_ok n1 c1 _ ?_
  refine exact_Sign_ok n2 c2 _ ?_
  unfold cmpE at h
  by_cases l1 : sgE n1 a1 < sgE n2 a2
  · rw [br_t (lt_t l1)]; rw [if_pos l1] at h; exact h
  rw [br_f (lt_f (by omega))]
  rw [if_neg l1] at h
  by_cases l2 : sgE n2 a2 < sgE n1 a1
  · rw [br_t (lt_t l2)]; rw [if_pos l2] at h; exact h
  rw [br_f (lt_f (by omega))]
  rw [if_neg l2] at h
  by_cases l3 : sgE n1 a1 = 0
  · rw [br_t (eq_t l3)]; rw [if_pos l3] at h; exact h
  rw [br_f (eq_f l3)]
  rw [if_neg l3] at h
  refine exact_level_ok c1 c2 _ (fun f1 f2 => ?_) fun hf u v m => ?_
  · rw [br_f (by rfl)]
    rw [if_pos ⟨f1, f2⟩] at h
    refine nat_Cmp_n f1 f2 ?_
    rw [mul_sgn (sgE_range _ _) (sgn_range _ _)]; exact h
  · rw [br_t (by rfl)]
    rw [if_neg hf] at h; exact h
end
theorem exact_Add_no {n1 : Bool} {x1 y1 : List UInt8} {e1 : Int} {n2 : Bool} {x2 y2 : List UInt8} {e2 : Int} (hb : ¬ (MayE n1 x1 y1 e1 ∧ MayE n2 x2 y2 e2)) (K : Bool → List UInt8 → List UInt8 → Int → Int → Prop) (h : K false [] [] 0 2) : exact_Add n1 x1 y1 e1 n2 x2 y2 e2 K := by
  rw [exact_Add.is]; unfold exact_Add.d
  exact exact_right_ok _ _ _ _ _ _ _ _ _ (fun g1 g2 => absurd ⟨g1, g2⟩ hb) fun _ => h
theorem exact_Sub_no {n1 : Bool} {x1 y1 : List UInt8} {e1 : Int} {n2 : Bool} {x2 y2 : List UInt8} {e2 : Int} (hb : ¬ (MayE n1 x1 y1 e1 ∧ MayE n2 x2 y2 e2)) (K : Bool → List UInt8 → List UInt8 → Int → Int → Prop) (h : K false [] [] 0 2) : exact_Sub n1 x1 y1 e1 n2 x2 y2 e2 K := by
  rw [exact_Sub.is]; unfold exact_Sub.d
  exact exact_right_ok _ _ _ _ _ _ _ _ _ (fun g1 g2 => absurd ⟨g1, g2⟩ hb) fun _ => h
theorem exact_Cmp_no {n1 : Bool} {x1 y1 : List UInt8} {e1 : Int} {n2 : Bool} {x2 y2 : List UInt8} {e2 : Int} (hb : ¬ (MayE n1 x1 y1 e1 ∧ MayE n2 x2 y2 e2)) (K : Int → Int → Prop) (h : K 0 2) : exact_Cmp n1 x1 y1 e1 n2 x2 y2 e2 K := by
  rw [exact_Cmp.is]; unfold exact_Cmp.d
  exact exact_right_ok _ _ _ _ _ _ _ _ _ (fun g1 g2 => absurd ⟨g1, g2⟩ hb) fun _ => h
end Go.Ev.S

/- Exact numbers as rational ones. -/
set_option linter.unusedVariables false
set_option linter.unusedSimpArgs false
set_option maxRecDepth 8000
namespace Go.Ev.S
open Go Go.Ev
def p2 (e : Int) : Rat := (2 : Rat) ^ e
def sR (n : Bool) : Rat := if n then -1 else 1
def V (n : Bool) (a b : Nat) (e : Int) : Rat := sR n * ((a : Rat) / (b : Rat)) * p2 e
end Go.Ev.S

/- Encodings, their fields and their signs: the abacus and the document's answer. -/
set_option linter.unusedVariables false
set_option linter.unusedSimpArgs false
set_option maxRecDepth 8000
namespace Go.Ev.S
open Go Go.Ev
def ng (f x : Nat) : Bool := x.testBit (fw f - 1)
def ex (f x : Nat) : Nat := x / 2 ^ (fp f - 1) % (2 * fe f + 2)
def fr (f x : Nat) : Nat := x % 2 ^ (fp f - 1)
def cls (f x : Nat) : Int :=
  if ex f x = 2 * fe f + 1 then (if fr f x ≠ 0 then cond ((fr f x).testBit (fp f - 2)) 9 8 else cond (ng f x) 0 7)
  else if ex f x ≠ 0 then cond (ng f x) 1 6 else if fr f x ≠ 0 then cond (ng f x) 2 5 else cond (ng f x) 3 4
end Go.Ev.S

/- Differences: of words, bit by bit; of numbers of six words. -/
set_option linter.unusedVariables false
set_option linter.unusedSimpArgs false
set_option maxRecDepth 8000
namespace Go.Ev.S
open Go Go.Ev
end Go.Ev.S

/- Quiet and next encodings: the abacus and the document's answer; the law KindSigns. -/
set_option linter.unusedVariables false
set_option linter.unusedSimpArgs false
set_option maxRecDepth 8000
namespace Go.Ev.S
open Go Go.Ev
def nanOf (f : Nat) : Nat := enc f false (2 * fe f + 1) (2 ^ (fp f - 2))
def quiet (f x : Nat) : Nat := if 8 ≤ cls f x then x ||| nanOf f else x
end Go.Ev.S

/- The parts of an encoding: the abacus and the document's answer. -/
set_option linter.unusedVariables false
set_option linter.unusedSimpArgs false
set_option maxRecDepth 8000
namespace Go.Ev.S
open Go Go.Ev
end Go.Ev.S

/- Signs put together, words and classes: the abacus and the document's answer; the laws of signs. -/
set_option linter.unusedVariables false
set_option linter.unusedSimpArgs false
set_option maxRecDepth 8000
namespace Go.Ev.S
open Go Go.Ev
end Go.Ev.S

/- The plain laws of SignWords and SignBack. -/
set_option linter.unusedVariables false
set_option linter.unusedSimpArgs false
set_option maxRecDepth 8000
namespace Go.Ev.S
open Go Go.Ev
def ext (w x : Nat) : Nat := cond (x.testBit (w - 1)) (x % 2 ^ w + (18446744073709551616 - 2 ^ w)) (x % 2 ^ w)
end Go.Ev.S

/- Encodings compared: what the functions come to. -/
set_option linter.unusedVariables false
set_option linter.unusedSimpArgs false
set_option maxRecDepth 8000
namespace Go.Ev.S
open Go Go.Ev
end Go.Ev.S

/- The order of all encodings; the lesser and the greater one. -/
set_option linter.unusedVariables false
set_option linter.unusedSimpArgs false
set_option maxRecDepth 8000
namespace Go.Ev.S
open Go Go.Ev
end Go.Ev.S

/- What encodings say: their exact values, in order. -/
set_option linter.unusedVariables false
set_option linter.unusedSimpArgs false
set_option maxRecDepth 8000
namespace Go.Ev.S
open Go Go.Ev
def fin (f x : Nat) : Prop := ex f x ≠ 2 * fe f + 1
end Go.Ev.S

/- Exact numbers compared, as rational ones; encodings compared by their values. -/
set_option linter.unusedVariables false
set_option linter.unusedSimpArgs false
set_option maxRecDepth 8000
namespace Go.Ev.S
open Go Go.Ev
section
variable {n1 n2 : Bool} {a1 b1 a2 b2 : Nat} {e1 e2 : Int}
end
theorem fit_Q6 {x : Nat} (h : x < Q6) : fit x := by
  unfold fit
  obtain ⟨N, hN⟩ : ∃ N, N = 48 := ⟨_, rfl⟩
  have : (nb x).length ≤ N := by rw [nb_len_le, p256, p384' hN]; exact h
  omega
end Go.Ev.S

/- Exact numbers: made, signs, products, places, sums. -/
set_option linter.unusedVariables false
set_option linter.unusedSimpArgs false
set_option maxRecDepth 8000
namespace Go.Ev.S
open Go Go.Ev
abbrev K5 := Bool → List UInt8 → List UInt8 → Int → Int → Prop
def One5 (T : K5 → Prop) : Prop := ∃ n x y e f, ∀ K : K5, T K = K n x y e f
theorem One5.k (n : Bool) (x y : List UInt8) (e f : Int) : One5 fun K => K n x y e f := ⟨n, x, y, e, f, fun _ => rfl⟩
theorem One5.ite {c : Prop} [Decidable c] {T U : K5 → Prop} (h1 : One5 T) (h2 : One5 U) : One5 fun K => if c then T K else U K := by
  by_cases h : c
  · obtain ⟨n, x, y, e, f, hk⟩ := h1; exact ⟨n, x, y, e, f, fun K => (if_pos h).trans (hk K)⟩
  · obtain ⟨n, x, y, e, f, hk⟩ := h2; exact ⟨n, x, y, e, f, fun K => (if_neg h).trans (hk K)⟩
theorem one_mkE (n : Bool) (a b : Nat) (e : Int) : One5 (mkE n a b e) := .ite (.k _ _ _ _ _) (.ite (.k _ _ _ _ _) (.k _ _ _ _ _))
theorem one_addE (n1 : Bool) (a1 b1 : Nat) (e1 : Int) (n2 : Bool) (a2 b2 : Nat) (e2 : Int) : One5 (addE n1 a1 b1 e1 n2 a2 b2 e2) :=
  .ite (.k _ _ _ _ _) (.ite (.k _ _ _ _ _) (.ite (.ite (.ite (one_mkE _ _ _ _) (.k _ _ _ _ _)) (.ite (one_mkE _ _ _ _) (one_mkE _ _ _ _))) (.k _ _ _ _ _)))
theorem one_cmpE (n1 : Bool) (a1 b1 : Nat) (e1 : Int) (n2 : Bool) (a2 b2 : Nat) (e2 : Int) : ∃ c f, ∀ K : Int → Int → Prop, cmpE n1 a1 b1 e1 n2 a2 b2 e2 K = K c f := by
  unfold cmpE
  (repeat' split) <;> exact ⟨_, _, fun _ => rfl⟩
theorem br_same4 {n : Bool} {x y : List UInt8} {e : Int} {p q : Prop} (h : p) : br (beqB n n && (eqS x x && (eqS y y && eqI e e))) p q := by
  rw [br_t]
  · exact h
  · rw [eqS_self, eqS_self, eqI_self, beqB_eq.2 rfl]; rfl
theorem short_ok (n : Bool) (x y : List UInt8) (e : Int) (m : Nat) (K : Bool → Prop) (h1 : x.length ≤ m → y.length ≤ m → K true) (h2 : K false) : law06_short n x y e m K := by
  rw [law06_short.is]; unfold law06_short.d
  by_cases g1 : x.length ≤ m
  · rw [br_t (le_t (by omega))]
    by_cases g2 : y.length ≤ m
    · rw [le_t (by omega)]; exact h1 g1 g2
    · rw [le_f (by omega)]; exact h2
  · rw [br_f (le_f (by omega))]; exact h2
theorem fit_few {x : Nat} (h : x < 18446744073709551616) : fit x := fit_Q6 (p384 (a := 64) (by omega) h)
theorem law06_alive_ok (K : Bool → Prop) (hK : K true) : law06_alive K := by
  rw [law06_alive.is]; unfold law06_alive.d
  have n6 : nb 6 = [6] := by rw [nb_pos (by decide), nb_zero]; decide
  have n4 : nb 4 = [4] := by rw [nb_pos (by decide), nb_zero]; decide
  have n3 : nb 3 = [3] := by rw [nb_pos (by decide), nb_zero]; decide
  have l6 : lowb 6 = 1 := lowb_of 1 1
  have l4 : lowb 4 = 2 := lowb_of 2 0
  rw [← n6, ← n4]
  refine exact_Make_n false (fit_few (by omega)) (fit_few (by omega)) (by decide) (by unfold win; omega) ?_
  have eA : rdA 6 4 = 3 := by unfold rdA odp; rw [l6, l4]; decide
  have eB : rdB 6 4 = 1 := by unfold rdB odp; rw [l6, l4]; decide
  have eE : rdE 6 4 0 = -1 := by unfold rdE; rw [l6, l4]; rfl
  unfold mkE
  rw [if_neg (by decide), eE, if_pos (by unfold win; omega), eA, eB, n3, nb_one]
  refine exact_Make_ok false [1] [] 0 _ (fun _ => ?_) fun _ _ h => absurd rfl h
  exact hK
theorem exactSums (n1 : Bool) (x1 y1 : List UInt8) (e1 : Int) (n2 : Bool) (x2 y2 : List UInt8) (e2 : Int) (w1 : x1.length ≤ maxLen) (w2 : y1.length ≤ maxLen) (w3 : (Lit.int .i64 e1).wf = true) (w4 : x2.length ≤ maxLen) (w5 : y2.length ≤ maxLen) (w6 : (Lit.int .i64 e2).wf = true) (K : Bool → Prop) (hK : K true) : law06_ExactSums n1 x1 y1 e1 n2 x2 y2 e2 K := by
  have hal : law06_alive fun y0 => K y0 := law06_alive_ok _ hK
  rw [law06_ExactSums.is]; unfold law06_ExactSums.d
  refine short_ok n1 x1 y1 e1 60 _ (fun _ _ => ?_) hal
  rw [br_f (by rfl)]
  refine short_ok n2 x2 y2 e2 60 _ (fun _ _ => ?_) hal
  rw [br_f (by rfl)]
  refine r06_May_ok _ _ _ _ _ (fun h1 => ?_) fun h1 => ?_
  rotate_left
  · rw [br_t (by rfl)]
    have hm : ¬ (MayE n1 x1 y1 e1 ∧ MayE n2 x2 y2 e2) := fun h => h1 h.1
    refine exact_Add_no hm _ ?_
    refine exact_Sub_no hm _ ?_
    refine exact_Cmp_no hm _ ?_
    exact hal
  rw [br_f (by rfl)]
  refine r06_May_ok _ _ _ _ _ (fun h2 => ?_) fun h2 => ?_
  rotate_left
  · rw [br_t (by rfl)]
    have hm : ¬ (MayE n1 x1 y1 e1 ∧ MayE n2 x2 y2 e2) := fun h => h2 h.2
    refine exact_Add_no hm _ ?_
    refine exact_Sub_no hm _ ?_
    refine exact_Cmp_no hm _ ?_
    exact hal
  rw [br_f (by rfl)]
  obtain ⟨a1, b1, rfl, rfl, c1⟩ := h1.can
  obtain ⟨a2, b2, rfl, rfl, c2⟩ := h2.can
  have main : exact_Add n1 (nb a1) (nb b1) e1 n2 (nb a2) (nb b2) e2 fun y0 y1 y2 y3 y4 => exact_Sub n1 (nb a1) (nb b1) e1 n2 (nb a2) (nb b2) e2 fun y0_1 y1_1 y2_1 y3_1 y4_1 => exact_Cmp n1 (nb a1) (nb b1) e1 n2 (nb a2) (nb b2) e2 fun y0_2 y1_2 => r06_Add n1 (nb a1) (nb b1) e1 n2 (nb a2) (nb b2) e2 fun y0_3 y1_3 y2_2 y3_2 y4_2 => r06_Neg n2 (nb a2) (nb b2) e2 fun y0_4 y1_4 y2_3 y3_3 => r06_Add n1 (nb a1) (nb b1) e1 y0_4 y1_4 y2_3 y3_3 fun y0_5 y1_5 y2_4 y3_4 y4_3 => r06_Cmp n1 (nb a1) (nb b1) e1 n2 (nb a2) (nb b2) e2 fun y0_6 y1_6 => br (beqB y0 y0_3 && (eqS y1 y1_3 && (eqS y2 y2_2 && eqI y3 y3_2))) (br (eqI y4 y4_2) (br (beqB y0_1 y0_5 && (eqS y1_1 y1_5 && (eqS y2_1 y2_4 && eqI y3_1 y3_4))) (br (eqI y4_1 y4_3) (br (eqI y0_2 y0_6) (br (eqI y1_2 y1_6) (law06_alive fun y0 => K y0) (K false)) (K false)) (K false)) (K false)) (K false)) (K false) := by
    obtain ⟨p0, p1, p2, p3, p4, hp⟩ := one_addE n1 a1 b1 e1 n2 a2 b2 e2
    obtain ⟨q0, q1, q2, q3, q4, hq⟩ := one_addE n1 a1 b1 e1 (!n2 && decide (a2 ≠ 0)) a2 b2 e2
    obtain ⟨r, f, hr⟩ := one_cmpE n1 a1 b1 e1 n2 a2 b2 e2
    refine exact_Add_ok c1 c2 _ ?_
    rw [hp]
    refine exact_Sub_ok c1 c2 _ ?_
    rw [hq]
    refine exact_Cmp_ok c1 c2 _ ?_
    rw [hr]
    refine r06_Add_ok c1 c2 _ ?_
    rw [hp]
    refine r06_Neg_ok n2 c2 _ ?_
    refine r06_Add_ok c1 c2.neg _ ?_
    rw [hq]
    refine r06_Cmp_ok c1 c2 _ ?_
    rw [hr]
    exact br_same4 (br_eq (br_same4 (br_eq (br_eq (br_eq hal)))))
  rw [law06_far.is]; unfold law06_far.d
  cases ltI 4000 (subI IntKind.i64 e1 e2) with
  | true =>
    rw [br_t rfl]
    cases ltI (subI IntKind.i64 e1 e2) 140000 with
    | true =>
      rw [br_t rfl]
      cases ltI (-140000) (subI IntKind.i64 e1 e2) with
      | true => exact hal
      | false => exact main
    | false => rw [br_f rfl]; exact main
  | false =>
    rw [br_f rfl]
    cases ltI (subI IntKind.i64 e1 e2) (-4000) with
    | true =>
      rw [br_t rfl]
      cases ltI (subI IntKind.i64 e1 e2) 140000 with
      | true =>
        rw [br_t rfl]
        cases ltI (-140000) (subI IntKind.i64 e1 e2) with
        | true => exact hal
        | false => exact main
      | false => rw [br_f rfl]; exact main
    | false => rw [br_f rfl]; exact main
end Go.Ev.S
