/- Numbers of several words as natural ones; bits set one by one. -/
import Derived.Test.YtdnndfaojopnbaaEvD
import Derived.Test.YtdnndfaojopnbaaDA
import Derived.KernelRfl
set_option linter.unusedVariables false
set_option linter.unusedSimpArgs false
namespace Go.Ev.S
open Go Go.Ev
def wd (x i : Nat) : Nat := x / 2 ^ (64 * i) % 18446744073709551616
theorem wd_zero (x i : Nat) (h : x < 2 ^ (64 * i)) : wd x i = 0 := by
  unfold wd; rw [Nat.div_eq_of_lt h]
def W (x : Nat) : Nat → Int := fun i => ((wd x i : Nat) : Int)
theorem W_app (x i : Nat) : W x i = ((wd x i : Nat) : Int) := rfl
theorem W_zero : W 0 = fun _ => 0 := by
  funext i
  have : wd 0 i = 0 := wd_zero 0 i (Nat.two_pow_pos _)
  simp [W_app, this]
def Hi (x : Nat) : Int := ((x / 18446744073709551616 : Nat) : Int)
def Lo (x : Nat) : Int := ((x % 18446744073709551616 : Nat) : Int)
def two (hi lo : Nat) : Nat := hi * 18446744073709551616 + lo
end Go.Ev.S

/- The formats: their numbers, and the encodings that have names. -/
set_option linter.unusedVariables false
set_option linter.unusedSimpArgs false
set_option maxRecDepth 8000
namespace Go.Ev.S
open Go Go.Ev
def fw : Nat → Nat | 0 => 32 | 1 => 64 | 2 => 16 | 3 => 128 | _ => 0
def fp : Nat → Nat | 0 => 24 | 1 => 53 | 2 => 11 | 3 => 113 | _ => 0
def sg (f : Nat) (neg : Bool) : Nat := cond neg (2 ^ (fw f - 1)) 0
def enc (f : Nat) (neg : Bool) (e t : Nat) : Nat := sg f neg + e * 2 ^ (fp f - 1) + t
theorem four {f : Nat} (h : f ≤ 3) : f = 0 ∨ f = 1 ∨ f = 2 ∨ f = 3 := by omega
theorem shape_Check_ok (f : Nat) (h : f ≤ 3) (K : Int → Prop) : shape_Check f K = K 0 := by
  rw [shape_Check.is]; unfold shape_Check.d; rw [br_f (lt_f (by omega))]
theorem shape_numbers_no (f : Nat) (h : 3 < f) (h2 : f < 256) (K : Int → Int → Int → List UInt8 → Prop) : shape_numbers f K = K 0 0 0 [] := by
  rw [shape_numbers.is]; unfold shape_numbers.d
  rw [br_t (le_t (by rw [cv_i64 (by omega) (by omega)]; omega))]
end Go.Ev.S

/- What the document's answer reckons with words, bit by bit. -/
set_option linter.unusedVariables false
set_option linter.unusedSimpArgs false
namespace Go.Ev.S
open Go Go.Ev
end Go.Ev.S

/- Narrow values in wide registers: the program's answers and the document's, as numbers of 128 bits. -/
set_option linter.unusedVariables false
set_option linter.unusedSimpArgs false
set_option maxRecDepth 8000
namespace Go.Ev.S
open Go Go.Ev
def ab (f : Nat) : Nat := 2 ^ 128 - 2 ^ fw f
def boxed (f x : Nat) : Bool := decide (ab f ≤ x)
theorem box_above_ok (f : Nat) (h : f ≤ 3) (K : Int → Int → Prop) : box_above f K = K (Hi (ab f)) (Lo (ab f)) := by
  rw [box_above.is]
  rcases four h with rfl | rfl | rfl | rfl <;> kernel_rfl
theorem box_Above_ok (f : Nat) (h : f ≤ 3) (K : Int → Int → Int → Prop) : box_Above f K = K (Hi (ab f)) (Lo (ab f)) 0 := by
  rw [box_Above.is]; unfold box_Above.d; rw [shape_Check_ok f h, br_f (by decide), box_above_ok f h]
end Go.Ev.S

/- The plain laws of BoxReads, BoxWithin and BoxBack. -/
set_option linter.unusedVariables false
set_option linter.unusedSimpArgs false
set_option maxRecDepth 8000
namespace Go.Ev.S
open Go Go.Ev
end Go.Ev.S

/- What the document's answer reckons with numbers of six words. -/
set_option linter.unusedVariables false
set_option linter.unusedSimpArgs false
set_option maxRecDepth 8000
namespace Go.Ev.S
open Go Go.Ev
end Go.Ev.S

/- The document's answer on formats: an encoding of its fields, and its fields. -/
set_option linter.unusedVariables false
set_option linter.unusedSimpArgs false
set_option maxRecDepth 8000
namespace Go.Ev.S
open Go Go.Ev
theorem W0 : (fun _ => (0 : Int)) = W 0 := W_zero.symm
end Go.Ev.S

/- The plain law of ShapeMakes, and that of ShapeNumbers. -/
set_option linter.unusedVariables false
set_option linter.unusedSimpArgs false
set_option maxRecDepth 8000
namespace Go.Ev.S
open Go Go.Ev
theorem u8_nat {a : Int} (w : (Lit.int .u8 a).wf = true) : ∃ n : Nat, a = n ∧ n < 256 := by
  obtain ⟨h1, h2⟩ := range_u8 w
  exact ⟨a.toNat, by omega, by omega⟩
theorem law07_alive_ok (K : Bool → Prop) (h : K true) : law07_alive K := by
  have : law07_alive K = K true := by
    rw [law07_alive.is]
    simp only [law07_alive.d, shape_Width.is, shape_Width.d, shape_Emax.is, shape_Emax.d, shape_NaN.is, shape_NaN.d, shape_Check.is, shape_CheckMode.is, shape_numbers.is, shape_at.is, shape_Precision.is, shape_Precision.d]
    kernel_rfl
  rw [this]; exact h
end Go.Ev.S

/- The plain laws of ShapeNames and BoxForms. -/
set_option linter.unusedVariables false
set_option linter.unusedSimpArgs false
set_option maxRecDepth 8000
namespace Go.Ev.S
open Go Go.Ev
def nmf (f : Nat) : List UInt8 := match f with | 0 => [115] | 1 => [100] | 2 => [104] | 3 => [113] | _ => []
theorem shape_Name_ok (f : Nat) (h : f ≤ 3) (K : List UInt8 → Int → Prop) : shape_Name f K = K (nmf f) 0 := by
  rw [shape_Name.is]; simp only [shape_Name.d, shape_numbers.is]
  rcases four h with rfl | rfl | rfl | rfl <;> kernel_rfl
theorem shape_Name_no (f : Nat) (h : 3 < f) (h2 : f < 256) (K : List UInt8 → Int → Prop) : shape_Name f K = K [] 2 := by
  rw [shape_Name.is]; unfold shape_Name.d; rw [shape_numbers_no f h h2]; rfl
theorem r07_Name_ok (f : Nat) (h : f ≤ 3) (K : List UInt8 → Int → Prop) : r07_Name f K = K (nmf f) 0 := by
  rw [r07_Name.is]
  rcases four h with rfl | rfl | rfl | rfl <;> kernel_rfl
theorem r07_Name_no (f : Nat) (h : 3 < f) (K : List UInt8 → Int → Prop) : r07_Name f K = K [] 2 := by
  rw [r07_Name.is]; unfold r07_Name.d
  rw [br_f (eq_f (by omega)), br_f (eq_f (by omega)), br_f (eq_f (by omega)), br_f (eq_f (by omega))]
theorem shape_Named_eq (s : List UInt8) (K : Int → Int → Prop) : shape_Named s K = br (eqS [104] s) (K 2 0) (br (eqS [115] s) (K 0 0) (br (eqS [100] s) (K 1 0) (br (eqS [113] s) (K 3 0) (K 0 2)))) := by
  rw [shape_Named.is]; unfold shape_Named.d
  rw [shape_All.is]; unfold shape_All.d
  simp only [shape_Name.is, shape_Name.d, shape_numbers.is]
  kernel_rfl
theorem r07_All_eq (K : Nat → (Nat → Int) → Prop) : r07_All K = K 4 (upd (upd (upd (upd (fun x => 0) 0 2) 1 0) 2 1) 3 3) := by
  rw [r07_All.is]; rfl
theorem r07_Named_ok (s : List UInt8) (K : Int → Int → Prop) (h : br (eqS [104] s) (K 2 0) (br (eqS [115] s) (K 0 0) (br (eqS [100] s) (K 1 0) (br (eqS [113] s) (K 3 0) (K 0 2))))) : r07_Named s K := by
  rw [r07_Named.is]; unfold r07_Named.d
  rw [r07_All_eq]
  refine ⟨5, ?_⟩
  have e : r07_Named.l3 (fun y0 y1 => K y0 y1) (K 0 2) 5 s 4 (upd (upd (upd (upd (fun x => 0) 0 2) 1 0) 2 1) 3 3) 0 = br (eqS [104] s) (K 2 0) (br (eqS [115] s) (K 0 0) (br (eqS [100] s) (K 1 0) (br (eqS [113] s) (K 3 0) (K 0 2)))) := by
    simp only [r07_Named.l3, r07_Named.l3.step, r07_Name.is]
    kernel_rfl
  rw [e]; exact h
theorem br_any {c : Bool} {p q : Prop} (hp : p) (hq : q) : br c p q := by cases c <;> assumption
theorem sn_tail (a2 : Int) (T : Prop) (K : Bool → Prop) (hT : T) : br (eqI 1 a2) T (br (eqI 2 a2) T (br (eqI 3 a2) T (br (eqI 4 a2) T T))) := by
  refine br_any hT (br_any hT (br_any hT (br_any hT hT)))
def nmd (s : List UInt8) : Int × Int := cond (eqS [104] s) (2, 0) (cond (eqS [115] s) (0, 0) (cond (eqS [100] s) (1, 0) (cond (eqS [113] s) (3, 0) (0, 2))))
theorem nmd_eq (s : List UInt8) (K : Int → Int → Prop) : br (eqS [104] s) (K 2 0) (br (eqS [115] s) (K 0 0) (br (eqS [100] s) (K 1 0) (br (eqS [113] s) (K 3 0) (K 0 2)))) = K (nmd s).1 (nmd s).2 := by
  unfold nmd
  cases eqS [104] s <;> cases eqS [115] s <;> cases eqS [100] s <;> cases eqS [113] s <;> rfl
theorem eqS_refl (l : List UInt8) : eqS l l = true := by simp [eqS]
theorem eqI_refl (n : Int) : eqI n n = true := by simp [eqI]
theorem shape_Named_ok (s : List UInt8) (K : Int → Int → Prop) : shape_Named s K = K (nmd s).1 (nmd s).2 := by rw [shape_Named_eq, nmd_eq]
theorem r07_Named_ok' (s : List UInt8) (K : Int → Int → Prop) (h : K (nmd s).1 (nmd s).2) : r07_Named s K := r07_Named_ok s K (by rw [nmd_eq]; exact h)
theorem of_eq {G H : Prop} (h : H) (e : G = H) : G := e ▸ h
theorem shapeNames (a0 : Int) (a1 : List UInt8) (a2 : Int) (w0 : (Lit.int .u8 a0).wf = true) (_ : a1.length ≤ 140737488351232) (_ : (Lit.int .i64 a2).wf = true) (K : Bool → Prop) (hK : K true) : law07_ShapeNames a0 a1 a2 K := by
  obtain ⟨f, rfl, hf⟩ := u8_nat w0
  rw [law07_ShapeNames.is]; unfold law07_ShapeNames.d
  refine law07_alive_ok _ ?_
  rw [br_f (show (!true) = false from rfl)]
  have hT : law07_alive fun y0 => K y0 := law07_alive_ok _ hK
  by_cases h : f ≤ 3
  · rw [shape_Name_ok f h, r07_Name_ok f h, shape_Named_ok]
    refine r07_Named_ok' _ _ ?_
    rw [br_f (by rw [eqS_refl]; rfl), br_f (by rw [eqI_refl]; rfl), br_f (by rw [eqI_refl]; rfl), br_f (by rw [eqI_refl]; rfl), r07_All_eq, shape_All.is]
    exact of_eq (sn_tail a2 _ K hT) (by kernel_rfl)
  · rw [shape_Name_no f (by omega) hf, r07_Name_no f (by omega), shape_Named_ok]
    refine r07_Named_ok' _ _ ?_
    rw [br_f (by rw [eqS_refl]; rfl), br_f (by rw [eqI_refl]; rfl), br_f (by rw [eqI_refl]; rfl), br_f (by rw [eqI_refl]; rfl), r07_All_eq, shape_All.is]
    exact of_eq (sn_tail a2 _ K hT) (by kernel_rfl)
/-! ### BoxForms -/
theorem bxm_ok (f : Nat) (h : f ≤ 3) : bxm f = (Hi (ab f), Lo (ab f)) := by rcases four h with rfl | rfl | rfl | rfl <;> decide +kernel
theorem isBoxed_gen (f : Nat) (h : f ≤ 3) (hi lo : Int) (K : Bool → Prop) (hK : K (isb f hi lo)) : box_IsBoxed f hi lo K := by
  rw [box_IsBoxed.is]; unfold box_IsBoxed.d
  rw [box_Above_ok f h, br_t (eqI_refl 0)]
  unfold isb at hK; rw [bxm_ok f h] at hK
  exact hK
end Go.Ev.S
