/- Signs put together, words and classes: the abacus and the document's answer; the laws of signs. -/
import Derived.Test.YtanelnajdbghdaaDoorLKind
import Derived.Test.YtanelnajdbghdaaDoorPShape
import Derived.Test.YtanelnajdbghdaaDoorDSign
import Derived.Test.YtanelnajdbghdaaDoorDR17
import Derived.Test.YtanelnajdbghdaaDoorDLaw17
set_option linter.unusedVariables false
set_option linter.unusedSimpArgs false
set_option maxRecDepth 8000
namespace Go.Ev.S
open Go Go.Ev

theorem put_sign (f x : Nat) (h : f ≤ 3) (hx : x < 2 ^ fw f) (s : Bool) (K : Int → Int → Int → Prop) :
    br (!beqB s (ng f x)) (kind_Flip f (Hi x) (Lo x) fun y0 y1 => K y0 y1 0) (K (Hi x) (Lo x) 0) = K (Hi (setS f x s)) (Lo (setS f x s)) 0 := by
  rw [kind_Flip_ok f x h hx]
  unfold setS
  cases ng f x <;> cases s <;> rfl
theorem sign_Copy_ok (f x y : Nat) (h : f ≤ 3) (hx : x < 2 ^ fw f) (hy : y < 2 ^ fw f) (K : Int → Int → Int → Prop) :
    sign_Copy f (Hi x) (Lo x) (Hi y) (Lo y) K = K (Hi (setS f x (ng f y))) (Lo (setS f x (ng f y))) 0 := by
  rw [sign_Copy.is]; unfold sign_Copy.d; rw [sign_with_c.is]; unfold sign_with_c.d
  rw [shape_Fits_ok f x h (x128 h hx), br_f (by simpa using hx), shape_Fits_ok f y h (x128 h hy), br_f (by simpa using hy), kind_Sign_ok f x h hx, kind_Sign_ok f y h hy, sign_Copy_1.is]
  exact put_sign f x h hx (ng f y) K
theorem sign_Not_ok (f x y : Nat) (h : f ≤ 3) (hx : x < 2 ^ fw f) (hy : y < 2 ^ fw f) (K : Int → Int → Int → Prop) :
    sign_Not f (Hi x) (Lo x) (Hi y) (Lo y) K = K (Hi (setS f x (!ng f y))) (Lo (setS f x (!ng f y))) 0 := by
  rw [sign_Not.is]; unfold sign_Not.d; rw [sign_with_n.is]; unfold sign_with_n.d
  rw [shape_Fits_ok f x h (x128 h hx), br_f (by simpa using hx), shape_Fits_ok f y h (x128 h hy), br_f (by simpa using hy), kind_Sign_ok f x h hx, kind_Sign_ok f y h hy, sign_Not_1.is]
  exact put_sign f x h hx (!ng f y) K
theorem sign_Xor_ok (f x y : Nat) (h : f ≤ 3) (hx : x < 2 ^ fw f) (hy : y < 2 ^ fw f) (K : Int → Int → Int → Prop) :
    sign_Xor f (Hi x) (Lo x) (Hi y) (Lo y) K = K (Hi (setS f x (!beqB (ng f x) (ng f y)))) (Lo (setS f x (!beqB (ng f x) (ng f y)))) 0 := by
  rw [sign_Xor.is]; unfold sign_Xor.d; rw [sign_with_x.is]; unfold sign_with_x.d
  rw [shape_Fits_ok f x h (x128 h hx), br_f (by simpa using hx), shape_Fits_ok f y h (x128 h hy), br_f (by simpa using hy), kind_Sign_ok f x h hx, kind_Sign_ok f y h hy, sign_Xor_1.is]
  exact put_sign f x h hx (!beqB (ng f x) (ng f y)) K
/-- Whether the abacus takes both. -/
def bad2 (f x y : Nat) : Prop := 3 < f ∨ 2 ^ fw f ≤ x ∨ 2 ^ fw f ≤ y
theorem sign_Copy_no (f x y : Nat) (hx : x < 2 ^ 128) (hy : y < 2 ^ 128) (hb : bad2 f x y) (K : Int → Int → Int → Prop) : sign_Copy f (Hi x) (Lo x) (Hi y) (Lo y) K = K 0 0 2 := by
  rw [sign_Copy.is]; unfold sign_Copy.d; rw [sign_with_c.is]; unfold sign_with_c.d
  by_cases h : f ≤ 3
  · rw [shape_Fits_ok f x h hx, shape_Fits_ok f y h hy]
    by_cases h1 : x < 2 ^ fw f
    · have h2 : 2 ^ fw f ≤ y := by rcases hb with h3 | h3 | h3 <;> omega
      rw [br_f (by simpa using h1), br_t (by simpa using h2)]
    · rw [br_t (by simpa using h1)]
  · rw [shape_Fits_no f (by omega)]; rfl
theorem sign_Not_no (f x y : Nat) (hx : x < 2 ^ 128) (hy : y < 2 ^ 128) (hb : bad2 f x y) (K : Int → Int → Int → Prop) : sign_Not f (Hi x) (Lo x) (Hi y) (Lo y) K = K 0 0 2 := by
  rw [sign_Not.is]; unfold sign_Not.d; rw [sign_with_n.is]; unfold sign_with_n.d
  by_cases h : f ≤ 3
  · rw [shape_Fits_ok f x h hx, shape_Fits_ok f y h hy]
    by_cases h1 : x < 2 ^ fw f
    · have h2 : 2 ^ fw f ≤ y := by rcases hb with h3 | h3 | h3 <;> omega
      rw [br_f (by simpa using h1), br_t (by simpa using h2)]
    · rw [br_t (by simpa using h1)]
  · rw [shape_Fits_no f (by omega)]; rfl
theorem sign_Xor_no (f x y : Nat) (hx : x < 2 ^ 128) (hy : y < 2 ^ 128) (hb : bad2 f x y) (K : Int → Int → Int → Prop) : sign_Xor f (Hi x) (Lo x) (Hi y) (Lo y) K = K 0 0 2 := by
  rw [sign_Xor.is]; unfold sign_Xor.d; rw [sign_with_x.is]; unfold sign_with_x.d
  by_cases h : f ≤ 3
  · rw [shape_Fits_ok f x h hx, shape_Fits_ok f y h hy]
    by_cases h1 : x < 2 ^ fw f
    · have h2 : 2 ^ fw f ≤ y := by rcases hb with h3 | h3 | h3 <;> omega
      rw [br_f (by simpa using h1), br_t (by simpa using h2)]
    · rw [br_t (by simpa using h1)]
  · rw [shape_Fits_no f (by omega)]; rfl
theorem r17_With_ok (f x : Nat) (h : f ≤ 3) (hx : x < 2 ^ fw f) (s : Bool) (K : Int → Int → Prop) (hK : K (Hi (setS f x s)) (Lo (setS f x s))) : r17_With f (Hi x) (Lo x) s K := by
  rw [r17_With.is]; unfold r17_With.d
  refine r08_Sign_ok f x h hx _ ?_
  unfold setS at hK
  cases hn : ng f x <;> cases s <;> rw [hn] at hK
  · exact hK
  · exact r08_Flip_ok f x h hx _ hK
  · exact r08_Flip_ok f x h hx _ hK
  · exact hK
theorem shl_pow (c : Int) (h0 : 0 ≤ c) (h : c ≤ 9) : shlI .u64 1 c = 2 ^ c.toNat := by
  obtain ⟨n, rfl⟩ : ∃ n : Nat, c = n := ⟨c.toNat, by omega⟩
  rw [one_shl n (by omega), Int.toNat_natCast]; simp
theorem sign_Classify_ok (f x : Nat) (h : f ≤ 3) (hx : x < 2 ^ fw f) (K : Int → Int → Prop) (hK : K (shlI .u64 1 (cls f x)) 0) : sign_Classify f (Hi x) (Lo x) K := by
  have hc := cls_range f x
  rw [sign_Classify.is]; unfold sign_Classify.d
  refine kind_Class_ok f x h hx _ ?_
  rw [br_f (by decide), gd_t (sh_ok hc.1)]; exact hK
theorem sign_Classify_no (f x : Nat) (hx : x < 2 ^ 128) (hb : bad2 f x x) (K : Int → Int → Prop) : sign_Classify f (Hi x) (Lo x) K = K 0 2 := by
  rw [sign_Classify.is]; unfold sign_Classify.d; rw [kind_Class.is]; unfold kind_Class.d
  by_cases h : f ≤ 3
  · rw [shape_Fits_ok f x h hx, br_t (by rcases hb with h3 | h3 | h3 <;> first | omega | simpa using h3)]; rfl
  · rw [shape_Fits_no f (by omega)]; rfl
theorem r17_Classify_ok (f x : Nat) (h : f ≤ 3) (hx : x < 2 ^ fw f) (K : Int → Prop) (hK : K (shlI .u64 1 (cls f x))) : r17_Classify f (Hi x) (Lo x) K := by
  have hc := cls_range f x
  rw [r17_Classify.is]; unfold r17_Classify.d
  refine r08_Class_ok f x h hx _ ?_
  rw [cv_u64 (by omega) (by omega), gd_t (sh_ok hc.1)]; exact hK

theorem law17_alive_ok (K : Bool → Prop) (hK : K true) : law17_alive K := by
  rw [law17_alive.is]; unfold law17_alive.d
  have e1 : sign_Copy (2 : Int) 0 15360 0 32768 = sign_Copy ((2 : Nat) : Int) (Hi 15360) (Lo 15360) (Hi 32768) (Lo 32768) := rfl
  rw [e1, sign_Copy_ok 2 15360 32768 (by omega) (by decide) (by decide)]
  have e2 : sign_Classify (2 : Int) 0 32256 = sign_Classify ((2 : Nat) : Int) (Hi 32256) (Lo 32256) := rfl
  rw [e2]
  refine sign_Classify_ok 2 32256 (by omega) (by decide) _ ?_
  have e3 : setS 2 15360 (ng 2 32768) = 48128 := by decide
  have e4 : cls 2 32256 = 9 := by decide
  rw [e3, e4]
  exact hK

theorem r07_Fits_bad (f x : Nat) (hx : x < 2 ^ 128) (hb : bad2 f x x) (K : Bool → Prop) (hK : K false) : r07_Fits f (Hi x) (Lo x) K := by
  by_cases h : f ≤ 3
  · refine r07_Fits_ok f x h hx _ ?_
    have : decide (x < 2 ^ fw f) = false := by rcases hb with h3 | h3 | h3 <;> first | omega | simpa using h3
    rw [this]; exact hK
  · rw [r07_Fits_no f (by omega)]; exact hK
theorem r07_Fits_good (f x : Nat) (h : f ≤ 3) (hx : x < 2 ^ fw f) (K : Bool → Prop) (hK : K true) : r07_Fits f (Hi x) (Lo x) K := by
  refine r07_Fits_ok f x h (x128 h hx) _ ?_
  have : decide (x < 2 ^ fw f) = true := by simpa using hx
  rw [this]; exact hK

theorem signInjects (a0 a1_0 a1_1 a2_0 a2_1 : Int) (w0 : (Lit.int .u8 a0).wf = true) (w1 : (Lit.int .u64 a1_0).wf = true) (w2 : (Lit.int .u64 a1_1).wf = true) (w3 : (Lit.int .u64 a2_0).wf = true) (w4 : (Lit.int .u64 a2_1).wf = true)
    (K : Bool → Prop) (hK : K true) : law17_SignInjects a0 a1_0 a1_1 a2_0 a2_1 K := by
  obtain ⟨f, rfl, hf⟩ := u8_nat w0
  obtain ⟨x, hx, rfl, rfl⟩ := pair_nat w1 w2
  obtain ⟨y, hy, rfl, rfl⟩ := pair_nat w3 w4
  rw [law17_SignInjects.is]; unfold law17_SignInjects.d
  by_cases hb : bad2 f x y
  · rw [sign_Copy_no f x y hx hy hb, sign_Not_no f x y hx hy hb, sign_Xor_no f x y hx hy hb]
    have hal : law17_alive fun y0 => K y0 := law17_alive_ok _ hK
    by_cases hbx : bad2 f x x
    · exact r07_Fits_bad f x hx hbx _ hal
    · have hby : bad2 f y y := by unfold bad2 at *; omega
      refine r07_Fits_good f x (by unfold bad2 at *; omega) (by unfold bad2 at *; omega) _ ?_
      exact r07_Fits_bad f y hy hby _ hal
  · have h : f ≤ 3 := by unfold bad2 at *; omega
    have hx' : x < 2 ^ fw f := by unfold bad2 at *; omega
    have hy' : y < 2 ^ fw f := by unfold bad2 at *; omega
    rw [sign_Copy_ok f x y h hx' hy', sign_Not_ok f x y h hx' hy', sign_Xor_ok f x y h hx' hy']
    refine r07_Fits_good f x h hx' _ ?_
    rw [br_f (show (!true) = false from rfl)]
    refine r07_Fits_good f y h hy' _ ?_
    rw [br_f (show (!true) = false from rfl)]
    refine r08_Sign_ok f x h hx' _ ?_
    refine r08_Sign_ok f y h hy' _ ?_
    refine r17_With_ok f x h hx' _ _ (br_pair ?_)
    refine r17_With_ok f x h hx' _ _ (br_pair ?_)
    refine r17_With_ok f x h hx' _ _ (br_pair ?_)
    exact law17_alive_ok _ hK
end Go.Ev.S
