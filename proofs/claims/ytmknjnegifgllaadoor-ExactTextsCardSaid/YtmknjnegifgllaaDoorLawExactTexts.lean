/- The row of ExactTexts: its statement, out of what its function comes to. -/
import Derived.Test.YtmknjnegifgllaaDoorRows
import Derived.Test.YtmknjnegifgllaaDoorXA
import Derived.Test.YtmknjnegifgllaaDoorLA
import Derived.Test.YtmknjnegifgllaaDoorTie
import Derived.Test.YtmknjnegifgllaaDoorCards
import Derived.LaidMore
import Derived.Lay
import Derived.SevenTiedAt
import Derived.Stop.Joined
import Derived.MakeChecks
import Derived.Test.YtmknjnegifgllaaDoorEvC
import Derived.WalkKit
import Derived.ProofKit
import Derived.OpenShut
import Derived.ShutString
import Derived.ChangeOld
import Derived.Below
import Derived.SizedLaws
import Derived.Carry
import Derived.Lib.SmallJoins
import Derived.KernelRfl
namespace Go.Proofs.YtmknjnegifgllaaDoor.exactTexts
open Go.ChangeShapes Go.WideShapes Go.ChangeAt Go.RowKit Go.Joins
open Go.ChangeMaps (open_string shut_string)
set_option linter.unusedVariables false
set_option linter.unusedSimpArgs false
theorem own : ownKnob Tryd.prog.godebug = none := by kernel_rfl
theorem laidOut : laidOutB Tryd.prog = true := by kernel_rfl
/-- What the laid condition gives the evaluator. -/
theorem gl_ok {W : World} (h : laidMetH Tryd.prog Rows.exactTextsRow.laid W) : Go.Ev.GOk Go.Ev.S.gl ⟨[], []⟩ W := by
  intro g v hv
  rw [MakeChecks.laidMetH_plain _ _ _ (by kernel_rfl)] at h
  have h' : laidMet Tryd.prog [("math/bits.deBruijn32tab", Rows.laid_math_bits_deBruijn32tab), ("math/bits.deBruijn64tab", Rows.laid_math_bits_deBruijn64tab), ("internal/strconv.uint64pow10", Rows.laid_internal_strconv_uint64pow10)] W := h
  obtain ⟨ps, ⟨g0, t0, cs0, fu0, p0, q0, hg0, ht0, hc0, hd0, ⟨g1, t1, cs1, fu1, p1, q1, hg1, ht1, hc1, hd1, ⟨g2, t2, cs2, fu2, p2, q2, hg2, ht2, hc2, hd2, _, _⟩, _⟩, _⟩, _, hif⟩ := h
  obtain rfl := Option.some.inj ((show Tryd.prog.globalNamed "math/bits.deBruijn64tab" = some 0 by kernel_rfl).symm.trans hg1)
  obtain rfl := Option.some.inj ((show (Tryd.prog.globals[0]?).map (·.type) = some 116 by kernel_rfl).symm.trans ht1)
  have r1 := Go.Ev.S.tab_ok Tryd.underlying116 (by kernel_rfl) (by kernel_rfl) Tryd.underlying5 hg1 hc1 rfl hd1
  obtain rfl := Option.some.inj ((show Tryd.prog.globalNamed "internal/strconv.uint64pow10" = some 1 by kernel_rfl).symm.trans hg2)
  obtain rfl := Option.some.inj ((show (Tryd.prog.globals[1]?).map (·.type) = some 123 by kernel_rfl).symm.trans ht2)
  have r2 := Go.Ev.S.tab_gen (zs := Go.Lib.pow10Tab) Go.Ev.S.tab_pow10_is (by rw [Go.Lib.pow10Tab_length]) Tryd.underlying123 (by kernel_rfl) (by kernel_rfl) Tryd.underlying25 hg2 hc2 (hl := by kernel_rfl) hd2
  by_cases z1 : g = 0
  · subst z1
    cases hv
    exact ⟨rfl, r1⟩
  by_cases z2 : g = 1
  · subst z2
    cases hv
    exact ⟨rfl, r2⟩
  unfold Go.Ev.S.gl at hv
  have y1 : Nat.beq 0 g = false := by rw [Bool.eq_false_iff]; intro hq; exact z1 (Nat.eq_of_beq_eq_true hq).symm
  have y2 : Nat.beq 1 g = false := by rw [Bool.eq_false_iff]; intro hq; exact z2 (Nat.eq_of_beq_eq_true hq).symm
  simp only [Go.Ev.look, y1, y2, cond_false] at hv
  cases hv
set_option maxRecDepth 100000 in
theorem lifted (os : Os) (started : os.Started) (H : Type) (enc : TypeId × Value → H) :
    ReturnsInHanded {} Tryd.checked os 9 .any (fun w args => (Rows.exactTextsSpec.pre enc Tryd.prog Tryd.f9 Rows.exactTextsRow.domain false w args ∧ laidMetH Tryd.prog Rows.exactTextsRow.laid w) ∧ sizedMet enc Tryd.prog Tryd.f9 (OpenSpec.ofChange Rows.exactTextsSpec) false w args) (Rows.exactTextsSpec.post enc Tryd.prog Tryd.f9 false true false false) := by
  refine returnsInHanded_of_change_and (C := Tryd.checked) (X := fun w _ => laidMetH Tryd.prog Rows.exactTextsRow.laid w) (fun _ _ _ hh h => h.of_heap hh) own started (by kernel_rfl) Tryd.func9
    (ChangeSpec.witness_shaped (enc := enc) (C := Tryd.checked) (os := os) (X := fun w _ => laidMetH Tryd.prog Rows.exactTextsRow.laid w) false (World.laidAll Tryd.prog os Rows.exactTextsRow.laid) #[.agg #[.bool false, .string ByteArray.empty, .string ByteArray.empty, .int .i64 0]] 8 (World.laidAll_os _ _ _) (World.shaped_of_ZipB (by kernel_rfl) (by kernel_rfl)) (by kernel_rfl) (by kernel_rfl) (by kernel_rfl) (by rw [MakeChecks.laidMetH_plain _ _ _ (by kernel_rfl)]; exact laidMet_laidAll _ (by kernel_rfl) (by kernel_rfl))) ?_
  intro W base args ds gs before hval0 hW hcnd hsz0 hL _
  have hsz : (DataW.weightsEach Tryd.prog (Tryd.f9.params.toList ++ Rows.exactTextsSpec.plain.varTypes Tryd.prog) (ds ++ gs)).all (· ≤ reachBytes) = true := hsz0
  have ygC : ∀ (j : Nat) t v, Tryd.f9.params[j]? = some t → args[j]? = some v → Value.okWide Tryd.prog W .any base t v := hval0
  have hW' := hW
  obtain ⟨p, q, hA0, hV, rfl, hfz, hnd⟩ := hW
  have hA : DataW.TrodAll enc Tryd.prog W 0 (fun _ => true) true Tryd.f9.params.toList args.toList ds p := hA0
  rw [Tryd.params9] at hA ygC hsz
  obtain ⟨v0, vs0, d0, ds0, p0, q0, hargs, rfl, rfl, h0, r0⟩ := trodAll_cons hA
  obtain ⟨rfl, rfl, rfl⟩ := trodAll_nil r0
  obtain rfl : args = #[v0] := by cases args; simp_all
  obtain ⟨rfl, rfl⟩ := trodVars_none hV
  have k0 := h0
  have lt0 : ∀ x ∈ p0, x.block < W.heap.size := by obtain ⟨m, hm⟩ := k0; exact DataW.trod_lt m _ _ _ hm
  obtain ⟨u0, hu0, hr0⟩ := Go.Ev.open_tm ((.agg [.bool, .str, .str, (.int .i64)]) : Go.Ev.Tm) ⟨_, Tryd.underlying24, ⟨rfl, by kernel_rfl, Tryd.underlying4, ⟨rfl, by kernel_rfl, Tryd.underlying22, ⟨rfl, by kernel_rfl, Tryd.underlying22, ⟨rfl, by kernel_rfl, Tryd.underlying3, rfl⟩⟩⟩⟩⟩ rfl (by kernel_rfl) (ygC 0 24 v0 rfl rfl) h0
  obtain ⟨_, rfl, ⟨_, _, rfl, ⟨a0_0, rfl⟩, ⟨_, _, rfl, ⟨a0_1, rfl, w_a0_1⟩, ⟨_, _, rfl, ⟨a0_2, rfl, w_a0_2⟩, ⟨_, _, rfl, ⟨a0_3, rfl, w_a0_3⟩, rfl⟩⟩⟩⟩⟩ := hu0
  clear hA0 hval0 hsz0 hsz
  refine (Go.Ev.law_walk (args := [.agg [.bool a0_0, .str a0_1, .str a0_2, .int .i64 a0_3]]) Go.Ev.S.X_zai.ok ?_ ⟨_, _, rfl, hr0 _ _, rfl⟩ (gl_ok hL)).mono fun e W' ⟨he, bel⟩ => ?_
  · exact Go.Ev.S.exactTexts (a0_0) (a0_1) (a0_2) (a0_3) w_a0_1 w_a0_2 w_a0_3 _ rfl
  subst he
  exact ⟨_, rfl, _, _, _, [], _, [], hW', trodAll_mk1 (shut_bool Tryd.underlying4 _), (trodAll_cons_mk (Below.trod laidOut (by kernel_rfl) (of_decide_eq_true (by kernel_rfl)) k0 bel lt0) trodAll_mk0), rfl, bel.frame _, fun h => by cases h⟩
theorem over : Rows.exactTextsRow.holds Tryd.pinned (OpenSpec.ofChange Rows.exactTextsSpec) :=
  OpenClaim.holds_of_wide 9 Tryd.f9 rfl rfl rfl rfl rfl rfl rfl ⟨rfl, rfl, rfl, rfl, rfl⟩ rfl rfl rfl rfl rfl (by kernel_rfl) Tryd.func9 (by kernel_rfl)
    (of_decide_eq_true (by kernel_rfl)) (by unfold Func.isWrapper; first | (rw [if_pos (by decide +kernel)]; kernel_rfl) | (rw [if_neg (by decide +kernel)]; exact ⟨rfl, rfl⟩))
    (fun os started H enc _ => lifted os started H enc)
theorem proved : Rows.ExactTextsSaid := over
theorem card : Rows.ExactTextsCardSaid :=
  Claim7.holds_tied_plain_at .later [] [.data, .data, .data] true (true, "e9e44d9e58b6dd70122f31e8de16c808339aa66678381a177132db04c87ec9a3") false
    proved (fun _ h => by cases h) (by kernel_rfl) (fun _ h => by cases h) exactTexts_row_tie rfl ⟨rfl, rfl⟩ (by kernel_rfl) rfl
    (fun f fn hf hfn => by
      obtain rfl : f = 9 := Option.some.inj ((show Tryd.prog.funcNamed "abacus/abacuslaw06.ExactTexts" = some 9 by kernel_rfl).symm.trans hf) |>.symm
      obtain rfl : fn = Tryd.f9 := (Option.some.inj (Tryd.func9.symm.trans hfn)).symm
      exact ⟨by kernel_rfl, fun j t ht => by
        rw [Tryd.params9] at ht
        have hm : t ∈ [24] := by simpa using Array.mem_of_getElem? ht
        have hall : ([24].all fun u => !Tryd.prog.wantsStandIn u) = true := by kernel_rfl
        exact (show Tryd.prog.wantsStandIn t = false by simpa using List.all_eq_true.1 hall t hm)⟩)
    (by kernel_rfl)
end Go.Proofs.YtmknjnegifgllaaDoor.exactTexts
namespace Go.Proofs.YtmknjnegifgllaaDoor
/-- The card, under a short name, for the claim. -/
theorem exactTexts_holds : Rows.ExactTextsCardSaid := exactTexts.card
end Go.Proofs.YtmknjnegifgllaaDoor
