/- The row of RoundRule: its statement, out of what its function comes to. -/
import Derived.Test.YtfglhfahphncdaaGreatDoorRows
import Derived.Test.YtfglhfahphncdaaGreatDoorXB
import Derived.Test.YtfglhfahphncdaaGreatDoorLB
import Derived.Test.YtfglhfahphncdaaGreatDoorTie
import Derived.Test.YtfglhfahphncdaaGreatDoorCards
import Derived.LaidMore
import Derived.Lay
import Derived.SevenTiedAt
import Derived.Stop.Joined
import Derived.MakeChecks
import Derived.Test.YtfglhfahphncdaaGreatDoorEvC
import Derived.WalkKit
import Derived.ProofKit
import Derived.OpenShut
import Derived.ShutString
import Derived.ChangeOld
import Derived.Below
import Derived.SizedLaws
import Derived.Carry
import Derived.Lib.SmallJoins
import Derived.KernelRfl
namespace Go.Proofs.YtfglhfahphncdaaGreatDoor.roundRule
open Go.ChangeShapes Go.WideShapes Go.ChangeAt Go.RowKit Go.Joins
open Go.ChangeMaps (open_string shut_string)
set_option linter.unusedVariables false
set_option linter.unusedSimpArgs false
theorem own : ownKnob Tryz.prog.godebug = none := by kernel_rfl
theorem laidOut : laidOutB Tryz.prog = true := by kernel_rfl
/-- What the laid condition gives the evaluator. -/
theorem gl_ok {W : World} (h : laidMetH Tryz.prog Rows.roundRuleRow.laid W) : Go.Ev.GOk Go.Ev.S.gl ⟨[], []⟩ W := by
  intro g v hv
  rw [MakeChecks.laidMetH_plain _ _ _ (by kernel_rfl)] at h
  have h' : laidMet Tryz.prog [("math/bits.deBruijn64tab", Rows.laid_math_bits_deBruijn64tab)] W := h
  obtain ⟨ps, ⟨g0, t0, cs0, fu0, p0, q0, hg0, ht0, hc0, hd0, _, _⟩, _, hif⟩ := h
  obtain rfl := Option.some.inj ((show Tryz.prog.globalNamed "math/bits.deBruijn64tab" = some 0 by kernel_rfl).symm.trans hg0)
  obtain rfl := Option.some.inj ((show (Tryz.prog.globals[0]?).map (·.type) = some 232 by kernel_rfl).symm.trans ht0)
  have r0 := Go.Ev.S.tab_ok Tryz.underlying232 (by kernel_rfl) (by kernel_rfl) Tryz.underlying5 hg0 hc0 rfl hd0
  by_cases z0 : g = 0
  · subst z0
    cases hv
    exact ⟨rfl, r0⟩
  unfold Go.Ev.S.gl at hv
  have y0 : Nat.beq 0 g = false := by rw [Bool.eq_false_iff]; intro hq; exact z0 (Nat.eq_of_beq_eq_true hq).symm
  simp only [Go.Ev.look, y0, cond_false] at hv
  cases hv
set_option maxRecDepth 100000 in
theorem lifted (os : Os) (started : os.Started) (H : Type) (enc : TypeId × Value → H) :
    ReturnsInHanded {} Tryz.checked os 5 .any (fun w args => (Rows.roundRuleSpec.pre enc Tryz.prog Tryz.f5 Rows.roundRuleRow.domain false w args ∧ laidMetH Tryz.prog Rows.roundRuleRow.laid w) ∧ sizedMet enc Tryz.prog Tryz.f5 (OpenSpec.ofChange Rows.roundRuleSpec) false w args) (Rows.roundRuleSpec.post enc Tryz.prog Tryz.f5 false true false false) := by
  refine returnsInHanded_of_change_and (C := Tryz.checked) (X := fun w _ => laidMetH Tryz.prog Rows.roundRuleRow.laid w) (fun _ _ _ hh h => h.of_heap hh) own started (by kernel_rfl) Tryz.func5
    (ChangeSpec.witness_shaped (enc := enc) (C := Tryz.checked) (os := os) (X := fun w _ => laidMetH Tryz.prog Rows.roundRuleRow.laid w) false (World.laidAll Tryz.prog os Rows.roundRuleRow.laid) #[.int .u8 0, .int .u8 0, .agg #[.bool false, .int .u64 0, .int .u64 0, .int .u64 0, .int .u64 0, .int .u64 0, .int .u64 0, .int .i64 0, .bool false], .int .u64 0] 8 (World.laidAll_os _ _ _) (World.shaped_of_ZipB (by kernel_rfl) (by kernel_rfl)) (by kernel_rfl) (by kernel_rfl) (by kernel_rfl) (by rw [MakeChecks.laidMetH_plain _ _ _ (by kernel_rfl)]; exact laidMet_laidAll _ (by kernel_rfl) (by kernel_rfl))) ?_
  intro W base args ds gs before hval0 hW hcnd hsz0 hL _
  have hsz : (DataW.weightsEach Tryz.prog (Tryz.f5.params.toList ++ Rows.roundRuleSpec.plain.varTypes Tryz.prog) (ds ++ gs)).all (· ≤ reachBytes) = true := hsz0
  have hval : ∀ (j : Nat) t v, Tryz.f5.params[j]? = some t → args[j]? = some v → Value.okWide Tryz.prog W .any base t v := hval0
  have hW' := hW
  obtain ⟨p, q, hA0, hV, rfl, hfz, hnd⟩ := hW
  have hA : DataW.TrodAll enc Tryz.prog W 0 (fun _ => true) true Tryz.f5.params.toList args.toList ds p := hA0
  rw [Tryz.params5] at hA hval hsz
  obtain ⟨v0, vs0, d0, ds0, p0, q0, hargs, rfl, rfl, h0, r0⟩ := trodAll_cons hA
  obtain ⟨v1, vs1, d1, ds1, p1, q1, rfl, rfl, rfl, h1, r1⟩ := trodAll_cons r0
  obtain ⟨v2, vs2, d2, ds2, p2, q2, rfl, rfl, rfl, h2, r2⟩ := trodAll_cons r1
  obtain ⟨v3, vs3, d3, ds3, p3, q3, rfl, rfl, rfl, h3, r3⟩ := trodAll_cons r2
  obtain ⟨rfl, rfl, rfl⟩ := trodAll_nil r3
  obtain rfl : args = #[v0, v1, v2, v3] := by cases args; simp_all
  obtain ⟨rfl, rfl⟩ := trodVars_none hV
  obtain ⟨a0, rfl, rfl, rfl, w0⟩ := open_int Tryz.underlying22 (hval 0 22 v0 rfl rfl) h0
  obtain ⟨a1, rfl, rfl, rfl, w1⟩ := open_int Tryz.underlying23 (hval 1 23 v1 rfl rfl) h1
  have k2 := h2
  have lt2 : ∀ x ∈ p2, x.block < W.heap.size := by obtain ⟨m, hm⟩ := k2; exact DataW.trod_lt m _ _ _ hm
  obtain ⟨u2, hu2, hr2⟩ := Go.Ev.open_tm ((.agg [.bool, (.arr 6 .u64 24), (.int .i64), .bool]) : Go.Ev.Tm) ⟨_, Tryz.underlying28, ⟨rfl, by kernel_rfl, Tryz.underlying4, ⟨rfl, by kernel_rfl, ⟨Tryz.underlying26, Tryz.underlying24, by kernel_rfl⟩, ⟨rfl, by kernel_rfl, Tryz.underlying3, ⟨rfl, by kernel_rfl, Tryz.underlying4, rfl⟩⟩⟩⟩⟩ rfl (by kernel_rfl) (hval 2 28 v2 rfl rfl) h2
  obtain ⟨_, rfl, ⟨_, _, rfl, ⟨a2_0, rfl⟩, ⟨_, _, rfl, ⟨a2_1, rfl, w_a2_1, z_a2_1⟩, ⟨_, _, rfl, ⟨a2_2, rfl, w_a2_2⟩, ⟨_, _, rfl, ⟨a2_3, rfl⟩, rfl⟩⟩⟩⟩⟩ := hu2
  obtain ⟨a3, rfl, rfl, rfl, w3⟩ := open_int Tryz.underlying24 (hval 3 24 v3 rfl rfl) h3
  clear hA0 hval0 hsz0 hsz
  refine (Go.Ev.law_walk (args := [.int .u8 a0, .int .u8 a1, .agg [.bool a2_0, .arr .u64 6 a2_1, .int .i64 a2_2, .bool a2_3], .int .u64 a3]) Go.Ev.S.X_zao.ok ?_ ⟨_, _, rfl, rfl, ⟨_, _, rfl, rfl, ⟨_, _, rfl, hr2 _ _, ⟨_, _, rfl, rfl, rfl⟩⟩⟩⟩ (gl_ok hL)).mono fun e W' ⟨he, bel⟩ => ?_
  · exact Go.Ev.S.roundRule (a0) (a1) (a2_0) (a2_1) (a2_2) (a2_3) (a3) w0 w1 w_a2_1 z_a2_1 w_a2_2 w3 _ rfl
  subst he
  exact ⟨_, rfl, _, _, _, [], _, [], hW', trodAll_mk1 (shut_bool Tryz.underlying4 _), (trodAll_cons_mk (shut_int Tryz.underlying22 w0) (trodAll_cons_mk (shut_int Tryz.underlying23 w1) (trodAll_cons_mk (Below.trod laidOut (by kernel_rfl) (of_decide_eq_true (by kernel_rfl)) k2 bel lt2) (trodAll_cons_mk (shut_int Tryz.underlying24 w3) trodAll_mk0)))), rfl, bel.frame _, fun h => by cases h⟩
theorem over : Rows.roundRuleRow.holds Tryz.pinned (OpenSpec.ofChange Rows.roundRuleSpec) :=
  OpenClaim.holds_of_wide 5 Tryz.f5 rfl rfl rfl rfl rfl rfl rfl ⟨rfl, rfl, rfl, rfl, rfl⟩ rfl rfl rfl rfl rfl (by kernel_rfl) Tryz.func5 (by kernel_rfl)
    (of_decide_eq_true (by kernel_rfl)) (by unfold Func.isWrapper; first | (rw [if_pos (by decide +kernel)]; kernel_rfl) | (rw [if_neg (by decide +kernel)]; exact ⟨rfl, rfl⟩))
    (fun os started H enc _ => lifted os started H enc)
theorem proved : Rows.RoundRuleSaid := over
theorem card : Rows.RoundRuleCardSaid :=
  Claim7.holds_tied_plain_at .later [] [.data] true (true, "6ed099e302ae48ebfdf160fa2bd7cee2dd92e406ffa7ff67261ebb1ab64ecd36") true
    proved (fun _ h => by cases h) (by kernel_rfl) (fun _ h => by cases h) roundRule_row_tie rfl ⟨rfl, rfl⟩ (by kernel_rfl) rfl
    (fun f fn hf hfn => by
      obtain rfl : f = 5 := Option.some.inj ((show Tryz.prog.funcNamed "abacus/abacuslaw10.RoundRule" = some 5 by kernel_rfl).symm.trans hf) |>.symm
      obtain rfl : fn = Tryz.f5 := (Option.some.inj (Tryz.func5.symm.trans hfn)).symm
      exact ⟨by kernel_rfl, fun j t ht => by
        rw [Tryz.params5] at ht
        have hm : t ∈ [22, 23, 28, 24] := by simpa using Array.mem_of_getElem? ht
        have hall : ([22, 23, 28, 24].all fun u => !Tryz.prog.wantsStandIn u) = true := by kernel_rfl
        exact (show Tryz.prog.wantsStandIn t = false by simpa using List.all_eq_true.1 hall t hm)⟩)
    (by kernel_rfl)
end Go.Proofs.YtfglhfahphncdaaGreatDoor.roundRule
namespace Go.Proofs.YtfglhfahphncdaaGreatDoor
/-- The card, under a short name, for the claim. -/
theorem roundRule_holds : Rows.RoundRuleCardSaid := roundRule.card
end Go.Proofs.YtfglhfahphncdaaGreatDoor
