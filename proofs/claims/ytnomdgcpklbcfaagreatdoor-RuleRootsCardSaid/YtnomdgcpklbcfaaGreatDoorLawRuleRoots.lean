/- The row of RuleRoots: its statement, out of what its function comes to. -/
import Derived.Test.YtnomdgcpklbcfaaGreatDoorRows
import Derived.Test.YtnomdgcpklbcfaaGreatDoorXB
import Derived.Test.YtnomdgcpklbcfaaGreatDoorLB
import Derived.Test.YtnomdgcpklbcfaaGreatDoorTie
import Derived.Test.YtnomdgcpklbcfaaGreatDoorCards
import Derived.LaidMore
import Derived.Lay
import Derived.SevenTiedAt
import Derived.Stop.Joined
import Derived.MakeChecks
import Derived.Test.YtnomdgcpklbcfaaGreatDoorEvC
import Derived.WalkKit
import Derived.ProofKit
import Derived.OpenShut
import Derived.ShutString
import Derived.ChangeOld
import Derived.Below
import Derived.SizedLaws
import Derived.Carry
import Derived.Lib.SmallJoins
import Derived.KernelRfl
namespace Go.Proofs.YtnomdgcpklbcfaaGreatDoor.ruleRoots
open Go.ChangeShapes Go.WideShapes Go.ChangeAt Go.RowKit Go.Joins
open Go.ChangeMaps (open_string shut_string)
set_option linter.unusedVariables false
set_option linter.unusedSimpArgs false
theorem own : ownKnob Tryz.prog.godebug = none := by kernel_rfl
theorem laidOut : laidOutB Tryz.prog = true := by kernel_rfl
/-- What the laid condition gives the evaluator. -/
theorem gl_ok {W : World} (h : laidMetH Tryz.prog Rows.ruleRootsRow.laid W) : Go.Ev.GOk Go.Ev.S.gl ⟨[], []⟩ W := by
  intro g v hv
  rw [MakeChecks.laidMetH_plain _ _ _ (by kernel_rfl)] at h
  obtain ⟨ps, ⟨g0, t, cs, fuel, p, q, hg, ht, hc, hd, _, _⟩, _, _⟩ := h
  obtain rfl := Option.some.inj ((show Tryz.prog.globalNamed "math/bits.deBruijn64tab" = some 0 by kernel_rfl).symm.trans hg)
  obtain rfl := Option.some.inj ((show (Tryz.prog.globals[0]?).map (·.type) = some 194 by kernel_rfl).symm.trans ht)
  have hr := Go.Ev.S.tab_ok Tryz.underlying194 (by kernel_rfl) (by kernel_rfl) Tryz.underlying5 hg hc rfl hd
  by_cases hz : g = 0
  · subst hz
    cases hv
    exact ⟨rfl, hr⟩
  · unfold Go.Ev.S.gl at hv
    have h0 : Nat.beq 0 g = false := by rw [Bool.eq_false_iff]; intro hq; exact hz (Nat.eq_of_beq_eq_true hq).symm
    simp only [Go.Ev.look, h0, cond_false] at hv
    cases hv
set_option maxRecDepth 100000 in
theorem lifted (os : Os) (started : os.Started) (H : Type) (enc : TypeId × Value → H) :
    ReturnsInHanded {} Tryz.checked os 4 .any (fun w args => (Rows.ruleRootsSpec.pre enc Tryz.prog Tryz.f4 Rows.ruleRootsRow.domain false w args ∧ laidMetH Tryz.prog Rows.ruleRootsRow.laid w) ∧ sizedMet enc Tryz.prog Tryz.f4 (OpenSpec.ofChange Rows.ruleRootsSpec) false w args) (Rows.ruleRootsSpec.post enc Tryz.prog Tryz.f4 false true false false) := by
  refine returnsInHanded_of_change_and (C := Tryz.checked) (X := fun w _ => laidMetH Tryz.prog Rows.ruleRootsRow.laid w) (fun _ _ _ hh h => h.of_heap hh) own started (by kernel_rfl) Tryz.func4
    (ChangeSpec.witness_shaped (enc := enc) (C := Tryz.checked) (os := os) (X := fun w _ => laidMetH Tryz.prog Rows.ruleRootsRow.laid w) false (World.laidAll Tryz.prog os Rows.ruleRootsRow.laid) #[.int .u8 0, .int .u8 0, .agg #[.bool false, .string ByteArray.empty, .string ByteArray.empty, .int .i64 0]] 8 (World.laidAll_os _ _ _) (World.shaped_of_ZipB (by kernel_rfl) (by kernel_rfl)) (by kernel_rfl) (by kernel_rfl) (by kernel_rfl) (by rw [MakeChecks.laidMetH_plain _ _ _ (by kernel_rfl)]; exact laidMet_laidAll _ (by kernel_rfl) (by kernel_rfl))) ?_
  intro W base args ds gs before hval0 hW hcnd hsz0 hL _
  have hsz : (DataW.weightsEach Tryz.prog (Tryz.f4.params.toList ++ Rows.ruleRootsSpec.plain.varTypes Tryz.prog) (ds ++ gs)).all (· ≤ reachBytes) = true := hsz0
  have hval : ∀ (j : Nat) t v, Tryz.f4.params[j]? = some t → args[j]? = some v → Value.okWide Tryz.prog W .any base t v := hval0
  have hW' := hW
  obtain ⟨p, q, hA0, hV, rfl, hfz, hnd⟩ := hW
  have hA : DataW.TrodAll enc Tryz.prog W 0 (fun _ => true) true Tryz.f4.params.toList args.toList ds p := hA0
  rw [Tryz.params4] at hA hval hsz
  obtain ⟨v0, vs0, d0, ds0, p0, q0, hargs, rfl, rfl, h0, r0⟩ := trodAll_cons hA
  obtain ⟨v1, vs1, d1, ds1, p1, q1, rfl, rfl, rfl, h1, r1⟩ := trodAll_cons r0
  obtain ⟨v2, vs2, d2, ds2, p2, q2, rfl, rfl, rfl, h2, r2⟩ := trodAll_cons r1
  obtain ⟨rfl, rfl, rfl⟩ := trodAll_nil r2
  obtain rfl : args = #[v0, v1, v2] := by cases args; simp_all
  obtain ⟨rfl, rfl⟩ := trodVars_none hV
  obtain ⟨a0, rfl, rfl, rfl, w0⟩ := open_int Tryz.underlying22 (hval 0 22 v0 rfl rfl) h0
  obtain ⟨a1, rfl, rfl, rfl, w1⟩ := open_int Tryz.underlying23 (hval 1 23 v1 rfl rfl) h1
  have k2 := h2
  have lt2 : ∀ x ∈ p2, x.block < W.heap.size := by obtain ⟨m, hm⟩ := k2; exact DataW.trod_lt m _ _ _ hm
  obtain ⟨u2, hu2, hr2⟩ := Go.Ev.open_tm ((.agg [.bool, .str, .str, (.int .i64)]) : Go.Ev.Tm) ⟨_, Tryz.underlying26, ⟨rfl, by kernel_rfl, Tryz.underlying4, ⟨rfl, by kernel_rfl, Tryz.underlying24, ⟨rfl, by kernel_rfl, Tryz.underlying24, ⟨rfl, by kernel_rfl, Tryz.underlying3, rfl⟩⟩⟩⟩⟩ rfl (by kernel_rfl) (hval 2 26 v2 rfl rfl) h2
  obtain ⟨_, rfl, ⟨_, _, rfl, ⟨a2_0, rfl⟩, ⟨_, _, rfl, ⟨a2_1, rfl, w_a2_1⟩, ⟨_, _, rfl, ⟨a2_2, rfl, w_a2_2⟩, ⟨_, _, rfl, ⟨a2_3, rfl, w_a2_3⟩, rfl⟩⟩⟩⟩⟩ := hu2
  clear hA0 hval0 hsz0 hsz
  refine (Go.Ev.law_walk (args := [.int .u8 a0, .int .u8 a1, .agg [.bool a2_0, .str a2_1, .str a2_2, .int .i64 a2_3]]) Go.Ev.S.X_zan.ok ?_ ⟨_, _, rfl, rfl, ⟨_, _, rfl, rfl, ⟨_, _, rfl, hr2 _ _, rfl⟩⟩⟩ (gl_ok hL)).mono fun e W' ⟨he, bel⟩ => ?_
  · exact Go.Ev.S.ruleRoots (a0) (a1) (a2_0) (a2_1) (a2_2) (a2_3) w0 w1 w_a2_1 w_a2_2 w_a2_3 _ rfl
  subst he
  exact ⟨_, rfl, _, _, _, [], _, [], hW', trodAll_mk1 (shut_bool Tryz.underlying4 _), (trodAll_cons_mk (shut_int Tryz.underlying22 w0) (trodAll_cons_mk (shut_int Tryz.underlying23 w1) (trodAll_cons_mk (Below.trod laidOut (by kernel_rfl) (of_decide_eq_true (by kernel_rfl)) k2 bel lt2) trodAll_mk0))), rfl, bel.frame _, fun h => by cases h⟩
theorem over : Rows.ruleRootsRow.holds Tryz.pinned (OpenSpec.ofChange Rows.ruleRootsSpec) :=
  OpenClaim.holds_of_wide 4 Tryz.f4 rfl rfl rfl rfl rfl rfl rfl ⟨rfl, rfl, rfl, rfl, rfl⟩ rfl rfl rfl rfl rfl (by kernel_rfl) Tryz.func4 (by kernel_rfl)
    (of_decide_eq_true (by kernel_rfl)) (by unfold Func.isWrapper; first | (rw [if_pos (by decide +kernel)]; kernel_rfl) | (rw [if_neg (by decide +kernel)]; exact ⟨rfl, rfl⟩))
    (fun os started H enc _ => lifted os started H enc)
theorem proved : Rows.RuleRootsSaid := over
theorem card : Rows.RuleRootsCardSaid :=
  Claim7.holds_tied_plain_at .later [] [.data] true (true, "a665881d2d0d39d8a16104d982a99bf99a8a9754fb9cd85166834f8382acec59") false
    proved (fun _ h => by cases h) (by kernel_rfl) (fun _ h => by cases h) ruleRoots_row_tie rfl ⟨rfl, rfl⟩ (by kernel_rfl) rfl
    (fun f fn hf hfn => by
      obtain rfl : f = 4 := Option.some.inj ((show Tryz.prog.funcNamed "abacus/abacuslaw09.RuleRoots" = some 4 by kernel_rfl).symm.trans hf) |>.symm
      obtain rfl : fn = Tryz.f4 := (Option.some.inj (Tryz.func4.symm.trans hfn)).symm
      exact ⟨by kernel_rfl, fun j t ht => by
        rw [Tryz.params4] at ht
        have hm : t ∈ [22, 23, 26] := by simpa using Array.mem_of_getElem? ht
        have hall : ([22, 23, 26].all fun u => !Tryz.prog.wantsStandIn u) = true := by kernel_rfl
        exact (show Tryz.prog.wantsStandIn t = false by simpa using List.all_eq_true.1 hall t hm)⟩)
    (by kernel_rfl)
end Go.Proofs.YtnomdgcpklbcfaaGreatDoor.ruleRoots
namespace Go.Proofs.YtnomdgcpklbcfaaGreatDoor
/-- The card, under a short name, for the claim. -/
theorem ruleRoots_holds : Rows.RuleRootsCardSaid := ruleRoots.card
end Go.Proofs.YtnomdgcpklbcfaaGreatDoor
