/- The row of NatMakes: its statement, out of what its function comes to. -/
import Derived.Test.YtdbjlpagibdnhaaDoorRows
import Derived.Test.YtdbjlpagibdnhaaDoorXA
import Derived.Test.YtdbjlpagibdnhaaDoorLB
import Derived.Test.YtdbjlpagibdnhaaDoorTie
import Derived.Test.YtdbjlpagibdnhaaDoorCards
import Derived.LaidMore
import Derived.Lay
import Derived.SevenTiedAt
import Derived.Stop.Joined
import Derived.MakeChecks
import Derived.Test.YtdbjlpagibdnhaaDoorEvC
import Derived.WalkKit
import Derived.ProofKit
import Derived.OpenShut
import Derived.ShutString
import Derived.ChangeOld
import Derived.Below
import Derived.SizedLaws
import Derived.Carry
import Derived.Lib.SmallJoins
import Derived.KernelRfl
namespace Go.Proofs.YtdbjlpagibdnhaaDoor.natMakes
open Go.ChangeShapes Go.WideShapes Go.ChangeAt Go.RowKit Go.Joins
open Go.ChangeMaps (open_string shut_string)
set_option linter.unusedVariables false
set_option linter.unusedSimpArgs false
theorem own : ownKnob Tryd.prog.godebug = none := by kernel_rfl
theorem laidOut : laidOutB Tryd.prog = true := by kernel_rfl
/-- What the laid condition gives the evaluator. -/
theorem gl_ok {W : World} (h : laidMetH Tryd.prog Rows.natMakesRow.laid W) : Go.Ev.GOk Go.Ev.S.gl ⟨[], []⟩ W := by
  intro g v hv
  rw [MakeChecks.laidMetH_plain _ _ _ (by kernel_rfl)] at h
  obtain ⟨ps, ⟨g0, t, cs, fuel, p, q, hg, ht, hc, hd, _, _⟩, _, _⟩ := h
  obtain rfl := Option.some.inj ((show Tryd.prog.globalNamed "math/bits.deBruijn64tab" = some 0 by kernel_rfl).symm.trans hg)
  obtain rfl := Option.some.inj ((show (Tryd.prog.globals[0]?).map (·.type) = some 70 by kernel_rfl).symm.trans ht)
  have hr := Go.Ev.S.tab_ok Tryd.underlying70 (by kernel_rfl) Tryd.underlying5 hg hc rfl hd
  by_cases hz : g = 0
  · subst hz
    cases hv
    exact ⟨rfl, hr⟩
  · unfold Go.Ev.S.gl at hv
    have h0 : Nat.beq 0 g = false := by rw [Bool.eq_false_iff]; intro hq; exact hz (Nat.eq_of_beq_eq_true hq).symm
    simp only [Go.Ev.look, h0, cond_false] at hv
    cases hv
set_option maxRecDepth 100000 in
theorem lifted (os : Os) (started : os.Started) (H : Type) (enc : TypeId × Value → H) :
    ReturnsInHanded {} Tryd.checked os 3 .any (fun w args => (Rows.natMakesSpec.pre enc Tryd.prog Tryd.f3 Rows.natMakesRow.domain false w args ∧ laidMetH Tryd.prog Rows.natMakesRow.laid w) ∧ sizedMet enc Tryd.prog Tryd.f3 (OpenSpec.ofChange Rows.natMakesSpec) false w args) (Rows.natMakesSpec.post enc Tryd.prog Tryd.f3 false true false false) := by
  refine returnsInHanded_of_change_and (C := Tryd.checked) (X := fun w _ => laidMetH Tryd.prog Rows.natMakesRow.laid w) (fun _ _ _ hh h => h.of_heap hh) own started (by kernel_rfl) Tryd.func3
    (ChangeSpec.witness_shaped (enc := enc) (C := Tryd.checked) (os := os) (X := fun w _ => laidMetH Tryd.prog Rows.natMakesRow.laid w) false (World.laidAll Tryd.prog os Rows.natMakesRow.laid) #[.int .u64 0, .agg #[.int .u64 0, .int .u64 0, .int .u64 0, .int .u64 0, .int .u64 0, .int .u64 0], .string ByteArray.empty] 8 (World.laidAll_os _ _ _) (World.shaped_of_ZipB (by kernel_rfl) (by kernel_rfl)) (by kernel_rfl) (by kernel_rfl) (by kernel_rfl) (by rw [MakeChecks.laidMetH_plain _ _ _ (by kernel_rfl)]; exact laidMet_laidAll _ (by kernel_rfl) (by kernel_rfl))) ?_
  intro W base args ds gs before hval0 hW hcnd hsz0 hL _
  have hsz : (DataW.weightsEach Tryd.prog (Tryd.f3.params.toList ++ Rows.natMakesSpec.plain.varTypes Tryd.prog) (ds ++ gs)).all (· ≤ reachBytes) = true := hsz0
  have hval : ∀ (j : Nat) t v, Tryd.f3.params[j]? = some t → args[j]? = some v → Value.okWide Tryd.prog W .any base t v := hval0
  have hW' := hW
  obtain ⟨p, q, hA0, hV, rfl, hfz, hnd⟩ := hW
  have hA : DataW.TrodAll enc Tryd.prog W 0 (fun _ => true) true Tryd.f3.params.toList args.toList ds p := hA0
  rw [Tryd.params3] at hA hval hsz
  obtain ⟨v0, vs0, d0, ds0, p0, q0, hargs, rfl, rfl, h0, r0⟩ := trodAll_cons hA
  obtain ⟨v1, vs1, d1, ds1, p1, q1, rfl, rfl, rfl, h1, r1⟩ := trodAll_cons r0
  obtain ⟨v2, vs2, d2, ds2, p2, q2, rfl, rfl, rfl, h2, r2⟩ := trodAll_cons r1
  obtain ⟨rfl, rfl, rfl⟩ := trodAll_nil r2
  obtain rfl : args = #[v0, v1, v2] := by cases args; simp_all
  obtain ⟨rfl, rfl⟩ := trodVars_none hV
  obtain ⟨a0, rfl, rfl, rfl, w0⟩ := open_int Tryd.underlying22 (hval 0 22 v0 rfl rfl) h0
  have k1 := h1
  have lt1 : ∀ x ∈ p1, x.block < W.heap.size := by obtain ⟨m, hm⟩ := k1; exact DataW.trod_lt m _ _ _ hm
  obtain ⟨u1, hu1, hr1⟩ := Go.Ev.open_tm ((.arr 6 .u64 22) : Go.Ev.Tm) ⟨Tryd.underlying24, Tryd.underlying22, by kernel_rfl⟩ rfl (by kernel_rfl) (hval 1 24 v1 rfl rfl) h1
  obtain ⟨a1, rfl, w_a1, z_a1⟩ := hu1
  obtain ⟨a2, rfl, rfl, rfl, y2⟩ := open_string Tryd.underlying25 (hval 2 25 v2 rfl rfl) h2
  have w2 : a2.size ≤ 140737488351232 := by
    have z := sized_string hsz (j := 2) (t := 25) rfl rfl
    rw [Array.length_toList] at z
    exact z
  clear hA0 hval0 hsz0 hsz
  refine (Go.Ev.law_walk (args := [.int .u64 a0, .arr .u64 6 a1, .str a2.data.toList]) Go.Ev.S.X_law05_NatMakes.ok ?_ ⟨_, _, rfl, rfl, ⟨_, _, rfl, hr1 _ _, ⟨_, _, rfl, rfl, rfl⟩⟩⟩ (gl_ok hL)).mono fun e W' ⟨he, bel⟩ => ?_
  · exact Go.Ev.S.natMakes (a0) (a1) (a2.data.toList) w0 w_a1 z_a1 (by rw [Array.length_toList]; exact w2) _ rfl
  subst he
  exact ⟨_, rfl, _, _, _, [], _, [], hW', trodAll_mk1 (shut_bool Tryd.underlying4 _), (trodAll_cons_mk (shut_int Tryd.underlying22 w0) (trodAll_cons_mk (Below.trod laidOut (by kernel_rfl) (of_decide_eq_true (by kernel_rfl)) k1 bel lt1) (trodAll_cons_mk (shut_string Tryd.underlying25 y2) trodAll_mk0))), rfl, bel.frame _, fun h => by cases h⟩
theorem over : Rows.natMakesRow.holds Tryd.pinned (OpenSpec.ofChange Rows.natMakesSpec) :=
  OpenClaim.holds_of_wide 3 Tryd.f3 rfl rfl rfl rfl rfl rfl rfl ⟨rfl, rfl, rfl, rfl, rfl⟩ rfl rfl rfl rfl rfl (by kernel_rfl) Tryd.func3 (by kernel_rfl)
    (of_decide_eq_true (by kernel_rfl)) (by unfold Func.isWrapper; first | (rw [if_pos (by decide +kernel)]; kernel_rfl) | (rw [if_neg (by decide +kernel)]; exact ⟨rfl, rfl⟩))
    (fun os started H enc _ => lifted os started H enc)
theorem proved : Rows.NatMakesSaid := over
theorem card : Rows.NatMakesCardSaid :=
  Claim7.holds_tied_plain_at .later [] [.data] true (true, "1c40fc8a40beec006741a384c406dfd0696f97ebb4397ce5d67425d787dc191f") false
    proved (fun _ h => by cases h) (by kernel_rfl) (fun _ h => by cases h) natMakes_row_tie rfl ⟨rfl, rfl⟩ (by kernel_rfl) rfl
    (fun f fn hf hfn => by
      obtain rfl : f = 3 := Option.some.inj ((show Tryd.prog.funcNamed "abacus/abacuslaw05.NatMakes" = some 3 by kernel_rfl).symm.trans hf) |>.symm
      obtain rfl : fn = Tryd.f3 := (Option.some.inj (Tryd.func3.symm.trans hfn)).symm
      exact ⟨by kernel_rfl, fun j t ht => by
        rw [Tryd.params3] at ht
        have hm : t ∈ [22, 24, 25] := by simpa using Array.mem_of_getElem? ht
        have hall : ([22, 24, 25].all fun u => !Tryd.prog.wantsStandIn u) = true := by kernel_rfl
        exact (show Tryd.prog.wantsStandIn t = false by simpa using List.all_eq_true.1 hall t hm)⟩)
    (by kernel_rfl)
end Go.Proofs.YtdbjlpagibdnhaaDoor.natMakes
namespace Go.Proofs.YtdbjlpagibdnhaaDoor
/-- The card, under a short name, for the claim. -/
theorem natMakes_holds : Rows.NatMakesCardSaid := natMakes.card
end Go.Proofs.YtdbjlpagibdnhaaDoor
