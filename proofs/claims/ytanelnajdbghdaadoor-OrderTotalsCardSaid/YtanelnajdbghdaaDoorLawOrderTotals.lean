/- The row of OrderTotals: its statement, out of what its function comes to. -/
import Derived.Test.YtanelnajdbghdaaDoorEvD
import Derived.Test.YtanelnajdbghdaaDoorRows
import Derived.Test.YtanelnajdbghdaaDoorXA
import Derived.Test.YtanelnajdbghdaaDoorLA
import Derived.Test.YtanelnajdbghdaaDoorTie
import Derived.Test.YtanelnajdbghdaaDoorCards
import Derived.LaidMore
import Derived.Lay
import Derived.SevenTiedAt
import Derived.Stop.Joined
import Derived.MakeChecks
import Derived.WalkKit
import Derived.ProofKit
import Derived.OpenShut
import Derived.ShutString
import Derived.ChangeOld
import Derived.Below
import Derived.SizedLaws
import Derived.Carry
import Derived.Lib.SmallJoins
import Derived.KernelRfl
namespace Go.Proofs.YtanelnajdbghdaaDoor.orderTotals
open Go.ChangeShapes Go.WideShapes Go.ChangeAt Go.RowKit Go.Joins
open Go.ChangeMaps (open_string shut_string)
set_option linter.unusedVariables false
set_option linter.unusedSimpArgs false
theorem own : ownKnob Tryd.prog.godebug = none := by kernel_rfl
theorem laidOut : laidOutB Tryd.prog = true := by kernel_rfl
/-- What the laid condition gives the evaluator. -/
theorem gl_ok {W : World} (h : laidMetH Tryd.prog Rows.orderTotalsRow.laid W) : Go.Ev.GOk Go.Ev.S.gl ⟨[], []⟩ W := by
  intro g v hv
  rw [MakeChecks.laidMetH_plain _ _ _ (by kernel_rfl)] at h
  have h' : laidMet Tryd.prog [("math/bits.deBruijn64tab", Rows.laid_math_bits_deBruijn64tab)] W := h
  obtain ⟨ps, ⟨g0, t0, cs0, fu0, p0, q0, hg0, ht0, hc0, hd0, _, _⟩, _, hif⟩ := h
  obtain rfl := Option.some.inj ((show Tryd.prog.globalNamed "math/bits.deBruijn64tab" = some 0 by kernel_rfl).symm.trans hg0)
  obtain rfl := Option.some.inj ((show (Tryd.prog.globals[0]?).map (·.type) = some 164 by kernel_rfl).symm.trans ht0)
  have r0 := Go.Ev.S.tab_ok Tryd.underlying164 (by kernel_rfl) (by kernel_rfl) Tryd.underlying5 hg0 hc0 rfl hd0
  by_cases z0 : g = 0
  · subst z0
    cases hv
    exact ⟨rfl, r0⟩
  unfold Go.Ev.S.gl at hv
  have y0 : Nat.beq 0 g = false := by rw [Bool.eq_false_iff]; intro hq; exact z0 (Nat.eq_of_beq_eq_true hq).symm
  simp only [Go.Ev.look, y0, cond_false] at hv
  cases hv
set_option maxRecDepth 100000 in
theorem lifted (os : Os) (started : os.Started) (H : Type) (enc : TypeId × Value → H) :
    ReturnsInHanded {} Tryd.checked os 10 .any (fun w args => (Rows.orderTotalsSpec.pre enc Tryd.prog Tryd.f10 Rows.orderTotalsRow.domain false w args ∧ laidMetH Tryd.prog Rows.orderTotalsRow.laid w) ∧ sizedMet enc Tryd.prog Tryd.f10 (OpenSpec.ofChange Rows.orderTotalsSpec) false w args) (Rows.orderTotalsSpec.post enc Tryd.prog Tryd.f10 false true false false) := by
  refine returnsInHanded_of_change_and (C := Tryd.checked) (X := fun w _ => laidMetH Tryd.prog Rows.orderTotalsRow.laid w) (fun _ _ _ hh h => h.of_heap hh) own started (by kernel_rfl) Tryd.func10
    (ChangeSpec.witness_shaped (enc := enc) (C := Tryd.checked) (os := os) (X := fun w _ => laidMetH Tryd.prog Rows.orderTotalsRow.laid w) false (World.laidAll Tryd.prog os Rows.orderTotalsRow.laid) #[.int .u8 0, .slice none 0 0] 8 (World.laidAll_os _ _ _) (World.shaped_of_ZipB (by kernel_rfl) (by kernel_rfl)) (by kernel_rfl) (by kernel_rfl) (by kernel_rfl) (by rw [MakeChecks.laidMetH_plain _ _ _ (by kernel_rfl)]; exact laidMet_laidAll _ (by kernel_rfl) (by kernel_rfl))) ?_
  intro W base args ds gs before hval0 hW hcnd hsz0 hL _
  have hsz : (DataW.weightsEach Tryd.prog (Tryd.f10.params.toList ++ Rows.orderTotalsSpec.plain.varTypes Tryd.prog) (ds ++ gs)).all (· ≤ reachBytes) = true := hsz0
  have hval : ∀ (j : Nat) t v, Tryd.f10.params[j]? = some t → args[j]? = some v → Value.okWide Tryd.prog W .any base t v := hval0
  have hW' := hW
  obtain ⟨p, q, hA0, hV, rfl, hfz, hnd⟩ := hW
  have hA : DataW.TrodAll enc Tryd.prog W 0 (fun _ => true) true Tryd.f10.params.toList args.toList ds p := hA0
  rw [Tryd.params10] at hA hval hsz
  obtain ⟨v0, vs0, d0, ds0, p0, q0, hargs, rfl, rfl, h0, r0⟩ := trodAll_cons hA
  obtain ⟨v1, vs1, d1, ds1, p1, q1, rfl, rfl, rfl, h1, r1⟩ := trodAll_cons r0
  obtain ⟨rfl, rfl, rfl⟩ := trodAll_nil r1
  obtain rfl : args = #[v0, v1] := by cases args; simp_all
  obtain ⟨rfl, rfl⟩ := trodVars_none hV
  obtain ⟨a0, rfl, rfl, rfl, w0⟩ := open_int Tryd.underlying22 (hval 0 22 v0 rfl rfl) h0
  have k1 := h1
  have lt1 : ∀ x ∈ p1, x.block < W.heap.size := by obtain ⟨m, hm⟩ := k1; exact DataW.trod_lt m _ _ _ hm
  obtain ⟨a1n, a1, hr1, m_a1, w_a1⟩ := Go.Ev.open_rows_lim (B := 16) (s := .agg [.int .u64, .int .u64]) (e := 25) ⟨Tryd.underlying53, by kernel_rfl, by decide, ⟨_, Tryd.underlying25, ⟨rfl, by kernel_rfl, Tryd.underlying23, ⟨rfl, by kernel_rfl, Tryd.underlying23, rfl⟩⟩⟩⟩ ⟨25, Tryd.underlying53, by kernel_rfl, by decide, Nat.le_of_ble_eq_true (by kernel_rfl), ⟨_, Tryd.underlying25, ⟨rfl, by kernel_rfl, Tryd.underlying23, ⟨rfl, by kernel_rfl, Tryd.underlying23, rfl⟩⟩⟩⟩ (hval 1 53 v1 rfl rfl) h1 (fun n hn => by simpa using List.all_eq_true.1 hsz n (DataW.weights_mem_each (j := 1) rfl rfl n hn))
  clear hA0 hval0 hsz0 hsz
  refine (Go.Ev.law_walk (args := [.int .u8 a0, .rsT a1n (.agg [.int .u64, .int .u64]) a1]) Go.Ev.S.X_law16_OrderTotals.ok ?_ ⟨_, _, rfl, rfl, ⟨_, _, rfl, hr1, rfl⟩⟩ (gl_ok hL)).mono fun e W' ⟨he, bel⟩ => ?_
  · exact Go.Ev.S.orderTotals (a0) (a1n) (a1) w0 m_a1 w_a1 _ rfl
  subst he
  exact ⟨_, rfl, _, _, _, [], _, [], hW', trodAll_mk1 (shut_bool Tryd.underlying4 _), (trodAll_cons_mk (shut_int Tryd.underlying22 w0) (trodAll_cons_mk (Below.trod laidOut (by kernel_rfl) (of_decide_eq_true (by kernel_rfl)) k1 bel lt1) trodAll_mk0)), rfl, bel.frame _, fun h => by cases h⟩
theorem over : Rows.orderTotalsRow.holds Tryd.pinned (OpenSpec.ofChange Rows.orderTotalsSpec) :=
  OpenClaim.holds_of_wide 10 Tryd.f10 rfl rfl rfl rfl rfl rfl rfl ⟨rfl, rfl, rfl, rfl, rfl⟩ rfl rfl rfl rfl rfl (by kernel_rfl) Tryd.func10 (by kernel_rfl)
    (of_decide_eq_true (by kernel_rfl)) (by unfold Func.isWrapper; first | (rw [if_pos (by decide +kernel)]; kernel_rfl) | (rw [if_neg (by decide +kernel)]; exact ⟨rfl, rfl⟩))
    (fun os started H enc _ => lifted os started H enc)
theorem proved : Rows.OrderTotalsSaid := over
theorem card : Rows.OrderTotalsCardSaid :=
  Claim7.holds_tied_plain_at .later [] [.data] true (true, "7354a1402e7b7df40ff346bd67899f2e05f46dcb23f69bb4e468b3b83a9766c8") false
    proved (fun _ h => by cases h) (by kernel_rfl) (fun _ h => by cases h) orderTotals_row_tie rfl ⟨rfl, rfl⟩ (by kernel_rfl) rfl
    (fun f fn hf hfn => by
      obtain rfl : f = 10 := Option.some.inj ((show Tryd.prog.funcNamed "abacus/abacuslaw16.OrderTotals" = some 10 by kernel_rfl).symm.trans hf) |>.symm
      obtain rfl : fn = Tryd.f10 := (Option.some.inj (Tryd.func10.symm.trans hfn)).symm
      exact ⟨by kernel_rfl, fun j t ht => by
        rw [Tryd.params10] at ht
        have hm : t ∈ [22, 53] := by simpa using Array.mem_of_getElem? ht
        have hall : ([22, 53].all fun u => !Tryd.prog.wantsStandIn u) = true := by kernel_rfl
        exact (show Tryd.prog.wantsStandIn t = false by simpa using List.all_eq_true.1 hall t hm)⟩)
    (by kernel_rfl)
end Go.Proofs.YtanelnajdbghdaaDoor.orderTotals
namespace Go.Proofs.YtanelnajdbghdaaDoor
/-- The card, under a short name, for the claim. -/
theorem orderTotals_holds : Rows.OrderTotalsCardSaid := orderTotals.card
end Go.Proofs.YtanelnajdbghdaaDoor
