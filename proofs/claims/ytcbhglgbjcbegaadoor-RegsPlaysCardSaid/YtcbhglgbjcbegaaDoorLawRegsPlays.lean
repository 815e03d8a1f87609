/- The row of RegsPlays: its statement, out of what its function comes to. -/
import Derived.Test.YtcbhglgbjcbegaaDoorRows
import Derived.Test.YtcbhglgbjcbegaaDoorXB
import Derived.Test.YtcbhglgbjcbegaaDoorLA
import Derived.Test.YtcbhglgbjcbegaaDoorTie
import Derived.Test.YtcbhglgbjcbegaaDoorCards
import Derived.LaidMore
import Derived.Lay
import Derived.SevenTiedAt
import Derived.Stop.Joined
import Derived.MakeChecks
import Derived.Test.YtcbhglgbjcbegaaDoorEvE
import Derived.WalkKit
import Derived.ProofKit
import Derived.OpenShut
import Derived.ShutString
import Derived.ChangeOld
import Derived.Below
import Derived.SizedLaws
import Derived.Carry
import Derived.Lib.SmallJoins
import Derived.KernelRfl
namespace Go.Proofs.YtcbhglgbjcbegaaDoor.regsPlays
open Go.ChangeShapes Go.WideShapes Go.ChangeAt Go.RowKit Go.Joins
open Go.ChangeMaps (open_string shut_string)
set_option linter.unusedVariables false
set_option linter.unusedSimpArgs false
theorem own : ownKnob Tryd.prog.godebug = none := by kernel_rfl
theorem laidOut : laidOutB Tryd.prog = true := by kernel_rfl
/-- What the laid condition gives the evaluator. -/
theorem gl_ok {W : World} (h : laidMetH Tryd.prog Rows.regsPlaysRow.laid W) : Go.Ev.GOk Go.Ev.S.gl ⟨[], []⟩ W := by
  intro g v hv
  rw [MakeChecks.laidMetH_plain _ _ _ (by kernel_rfl)] at h
  have h' : laidMet Tryd.prog [("math/bits.deBruijn32tab", Rows.laid_math_bits_deBruijn32tab), ("math/bits.deBruijn64tab", Rows.laid_math_bits_deBruijn64tab), ("internal/strconv.uint64pow10", Rows.laid_internal_strconv_uint64pow10), ("strconv.ErrRange", Rows.laid_strconv_ErrRange), ("strconv.ErrSyntax", Rows.laid_strconv_ErrSyntax)] W := h
  obtain ⟨ps, ⟨g0, t0, cs0, fu0, p0, q0, hg0, ht0, hc0, hd0, ⟨g1, t1, cs1, fu1, p1, q1, hg1, ht1, hc1, hd1, ⟨g2, t2, cs2, fu2, p2, q2, hg2, ht2, hc2, hd2, ⟨g3, t3, cs3, fu3, p3, q3, hg3, ht3, hc3, hd3, ⟨g4, t4, cs4, fu4, p4, q4, hg4, ht4, hc4, hd4, _, _⟩, _⟩, _⟩, _⟩, _⟩, _, hif⟩ := h
  obtain rfl := Option.some.inj ((show Tryd.prog.globalNamed "math/bits.deBruijn64tab" = some 4 by kernel_rfl).symm.trans hg1)
  obtain rfl := Option.some.inj ((show (Tryd.prog.globals[4]?).map (·.type) = some 138 by kernel_rfl).symm.trans ht1)
  have r1 := Go.Ev.S.tab_ok Tryd.underlying138 (by kernel_rfl) (by kernel_rfl) Tryd.underlying5 hg1 hc1 rfl hd1
  obtain rfl := Option.some.inj ((show Tryd.prog.globalNamed "internal/strconv.uint64pow10" = some 2 by kernel_rfl).symm.trans hg2)
  obtain rfl := Option.some.inj ((show (Tryd.prog.globals[2]?).map (·.type) = some 124 by kernel_rfl).symm.trans ht2)
  have r2 := Go.Ev.S.tab_gen (zs := Go.Lib.pow10Tab) Go.Ev.S.tab_pow10_is (by rw [Go.Lib.pow10Tab_length]) Tryd.underlying124 (by kernel_rfl) (by kernel_rfl) Tryd.underlying30 hg2 hc2 (hl := by kernel_rfl) hd2
  obtain rfl := Option.some.inj ((show Tryd.prog.globalNamed "strconv.ErrRange" = some 1 by kernel_rfl).symm.trans hg3)
  obtain rfl := Option.some.inj ((show (Tryd.prog.globals[1]?).map (·.type) = some 73 by kernel_rfl).symm.trans ht3)
  have r3 := Go.Ev.S.err_ok h'.tail.tail.tail (g := 1) (by kernel_rfl) (ti := 73) (by kernel_rfl) Tryd.underlying73 (fun u hu => typeName_ptr_named (nm := "errors.errorString") (by rw [show "*" ++ "errors.errorString" = "*errors.errorString" by decide]; kernel_rfl) (by kernel_rfl) (by decide) u (by rw [show "*" ++ "errors.errorString" = "*errors.errorString" by decide]; exact hu)) Tryd.underlying131 Tryd.underlying133 rfl rfl Tryd.underlying9 (by kernel_rfl) (by kernel_rfl)
  obtain rfl := Option.some.inj ((show Tryd.prog.globalNamed "strconv.ErrSyntax" = some 0 by kernel_rfl).symm.trans hg4)
  obtain rfl := Option.some.inj ((show (Tryd.prog.globals[0]?).map (·.type) = some 73 by kernel_rfl).symm.trans ht4)
  have r4 := Go.Ev.S.err_ok h'.tail.tail.tail.tail (g := 0) (by kernel_rfl) (ti := 73) (by kernel_rfl) Tryd.underlying73 (fun u hu => typeName_ptr_named (nm := "errors.errorString") (by rw [show "*" ++ "errors.errorString" = "*errors.errorString" by decide]; kernel_rfl) (by kernel_rfl) (by decide) u (by rw [show "*" ++ "errors.errorString" = "*errors.errorString" by decide]; exact hu)) Tryd.underlying131 Tryd.underlying133 rfl rfl Tryd.underlying9 (by kernel_rfl) (by kernel_rfl)
  by_cases z1 : g = 4
  · subst z1
    cases hv
    exact ⟨rfl, r1⟩
  by_cases z2 : g = 2
  · subst z2
    cases hv
    exact ⟨rfl, r2⟩
  by_cases z3 : g = 1
  · subst z3
    cases hv
    exact ⟨rfl, r3⟩
  by_cases z4 : g = 0
  · subst z4
    cases hv
    exact ⟨rfl, r4⟩
  unfold Go.Ev.S.gl at hv
  have y1 : Nat.beq 4 g = false := by rw [Bool.eq_false_iff]; intro hq; exact z1 (Nat.eq_of_beq_eq_true hq).symm
  have y2 : Nat.beq 2 g = false := by rw [Bool.eq_false_iff]; intro hq; exact z2 (Nat.eq_of_beq_eq_true hq).symm
  have y3 : Nat.beq 1 g = false := by rw [Bool.eq_false_iff]; intro hq; exact z3 (Nat.eq_of_beq_eq_true hq).symm
  have y4 : Nat.beq 0 g = false := by rw [Bool.eq_false_iff]; intro hq; exact z4 (Nat.eq_of_beq_eq_true hq).symm
  simp only [Go.Ev.look, y1, y2, y3, y4, cond_false] at hv
  cases hv
set_option maxRecDepth 100000 in
theorem lifted (os : Os) (started : os.Started) (H : Type) (enc : TypeId × Value → H) :
    ReturnsInHanded {} Tryd.checked os 5 .any (fun w args => (Rows.regsPlaysSpec.pre enc Tryd.prog Tryd.f5 Rows.regsPlaysRow.domain false w args ∧ laidMetH Tryd.prog Rows.regsPlaysRow.laid w) ∧ sizedMet enc Tryd.prog Tryd.f5 (OpenSpec.ofChange Rows.regsPlaysSpec) false w args) (Rows.regsPlaysSpec.post enc Tryd.prog Tryd.f5 false true false false) := by
  refine returnsInHanded_of_change_and (C := Tryd.checked) (X := fun w _ => laidMetH Tryd.prog Rows.regsPlaysRow.laid w) (fun _ _ _ hh h => h.of_heap hh) own started (by kernel_rfl) Tryd.func5
    (ChangeSpec.witness_shaped (enc := enc) (C := Tryd.checked) (os := os) (X := fun w _ => laidMetH Tryd.prog Rows.regsPlaysRow.laid w) false (World.laidAll Tryd.prog os Rows.regsPlaysRow.laid) #[.agg #[.int .u64 0, .int .u64 0, .int .u64 0, .int .u64 0, .int .u64 0, .int .u64 0, .int .u64 0, .int .u64 0, .int .u64 0, .int .u64 0, .int .u64 0, .int .u64 0, .int .u64 0, .int .u64 0, .int .u64 0, .int .u64 0, .int .u64 0, .int .u64 0, .int .u64 0, .int .u64 0, .int .u64 0, .int .u64 0, .int .u64 0, .int .u64 0, .int .u64 0, .int .u64 0, .int .u64 0, .int .u64 0, .int .u64 0, .int .u64 0, .int .u64 0, .int .u64 0, .int .u64 0, .int .u64 0, .int .u64 0, .int .u64 0, .int .u64 0, .int .u64 0, .int .u64 0, .int .u64 0, .int .u64 0, .int .u64 0, .int .u64 0, .int .u64 0, .int .u64 0, .int .u64 0, .int .u64 0, .int .u64 0, .int .u64 0, .int .u64 0, .int .u64 0, .int .u64 0, .int .u64 0, .int .u64 0, .int .u64 0, .int .u64 0, .int .u64 0, .int .u64 0, .int .u64 0, .int .u64 0, .int .u64 0, .int .u64 0, .int .u64 0, .int .u64 0, .int .u64 0, .int .u64 0, .int .u64 0, .int .u64 0, .int .u64 0, .int .u64 0, .int .u64 0, .int .u64 0, .int .u64 0, .int .u64 0, .int .u64 0, .int .u64 0, .int .u64 0, .int .u64 0, .int .u64 0, .int .u64 0, .int .u64 0, .int .u64 0, .int .u64 0, .int .u64 0, .int .u64 0, .int .u64 0, .int .u64 0, .int .u64 0, .int .u64 0, .int .u64 0, .int .u64 0, .int .u64 0, .int .u64 0, .int .u64 0, .int .u64 0, .int .u64 0], .agg #[.int .u64 0, .int .u64 0, .int .u64 0, .int .u64 0, .int .u64 0, .int .u64 0, .int .u64 0, .int .u64 0, .int .u64 0, .int .u64 0, .int .u64 0, .int .u64 0, .int .u64 0, .int .u64 0, .int .u64 0, .int .u64 0, .int .u64 0, .int .u64 0, .int .u64 0, .int .u64 0, .int .u64 0, .int .u64 0, .int .u64 0, .int .u64 0, .int .u64 0, .int .u64 0, .int .u64 0, .int .u64 0, .int .u64 0, .int .u64 0, .int .u64 0, .int .u64 0, .int .u64 0, .int .u64 0, .int .u64 0, .int .u64 0, .int .u64 0, .int .u64 0, .int .u64 0, .int .u64 0, .int .u64 0, .int .u64 0, .int .u64 0, .int .u64 0, .int .u64 0, .int .u64 0, .int .u64 0, .int .u64 0, .int .u64 0, .int .u64 0, .int .u64 0, .int .u64 0, .int .u64 0, .int .u64 0, .int .u64 0, .int .u64 0, .int .u64 0, .int .u64 0, .int .u64 0, .int .u64 0, .int .u64 0, .int .u64 0, .int .u64 0, .int .u64 0, .int .u64 0, .int .u64 0, .int .u64 0, .int .u64 0, .int .u64 0, .int .u64 0, .int .u64 0, .int .u64 0, .int .u64 0, .int .u64 0, .int .u64 0, .int .u64 0, .int .u64 0, .int .u64 0, .int .u64 0, .int .u64 0, .int .u64 0, .int .u64 0, .int .u64 0, .int .u64 0, .int .u64 0, .int .u64 0, .int .u64 0, .int .u64 0, .int .u64 0, .int .u64 0, .int .u64 0, .int .u64 0, .int .u64 0, .int .u64 0, .int .u64 0, .int .u64 0], .slice none 0 0] 8 (World.laidAll_os _ _ _) (World.shaped_of_ZipB (by kernel_rfl) (by kernel_rfl)) (by kernel_rfl) (by kernel_rfl) (by kernel_rfl) (by rw [MakeChecks.laidMetH_plain _ _ _ (by kernel_rfl)]; exact laidMet_laidAll _ (by kernel_rfl) (by kernel_rfl))) ?_
  intro W base args ds gs before hval0 hW hcnd hsz0 hL _
  have hsz : (DataW.weightsEach Tryd.prog (Tryd.f5.params.toList ++ Rows.regsPlaysSpec.plain.varTypes Tryd.prog) (ds ++ gs)).all (· ≤ reachBytes) = true := hsz0
  have hval : ∀ (j : Nat) t v, Tryd.f5.params[j]? = some t → args[j]? = some v → Value.okWide Tryd.prog W .any base t v := hval0
  have hW' := hW
  obtain ⟨p, q, hA0, hV, rfl, hfz, hnd⟩ := hW
  have hA : DataW.TrodAll enc Tryd.prog W 0 (fun _ => true) true Tryd.f5.params.toList args.toList ds p := hA0
  rw [Tryd.params5] at hA hval hsz
  obtain ⟨v0, vs0, d0, ds0, p0, q0, hargs, rfl, rfl, h0, r0⟩ := trodAll_cons hA
  obtain ⟨v1, vs1, d1, ds1, p1, q1, rfl, rfl, rfl, h1, r1⟩ := trodAll_cons r0
  obtain ⟨v2, vs2, d2, ds2, p2, q2, rfl, rfl, rfl, h2, r2⟩ := trodAll_cons r1
  obtain ⟨rfl, rfl, rfl⟩ := trodAll_nil r2
  obtain rfl : args = #[v0, v1, v2] := by cases args; simp_all
  obtain ⟨rfl, rfl⟩ := trodVars_none hV
  have k0 := h0
  have lt0 : ∀ x ∈ p0, x.block < W.heap.size := by obtain ⟨m, hm⟩ := k0; exact DataW.trod_lt m _ _ _ hm
  obtain ⟨u0, hu0, hr0⟩ := Go.Ev.open_tw (l := [(.arr 32 .u64 30), (.tab 32 (.agg [.int .u64, .int .u64]) 32)]) ⟨_, Tryd.underlying55, ⟨rfl, by kernel_rfl, ⟨Tryd.underlying36, Tryd.underlying30, by kernel_rfl⟩, ⟨rfl, by kernel_rfl, ⟨Tryd.underlying37, by kernel_rfl, ⟨_, Tryd.underlying32, ⟨rfl, by kernel_rfl, Tryd.underlying30, ⟨rfl, by kernel_rfl, Tryd.underlying30, rfl⟩⟩⟩⟩, rfl⟩⟩⟩ (by kernel_rfl) (hval 0 55 v0 rfl rfl) h0
  obtain ⟨_, rfl, ⟨_, _, rfl, ⟨a0_0, rfl, w_a0_0, z_a0_0⟩, ⟨_, _, rfl, ⟨a0_1, rfl, w_a0_1⟩, rfl⟩⟩⟩ := hu0
  have k1 := h1
  have lt1 : ∀ x ∈ p1, x.block < W.heap.size := by obtain ⟨m, hm⟩ := k1; exact DataW.trod_lt m _ _ _ hm
  obtain ⟨u1, hu1, hr1⟩ := Go.Ev.open_tw (l := [(.arr 32 .u64 30), (.tab 32 (.agg [.int .u64, .int .u64]) 32)]) ⟨_, Tryd.underlying55, ⟨rfl, by kernel_rfl, ⟨Tryd.underlying36, Tryd.underlying30, by kernel_rfl⟩, ⟨rfl, by kernel_rfl, ⟨Tryd.underlying37, by kernel_rfl, ⟨_, Tryd.underlying32, ⟨rfl, by kernel_rfl, Tryd.underlying30, ⟨rfl, by kernel_rfl, Tryd.underlying30, rfl⟩⟩⟩⟩, rfl⟩⟩⟩ (by kernel_rfl) (hval 1 55 v1 rfl rfl) h1
  obtain ⟨_, rfl, ⟨_, _, rfl, ⟨a1_0, rfl, w_a1_0, z_a1_0⟩, ⟨_, _, rfl, ⟨a1_1, rfl, w_a1_1⟩, rfl⟩⟩⟩ := hu1
  have k2 := h2
  have lt2 : ∀ x ∈ p2, x.block < W.heap.size := by obtain ⟨m, hm⟩ := k2; exact DataW.trod_lt m _ _ _ hm
  obtain ⟨a2n, a2, hr2, m_a2, w_a2⟩ := Go.Ev.open_rows_lim (B := 40) (s := .agg [.int .i64, .int .i64, .int .i64, .int .u64, .agg [.int .u64, .int .u64], .int .u8, .sl (.agg [.bool, .int .i64, .int .u64, .agg [.int .u64, .int .u64]])]) (e := 64) ⟨Tryd.underlying59, by kernel_rfl, by decide, ⟨_, Tryd.underlying64, ⟨rfl, by kernel_rfl, Tryd.underlying3, ⟨rfl, by kernel_rfl, Tryd.underlying3, ⟨rfl, by kernel_rfl, Tryd.underlying3, ⟨rfl, by kernel_rfl, Tryd.underlying30, ⟨rfl, by kernel_rfl, ⟨_, Tryd.underlying32, ⟨rfl, by kernel_rfl, Tryd.underlying30, ⟨rfl, by kernel_rfl, Tryd.underlying30, rfl⟩⟩⟩, ⟨rfl, by kernel_rfl, Tryd.underlying29, ⟨rfl, by kernel_rfl, ⟨34, Tryd.underlying46, by kernel_rfl, by decide, ⟨_, Tryd.underlying34, ⟨rfl, by kernel_rfl, Tryd.underlying4, ⟨rfl, by kernel_rfl, Tryd.underlying3, ⟨rfl, by kernel_rfl, Tryd.underlying30, ⟨rfl, by kernel_rfl, ⟨_, Tryd.underlying32, ⟨rfl, by kernel_rfl, Tryd.underlying30, ⟨rfl, by kernel_rfl, Tryd.underlying30, rfl⟩⟩⟩, rfl⟩⟩⟩⟩⟩⟩, rfl⟩⟩⟩⟩⟩⟩⟩⟩⟩ ⟨64, Tryd.underlying59, by kernel_rfl, by decide, Nat.le_of_ble_eq_true (by kernel_rfl), ⟨_, Tryd.underlying64, ⟨rfl, by kernel_rfl, Tryd.underlying3, ⟨rfl, by kernel_rfl, Tryd.underlying3, ⟨rfl, by kernel_rfl, Tryd.underlying3, ⟨rfl, by kernel_rfl, Tryd.underlying30, ⟨rfl, by kernel_rfl, ⟨_, Tryd.underlying32, ⟨rfl, by kernel_rfl, Tryd.underlying30, ⟨rfl, by kernel_rfl, Tryd.underlying30, rfl⟩⟩⟩, ⟨rfl, by kernel_rfl, Tryd.underlying29, ⟨rfl, by kernel_rfl, ⟨34, Tryd.underlying46, by kernel_rfl, by decide, Nat.le_of_ble_eq_true (by kernel_rfl), ⟨_, Tryd.underlying34, ⟨rfl, by kernel_rfl, Tryd.underlying4, ⟨rfl, by kernel_rfl, Tryd.underlying3, ⟨rfl, by kernel_rfl, Tryd.underlying30, ⟨rfl, by kernel_rfl, ⟨_, Tryd.underlying32, ⟨rfl, by kernel_rfl, Tryd.underlying30, ⟨rfl, by kernel_rfl, Tryd.underlying30, rfl⟩⟩⟩, rfl⟩⟩⟩⟩⟩⟩, rfl⟩⟩⟩⟩⟩⟩⟩⟩⟩ (hval 2 59 v2 rfl rfl) h2 (fun n hn => by simpa using List.all_eq_true.1 hsz n (DataW.weights_mem_each (j := 2) rfl rfl n hn))
  clear hA0 hval0 hsz0 hsz
  refine (Go.Ev.law_walk (args := [.agg [.arr .u64 32 a0_0, .arrT 32 (.agg [.int .u64, .int .u64]) a0_1], .agg [.arr .u64 32 a1_0, .arrT 32 (.agg [.int .u64, .int .u64]) a1_1], .rsT a2n (.agg [.int .i64, .int .i64, .int .i64, .int .u64, .agg [.int .u64, .int .u64], .int .u8, .sl (.agg [.bool, .int .i64, .int .u64, .agg [.int .u64, .int .u64]])]) a2]) Go.Ev.S.X_law23_RegsPlays.ok ?_ ⟨_, _, rfl, hr0, ⟨_, _, rfl, hr1, ⟨_, _, rfl, hr2, rfl⟩⟩⟩ (gl_ok hL)).mono fun e W' ⟨he, bel⟩ => ?_
  · exact Go.Ev.S.regsPlays (a0_0) (a0_1) (a1_0) (a1_1) (a2n) (a2) w_a0_0 z_a0_0 w_a0_1 w_a1_0 z_a1_0 w_a1_1 m_a2 w_a2 _ rfl
  subst he
  exact ⟨_, rfl, _, _, _, [], _, [], hW', trodAll_mk1 (shut_bool Tryd.underlying4 _), (trodAll_cons_mk (Below.trod laidOut (by kernel_rfl) (of_decide_eq_true (by kernel_rfl)) k0 bel lt0) (trodAll_cons_mk (Below.trod laidOut (by kernel_rfl) (of_decide_eq_true (by kernel_rfl)) k1 bel lt1) (trodAll_cons_mk (Below.trod laidOut (by kernel_rfl) (of_decide_eq_true (by kernel_rfl)) k2 bel lt2) trodAll_mk0))), rfl, bel.frame _, fun h => by cases h⟩
theorem over : Rows.regsPlaysRow.holds Tryd.pinned (OpenSpec.ofChange Rows.regsPlaysSpec) :=
  OpenClaim.holds_of_wide 5 Tryd.f5 rfl rfl rfl rfl rfl rfl rfl ⟨rfl, rfl, rfl, rfl, rfl⟩ rfl rfl rfl rfl rfl (by kernel_rfl) Tryd.func5 (by kernel_rfl)
    (of_decide_eq_true (by kernel_rfl)) (by unfold Func.isWrapper; first | (rw [if_pos (by decide +kernel)]; kernel_rfl) | (rw [if_neg (by decide +kernel)]; exact ⟨rfl, rfl⟩))
    (fun os started H enc _ => lifted os started H enc)
theorem proved : Rows.RegsPlaysSaid := over
theorem card : Rows.RegsPlaysCardSaid :=
  Claim7.holds_tied_plain_at .later [] [.data, .data, .data, .sentinel, .sentinel] true (true, "75329a1290ff22155fdbe725ed99b756b9aabdb7ee03908fed7bc69530faf712") true
    proved (fun _ h => by cases h) (by kernel_rfl) (fun _ h => by cases h) regsPlays_row_tie rfl ⟨rfl, rfl⟩ (by kernel_rfl) rfl
    (fun f fn hf hfn => by
      obtain rfl : f = 5 := Option.some.inj ((show Tryd.prog.funcNamed "abacus/abacuslaw23.RegsPlays" = some 5 by kernel_rfl).symm.trans hf) |>.symm
      obtain rfl : fn = Tryd.f5 := (Option.some.inj (Tryd.func5.symm.trans hfn)).symm
      exact ⟨by kernel_rfl, fun j t ht => by
        rw [Tryd.params5] at ht
        have hm : t ∈ [55, 55, 59] := by simpa using Array.mem_of_getElem? ht
        have hall : ([55, 55, 59].all fun u => !Tryd.prog.wantsStandIn u) = true := by kernel_rfl
        exact (show Tryd.prog.wantsStandIn t = false by simpa using List.all_eq_true.1 hall t hm)⟩)
    (by kernel_rfl)
end Go.Proofs.YtcbhglgbjcbegaaDoor.regsPlays
namespace Go.Proofs.YtcbhglgbjcbegaaDoor
/-- The card, under a short name, for the claim. -/
theorem regsPlays_holds : Rows.RegsPlaysCardSaid := regsPlays.card
end Go.Proofs.YtcbhglgbjcbegaaDoor
