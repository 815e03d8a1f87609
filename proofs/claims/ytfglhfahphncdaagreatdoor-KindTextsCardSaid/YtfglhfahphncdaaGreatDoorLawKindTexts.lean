/- The row of KindTexts: its statement, out of what its function comes to. -/
import Derived.Test.YtfglhfahphncdaaGreatDoorRows
import Derived.Test.YtfglhfahphncdaaGreatDoorXA
import Derived.Test.YtfglhfahphncdaaGreatDoorLB
import Derived.Test.YtfglhfahphncdaaGreatDoorTie
import Derived.Test.YtfglhfahphncdaaGreatDoorCards
import Derived.LaidMore
import Derived.Lay
import Derived.SevenTiedAt
import Derived.Stop.Joined
import Derived.MakeChecks
import Derived.WalkKit
import Derived.ProofKit
import Derived.OpenShut
import Derived.ShutString
import Derived.ChangeOld
import Derived.Below
import Derived.SizedLaws
import Derived.Carry
import Derived.Lib.SmallJoins
import Derived.KernelRfl
namespace Go.Proofs.YtfglhfahphncdaaGreatDoor.kindTexts
open Go.ChangeShapes Go.WideShapes Go.ChangeAt Go.RowKit Go.Joins
open Go.ChangeMaps (open_string shut_string)
set_option linter.unusedVariables false
set_option linter.unusedSimpArgs false
theorem own : ownKnob Tryz.prog.godebug = none := by kernel_rfl
theorem laidOut : laidOutB Tryz.prog = true := by kernel_rfl
/-- What the laid condition gives the evaluator. -/
theorem gl_ok {W : World} (h : laidMetH Tryz.prog Rows.kindTextsRow.laid W) : Go.Ev.GOk Go.Ev.S.gl ⟨[], []⟩ W := by
  intro g v hv
  rw [MakeChecks.laidMetH_plain _ _ _ (by kernel_rfl)] at h
  have h' : laidMet Tryz.prog [("math/bits.deBruijn32tab", Rows.laid_math_bits_deBruijn32tab), ("math/bits.deBruijn64tab", Rows.laid_math_bits_deBruijn64tab), ("internal/strconv.uint64pow10", Rows.laid_internal_strconv_uint64pow10), ("strconv.ErrRange", Rows.laid_strconv_ErrRange), ("strconv.ErrSyntax", Rows.laid_strconv_ErrSyntax)] W := h
  obtain ⟨ps, ⟨g0, t0, cs0, fu0, p0, q0, hg0, ht0, hc0, hd0, ⟨g1, t1, cs1, fu1, p1, q1, hg1, ht1, hc1, hd1, ⟨g2, t2, cs2, fu2, p2, q2, hg2, ht2, hc2, hd2, ⟨g3, t3, cs3, fu3, p3, q3, hg3, ht3, hc3, hd3, ⟨g4, t4, cs4, fu4, p4, q4, hg4, ht4, hc4, hd4, _, _⟩, _⟩, _⟩, _⟩, _⟩, _, hif⟩ := h
  obtain rfl := Option.some.inj ((show Tryz.prog.globalNamed "math/bits.deBruijn64tab" = some 0 by kernel_rfl).symm.trans hg1)
  obtain rfl := Option.some.inj ((show (Tryz.prog.globals[0]?).map (·.type) = some 232 by kernel_rfl).symm.trans ht1)
  have r1 := Go.Ev.S.tab_ok Tryz.underlying232 (by kernel_rfl) (by kernel_rfl) Tryz.underlying5 hg1 hc1 rfl hd1
  obtain rfl := Option.some.inj ((show Tryz.prog.globalNamed "internal/strconv.uint64pow10" = some 1 by kernel_rfl).symm.trans hg2)
  obtain rfl := Option.some.inj ((show (Tryz.prog.globals[1]?).map (·.type) = some 235 by kernel_rfl).symm.trans ht2)
  have r2 := Go.Ev.S.tab_gen (zs := Go.Lib.pow10Tab) Go.Ev.S.tab_pow10_is (by rw [Go.Lib.pow10Tab_length]) Tryz.underlying235 (by kernel_rfl) (by kernel_rfl) Tryz.underlying24 hg2 hc2 (hl := by kernel_rfl) hd2
  obtain rfl := Option.some.inj ((show Tryz.prog.globalNamed "strconv.ErrRange" = some 4 by kernel_rfl).symm.trans hg3)
  obtain rfl := Option.some.inj ((show (Tryz.prog.globals[4]?).map (·.type) = some 181 by kernel_rfl).symm.trans ht3)
  have r3 := Go.Ev.S.err_ok h'.tail.tail.tail (g := 4) (by kernel_rfl) (ti := 181) (by kernel_rfl) Tryz.underlying181 (fun u hu => typeName_ptr_named (nm := "errors.errorString") (by rw [show "*" ++ "errors.errorString" = "*errors.errorString" by decide]; kernel_rfl) (by kernel_rfl) (by decide) u (by rw [show "*" ++ "errors.errorString" = "*errors.errorString" by decide]; exact hu)) Tryz.underlying249 Tryz.underlying251 rfl rfl Tryz.underlying9 (by kernel_rfl) (by kernel_rfl)
  obtain rfl := Option.some.inj ((show Tryz.prog.globalNamed "strconv.ErrSyntax" = some 3 by kernel_rfl).symm.trans hg4)
  obtain rfl := Option.some.inj ((show (Tryz.prog.globals[3]?).map (·.type) = some 181 by kernel_rfl).symm.trans ht4)
  have r4 := Go.Ev.S.err_ok h'.tail.tail.tail.tail (g := 3) (by kernel_rfl) (ti := 181) (by kernel_rfl) Tryz.underlying181 (fun u hu => typeName_ptr_named (nm := "errors.errorString") (by rw [show "*" ++ "errors.errorString" = "*errors.errorString" by decide]; kernel_rfl) (by kernel_rfl) (by decide) u (by rw [show "*" ++ "errors.errorString" = "*errors.errorString" by decide]; exact hu)) Tryz.underlying249 Tryz.underlying251 rfl rfl Tryz.underlying9 (by kernel_rfl) (by kernel_rfl)
  by_cases z1 : g = 0
  · subst z1
    cases hv
    exact ⟨rfl, r1⟩
  by_cases z2 : g = 1
  · subst z2
    cases hv
    exact ⟨rfl, r2⟩
  by_cases z3 : g = 4
  · subst z3
    cases hv
    exact ⟨rfl, r3⟩
  by_cases z4 : g = 3
  · subst z4
    cases hv
    exact ⟨rfl, r4⟩
  unfold Go.Ev.S.gl at hv
  have y1 : Nat.beq 0 g = false := by rw [Bool.eq_false_iff]; intro hq; exact z1 (Nat.eq_of_beq_eq_true hq).symm
  have y2 : Nat.beq 1 g = false := by rw [Bool.eq_false_iff]; intro hq; exact z2 (Nat.eq_of_beq_eq_true hq).symm
  have y3 : Nat.beq 4 g = false := by rw [Bool.eq_false_iff]; intro hq; exact z3 (Nat.eq_of_beq_eq_true hq).symm
  have y4 : Nat.beq 3 g = false := by rw [Bool.eq_false_iff]; intro hq; exact z4 (Nat.eq_of_beq_eq_true hq).symm
  simp only [Go.Ev.look, y1, y2, y3, y4, cond_false] at hv
  cases hv
set_option maxRecDepth 100000 in
theorem lifted (os : Os) (started : os.Started) (H : Type) (enc : TypeId × Value → H) :
    ReturnsInHanded {} Tryz.checked os 6 .any (fun w args => (Rows.kindTextsSpec.pre enc Tryz.prog Tryz.f6 Rows.kindTextsRow.domain false w args ∧ laidMetH Tryz.prog Rows.kindTextsRow.laid w) ∧ sizedMet enc Tryz.prog Tryz.f6 (OpenSpec.ofChange Rows.kindTextsSpec) false w args) (Rows.kindTextsSpec.post enc Tryz.prog Tryz.f6 false true false false) := by
  refine returnsInHanded_of_change_and (C := Tryz.checked) (X := fun w _ => laidMetH Tryz.prog Rows.kindTextsRow.laid w) (fun _ _ _ hh h => h.of_heap hh) own started (by kernel_rfl) Tryz.func6
    (ChangeSpec.witness_shaped (enc := enc) (C := Tryz.checked) (os := os) (X := fun w _ => laidMetH Tryz.prog Rows.kindTextsRow.laid w) false (World.laidAll Tryz.prog os Rows.kindTextsRow.laid) #[.int .u8 0, .agg #[.int .u64 0, .int .u64 0], .string ByteArray.empty] 8 (World.laidAll_os _ _ _) (World.shaped_of_ZipB (by kernel_rfl) (by kernel_rfl)) (by kernel_rfl) (by kernel_rfl) (by kernel_rfl) (by rw [MakeChecks.laidMetH_plain _ _ _ (by kernel_rfl)]; exact laidMet_laidAll _ (by kernel_rfl) (by kernel_rfl))) ?_
  intro W base args ds gs before hval0 hW hcnd hsz0 hL _
  have hsz : (DataW.weightsEach Tryz.prog (Tryz.f6.params.toList ++ Rows.kindTextsSpec.plain.varTypes Tryz.prog) (ds ++ gs)).all (· ≤ reachBytes) = true := hsz0
  have yi3 : ∀ (j : Nat) t v, Tryz.f6.params[j]? = some t → args[j]? = some v → Value.okWide Tryz.prog W .any base t v := hval0
  have hW' := hW
  obtain ⟨p, q, hA0, hV, rfl, hfz, hnd⟩ := hW
  have hA : DataW.TrodAll enc Tryz.prog W 0 (fun _ => true) true Tryz.f6.params.toList args.toList ds p := hA0
  rw [Tryz.params6] at hA yi3 hsz
  obtain ⟨v0, vs0, d0, ds0, p0, q0, hargs, rfl, rfl, h0, r0⟩ := trodAll_cons hA
  obtain ⟨v1, vs1, d1, ds1, p1, q1, rfl, rfl, rfl, h1, r1⟩ := trodAll_cons r0
  obtain ⟨v2, vs2, d2, ds2, p2, q2, rfl, rfl, rfl, h2, r2⟩ := trodAll_cons r1
  obtain ⟨rfl, rfl, rfl⟩ := trodAll_nil r2
  obtain rfl : args = #[v0, v1, v2] := by cases args; simp_all
  obtain ⟨rfl, rfl⟩ := trodVars_none hV
  obtain ⟨a0, rfl, rfl, rfl, w0⟩ := open_int Tryz.underlying22 (yi3 0 22 v0 rfl rfl) h0
  have k1 := h1
  have lt1 : ∀ x ∈ p1, x.block < W.heap.size := by obtain ⟨m, hm⟩ := k1; exact DataW.trod_lt m _ _ _ hm
  obtain ⟨v1_0, v1_1, y1_0, y1_1, m1, rfl, rfl, rfl, h1_0, h1_1⟩ := open_agg2 Tryz.underlying30 (by kernel_rfl) (by kernel_rfl) (yi3 1 30 v1 rfl rfl) h1
  obtain ⟨a1_0, hc1_0, hd1_0, w1_0⟩ := DataW.trod_int Tryz.underlying24 h1_0
  obtain rfl : v1_0 = .int .u64 a1_0 := by simpa using hc1_0
  obtain ⟨a1_1, hc1_1, hd1_1, w1_1⟩ := DataW.trod_int Tryz.underlying24 h1_1
  obtain rfl : v1_1 = .int .u64 a1_1 := by simpa using hc1_1
  obtain ⟨a2, rfl, rfl, rfl, y2⟩ := open_string Tryz.underlying9 (yi3 2 9 v2 rfl rfl) h2
  have w2 : a2.size ≤ 140737488351232 := by
    have z := sized_string hsz (j := 2) (t := 9) rfl rfl
    rw [Array.length_toList] at z
    exact z
  clear hA0 hval0 hsz0 hsz
  refine (Go.Ev.law_walk (args := [.int .u8 a0, .agg [.int .u64 a1_0, .int .u64 a1_1], .str a2.data.toList]) Go.Ev.S.X_zav.ok ?_ ⟨_, _, rfl, rfl, ⟨_, _, rfl, ⟨_, rfl, ⟨_, _, rfl, rfl, ⟨_, _, rfl, rfl, rfl⟩⟩⟩, ⟨_, _, rfl, rfl, rfl⟩⟩⟩ (gl_ok hL)).mono fun e W' ⟨he, bel⟩ => ?_
  · exact Go.Ev.S.kindTexts (a0) (a1_0) (a1_1) (a2.data.toList) w0 w1_0 w1_1 (by rw [Array.length_toList]; exact w2) _ rfl
  subst he
  exact ⟨_, rfl, _, _, _, [], _, [], hW', trodAll_mk1 (shut_bool Tryz.underlying4 _), (trodAll_cons_mk (shut_int Tryz.underlying22 w0) (trodAll_cons_mk (Below.trod laidOut (by kernel_rfl) (of_decide_eq_true (by kernel_rfl)) k1 bel lt1) (trodAll_cons_mk (shut_string Tryz.underlying9 y2) trodAll_mk0))), rfl, bel.frame _, fun h => by cases h⟩
theorem over : Rows.kindTextsRow.holds Tryz.pinned (OpenSpec.ofChange Rows.kindTextsSpec) :=
  OpenClaim.holds_of_wide 6 Tryz.f6 rfl rfl rfl rfl rfl rfl rfl ⟨rfl, rfl, rfl, rfl, rfl⟩ rfl rfl rfl rfl rfl (by kernel_rfl) Tryz.func6 (by kernel_rfl)
    (of_decide_eq_true (by kernel_rfl)) (by unfold Func.isWrapper; first | (rw [if_pos (by decide +kernel)]; kernel_rfl) | (rw [if_neg (by decide +kernel)]; exact ⟨rfl, rfl⟩))
    (fun os started H enc _ => lifted os started H enc)
theorem proved : Rows.KindTextsSaid := over
theorem card : Rows.KindTextsCardSaid :=
  Claim7.holds_tied_plain_at .later [] [.data, .data, .data, .sentinel, .sentinel] true (true, "6ed099e302ae48ebfdf160fa2bd7cee2dd92e406ffa7ff67261ebb1ab64ecd36") true
    proved (fun _ h => by cases h) (by kernel_rfl) (fun _ h => by cases h) kindTexts_row_tie rfl ⟨rfl, rfl⟩ (by kernel_rfl) rfl
    (fun f fn hf hfn => by
      obtain rfl : f = 6 := Option.some.inj ((show Tryz.prog.funcNamed "abacus/abacuslaw08.KindTexts" = some 6 by kernel_rfl).symm.trans hf) |>.symm
      obtain rfl : fn = Tryz.f6 := (Option.some.inj (Tryz.func6.symm.trans hfn)).symm
      exact ⟨by kernel_rfl, fun j t ht => by
        rw [Tryz.params6] at ht
        have hm : t ∈ [22, 30, 9] := by simpa using Array.mem_of_getElem? ht
        have hall : ([22, 30, 9].all fun u => !Tryz.prog.wantsStandIn u) = true := by kernel_rfl
        exact (show Tryz.prog.wantsStandIn t = false by simpa using List.all_eq_true.1 hall t hm)⟩)
    (by kernel_rfl)
end Go.Proofs.YtfglhfahphncdaaGreatDoor.kindTexts
namespace Go.Proofs.YtfglhfahphncdaaGreatDoor
/-- The card, under a short name, for the claim. -/
theorem kindTexts_holds : Rows.KindTextsCardSaid := kindTexts.card
end Go.Proofs.YtfglhfahphncdaaGreatDoor
