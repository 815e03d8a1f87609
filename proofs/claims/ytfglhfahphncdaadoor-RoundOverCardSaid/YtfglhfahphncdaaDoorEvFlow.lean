/- The evaluator: regions, code, functions; and that it is sound. -/
import Derived.Test.YtfglhfahphncdaaDoorEvCode
set_option linter.unusedVariables false
set_option linter.unusedSimpArgs false
namespace Go.Ev
open Go

/-- The slots of a frame. -/
def RelT (gl : Nat → Option EV) (ρ : Ren) (w : World) (s : List EV) (a : Array Value) : Prop :=
  s.length = a.size ∧ (∀ (i : Nat) v, s[i]? = some v → v = .undef ∨ ∃ x, a[i]? = some x ∧ Rel ρ w v x) ∧ GOk gl ρ w

section sound
variable {P : Program} {E : Env}

theorem RelT.slot {ρ : Ren} {w : World} {s : St} {a : Act} (h : RelT E.gl ρ w s.tmps a.tmps) (t : Nat) : s.slot t = .undef ∨ Rel ρ w (s.slot t) (a.eval (.tmp t)) := by
  unfold St.slot
  cases hs : s.tmps[t]? with
  | none => exact .inl rfl
  | some v =>
    rcases h.2.1 t v hs with rfl | ⟨x, hx, hr⟩
    · exact .inl rfl
    · refine .inr ?_
      simp only [Option.getD_some, Act.eval, Array.getD_eq_getD_getElem?, hx]
      exact hr

theorem constV_rel {ρ : Ren} {w : World} (v : Value) : constV v = .undef ∨ Rel ρ w (constV v) v := by
  unfold constV
  split
  all_goals first
    | exact .inl rfl
    | exact .inr rfl
    | (refine .inr ?_; rename_i s; show Value.string s = .string ⟨s.data.toList.toArray⟩; simp)

theorem opd_rel {ρ : Ren} {w : World} {s : St} {a : Act} (h : RelT E.gl ρ w s.tmps a.tmps) (x : Operand) : (St.opd E s) x = .undef ∨ Rel ρ w ((St.opd E s) x) (a.eval x) := by
  cases x with
  | tmp t => exact h.slot t
  | const v => exact constV_rel v
  | global g =>
    simp only [St.opd]
    cases hg : E.gl g with
    | none => exact .inl rfl
    | some v => exact .inr (h.2.2 g v hg).2
  | func f => refine .inr ?_; simp only [St.opd, Rel, Act.eval]; exact ⟨#[], rfl, rfl⟩

theorem opd_ok {ρ : Ren} {w : World} {s : St} {a : Act} (h : RelT E.gl ρ w s.tmps a.tmps) {x : Operand} {v : EV} (he : (St.opd E s) x = v) (hv : v ≠ .undef) : Rel ρ w v (a.eval x) := by
  rcases opd_rel h x with h' | h'
  · exact absurd (he.symm.trans h') hv
  · exact he ▸ h'

theorem RelT.ext {ρ ρ' : Ren} {w w' : World} {s : List EV} {a : Array Value} (h : RelT E.gl ρ w s a) (he : Ext ρ w ρ' w') : RelT E.gl ρ' w' s a :=
  ⟨h.1, fun i v hv => (h.2.1 i v hv).imp id fun ⟨x, hx, hr⟩ => ⟨x, hx, hr.ext he⟩, h.2.2.ext he⟩

theorem RelT.set {ρ : Ren} {w : World} {s : List EV} {a : Array Value} (h : RelT E.gl ρ w s a) (d : Nat) (v : EV) (x : Value) (hv : v = .undef ∨ Rel ρ w v x) : RelT E.gl ρ w (s.set d v) (a.setIfInBounds d x) := by
  refine ⟨by simp [h.1], fun i u hu => ?_, h.2.2⟩
  by_cases hi : i = d
  · subst hi
    rw [List.getElem?_set] at hu
    simp at hu
    obtain ⟨hlt, rfl⟩ := hu
    refine hv.imp id fun hr => ⟨x, ?_, hr⟩
    rw [Array.getElem?_setIfInBounds_self_of_lt (by rw [← h.1]; exact hlt)]
  · rw [map_some_ne _ _ _ _ hi] at hu
    refine (h.2.1 i u hu).imp id fun ⟨y, hy, hr⟩ => ⟨y, ?_, hr⟩
    rw [Array.getElem?_setIfInBounds_ne (fun e => hi e.symm)]; exact hy

theorem RelT.put {ρ : Ren} {w : World} {s : St} {a : Act} (h : RelT E.gl ρ w s.tmps a.tmps) (d : Option Nat) (v : EV) (x : Value) (H : Heap) (hv : v = .undef ∨ Rel ρ w v x) :
    RelT E.gl ρ w (s.put d v H).tmps (a.put d x).tmps := by
  cases d with
  | none => exact h
  | some d => exact h.set d v x hv

theorem opdL_rel {ρ : Ren} {w : World} {s : St} {a : Act} (h : RelT E.gl ρ w s.tmps a.tmps) : ∀ (xs : List Operand), (∀ v ∈ xs.map (St.opd E s), v ≠ .undef) → RelL ρ w (xs.map (St.opd E s)) (xs.map a.eval)
  | [], _ => rfl
  | x :: xs, hu => by
    simp only [List.map_cons, RelL]
    exact ⟨_, _, rfl, opd_ok h rfl (hu _ (by simp)), opdL_rel h xs fun v hv => hu v (by simp at hv ⊢; exact .inr hv)⟩

theorem freeL_undef : ∀ (l : List EV), EV.freeL l = true → ∀ v ∈ l, v ≠ .undef
  | v :: l, h, u, hu => by
    simp only [EV.freeL, Bool.and_eq_true] at h
    rcases List.mem_cons.1 hu with rfl | hu
    · intro e; subst e; simp [EV.free] at h
    · exact freeL_undef l h.2 u hu

theorem roArgs_undef {H : Heap} : ∀ (ms : List (Option IntKind)) (vs : List EV), EV.freeL (roArgs H ms vs) = true → ∀ v ∈ vs, v ≠ .undef
  | m :: ms, v :: vs, h, u, hu => by
    simp only [roArgs, EV.freeL, Bool.and_eq_true] at h
    rcases List.mem_cons.1 hu with rfl | hu
    · intro e; subst e
      cases m <;> simp [roArg, EV.free] at h
    · exact roArgs_undef ms vs h.2 u hu
  | [], vs, h, u, hu => by
    cases vs with
    | nil => cases hu
    | cons v vs => exact freeL_undef _ (by simpa [roArgs] using h) u hu
  | _ :: _, [], h, u, hu => by cases hu

theorem roArgs_dfd {H : Heap} : ∀ (ms : List (Option IntKind)) (vs : List EV), dfdL (roArgs H ms vs) = true → ∀ v ∈ vs, v ≠ .undef
  | m :: ms, v :: vs, h, u, hu => by
    simp only [roArgs, dfdL, Bool.and_eq_true] at h
    rcases List.mem_cons.1 hu with rfl | hu
    · intro e; subst e
      cases m <;> simp [roArg, EV.dfd] at h
    · exact roArgs_dfd ms vs h.2 u hu
  | [], vs, h, u, hu => by
    cases vs with
    | nil => cases hu
    | cons v vs => exact dfdL_ne (by simpa [roArgs] using h) u hu
  | _ :: _, [], h, u, hu => by cases hu

theorem parts_rel {ρ : Ren} {w : World} {s : St} {a : Act} (hT : RelT E.gl ρ w s.tmps a.tmps) {ps : List (Nat × Operand)} (hd : dfdL (ps.map fun p => (St.opd E s) p.2) = true) :
    ∀ (i : Nat) (u : Nat × EV) (y : Nat × Value), (ps.map fun p => (p.1, (St.opd E s) p.2))[i]? = some u → (ps.map fun p => (p.1, a.eval p.2))[i]? = some y → Rel ρ w u.2 y.2 := by
  intro i u y hu hy
  rw [List.getElem?_map] at hu hy
  cases hp : ps[i]? with
  | none => simp [hp] at hu
  | some p =>
    simp [hp] at hu hy
    subst hu; subst hy
    exact opd_ok hT rfl (dfdL_ne hd _ (List.mem_map.2 ⟨p, List.mem_of_getElem? hp, rfl⟩))

/-- What an operation that leaves memory comes to. -/
theorem evV_sound {ρ : Ren} {w : World} {s : St} {a : Act} {o : Oper} {K : EV → Prop} (hE : ∀ t ti, E.ty t = some ti → OkTI P t ti)
    (hT : RelT E.gl ρ w s.tmps a.tmps) (hS : Sim ρ s.heap w) (h : evV E o.op s K) :
    ∃ v x, K v ∧ (v = .undef ∨ Rel ρ w v x) ∧ (execOp a.eval o).run P w = .ok (.value x) w := by
  obtain ⟨dst, op, ty, pos, after, guard⟩ := o
  simp only at h
  unfold evV at h
  have hv : ∀ (m : Sem Value) (x : Value), m.run P w = .ok x w → ((do pure (.value (← m)) : Sem Next)).run P w = .ok (.value x) w := by
    intro m x hm
    simp only [run_bind, hm, run_pure]
  split at h
  · exact ⟨_, _, h, opd_rel hT _, rfl⟩
  · exact ⟨_, _, h, opd_rel hT _, rfl⟩
  · rename_i c xa xb
    split at h
    · rename_i t ht
      have hc := opd_ok hT ht (by simp)
      simp only [Rel] at hc
      rw [br_iff] at h
      cases t with
      | true => exact ⟨_, _, h.1 rfl, opd_rel hT xa, by simp [execOp, hc, asBool, run_bind, run_pure]⟩
      | false => exact ⟨_, _, h.2 rfl, opd_rel hT xb, by simp [execOp, hc, asBool, run_bind, run_pure]⟩
    · exact h.elim
  · rename_i t ps
    rw [gd_iff] at h
    obtain ⟨hd, h⟩ := h
    obtain ⟨v, z, h1, h2, h3⟩ := evBuild_sound (qs := ps.toList.map fun p => (p.1, a.eval p.2)) hE (by rw [List.map_map, List.map_map]; rfl) (parts_rel hT hd) h
    refine ⟨v, z, h1, .inr h2, ?_⟩
    have : (ps.map fun (p : Nat × Operand) => (p.1, a.eval p.2)) = (ps.toList.map fun p => (p.1, a.eval p.2)).toArray := by
      apply Array.ext'; rw [Array.toList_map]
    have h4 := hv _ _ h3
    rw [← this] at h4
    exact h4
  · rename_i t x
    by_cases hu : (St.opd E s) x = .undef
    · rw [hu] at h; exact h.elim
    · obtain ⟨u, y, h1, h2, h3⟩ := evLoad_sound hE hS (opd_ok hT rfl hu) h
      exact ⟨u, y, h1, .inr h2, hv _ _ h3⟩
  · rename_i op t x y _
    rw [gd_iff, Bool.and_eq_true] at h
    obtain ⟨v, z, h1, h2, h3⟩ := evBin_sound (ox := x) (oy := y) hE (opd_ok hT rfl (dfd_ne h.1.1)) (opd_ok hT rfl (dfd_ne h.1.2)) h.2
    exact ⟨v, z, h1, .inr (h2 _ _), hv _ _ h3⟩
  · rename_i op _ x
    by_cases hu : (St.opd E s) x = .undef
    · rw [hu] at h; cases op <;> exact h.elim
    · obtain ⟨v, z, h1, h2, h3⟩ := evUn_sound (opd_ok hT rfl hu) h
      exact ⟨v, z, h1, .inr (h2 _ _), hv _ _ h3⟩
  · rename_i src dst x
    rw [gd_iff] at h
    obtain ⟨v, z, h1, h2, h3⟩ := evConv_sound hE hS (opd_ok hT rfl (dfd_ne h.1)) h.2
    exact ⟨v, z, h1, .inr (h2 _ _), hv _ _ h3⟩
  · rename_i t x f
    rw [gd_iff] at h
    obtain ⟨v, z, h1, h2, h3⟩ := evFieldAddr_sound hE hS (opd_ok hT rfl (dfd_ne h.1)) h.2
    exact ⟨v, z, h1, .inr h2, hv _ _ h3⟩
  · rename_i t x f
    rw [gd_iff] at h
    obtain ⟨v, z, h1, h2, h3⟩ := evField_sound hE (opd_ok hT rfl (dfd_ne h.1)) h.2
    exact ⟨v, z, h1, .inr h2, hv _ _ h3⟩
  · rename_i t x i
    rw [gd_iff, Bool.and_eq_true] at h
    obtain ⟨v, z, h1, h2, h3⟩ := evIndexAddr_sound hE hS (opd_ok hT rfl (dfd_ne h.1.1)) (opd_ok hT rfl (dfd_ne h.1.2)) h.2
    exact ⟨v, z, h1, .inr h2, hv _ _ h3⟩
  · rename_i t x i
    rw [gd_iff, Bool.and_eq_true] at h
    obtain ⟨v, z, h1, h2, h3⟩ := evIndex_sound hE (opd_ok hT rfl (dfd_ne h.1.1)) (opd_ok hT rfl (dfd_ne h.1.2)) h.2
    exact ⟨v, z, h1, .inr h2, hv _ _ h3⟩
  · rename_i x i
    by_cases hu : (St.opd E s) x = .undef
    · rw [hu] at h; exact h.elim
    · obtain ⟨v, z, h1, h2, h3⟩ := evExtract_sound (opd_ok hT rfl hu) h
      exact ⟨v, z, h1, .inr h2, hv _ _ h3⟩
  · rename_i f cs
    rw [gd_iff] at h
    refine ⟨_, .func (.func f) #[] (cs.map a.eval), h.2, .inr ?_, by simp [execOp, Instr.makeFunc, run_bind, run_pure]⟩
    simp only [Rel]
    exact ⟨_, rfl, by rw [Array.toList_map]; exact opdL_rel hT _ (dfdL_ne h.1)⟩
  · rename_i t x lo hi mx
    rw [gd_iff] at h
    simp only [Bool.and_eq_true] at h
    obtain ⟨⟨d1, d2, d3, d4⟩, h⟩ := h
    have ho : ∀ (q : Option Operand), dfdO (q.map (St.opd E s)) = true → ORel ρ w (q.map (St.opd E s)) (q.map a.eval) := by
      intro q hq
      cases q with
      | none => trivial
      | some q => exact opd_ok hT rfl (dfd_ne hq)
    obtain ⟨v, z, h1, h2, h3⟩ := evSlice_sound hE hS (opd_ok hT rfl (dfd_ne d1)) (ho lo d2) (ho hi d3) (ho mx d4) h
    exact ⟨v, z, h1, .inr h2, hv _ _ h3⟩
  · rename_i x t
    rw [gd_iff] at h
    obtain ⟨v, z, h1, h2, h3⟩ := evLen_sound (ty := ty) hE (opd_ok hT rfl (dfd_ne h.1)) h.2
    refine ⟨v, z, h1, .inr (h2 _ _), ?_⟩
    simp only [execOp, resolve, run_bind, run_pure, invoke, builtin]
    have : (⟨[x]⟩ : Array Operand).map a.eval = #[a.eval x] := by simp
    rw [this, h3]
  · rename_i xs ts
    rw [gd_iff] at h
    obtain ⟨v, z, y, ys', h1, h2, h3, h4⟩ := evMM_sound (P := P) (f2 := Builtin.max2) max2_run (opdL_rel hT xs.toList (dfdL_ne h.1)) h.2
    refine ⟨v, z, h1, .inr h2, ?_⟩
    simp only [execOp, resolve, run_bind, run_pure, invoke, builtin]
    have : (Builtin.max_ ts ty (xs.map a.eval)).run P w = .ok z w := by
      simp only [Builtin.max_, Array.toList_map, h3]
      exact h4
    rw [this]
  · rename_i xs ts
    rw [gd_iff] at h
    obtain ⟨v, z, y, ys', h1, h2, h3, h4⟩ := evMM_sound (P := P) (f2 := Builtin.min2) min2_run (opdL_rel hT xs.toList (dfdL_ne h.1)) h.2
    refine ⟨v, z, h1, .inr h2, ?_⟩
    simp only [execOp, resolve, run_bind, run_pure, invoke, builtin]
    have : (Builtin.min_ ts ty (xs.map a.eval)).run P w = .ok z w := by
      simp only [Builtin.min_, Array.toList_map, h3]
      exact h4
    rw [this]
  · exact h.elim

/-- One operation. -/
theorem evOp_sound {ρ : Ren} {w : World} {s : St} {a : Act} {o : Oper} {K : EV → Heap → Prop} {next : Act → World → Prop} {Q : Exit → Act → World → Prop}
    (hE : ∀ t ti, E.ty t = some ti → OkTI P t ti) (hFn : OkFn P E) (hT : RelT E.gl ρ w s.tmps a.tmps) (hS : Sim ρ s.heap w) (h : evOp E o.op s K)
    (hn : ∀ v H ρ' w' x, K v H → (v = .undef ∨ Rel ρ' w' v x) → Sim ρ' H w' → Ext ρ w ρ' w' → ρ'.F = ρ.F → next (a.put o.dst x) w') : o.wp P a w next Q := by
  obtain ⟨dst, op, ty, pos, after, guard⟩ := o
  simp only at h hn
  unfold evOp at h
  have hv : ∀ (m : Sem Value) (x : Value) (w' : World), m.run P w = .ok x w' → ((do pure (.value (← m)) : Sem Next)).run P w = .ok (.value x) w' := by
    intro m x w' hm
    simp only [run_bind, hm, run_pure]
  split at h
  · rename_i t
    split at h
    · rename_i ti ht
      obtain ⟨d, it, z, h1, h2, h3, h4, h5, h6, h7⟩ := hE t ti ht
      obtain ⟨u, H', ρ', w', y, k1, k2, k3, k4, k5, k6⟩ := evNew_sound (P := P) t hS (encV_rel ti.zero z h7) h
      have hr : (execOp a.eval { dst, op := .alloc t, type := ty, pos, after, guard }).run P w = .ok (.value (.pointer (some y))) w' := by
        refine hv _ _ _ ?_
        simp only [Instr.alloc, run_bind, run_zeroValue h2 h6, k6, run_pure]
      simp only [Oper.wp, hr, Oper.upon]
      exact hn _ _ _ _ _ k1 (.inr k5) k2 k3 k4
    · exact h.elim
  · rename_i t x
    have hx : (St.opd E s) x ≠ .undef := by
      intro e; rw [e] at h; exact h.elim
    have h' : evNew s.heap ((St.opd E s) x) K := by
      revert h
      cases hq : (St.opd E s) x <;> intro h <;> first | exact absurd hq hx | exact h
    obtain ⟨u, H', ρ', w', y, k1, k2, k3, k4, k5, k6⟩ := evNew_sound (P := P) t hS (opd_ok hT rfl hx) h'
    have hr : (execOp a.eval { dst, op := .box t x, type := ty, pos, after, guard }).run P w = .ok (.value (.pointer (some y))) w' := by
      refine hv _ _ _ ?_
      simp only [Instr.box, run_bind, k6, run_pure]
    simp only [Oper.wp, hr, Oper.upon]
    exact hn _ _ _ _ _ k1 (.inr k5) k2 k3 k4
  · rename_i t n ps
    rw [gd_iff] at h
    obtain ⟨hd, h⟩ := h
    obtain ⟨u, H', ρ', w', y, k1, k2, k3, k4, k5, k6⟩ := evBuildSlice_sound (qs := ps.toList.map fun p => (p.1, a.eval p.2)) hE hS (by rw [List.map_map, List.map_map]; rfl) (parts_rel hT hd) h
    have e1 : (ps.map fun (p : Nat × Operand) => (p.1, a.eval p.2)) = (ps.toList.map fun p => (p.1, a.eval p.2)).toArray := by
      apply Array.ext'; rw [Array.toList_map]
    have hr : (execOp a.eval { dst, op := .buildSlice t n ps, type := ty, pos, after, guard }).run P w = .ok (.value y) w' := by
      have h4 := hv _ _ _ k6
      rw [← e1] at h4
      exact h4
    simp only [Oper.wp, hr, Oper.upon]
    exact hn _ _ _ _ _ k1 (.inr k5) k2 k3 k4
  · rename_i t x y
    have hx : (St.opd E s) x ≠ .undef := by
      intro e; rw [e] at h; exact h.elim
    have hy : (St.opd E s) y ≠ .undef := by
      intro e
      rw [e] at h
      revert h
      cases (St.opd E s) x <;> intro h <;> try exact h.elim
      simp only [evStore] at h
      split at h
      · split at h
        · simp [gd, EV.storable] at h
        · exact h.elim
      · exact h.elim
    obtain ⟨H', w', k1, k2, k3, k4⟩ := evStore_sound hE hS (opd_ok hT rfl hx) (opd_ok hT rfl hy) h
    have hr : (execOp a.eval { dst, op := .store t x y, type := ty, pos, after, guard }).run P w = .ok .skip w' := by
      show ((do Instr.storeAt t (a.eval x) (a.eval y); pure .skip : Sem Next)).run P w = _
      simp only [run_bind, k4, run_pure]
    simp only [Oper.wp, hr, Oper.upon]
    exact hn _ _ _ _ undef k1 (.inl rfl) k2 k3 rfl
  · rename_i t ln cp
    rw [gd_iff, Bool.and_eq_true] at h
    obtain ⟨⟨d1, d2⟩, h⟩ := h
    obtain ⟨u, H', ρ', w', y, k1, k2, k3, k4, k5, k6⟩ := evMakeSlice_sound (P := P) hE hS (opd_ok hT rfl (dfd_ne d1)) (opd_ok hT rfl (dfd_ne d2)) h
    have hr : (execOp a.eval { dst, op := .makeSlice t ln cp, type := ty, pos, after, guard }).run P w = .ok (.value y) w' := hv _ _ _ k6
    simp only [Oper.wp, hr, Oper.upon]
    exact hn _ _ _ _ _ k1 (.inr k5) k2 k3 k4
  · rename_i f xs ts
    have hf : (St.opd E s) f ≠ .undef := by
      intro e; rw [e] at h; exact h.elim
    have hxs : ∀ v ∈ xs.toList.map (St.opd E s), v ≠ .undef := by
      revert h
      cases hq : (St.opd E s) f <;> intro h <;> try exact h.elim
      simp only [evCall] at h
      split at h
      · rename_i en he
        rw [cd_iff] at h
        intro v hv'
        cases hl : en.lend with
        | true =>
          have h' := h.1 hl
          unfold evCallL at h'
          rw [gd_iff, Bool.and_eq_true] at h'
          exact roArgs_dfd _ _ h'.1.1 v (List.mem_append.2 (.inl hv'))
        | false =>
          have h' := h.2 hl
          rw [gd_iff] at h'
          exact roArgs_undef _ _ h'.1 v (List.mem_append.2 (.inl hv'))
      · exact h.elim
    obtain ⟨g, ys, k1, k2⟩ := evCall_sound (xs := xs.map a.eval) hFn hS hT.2.2 (opd_ok hT rfl hf) (by rw [Array.toList_map]; exact opdL_rel hT _ hxs) h
    have hr : (execOp a.eval { dst, op := .call { callee := .value f, args := xs, argTypes := ts }, type := ty, pos, after, guard }).run P w = .ok (.enter g ys) w := k1
    simp only [Oper.wp, hr, Oper.upon]
    refine k2.mono ?_
    rintro e w' ⟨v, x, H', ρ', rfl, q1, q2, q3, q4, q5⟩
    exact hn _ _ _ _ _ q1 (.inr q5) q2 q3 q4
  · rename_i x y t u
    rw [gd_iff, Bool.and_eq_true] at h
    obtain ⟨⟨d1, d2⟩, h⟩ := h
    obtain ⟨u', H', ρ', w', z, k1, k2, k3, k4, k5, k6⟩ := evAppend_sound (P := P) (ty := ty) hE hS (opd_ok hT rfl (dfd_ne d1)) (opd_ok hT rfl (dfd_ne d2)) h
    have hr : (execOp a.eval { dst, op := .call { callee := .builtin .append, args := ⟨[x, y]⟩, argTypes := ⟨[t, u]⟩ }, type := ty, pos, after, guard }).run P w = .ok (.value z) w' := by
      simp only [execOp, resolve, run_bind, run_pure, invoke, builtin]
      have : (⟨[x, y]⟩ : Array Operand).map a.eval = #[a.eval x, a.eval y] := by simp
      rw [this, k6]
    simp only [Oper.wp, hr, Oper.upon]
    exact hn _ _ _ _ _ k1 (.inr k5) k2 k3 k4
  · rename_i x y t u
    rw [gd_iff, Bool.and_eq_true] at h
    obtain ⟨⟨d1, d2⟩, h⟩ := h
    obtain ⟨u', H', w', z, k1, k2, k3, k4, k5⟩ := evCopy_sound (P := P) (t' := u) (ty := ty) hE hS (opd_ok hT rfl (dfd_ne d1)) (opd_ok hT rfl (dfd_ne d2)) h
    have hr : (execOp a.eval { dst, op := .call { callee := .builtin .copy, args := ⟨[x, y]⟩, argTypes := ⟨[t, u]⟩ }, type := ty, pos, after, guard }).run P w = .ok (.value z) w' := by
      simp only [execOp, resolve, run_bind, run_pure, invoke, builtin]
      have : (⟨[x, y]⟩ : Array Operand).map a.eval = #[a.eval x, a.eval y] := by simp
      rw [this, k5]
    simp only [Oper.wp, hr, Oper.upon]
    exact hn _ _ _ _ _ k1 (.inr k4) k2 k3 rfl
  · obtain ⟨v, x, k1, k2, k3⟩ := evV_sound (o := { dst, op, type := ty, pos, after, guard }) hE hT hS h
    simp only [Oper.wp, k3, Oper.upon]
    exact hn _ _ _ _ _ k1 k2 hS (Ext.refl _ _) rfl
end sound

/-- One operation of a region, with its guard. -/
def evOne (E : Env) (ops : List Oper) (o : Oper) (s : St) (K : St → Prop) : Prop :=
  match o.guard with
  | none => evOp E o.op s fun v H => K (s.put o.dst v H)
  | some (j, want) => match ops[j]? with
    | some oj => match oj.dst with
      | some d => match s.slot d with
        | .bool b => br b
            (cond (beqB true want) (evOp E o.op (s.put (some d) (.bool true) s.heap) fun v H => K ((s.put (some d) (.bool true) s.heap).put o.dst v H)) (K ((s.put (some d) (.bool true) s.heap).put o.dst (.tuple []) s.heap)))
            (cond (beqB false want) (evOp E o.op (s.put (some d) (.bool false) s.heap) fun v H => K ((s.put (some d) (.bool false) s.heap).put o.dst v H)) (K ((s.put (some d) (.bool false) s.heap).put o.dst (.tuple []) s.heap)))
        | .tuple [] => K (s.put o.dst (.tuple []) s.heap)
        | _ => False
      | none => False
    | none => False

def evOps (E : Env) (ops : List Oper) : List Oper → St → (St → Prop) → Prop
  | [], s, K => K s
  | o :: r, s, K => evOne E ops o s fun s' => evOps E ops r s' K

section sound
variable {P : Program} {E : Env}

theorem put_same {s : List EV} {d : Nat} {v : EV} (h : s[d]? = some v) : s.set d v = s := by
  apply List.ext_getElem?
  intro i
  by_cases hi : i = d
  · subst hi
    have hlt : i < s.length := by
      rcases Nat.lt_or_ge i s.length with hh | hh
      · exact hh
      · rw [List.getElem?_eq_none hh] at h; cases h
    rw [List.getElem?_set_self hlt, h]
  · rw [map_some_ne _ _ _ _ hi]

theorem slot_some {s : St} {d : Nat} {v : EV} (h : s.slot d = v) (hv : v ≠ .undef) : s.tmps[d]? = some v := by
  unfold St.slot at h
  cases hs : s.tmps[d]? with
  | none => rw [hs] at h; exact absurd h.symm hv
  | some u => rw [hs] at h; simpa using h

theorem evOne_sound {ρ : Ren} {w : World} {s : St} {a : Act} {ops : Array Oper} {i : Nat} {o : Oper} {K : St → Prop} {next : Act → World → Prop} {Q : Exit → Act → World → Prop}
    (hE : ∀ t ti, E.ty t = some ti → OkTI P t ti) (hFn : OkFn P E) (hi : ops[i]? = some o) (hT : RelT E.gl ρ w s.tmps a.tmps) (hS : Sim ρ s.heap w) (h : evOne E ops.toList o s K)
    (hn : ∀ s' ρ' w' a', K s' → RelT E.gl ρ' w' s'.tmps a'.tmps → a'.defers = a.defers → Sim ρ' s'.heap w' → Ext ρ w ρ' w' → ρ'.F = ρ.F → next a' w') : wpOp P ops Q i next a w := by
  unfold wpOp
  simp only [hi]
  have hput : ∀ (x : Value), (a.put o.dst x).defers = a.defers := by intro x; cases o.dst <;> rfl
  have run : ∀ (s1 : St), s1.heap = s.heap → RelT E.gl ρ w s1.tmps a.tmps → (evOp E o.op s1 fun v H => K (s1.put o.dst v H)) → o.wp P a w next Q := by
    intro s1 hh hT1 h1
    refine evOp_sound hE hFn hT1 (hh ▸ hS) h1 ?_
    intro v H ρ' w' x hK hv hS' hX hF
    refine hn _ _ _ _ hK ((hT1.ext hX).put o.dst v x H hv) (hput x) ?_ hX hF
    cases o.dst <;> exact hS'
  unfold evOne at h
  split at h
  · rename_i hg
    have : Region.wanted o (yielded ops a.tmps) = true := by simp [Region.wanted, hg]
    rw [if_pos this]
    exact .inl (run s rfl hT h)
  · rename_i j want hg
    split at h
    · rename_i oj hj
      split at h
      · rename_i d hd
        split at h
        · rename_i b hb
          have hsl := slot_some hb (by simp)
          have hby : yielded ops a.tmps j = some b := by
            rcases hT.2.1 d _ hsl with h' | ⟨x, hx, hr⟩
            · cases h'
            · simp only [Rel] at hr; subst hr
              have hj' : ops[j]? = some oj := by rw [Array.getElem?_toList] at hj; exact hj
              simp [yielded, hj', hd, hx]
          have hw : Region.wanted o (yielded ops a.tmps) = beqB b want := by
            simp only [Region.wanted, hg, hby]
            cases b <;> cases want <;> rfl
          have hset : s.put (some d) (.bool b) s.heap = s := by
            simp only [St.put, put_same hsl]
          rw [br_iff] at h
          have h2 : cond (beqB b want) (evOp E o.op s fun v H => K (s.put o.dst v H)) (K (s.put o.dst (.tuple []) s.heap)) := by
            cases b with
            | true => have := h.1 rfl; rw [hset] at this; exact this
            | false => have := h.2 rfl; rw [hset] at this; exact this
          rw [cd_iff] at h2
          rw [hw]
          cases hbw : beqB b want with
          | true => simp only [if_true]; exact .inl (run s rfl hT (h2.1 hbw))
          | false =>
            simp only [Bool.false_eq_true, if_false]
            refine hn _ ρ w _ (h2.2 hbw) (hT.put o.dst (.tuple []) undef s.heap (.inr ⟨#[], rfl, rfl⟩)) (hput _) ?_ (Ext.refl _ _) rfl
            cases o.dst <;> exact hS
        · rename_i hb
          have hsl := slot_some hb (by simp)
          have hby : yielded ops a.tmps j = none := by
            rcases hT.2.1 d _ hsl with h' | ⟨x, hx, hr⟩
            · cases h'
            · simp only [Rel, RelL] at hr
              obtain ⟨vs, rfl, hv⟩ := hr
              have hj' : ops[j]? = some oj := by rw [Array.getElem?_toList] at hj; exact hj
              simp [yielded, hj', hd, hx]
          have hw : Region.wanted o (yielded ops a.tmps) = false := by
            simp only [Region.wanted, hg, hby]
            rfl
          rw [hw]
          simp only [Bool.false_eq_true, if_false]
          refine hn _ ρ w _ h (hT.put o.dst (.tuple []) undef s.heap (.inr ⟨#[], rfl, rfl⟩)) (hput _) ?_ (Ext.refl _ _) rfl
          cases o.dst <;> exact hS
        · exact h.elim
      · exact h.elim
    · exact h.elim

theorem evOps_sound {ops : Array Oper} {Q : Exit → Act → World → Prop} (hE : ∀ t ti, E.ty t = some ti → OkTI P t ti) (hFn : OkFn P E) :
    ∀ (r : List Oper) (i : Nat), ops.toList.drop i = r → ∀ (ρ : Ren) (w : World) (s : St) (a : Act) (K : St → Prop), RelT E.gl ρ w s.tmps a.tmps → Sim ρ s.heap w → evOps E ops.toList r s K →
      (∀ s' ρ' w' a', K s' → RelT E.gl ρ' w' s'.tmps a'.tmps → a'.defers = a.defers → Sim ρ' s'.heap w' → Ext ρ w ρ' w' → ρ'.F = ρ.F → Q .normal a' w') →
      wpOps P ops Q (List.range' i r.length) a w
  | [], i, hd, ρ, w, s, a, K, hT, hS, h, hn => by
    simp only [List.length_nil, List.range'_zero, wpOps]
    exact hn s ρ w a h hT rfl hS (Ext.refl _ _) rfl
  | o :: r, i, hd, ρ, w, s, a, K, hT, hS, h, hn => by
    have hio : ops[i]? = some o := by
      have := congrArg (fun l => l[0]?) hd
      simpa using this
    have hdr : ops.toList.drop (i + 1) = r := by
      rw [← List.drop_drop, hd]; rfl
    rw [List.length_cons, List.range'_succ, wpOps_cons]
    simp only [evOps] at h
    refine evOne_sound hE hFn hio hT hS h ?_
    intro s' ρ' w' a' hK hT' hD hS' hX hF
    refine evOps_sound hE hFn r (i + 1) hdr ρ' w' s' a' K hT' hS' hK ?_
    intro s'' ρ'' w'' a'' hK' hT'' hD' hS'' hX' hF'
    exact hn s'' ρ'' w'' a'' hK' hT'' (hD'.trans hD) hS'' (hX.trans hX') (hF'.trans hF)
end sound
end Go.Ev
