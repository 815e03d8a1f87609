/- A function with ranges over functions: its call; the fast form. -/
import Derived.Test.YtdnndfaojopnbaaEvC
import Derived.DataShut
import Derived.Lib.SmallJoins
set_option linter.unusedVariables false
set_option linter.unusedSimpArgs false
namespace Go.Ev
open Go Go.RowKit
theorem Mk.put {lo hi : Nat} {ρ : Ren} {w : World} {D : Nat} (o : Obj) : ∀ {ds : List Deferred}, (∀ d' ∈ ds, d' ≠ { target := .collected D, args := #[] }) → Mk lo hi ρ w ds → Mk lo hi ρ (w.putObj D o) ds
  | [], _, _ => trivial
  | d :: ds, hne, ⟨⟨D', h1, h2, h3, h4, h5, h6⟩, h⟩ => ⟨⟨D', h1, h2, h3, h4, (World.putObj_heap_other (fun e => hne d List.mem_cons_self (by rw [h1, e]))).trans h5, h6⟩, Mk.put o (fun d' hd => hne d' (List.mem_cons_of_mem _ hd)) h⟩
section sound
variable {P : Program} {E : Env} {its : FuncId → Option It}
theorem leaves_marks {n lo : Nat} {fn : Func} {tmps : Array Value} {R : Ending → World → Prop} {ρ : Ren} : ∀ (ds : List Deferred) (w : World), Mk lo w.heap.size ρ w ds → (∀ w'', Grow lo w w'' → ∃ v, (results fn tmps).run P w'' = .ok v w'' ∧ R (.returned v) w'') → LeavesInM Fence.wide n P fn tmps R ds .returning w
  | [], w, _, h => h w (Grow.refl _ _)
  | d :: ds, w, ⟨⟨D, h1, h2, h3, h4, h5, h6⟩, hM⟩, h => by
    subst h1
    refine ⟨by simp, .inl ⟨D, w.putObj D (.deferred none), rfl, run_takeDeferred h5, ?_⟩⟩
    have hM' := Mk.put (.deferred none) h6 hM
    refine leaves_marks ds _ (by rw [World.putObj_size]; exact hM') fun w'' gr => ?_
    exact h w'' ((Grow.put w (.deferred none) h2 h5 rfl).trans gr)
theorem evFnR_sound {f : FuncId} {fn : Func} {own : Bool} (hE : ∀ t ti, E.ty t = some ti → OkTI P t ti) (hFn : OkFn P E) (hD : DetFn E) (hm : P.follows .mixedOrders = true) (hf : P.funcs[f]? = some fn)
    (hIt : ∀ g it, its g = some it → ItOK P g it)
    {ρ : Ren} {H : Heap} {w : World} {args : List EV} {xs : List Value} {K : EV → Heap → Prop} (h : evFnR E its fn own args H K) (hr : RelL ρ w args xs) (hS : Sim ρ H w) (hG : GOk E.gl ρ w) :
    Calls P f xs.toArray w fun e w' => ∃ v x H' ρ', e = .returned x ∧ K v H' ∧ Rel ρ' w' v x ∧ Sim ρ' H' w' ∧ Ext ρ w ρ' w' ∧ ρ'.F = ρ.F := by
  unfold evFnR at h
  split at h
  · rename_i c hc
    refine callsIn_wide.1 (callsIn_of_wp_marks (F := Fence.wide) (n := 0) hf hc trivial ?_ rfl)
    have hlen : ∀ (l : List EV) (ys : List Value), RelL ρ w l ys → l.length = ys.length := by
      intro l
      induction l with
      | nil => intro ys h; simp only [RelL] at h; subst h; rfl
      | cons v l ih =>
        intro ys h
        simp only [RelL] at h
        obtain ⟨y, zs, rfl, _, h2⟩ := h
        simp [ih zs h2]
    have hget : ∀ (l : List EV) (ys : List Value) (i : Nat) (v : EV), RelL ρ w l ys → l[i]? = some v → ∃ y, ys[i]? = some y ∧ Rel ρ w v y := by
      intro l
      induction l with
      | nil => intro ys i v _ h; simp at h
      | cons u l ih =>
        intro ys i v hr hv
        simp only [RelL] at hr
        obtain ⟨y, zs, rfl, h1, h2⟩ := hr
        cases i with
        | zero => simp at hv; subst hv; exact ⟨y, rfl, h1⟩
        | succ i => simp at hv; simpa using ih zs i v h2 hv
    have hl := hlen args xs hr
    have hT : RelT E.gl ρ w (args ++ List.replicate (fn.ntmps - args.length) .undef) (xs.toArray ++ Array.replicate (fn.ntmps - xs.toArray.size) undef) := by
      refine ⟨by simp [hl], fun i v hv => ?_, hG⟩
      rw [List.getElem?_append] at hv
      split at hv
      · rename_i hi
        obtain ⟨y, hy, hv'⟩ := hget args xs i v hr hv
        refine .inr ⟨y, ?_, hv'⟩
        rw [Array.getElem?_append_left (by simp; omega)]
        simpa using hy
      · left
        have := List.mem_of_getElem? hv
        exact (List.eq_of_mem_replicate this)
    refine evCodeR_sound hE hFn hD hm hIt w.heap.size c ρ w _ _ _ _ hT hS (Nat.le_refl _) trivial h ?_
    intro ex s' ρ' w' a' hK hT' hS' hX' hF' hM'
    have key : (evResults E fn.results.toList s' fun vs => retK H.length (cond own [] (fn.resultTypes.toList.map (roTy E))) vs s'.heap K) → ∀ w'', Grow w.heap.size w' w'' →
        ∃ x, (results fn a'.tmps).run P w'' = .ok x w'' ∧ ∃ v H' ρ'', K v H' ∧ Rel ρ'' w'' v x ∧ Sim ρ'' H' w'' ∧ Ext ρ w ρ'' w'' ∧ ρ''.F = ρ.F := by
      intro hK w'' gr
      obtain ⟨vs, ys, k1, k2, k3⟩ := evResults_sound hE (hT'.grow gr) (hS'.grow gr) _ _ hK
      have hres : (results fn a'.tmps).run P w'' = .ok (if h : ys.length = 1 then ys[0] else .tuple ys.toArray) w'' := by
        have h0 : results fn a'.tmps = (do
            let vs ← fn.results.mapM (resOf a'.tmps)
            pure (if h : vs.size = 1 then vs[0] else .tuple vs)) := rfl
        rw [h0, run_bind]
        have : (fn.results.mapM (resOf a'.tmps)).run P w'' = .ok ys.toArray w'' := by
          rw [show fn.results = fn.results.toList.toArray from by simp, List.mapM_toArray]
          rw [show (List.toArray <$> List.mapM (resOf a'.tmps) fn.results.toList) = (List.mapM (resOf a'.tmps) fn.results.toList >>= fun a => pure a.toArray) from rfl, run_bind, k3]
          rfl
        rw [this]
        simp only [run_pure]
        congr 1
      exact ⟨_, hres, retK_sound (hS'.grow gr) (hX'.grow gr (Nat.le_refl _)) hF' hS.len.symm k2 k1⟩
    cases ex with
    | exit id => exact hK.elim
    | normal =>
      refine leaves_marks a'.defers w' hM' fun w'' gr => ?_
      obtain ⟨x, h1, v, H', ρ'', h2, h3, h4, h5, h6⟩ := key hK w'' gr
      exact ⟨x, h1, v, x, H', ρ'', rfl, h2, h3, h4, h5, h6⟩
    | ret =>
      refine leaves_marks a'.defers w' hM' fun w'' gr => ?_
      obtain ⟨x, h1, v, H', ρ'', h2, h3, h4, h5, h6⟩ := key hK w'' gr
      exact ⟨x, h1, v, x, H', ρ'', rfl, h2, h3, h4, h5, h6⟩
  · exact h.elim
theorem evRounds_det {sA sB : St → (Ex → St → Prop) → Prop} (hA : ∀ s, Det2 (sA s)) (hB : ∀ s, Det2 (sB s)) (p : Nat) (t0 : List EV) (cn : Heap → NV → Option Bool) : ∀ (xs : List NV) (H : Heap), Det2 (evRounds sA sB p t0 cn xs H)
  | [], H => Det2.of (det_pure (Ex.normal, (⟨t0, H⟩ : St)))
  | x :: xs, H => by
    refine Det2.of ?_
    show Det (fun K : Ex × St → Prop => match cn H x with
      | some c => br c (sA ⟨t0.set p (.int x.1 x.2), H⟩ fun ex s1 => match ex with
        | .normal => sB s1 fun ex s2 => match ex with
          | .normal => evRounds sA sB p t0 cn xs s2.heap fun e s => K (e, s)
          | .exit id => K (.exit id, ⟨t0, s2.heap⟩)
          | .ret => K (.ret, ⟨t0, s2.heap⟩)
        | _ => False) (evRounds sA sB p t0 cn xs H fun e s => K (e, s))
      | none => False)
    cases cn H x with
    | none => exact det_false
    | some c =>
    refine det_br ?_ (evRounds_det hA hB p t0 cn xs H).to
    refine det_bind (T := fun K : Ex × St → Prop => sA ⟨t0.set p (.int x.1 x.2), H⟩ fun e s => K (e, s)) (U := fun (q : Ex × St) (K : Ex × St → Prop) => match q.1 with
      | .normal => sB q.2 fun ex s2 => match ex with
        | .normal => evRounds sA sB p t0 cn xs s2.heap fun e s => K (e, s)
        | .exit id => K (.exit id, ⟨t0, s2.heap⟩)
        | .ret => K (.ret, ⟨t0, s2.heap⟩)
      | _ => False) (hA _).to ?_
    rintro ⟨e, s1⟩
    cases e with
    | exit id => exact det_false
    | ret => exact det_false
    | normal =>
      refine det_bind (T := fun K : Ex × St → Prop => sB s1 fun e s => K (e, s)) (U := fun (q : Ex × St) (K : Ex × St → Prop) => match q.1 with
        | .normal => evRounds sA sB p t0 cn xs q.2.heap fun e s => K (e, s)
        | .exit id => K (.exit id, ⟨t0, q.2.heap⟩)
        | .ret => K (.ret, ⟨t0, q.2.heap⟩)) (hB _).to ?_
      rintro ⟨e, s2⟩
      cases e with
      | normal => exact (evRounds_det hA hB p t0 cn xs s2.heap).to
      | exit id => exact det_pure _
      | ret => exact det_pure _
theorem rep_det {f : St → (Ex → St → Prop) → Prop} (hf : ∀ s, Det2 (f s)) : ∀ (n : Nat) (s : St), Det2 (rep f n s)
  | 0, s => fun K h => h.elim
  | n + 1, s => by
    refine Det2.of ?_
    show Det (fun K : Ex × St → Prop => f s fun ex s' => match ex with
      | .normal => rep f n s' fun e s => K (e, s)
      | .exit id => K (.exit id, s')
      | .ret => K (.ret, s'))
    refine det_bind (T := fun K : Ex × St → Prop => f s fun e s => K (e, s)) (U := fun (p : Ex × St) (K : Ex × St → Prop) => match p.1 with
      | .normal => rep f n p.2 fun e s => K (e, s)
      | .exit id => K (.exit id, p.2)
      | .ret => K (.ret, p.2)) (hf _).to ?_
    rintro ⟨e, s'⟩
    cases e with
    | normal => exact (rep_det hf n s').to
    | exit id => exact det_pure _
    | ret => exact det_pure _
theorem evCodeR_det (hD : DetFn E) : ∀ (c : Code) (s : St), Det2 (evCodeR E its c s) := by
  have plain : ∀ (c : Code) (s : St), Det2 (fun K => gd (straight c) (evCode E c lv0 s K)) := by
    intro c s
    refine Det2.of ?_
    intro K h
    rw [gd_iff] at h
    have hns := straight_ns c h.1
    obtain ⟨v, h1, h2⟩ := (evCode_det hD c (fun c' hc => by rw [hns.2] at hc; cases hc) lv0 s).to K h.2
    exact ⟨v, h1, fun K' hk => (gd_iff _ _).2 ⟨h.1, h2 K' hk⟩⟩
  intro c
  induction c with
  | seq x y ihx ihy =>
    intro s
    refine Det2.of ?_
    show Det (fun K : Ex × St → Prop => evCodeR E its x s fun ex s' => match ex with
      | .normal => evCodeR E its y s' fun e s => K (e, s)
      | .exit id => K (.exit id, s')
      | .ret => K (.ret, s'))
    refine det_bind (T := fun K : Ex × St → Prop => evCodeR E its x s fun e s => K (e, s)) (U := fun (p : Ex × St) (K : Ex × St → Prop) => match p.1 with
      | .normal => evCodeR E its y p.2 fun e s => K (e, s)
      | .exit id => K (.exit id, p.2)
      | .ret => K (.ret, p.2)) (ihx _).to ?_
    rintro ⟨e, s'⟩
    cases e with
    | normal => exact (ihy _).to
    | exit id => exact det_pure _
    | ret => exact det_pure _
  | cond c x y ihx ihy =>
    intro s
    refine Det2.of ?_
    unfold evCodeR
    cases St.opd E s c
    case bool t => exact det_br (ihx _).to (ihy _).to
    all_goals exact det_false
  | block id c ih =>
    intro s
    refine Det2.of ?_
    show Det (fun K : Ex × St → Prop => evCodeR E its c s fun ex s' => match ex with
      | .normal => K (.normal, s')
      | .exit id' => cond (Nat.beq id' id) (K (.normal, s')) (K (.exit id', s'))
      | .ret => K (.ret, s'))
    refine det_bind (T := fun K : Ex × St → Prop => evCodeR E its c s fun e s => K (e, s)) (U := fun (p : Ex × St) (K : Ex × St → Prop) => match p.1 with
      | .normal => K (.normal, p.2)
      | .exit id' => cond (Nat.beq id' id) (K (.normal, p.2)) (K (.exit id', p.2))
      | .ret => K (.ret, p.2)) (ih _).to ?_
    rintro ⟨e, s'⟩
    cases e with
    | normal => exact det_pure _
    | exit id' => exact det_cond (det_pure _) (det_pure _)
    | ret => exact det_pure _
  | rangeFunc f ps x y _ _ =>
    intro s K h
    simp only [evCodeR] at h ⊢
    split at h
    rotate_left
    · exact h.elim
    split at h
    rotate_left
    · exact h.elim
    rename_i it hxs
    rw [gd_iff, Bool.and_eq_true, Bool.and_eq_true] at h
    have h1 := straight_ns x h.1.2.1
    have h2 := straight_ns y h.1.2.2
    obtain ⟨v, u, h3, h4⟩ := evRounds_det (fun s => evCode_det hD x (fun c' hc => by rw [h1.2] at hc; cases hc) lv0 s) (fun s => evCode_det hD y (fun c' hc => by rw [h2.2] at hc; cases hc) lv0 s) _ _ _ _ _ K h.2
    exact ⟨v, u, h3, fun K' hk => (gd_iff _ _).2 ⟨by rw [Bool.and_eq_true, Bool.and_eq_true]; exact h.1, h4 K' hk⟩⟩
  | skip => exact plain _
  | region id ops draw => exact plain _
  | loop c ih => intro s; exact rep_det ih 4 s
  | exit id => exact plain _
  | ret => exact plain _
  | scope c _ => exact plain _
  | label l => exact plain _
  | goto l => exact plain _
  | refuse l => exact plain _
theorem evFnR_det {fn : Func} {own : Bool} {args : List EV} {H : Heap} (hD : DetFn E) : Det2 (evFnR E its fn own args H) := by
  refine Det2.of ?_
  unfold evFnR
  cases hb : fn.body with
  | none => exact det_false
  | some c =>
    dsimp only
    have hR : ∀ s, Det (fun K : EV × Heap → Prop => evResults E fn.results.toList s fun vs => retK H.length (cond own [] (fn.resultTypes.toList.map (roTy E))) vs s.heap fun v h => K (v, h)) := by
      intro s
      exact det_bind (U := fun vs (K : EV × Heap → Prop) => retK H.length (cond own [] (fn.resultTypes.toList.map (roTy E))) vs s.heap fun v h => K (v, h)) (det_evResults _ s) fun vs => det_retK.to
    refine det_bind (T := fun K : Ex × St → Prop => evCodeR E its c _ fun e s => K (e, s)) (U := fun (p : Ex × St) (K : EV × Heap → Prop) => match p.1 with
      | .exit _ => False
      | _ => evResults E fn.results.toList p.2 fun vs => retK H.length (cond own [] (fn.resultTypes.toList.map (roTy E))) vs p.2.heap fun v h => K (v, h)) (evCodeR_det hD c _).to ?_
    rintro ⟨e, s⟩
    cases e with
    | exit id => exact det_false
    | normal => exact hR s
    | ret => exact hR s
end sound
theorem fnOKR {P : Program} {E : Env} {f : FuncId} {fn : Func} {en : Entry} {tys : List (Nat × TI)} {fns : List (Nat × Entry)} {its : List (Nat × It)} (hty : E.ty = look tys) (htys : AllL (OkTI P) tys)
    (hfn : E.fn = look fns) (hfns : AllL (SoundE P E.gl) fns) (hits : AllL (ItOK P) its) (hm : P.follows .mixedOrders = true) (hf : P.funcs[f]? = some fn) (hb : fn.body.isNone = false) (hn : (fn.name == "runtime.NumGoroutine") = false)
    (own : Bool) (hS : ∀ args H, (∀ K, ¬ en.spec args H K) ∨ ∀ K, en.spec args H K ↔ evFnR E (look its) fn own args H K) : SoundE P E.gl f en := by
  have hE : ∀ t ti, E.ty t = some ti → OkTI P t ti := by rw [hty]; exact look_all tys htys
  have hA : ∀ g e, E.fn g = some e → SoundE P E.gl g e := by rw [hfn]; exact look_all fns hfns
  have hFn : OkFn P E := fun g e h => ⟨(hA g e h).sound, (hA g e h).known⟩
  have hD : DetFn E := fun g e h => (hA g e h).det
  refine ⟨?_, ?_, ⟨fn, hf, hb, hn⟩⟩
  · intro ρ H w args xs K hs hr hS' hG
    rcases hS args H with h | h
    · exact (h K hs).elim
    · exact evFnR_sound hE hFn hD hm hf (look_all its hits) ((h K).1 hs) hr hS' hG
  · intro args H K hs
    rcases hS args H with h | h
    · exact (h K hs).elim
    · obtain ⟨v, u, h1, h2⟩ := evFnR_det hD K ((h K).1 hs)
      exact ⟨v, u, h1, fun K' hk => (h K').2 (h2 K' hk)⟩
def joinQ (q : Q) (K : Q → Prop) : Prop :=
  match q with
  | ⟨n, t, hp⟩ => topH hp fun h => K ⟨n, t, h⟩
theorem joinQ_eq (q : Q) (K : Q → Prop) : joinQ q K = K q := by simp only [joinQ, topH_eq]
noncomputable def evRoundsQ (sA sB : Q → (Ex → Q → Prop) → Prop) (p : Nat) (q0 : Q) (cn : Heap → NV → Option Bool) : List NV → Heap → (Ex → Q → Prop) → Prop
  | [], H, K => K .normal ⟨q0.n, q0.t, H⟩
  | x :: xs, H, K => match cn H x with
    | some c => br c (sA (q0.put (some p) (.int x.1 x.2) H) fun ex q1 => match ex with
      | .normal => sB q1 fun ex q2 => match ex with
        | .normal => joinQ ⟨q0.n, q0.t, q2.heap⟩ fun q => evRoundsQ sA sB p q0 cn xs q.heap K
        | .exit id => K (.exit id) ⟨q0.n, q0.t, q2.heap⟩
        | .ret => K .ret ⟨q0.n, q0.t, q2.heap⟩
      | _ => False) (joinQ ⟨q0.n, q0.t, H⟩ fun q => evRoundsQ sA sB p q0 cn xs q.heap K)
    | none => False
noncomputable def repQ (f : Q → (Ex → Q → Prop) → Prop) : Nat → Q → (Ex → Q → Prop) → Prop
  | 0, _, _ => False
  | n + 1, q, K => joinQ q fun q => f q fun ex q' => match ex with
    | .normal => repQ f n q' K
    | .exit id => K (.exit id) q'
    | .ret => K .ret q'
noncomputable def evCodeRQ (E : Env) (its : FuncId → Option It) : Code → Q → (Ex → Q → Prop) → Prop
  | .rangeFunc f ps a b, q, K => match (q.opd E) f, ps with
    | .func g caps, ⟨[p]⟩ => match its g with
      | some it => gd (Nat.beq caps.length it.nc && (straight a && straight b)) (evRoundsQ (evCodeQ E a lv0) (evCodeQ E b lv0) p q (it.cnd caps) it.xs q.heap K)
      | none => False
    | _, _ => False
  | .seq a b, q, K => evCodeRQ E its a q fun ex q' => match ex with
    | .normal => evCodeRQ E its b q' K
    | .exit id => K (.exit id) q'
    | .ret => K .ret q'
  | .cond c a b, q, K => match (q.opd E) c with
    | .bool t => br t (evCodeRQ E its a q K) (evCodeRQ E its b q K)
    | _ => False
  | .block id c, q, K => evCodeRQ E its c q fun ex q' => match ex with
    | .normal => joinQ q' (K .normal)
    | .exit id' => cond (Nat.beq id' id) (joinQ q' (K .normal)) (K (.exit id') q')
    | .ret => K .ret q'
  | .loop c, q, K => repQ (evCodeRQ E its c) 4 q K
  | c, q, K => gd (straight c) (evCodeQ E c lv0 q K)
noncomputable def evFnRQ (E : Env) (its : FuncId → Option It) (fn : Func) (own : Bool) (args : List EV) (H : Heap) (K : EV → Heap → Prop) : Prop :=
  match fn.body with
  | some c => evCodeRQ E its c (Q.of (args ++ List.replicate (fn.ntmps - args.length) .undef) H) fun ex q => match ex with
    | .exit _ => False
    | _ => evResultsQ E fn.results.toList q fun vs => retK H.length (cond own [] (fn.resultTypes.toList.map (roTy E))) vs q.heap K
  | none => False
theorem evRoundsQ_eq {aQ bQ : Q → (Ex → Q → Prop) → Prop} {sA sB : St → (Ex → St → Prop) → Prop} (hA : ∀ q K, (aQ q fun ex q => K ex q.to) = sA q.to K) (hB : ∀ q K, (bQ q fun ex q => K ex q.to) = sB q.to K) (p : Nat) (q0 : Q) (cn : Heap → NV → Option Bool) :
    ∀ (xs : List NV) (H : Heap) (K : Ex → St → Prop), (evRoundsQ aQ bQ p q0 cn xs H fun ex q => K ex q.to) = evRounds sA sB p q0.to.tmps cn xs H K
  | [], H, K => rfl
  | x :: xs, H, K => by
    simp only [evRoundsQ, evRounds]
    cases cn H x with
    | none => rfl
    | some c =>
    simp only
    have e1 : (q0.put (some p) (.int x.1 x.2) H).to = ⟨q0.to.tmps.set p (.int x.1 x.2), H⟩ := Q.put_to q0 (some p) _ H
    rw [← e1, ← hA]
    have e2 : (joinQ ⟨q0.n, q0.t, H⟩ fun q => evRoundsQ aQ bQ p q0 cn xs q.heap fun ex q => K ex q.to) = evRounds sA sB p q0.to.tmps cn xs H K := (joinQ_eq _ _).trans (evRoundsQ_eq hA hB p q0 cn xs H K)
    rw [e2]
    congr 2
    funext ex q1
    cases ex with
    | exit id => rfl
    | ret => rfl
    | normal =>
      simp only
      rw [← hB]
      congr 1
      funext ex q2
      cases ex with
      | normal => exact (joinQ_eq _ _).trans (evRoundsQ_eq hA hB p q0 cn xs q2.heap K)
      | exit id => rfl
      | ret => rfl
theorem repQ_eq {fQ : Q → (Ex → Q → Prop) → Prop} {f : St → (Ex → St → Prop) → Prop} (hf : ∀ q K, (fQ q fun ex q => K ex q.to) = f q.to K) : ∀ (n : Nat) (q : Q) (K : Ex → St → Prop), (repQ fQ n q fun ex q => K ex q.to) = rep f n q.to K
  | 0, q, K => rfl
  | n + 1, q, K => by
    simp only [repQ, rep, joinQ_eq]
    rw [← hf]
    congr 1
    funext ex q'
    cases ex with
    | normal => exact repQ_eq hf n q' K
    | exit id => rfl
    | ret => rfl
theorem evCodeRQ_eq (E : Env) (its : FuncId → Option It) : ∀ (c : Code) (q : Q) (K : Ex → St → Prop), (evCodeRQ E its c q fun ex q => K ex q.to) = evCodeR E its c q.to K := by
  have plain : ∀ (c : Code) (q : Q) (K : Ex → St → Prop), gd (straight c) (evCodeQ E c lv0 q fun ex q => K ex q.to) = gd (straight c) (evCode E c lv0 q.to K) := fun c q K => by rw [evCodeQ_eq]
  intro c
  induction c with
  | seq a b iha ihb =>
    intro q K
    simp only [evCodeRQ, evCodeR]
    rw [← iha]
    congr 1
    funext ex q'
    cases ex with
    | normal => exact ihb q' K
    | exit id => rfl
    | ret => rfl
  | cond c a b iha ihb =>
    intro q K
    simp only [evCodeRQ, evCodeR, Q.opd_to]
    cases q.opd E c <;> try rfl
    simp only
    rw [iha, ihb]
  | block id c ih =>
    intro q K
    simp only [evCodeRQ, evCodeR]
    rw [← ih]
    all_goals congr 1
    all_goals (funext ex q1; cases ex <;> simp only [joinQ_eq])
  | rangeFunc f ps x y _ _ =>
    intro q K
    simp only [evCodeRQ, evCodeR, Q.opd_to]
    simp only [evRoundsQ_eq (evCodeQ_eq E x lv0) (evCodeQ_eq E y lv0)]
    rfl
  | skip => exact plain _
  | region id ops draw => exact plain _
  | loop c ih => intro q K; exact repQ_eq ih 4 q K
  | exit id => exact plain _
  | ret => exact plain _
  | scope c _ => exact plain _
  | label l => exact plain _
  | goto l => exact plain _
  | refuse l => exact plain _
theorem evFnRQ_eq (E : Env) (its : FuncId → Option It) (fn : Func) (own : Bool) (args : List EV) (H : Heap) (K : EV → Heap → Prop) : evFnRQ E its fn own args H K = evFnR E its fn own args H K := by
  unfold evFnRQ evFnR
  cases fn.body with
  | none => rfl
  | some c =>
    simp only
    rw [← Q.of_to, ← evCodeRQ_eq]
    congr 1
    funext ex q
    cases ex <;> simp only [evResultsQ_eq] <;> rfl
end Go.Ev

/- Whole numbers of a kind, as the evaluator's operations have them. -/
set_option linter.unusedVariables false
set_option linter.unusedSimpArgs false
namespace Go.Ev
open Go
theorem wrap_u64 (n : Int) : IntKind.wrap .u64 n = n % 18446744073709551616 := by simp [IntKind.wrap, IntKind.bits, IntKind.signed]
theorem wrap_i64 (n : Int) : IntKind.wrap .i64 n = if 9223372036854775808 ≤ n % 18446744073709551616 then n % 18446744073709551616 - 18446744073709551616 else n % 18446744073709551616 := by
  simp [IntKind.wrap, IntKind.bits, IntKind.signed]
theorem u64_id {n : Int} (h : 0 ≤ n) (h2 : n < 18446744073709551616) : IntKind.wrap .u64 n = n := by rw [wrap_u64]; omega
theorem i64_id {n : Int} (h : -9223372036854775808 ≤ n) (h2 : n < 9223372036854775808) : IntKind.wrap .i64 n = n := by rw [wrap_i64]; split <;> omega
theorem cv_u64 {n : Int} (h : 0 ≤ n) (h2 : n < 18446744073709551616) : cvI .u64 n = n := u64_id h h2
theorem add_i64 {a b : Int} (h : -9223372036854775808 ≤ a + b) (h2 : a + b < 9223372036854775808) : addI .i64 a b = a + b := i64_id h h2
theorem sub_i64 {a b : Int} (h : -9223372036854775808 ≤ a - b) (h2 : a - b < 9223372036854775808) : subI .i64 a b = a - b := i64_id h h2
theorem range_u64 {n : Int} (h : (Lit.int .u64 n).wf = true) : 0 ≤ n ∧ n < 18446744073709551616 := by
  have := (Lit.wf_int_iff _ _).1 h
  simp [IntKind.min, IntKind.max, IntKind.bits, IntKind.signed] at this
  omega
theorem range_u8 {n : Int} (h : (Lit.int .u8 n).wf = true) : 0 ≤ n ∧ n < 256 := by
  have := (Lit.wf_int_iff _ _).1 h
  simp [IntKind.min, IntKind.max, IntKind.bits, IntKind.signed] at this
  omega
theorem br_t {c : Bool} {p q : Prop} (h : c = true) : br c p q = p := by subst h; rfl
theorem br_f {c : Bool} {p q : Prop} (h : c = false) : br c p q = q := by subst h; rfl
theorem gd_t {c : Bool} {p : Prop} (h : c = true) : gd c p = p := by subst h; rfl
theorem lt_t {a b : Int} (h : a < b) : ltI a b = true := by simp [ltI, h]
theorem lt_f {a b : Int} (h : b ≤ a) : ltI a b = false := by simp [ltI]; omega
theorem eq_f {a b : Int} (h : a ≠ b) : eqI a b = false := by simp [eqI, h]
theorem and_nat (a b : Nat) (ha : a < 18446744073709551616) (hb : b < 18446744073709551616) : andI .u64 a b = ((a &&& b : Nat) : Int) := by
  have h1 : (BitVec.ofInt 64 (a : Int)) = BitVec.ofNat 64 a := by simp
  have h2 : (BitVec.ofInt 64 (b : Int)) = BitVec.ofNat 64 b := by simp
  have h3 : a &&& b < 18446744073709551616 := Nat.lt_of_le_of_lt Nat.and_le_left ha
  show IntKind.wrap .u64 (((BitVec.ofInt 64 (a : Int) &&& BitVec.ofInt 64 (b : Int) : BitVec 64).toNat : Nat) : Int) = _
  rw [h1, h2]
  rw [BitVec.toNat_and, BitVec.toNat_ofNat, BitVec.toNat_ofNat, Nat.mod_eq_of_lt ha, Nat.mod_eq_of_lt hb]
  exact u64_id (by omega) (by omega)
theorem or_nat (a b : Nat) (ha : a < 18446744073709551616) (hb : b < 18446744073709551616) : orI .u64 a b = ((a ||| b : Nat) : Int) := by
  have h1 : (BitVec.ofInt 64 (a : Int)) = BitVec.ofNat 64 a := by simp
  have h2 : (BitVec.ofInt 64 (b : Int)) = BitVec.ofNat 64 b := by simp
  have h3 : a ||| b < 18446744073709551616 := Nat.or_lt_two_pow (n := 64) ha hb
  show IntKind.wrap .u64 (((BitVec.ofInt 64 (a : Int) ||| BitVec.ofInt 64 (b : Int) : BitVec 64).toNat : Nat) : Int) = _
  rw [h1, h2]
  rw [BitVec.toNat_or, BitVec.toNat_ofNat, BitVec.toNat_ofNat, Nat.mod_eq_of_lt ha, Nat.mod_eq_of_lt hb]
  exact u64_id (by omega) (by omega)
theorem shr_nat (a i : Nat) (hi : i < 64) : shrI .u64 a i = ((a >>> i : Nat) : Int) := by
  have h1 : min (Int.toNat i) (IntKind.bits .u64) = i := by simp [IntKind.bits]; omega
  simp only [shrI, h1]
  rw [Nat.shiftRight_eq_div_pow, Int.natCast_ediv]
  rw [Int.fdiv_eq_ediv_of_nonneg _ (Int.le_of_lt (Int.pow_pos (by omega)))]
  simp
theorem shl_nat (a i : Nat) (hi : i < 64) : shlI .u64 a i = ((a <<< i % 18446744073709551616 : Nat) : Int) := by
  have h1 : min (Int.toNat i) (IntKind.bits .u64) = i := by simp [IntKind.bits]; omega
  simp only [shlI, h1]
  rw [wrap_u64, Nat.shiftLeft_eq]
  simp
theorem test_nat (a i : Nat) (ha : a < 18446744073709551616) (hi : i < 64) : eqI (andI .u64 (shrI .u64 a i) 1) 1 = a.testBit i := by
  have h2 : a >>> i < 18446744073709551616 := Nat.lt_of_le_of_lt (Nat.shiftRight_le a i) ha
  rw [shr_nat a i hi]
  have := and_nat (a >>> i) 1 h2 (by omega)
  rw [show (1 : Int) = ((1 : Nat) : Int) from rfl, this, Nat.testBit, Nat.and_comm]
  have h3 : 1 &&& a >>> i = (a >>> i) % 2 := by rw [Nat.and_comm]; exact Nat.and_one_is_mod _
  rw [h3]
  rcases Nat.mod_two_eq_zero_or_one (a >>> i) with h | h <;> rw [h] <;> rfl
end Go.Ev

/- What is handed over to a law, of a type without places, opened: as the evaluator has it. -/
set_option linter.unusedVariables false
set_option linter.unusedSimpArgs false
namespace Go.Ev
open Go Go.Joins
inductive Tm where
  | bool
  | int (k : IntKind)
  | str
  | arr (n : Nat) (k : IntKind) (e : TypeId)
  | agg (l : List Tm)
mutual
def Tm.size : Tm → Nat
  | .bool => 1
  | .int _ => 1
  | .str => 1
  | .arr n _ _ => n
  | .agg l => Tm.sizeL l
def Tm.sizeL : List Tm → Nat
  | [] => 0
  | t :: l => t.size + Tm.sizeL l
end
mutual
def Tm.ok (P : Program) : Tm → TypeId → Prop
  | .bool, t => P.underlying t = some .bool
  | .int k, t => P.underlying t = some (.int k)
  | .str, t => P.underlying t = some .string
  | .arr n k e, t => P.underlying t = some (.array n e) ∧ P.underlying e = some (.int k) ∧ P.cellsOf e = 1
  | .agg l, t => ∃ fs, P.underlying t = some (.struct fs) ∧ Tm.okL P l fs.toList 0
def Tm.okL (P : Program) : List Tm → List Field → Nat → Prop
  | [], fs, _ => fs = []
  | t :: l, fs, o => match fs with
    | [] => False
    | f :: fs => f.offset = o ∧ P.cellsOf f.type = t.size ∧ t.ok P f.type ∧ Tm.okL P l fs (o + t.size)
end
mutual
def Tm.has : Tm → EV → Prop
  | .bool, u => ∃ b, u = .bool b
  | .int k, u => ∃ n, u = .int k n ∧ (Lit.int k n).wf = true
  | .str, u => ∃ s : List UInt8, u = .str s ∧ s.length ≤ maxLen
  | .arr n k _, u => ∃ g : Nat → Int, u = .arr k n g ∧ (∀ i, i < n → (Lit.int k (g i)).wf = true) ∧ ∀ i, n ≤ i → g i = 0
  | .agg l, u => ∃ us, u = .agg us ∧ Tm.hasL l us
def Tm.hasL : List Tm → List EV → Prop
  | [], us => us = []
  | t :: l, us => ∃ v vs, us = v :: vs ∧ t.has v ∧ Tm.hasL l vs
end
theorem mapM_some {α β : Type} {f : α → Option β} : ∀ {l : List α} {r : List β}, l.mapM f = some r → ∀ (i : Nat) (a : α), l[i]? = some a → ∃ b, f a = some b
  | [], r, h, i, a, ha => by simp at ha
  | x :: l, r, h, i, a, ha => by
    rw [List.mapM_cons] at h
    cases hx : f x with
    | none => simp [hx] at h
    | some y =>
      cases hl : l.mapM f with
      | none => simp [hx, hl] at h
      | some ys =>
        cases i with
        | zero => simp at ha; subst ha; exact ⟨y, hx⟩
        | succ i => exact mapM_some hl i a (by simpa using ha)
section
variable {H : Type} {enc : TypeId × Value → H} {P : Program} {w : World} {base : Nat} {spare : Nat → Bool} {held : Bool}
theorem trod_arr {n : Nat} {k : IntKind} {e t : TypeId} (h1 : P.underlying t = some (.array n e)) (h2 : P.underlying e = some (.int k)) (h3 : P.cellsOf e = 1) {fuel : Nat} {cs : List Value} {x : DataW H × List MemPlace}
    (hl : cs.length = n) (h : DataW.trod enc P w base spare held fuel t cs = some x) : ∃ g : Nat → Int, cs = ints k n g ∧ (∀ i, i < n → (Lit.int k (g i)).wf = true) ∧ ∀ i, n ≤ i → g i = 0 := by
  cases fuel with
  | zero => simp [DataW.trod] at h
  | succ fuel =>
    simp only [DataW.trod, h1] at h
    split at h
    · rename_i hc
      cases hm : (List.range n).mapM fun i => DataW.trod enc P w base spare held fuel e ((cs.drop (i * P.cellsOf e)).take (P.cellsOf e)) with
      | none => rw [hm] at h; simp at h
      | some r =>
        have key : ∀ i, i < n → ∃ m, cs[i]? = some (.int k m) ∧ (Lit.int k m).wf = true := by
          intro i hi
          obtain ⟨b, hb⟩ := mapM_some hm i i (by simp [hi])
          rw [h3, Nat.mul_one] at hb
          obtain ⟨v, hv⟩ : ∃ v, cs[i]? = some v := ⟨cs[i]'(by omega), List.getElem?_eq_getElem (by omega)⟩
          have e1 : (cs.drop i).take 1 = [v] := by
            rw [List.drop_eq_getElem_cons (by omega)]
            have : cs[i]'(by omega) = v := by rw [List.getElem?_eq_getElem (by omega)] at hv; exact Option.some.inj hv
            simp [this]
          rw [e1] at hb
          cases fuel with
          | zero => simp [DataW.trod] at hb
          | succ fuel =>
            simp only [DataW.trod, h2] at hb
            cases v <;> simp at hb
            rename_i k' m
            obtain ⟨⟨rfl, hw⟩, _⟩ := hb
            exact ⟨m, hv, hw⟩
        refine ⟨fun i => match cs[i]? with | some (.int _ m) => m | _ => 0, ?_, ?_, ?_⟩
        · apply List.ext_getElem?
          intro i
          unfold ints
          by_cases hi : i < n
          · obtain ⟨m, hm', _⟩ := key i hi
            rw [hm']
            simp [hi, hm']
          · rw [List.getElem?_eq_none (by omega), List.getElem?_eq_none (by simp; omega)]
        · intro i hi
          obtain ⟨m, hm', hw⟩ := key i hi
          simp only [hm']; exact hw
        · intro i hi
          have : cs[i]? = none := List.getElem?_eq_none (by omega)
          simp only [this]
    · cases h
theorem one_cell {α : Type} {cs : List α} (h : cs.length = 1) : ∃ v, cs = [v] := List.length_eq_one_iff.1 h
mutual
theorem Tm.open : ∀ (tm : Tm) (t : TypeId), tm.ok P t → ∀ (fuel : Nat) (cs : List Value) (x : DataW H × List MemPlace), cs.length = tm.size → DataW.trod enc P w base spare held fuel t cs = some x →
    ∃ u, tm.has u ∧ ∃ y : Value, y.cells.toList = cs ∧ ∀ ρ W, Rel ρ W u y
  | .bool, t, hk, fuel, cs, x, hl, h => by
    simp only [Tm.ok] at hk
    obtain ⟨v, rfl⟩ := one_cell hl
    cases fuel with
    | zero => simp [DataW.trod] at h
    | succ fuel =>
      simp only [DataW.trod, hk] at h
      cases v <;> simp at h
      rename_i b
      exact ⟨.bool b, ⟨b, rfl⟩, .bool b, rfl, fun ρ W => rfl⟩
  | .int k, t, hk, fuel, cs, x, hl, h => by
    simp only [Tm.ok] at hk
    obtain ⟨v, rfl⟩ := one_cell hl
    cases fuel with
    | zero => simp [DataW.trod] at h
    | succ fuel =>
      simp only [DataW.trod, hk] at h
      cases v <;> simp at h
      rename_i k' n
      obtain ⟨⟨rfl, hw⟩, _⟩ := h
      exact ⟨.int k' n, ⟨n, rfl, hw⟩, .int k' n, rfl, fun ρ W => rfl⟩
  | .str, t, hk, fuel, cs, x, hl, h => by
    simp only [Tm.ok] at hk
    obtain ⟨v, rfl⟩ := one_cell hl
    cases fuel with
    | zero => simp [DataW.trod] at h
    | succ fuel =>
      simp only [DataW.trod, hk] at h
      cases v <;> simp at h
      rename_i s
      exact ⟨.str s.data.toList, ⟨_, rfl, by rw [Array.length_toList]; exact h.1⟩, .string s, rfl, fun ρ W => rfl⟩
  | .arr n k e, t, hk, fuel, cs, x, hl, h => by
    simp only [Tm.ok] at hk
    obtain ⟨g, h1, h2, h3⟩ := trod_arr hk.1 hk.2.1 hk.2.2 (by simpa [Tm.size] using hl) h
    exact ⟨.arr k n g, ⟨g, rfl, h2, h3⟩, .agg (ints k n g).toArray, by rw [h1]; rfl, fun ρ W => rfl⟩
  | .agg l, t, hk, fuel, cs, x, hl, h => by
    simp only [Tm.ok] at hk
    obtain ⟨fs, h1, h2⟩ := hk
    cases fuel with
    | zero => simp [DataW.trod] at h
    | succ fuel =>
      simp only [DataW.trod, h1] at h
      split at h
      · rename_i hc
        cases hm : fs.toList.mapM fun f => DataW.trod enc P w base spare held fuel f.type ((cs.drop f.offset).take (P.cellsOf f.type)) with
        | none => rw [hm] at h; simp at h
        | some r =>
          obtain ⟨us, g1, g2⟩ := Tm.openL l fs.toList 0 h2 fuel cs (by simpa [Tm.size] using hl) fun i f hf => mapM_some hm i f hf
          refine ⟨.agg us, ⟨us, rfl, g1⟩, .agg cs.toArray, rfl, fun ρ W => ?_⟩
          simp only [Rel]
          exact ⟨cs.toArray, rfl, by simpa using g2 ρ W⟩
      · cases h
theorem Tm.openL : ∀ (l : List Tm) (fs : List Field) (o : Nat), Tm.okL P l fs o → ∀ (fuel : Nat) (cs : List Value), cs.length = o + Tm.sizeL l →
    (∀ (i : Nat) f, fs[i]? = some f → ∃ b, DataW.trod enc P w base spare held fuel f.type ((cs.drop f.offset).take (P.cellsOf f.type)) = some b) →
    ∃ us, Tm.hasL l us ∧ ∀ ρ W, RelF ρ W us (cs.drop o)
  | [], fs, o, hk, fuel, cs, hl, h => by
    refine ⟨[], rfl, fun ρ W => ?_⟩
    simp only [RelF]
    exact List.drop_eq_nil_of_le (by simp [Tm.sizeL] at hl; omega)
  | tm :: l, fs, o, hk, fuel, cs, hl, h => by
    simp only [Tm.okL] at hk
    cases fs with
    | nil => exact hk.elim
    | cons f fs =>
      simp only [Tm.sizeL] at hl
      obtain ⟨k1, k2, k3, k4⟩ := hk
      obtain ⟨b, hb⟩ := h 0 f rfl
      rw [k1, k2] at hb
      obtain ⟨u, g1, y, g2, g3⟩ := Tm.open tm f.type k3 fuel _ b (by simp; omega) hb
      obtain ⟨us, e1, e2⟩ := Tm.openL l fs (o + tm.size) k4 fuel cs (by omega) fun i f' hf => h (i + 1) f' (by simpa using hf)
      refine ⟨u :: us, ⟨u, us, rfl, g1, e1⟩, fun ρ W => ?_⟩
      simp only [RelF]
      refine ⟨y, cs.drop (o + tm.size), ?_, g3 ρ W, e2 ρ W⟩
      rw [g2, ← List.drop_drop]
      exact (List.take_append_drop _ _).symm
end
def Tm.isAgg : Tm → Bool
  | .arr _ _ _ => true
  | .agg _ => true
  | _ => false
theorem open_tm {r : Reach} {b0 : Nat} {t : TypeId} {v : Value} {d : DataW H} {ps : List MemPlace} (tm : Tm) (hk : tm.ok P t) (ha : tm.isAgg = true) (hs : P.cellsOf t = tm.size) (hval : Value.okWide P w r b0 t v) (hd : DataW.Trod enc P w base spare held t v d ps) :
    ∃ u, tm.has u ∧ ∀ ρ W, Rel ρ W u v := by
  obtain ⟨fuel, hf⟩ := hd
  have hv : ∃ cs, v = .agg cs ∧ cs.size = P.cellsOf t := by
    unfold Value.okWide at hval
    cases tm with
    | arr n k e => simp only [Tm.ok] at hk; rw [hk.1] at hval; obtain ⟨cs, h1, h2, _⟩ := hval; exact ⟨cs, h1, h2⟩
    | agg l => simp only [Tm.ok] at hk; obtain ⟨fs, h1, _⟩ := hk; rw [h1] at hval; obtain ⟨cs, h1, h2, _⟩ := hval; exact ⟨cs, h1, h2⟩
    | bool => cases ha
    | int k => cases ha
    | str => cases ha
  obtain ⟨cs, rfl, hsz⟩ := hv
  obtain ⟨u, h1, y, h2, h3⟩ := Tm.open tm t hk fuel _ _ (by show cs.toList.length = _; rw [Array.length_toList, hsz, hs]) hf
  refine ⟨u, h1, fun ρ W => ?_⟩
  have hy : y = .agg cs := by
    have h3 := h3 ⟨[], []⟩ w
    cases tm with
    | arr n k e =>
      simp only [Tm.has] at h1
      obtain ⟨g, rfl, _⟩ := h1
      simp only [Rel] at h3
      subst h3
      have : (ints k n g) = cs.toList := h2
      rw [this]
    | agg l =>
      simp only [Tm.has] at h1
      obtain ⟨us, rfl, _⟩ := h1
      simp only [Rel] at h3
      obtain ⟨cs', rfl, _⟩ := h3
      have : cs'.toList = cs.toList := h2
      rw [Array.toList_inj.1 this]
    | bool => cases ha
    | int k => cases ha
    | str => cases ha
  rw [← hy]; exact h3 ρ W
end
end Go.Ev
