/- The evaluator: functions, all that is asked of them, and how types and loops are told. -/
import Derived.Test.YtfglhfahphncdaaDoorEvFn
import Derived.Below
set_option linter.unusedVariables false
set_option linter.unusedSimpArgs false
namespace Go.Ev
open Go

abbrev Det3 (T : (Ex → List EV → Heap → Prop) → Prop) : Prop := Det (fun K : Ex × List EV × Heap → Prop => T fun e v h => K (e, v, h))

def loopE (E : Env) (c : Code) (lv : LV) (m N : Nat) (K : Ex → List EV → Heap → Prop) (n : Nat) (vs : List EV) (H : Heap) : Prop :=
  loopV (evCode E c { lv with nx := live (.loop c) lv }) (live (.loop c) lv) lv m N K n vs H

/-- What is said of a loop is just what its rounds come to, or nothing is. -/
def LoopEq (E : Env) (c : Code) : Prop :=
  ∀ L, E.lp (firstRegion c) = some L → ∀ vs H, (∀ K, ¬ L.spec vs H K) ∨ ∀ K, L.spec vs H K ↔ ∃ n, loopE E c L.lv L.m L.N K n vs H

section
variable {P : Program} {E : Env}

theorem LoopEq.ok {c : Code} (h : LoopEq E c) : LoopOK E c := by
  intro L hL vs H K hs
  rcases h L hL vs H with h1 | h1
  · exact (h1 K hs).elim
  · exact (h1 K).1 hs

theorem det_outK {keep m N : Nat} {s : St} {α : Type} (f : List EV → Heap → (α → Prop) → Prop) (hf : ∀ v h, Det (f v h)) : Det (fun K => outK keep m N s fun v h => f v h K) := by
  unfold outK goK
  exact det_gd (det_gd (hf _ _))

theorem det_ex {α : Type} {T : Nat → (α → Prop) → Prop} (h : ∀ n, Det (T n)) : Det (fun K => ∃ n, T n K) := by
  rintro K ⟨n, hn⟩
  obtain ⟨v, h1, h2⟩ := h n K hn
  exact ⟨v, h1, fun K' hk => ⟨n, h2 K' hk⟩⟩

theorem det_loopV {step : St → (Ex → St → Prop) → Prop} (hs : ∀ s, Det2 (step s)) (head : Nat) (lv : LV) (m N : Nat) : ∀ (n : Nat) (vs : List EV) (H : Heap), Det3 (fun K => loopV step head lv m N K n vs H)
  | 0, _, _ => det_false
  | n + 1, vs, H => by
    show Det (fun K : Ex × List EV × Heap → Prop => loopStep step head lv m N (loopV step head lv m N (fun e v h => K (e, v, h)) n) vs H (fun e v h => K (e, v, h)))
    unfold loopStep
    refine det_bind (T := fun K : Ex × St → Prop => step { tmps := expandM head N 0 vs, heap := H } fun e s => K (e, s)) (U := fun (p : Ex × St) (K : Ex × List EV × Heap → Prop) => match p.1 with
      | .normal => outK head m N p.2 (loopV step head lv m N (fun e v h => K (e, v, h)) n)
      | .exit id => outK (lookL lv.ex id) m N p.2 fun v h => K (.exit id, v, h)
      | .ret => outK lv.rt m N p.2 fun v h => K (.ret, v, h)) (hs _).to ?_
    rintro ⟨e, s⟩
    cases e with
    | normal => exact det_outK (fun v h K => loopV step head lv m N (fun e v h => K (e, v, h)) n v h) fun v h => det_loopV hs head lv m N n v h
    | exit id => exact det_outK (fun v h (K : Ex × List EV × Heap → Prop) => K (.exit id, v, h)) fun v h => det_pure _
    | ret => exact det_outK (fun v h (K : Ex × List EV × Heap → Prop) => K (.ret, v, h)) fun v h => det_pure _

theorem evCode_det (hD : DetFn E) : ∀ (c : Code) (hL : ∀ c', c' ∈ loopsOf c → LoopEq E c') (lv : LV) (s : St), Det2 (evCode E c lv s) := by
  intro c
  induction c with
  | skip => intro hL lv s; exact Det2.of (det_pure (Ex.normal, s))
  | region id ops draw =>
    intro hL lv s
    refine Det2.of ?_
    have : Det (fun K : Ex × St → Prop => evOps E ops.toList ops.toList s fun s' => K (.normal, s')) := det_map (fun s' => (Ex.normal, s')) (det_evOps hD _ _)
    exact det_cond (det_gd this) this
  | seq x y ihx ihy =>
    intro hL lv s
    refine Det2.of ?_
    show Det (fun K : Ex × St → Prop => evCode E x { lv with nx := live y lv } s fun ex s' => match ex with
      | .normal => evCode E y lv s' fun e s => K (e, s)
      | .exit id => K (.exit id, s')
      | .ret => K (.ret, s'))
    refine det_bind (T := fun K : Ex × St → Prop => evCode E x { lv with nx := live y lv } s fun e s => K (e, s)) (U := fun (p : Ex × St) (K : Ex × St → Prop) => match p.1 with
      | .normal => evCode E y lv p.2 fun e s => K (e, s)
      | .exit id => K (.exit id, p.2)
      | .ret => K (.ret, p.2)) (ihx (fun c' hc => hL c' (List.mem_append.2 (.inl hc))) _ _).to ?_
    rintro ⟨e, s'⟩
    cases e with
    | normal => exact (ihy (fun c' hc => hL c' (List.mem_append.2 (.inr hc))) _ _).to
    | exit id => exact det_pure _
    | ret => exact det_pure _
  | cond c x y ihx ihy =>
    intro hL lv s
    refine Det2.of ?_
    unfold evCode
    cases St.opd E s c
    case bool t => exact det_br (ihx (fun c' hc => hL c' (List.mem_append.2 (.inl hc))) _ _).to (ihy (fun c' hc => hL c' (List.mem_append.2 (.inr hc))) _ _).to
    all_goals exact det_false
  | block id c ih =>
    intro hL lv s
    refine Det2.of ?_
    show Det (fun K : Ex × St → Prop => evCode E c { lv with ex := (id, lv.nx) :: lv.ex } s fun ex s' => match ex with
      | .normal => K (.normal, s')
      | .exit id' => cond (Nat.beq id' id) (K (.normal, s')) (K (.exit id', s'))
      | .ret => K (.ret, s'))
    refine det_bind (T := fun K : Ex × St → Prop => evCode E c { lv with ex := (id, lv.nx) :: lv.ex } s fun e s => K (e, s)) (U := fun (p : Ex × St) (K : Ex × St → Prop) => match p.1 with
      | .normal => K (.normal, p.2)
      | .exit id' => cond (Nat.beq id' id) (K (.normal, p.2)) (K (.exit id', p.2))
      | .ret => K (.ret, p.2)) (ih hL _ _).to ?_
    rintro ⟨e, s'⟩
    cases e with
    | normal => exact det_pure _
    | exit id' => exact det_cond (det_pure _) (det_pure _)
    | ret => exact det_pure _
  | loop c ih =>
    intro hL lv s
    refine Det2.of ?_
    have ih' := ih fun c' hc => hL c' (List.mem_cons_of_mem _ hc)
    show Det (fun K : Ex × St → Prop => outK (live (.loop c) lv) lv.nl s.tmps.length s fun vs H => match E.un (firstRegion c) with
      | 0 => match E.lp (firstRegion c) with
        | some L => gd (lv.beq L.lv && (Nat.beq lv.nl L.m && Nat.beq s.tmps.length L.N)) (L.spec vs H fun ex vs H => K (ex, { tmps := expandM (maskOf lv ex) s.tmps.length 0 vs, heap := H }))
        | none => ∃ n, loopV (evCode E c { lv with nx := live (.loop c) lv }) (live (.loop c) lv) lv lv.nl s.tmps.length (fun ex vs H => K (ex, { tmps := expandM (maskOf lv ex) s.tmps.length 0 vs, heap := H })) n vs H
      | n + 1 => loopU (evCode E c { lv with nx := live (.loop c) lv }) (live (.loop c) lv) lv lv.nl s.tmps.length (fun ex vs H => K (ex, { tmps := expandM (maskOf lv ex) s.tmps.length 0 vs, heap := H })) (n + 1) vs H)
    refine det_outK (fun vs H (K : Ex × St → Prop) => match E.un (firstRegion c) with
      | 0 => match E.lp (firstRegion c) with
        | some L => gd (lv.beq L.lv && (Nat.beq lv.nl L.m && Nat.beq s.tmps.length L.N)) (L.spec vs H fun ex vs H => K (ex, { tmps := expandM (maskOf lv ex) s.tmps.length 0 vs, heap := H }))
        | none => ∃ n, loopV (evCode E c { lv with nx := live (.loop c) lv }) (live (.loop c) lv) lv lv.nl s.tmps.length (fun ex vs H => K (ex, { tmps := expandM (maskOf lv ex) s.tmps.length 0 vs, heap := H })) n vs H
      | n + 1 => loopU (evCode E c { lv with nx := live (.loop c) lv }) (live (.loop c) lv) lv lv.nl s.tmps.length (fun ex vs H => K (ex, { tmps := expandM (maskOf lv ex) s.tmps.length 0 vs, heap := H })) (n + 1) vs H) ?_
    intro vs H
    have hloop : ∀ (lv' : LV) (m N : Nat) (f : Ex × List EV × Heap → Ex × St), Det (fun K : Ex × St → Prop => ∃ n, loopV (evCode E c { lv' with nx := live (.loop c) lv' }) (live (.loop c) lv') lv' m N (fun ex vs H => K (f (ex, vs, H))) n vs H) := by
      intro lv' m N f
      refine det_ex fun n => ?_
      exact det_map (T := fun K : Ex × List EV × Heap → Prop => loopV (evCode E c { lv' with nx := live (.loop c) lv' }) (live (.loop c) lv') lv' m N (fun e v h => K (e, v, h)) n vs H) f (det_loopV (fun s => ih' _ s) _ _ _ _ n vs H)
    cases E.un (firstRegion c) with
    | succ n =>
      dsimp only
      simp only [loopU_eq]
      exact det_map (T := fun K : Ex × List EV × Heap → Prop => loopV (evCode E c { lv with nx := live (.loop c) lv }) (live (.loop c) lv) lv lv.nl s.tmps.length (fun e v h => K (e, v, h)) (n + 1) vs H) (fun p => (p.1, ({ tmps := expandM (maskOf lv p.1) s.tmps.length 0 p.2.1, heap := p.2.2 } : St))) (det_loopV (fun s => ih' _ s) _ _ _ _ (n + 1) vs H)
    | zero =>
    dsimp only
    cases hl : E.lp (firstRegion c) with
    | some L =>
      refine det_gd ?_
      rcases hL c List.mem_cons_self L hl vs H with h | h
      · intro K hK; exact (h _ hK).elim
      · intro K hK
        obtain ⟨v, h1, h2⟩ := hloop L.lv L.m L.N (fun p => (p.1, { tmps := expandM (maskOf lv p.1) s.tmps.length 0 p.2.1, heap := p.2.2 })) K ((h _).1 hK)
        exact ⟨v, h1, fun K' hk => (h _).2 (h2 K' hk)⟩
    | none => exact hloop lv _ _ fun p => (p.1, { tmps := expandM (maskOf lv p.1) s.tmps.length 0 p.2.1, heap := p.2.2 })
  | exit id => intro hL lv s; exact Det2.of (det_pure (Ex.exit id, s))
  | ret => intro hL lv s; exact Det2.of (det_pure (Ex.ret, s))
  | scope c ih => intro hL lv s; exact ih hL lv s
  | rangeFunc f ps x y _ _ => intro hL lv s; exact Det2.of det_false
  | label l => intro hL lv s; exact Det2.of det_false
  | goto l => intro hL lv s; exact Det2.of det_false
  | refuse l => intro hL lv s; exact Det2.of det_false

theorem det_evResults : ∀ (rs : List ResultVar) (s : St), Det (evResults E rs s)
  | [], s => det_pure []
  | .tmp t :: rs, s => by
    show Det (fun K => evResults E (.tmp t :: rs) s K)
    unfold evResults
    exact det_gd (det_map (fun vs => s.slot t :: vs) (det_evResults rs s))
  | .cell a t :: rs, s => by
    show Det (fun K => evResults E (.cell a t :: rs) s K)
    unfold evResults
    refine det_gd ?_
    exact det_bind (U := fun v (K : List EV → Prop) => evResults E rs s fun vs => K (v :: vs)) det_evLoad fun v => det_map (fun vs => v :: vs) (det_evResults rs s)

theorem det_retK {nl : Nat} {ros : List (Option IntKind)} {vs : List EV} {H : Heap} : Det2 (retK nl ros vs H) := by
  refine Det2.of ?_
  unfold retK finK
  refine det_gd ?_
  split <;> exact det_pure (_, _)

theorem evFn_det {fn : Func} {own : Bool} {args : List EV} {H : Heap} (hD : DetFn E) (hL : ∀ c, fn.body = some c → ∀ c', c' ∈ loopsOf c → LoopEq E c') : Det2 (evFn E fn own args H) := by
  refine Det2.of ?_
  unfold evFn
  cases hb : fn.body with
  | none => exact det_false
  | some c =>
    dsimp only
    have hR : ∀ s, Det (fun K : EV × Heap → Prop => evResults E fn.results.toList s fun vs => retK H.length (cond own [] (fn.resultTypes.toList.map (roTy E))) vs s.heap fun v h => K (v, h)) := by
      intro s
      exact det_bind (U := fun vs (K : EV × Heap → Prop) => retK H.length (cond own [] (fn.resultTypes.toList.map (roTy E))) vs s.heap fun v h => K (v, h)) (det_evResults _ s) fun vs => det_retK.to
    refine det_bind (T := fun K : Ex × St → Prop => evCode E c _ _ fun e s => K (e, s)) (U := fun (p : Ex × St) (K : EV × Heap → Prop) => match p.1 with
      | .exit _ => False
      | _ => evResults E fn.results.toList p.2 fun vs => retK H.length (cond own [] (fn.resultTypes.toList.map (roTy E))) vs p.2.heap fun v h => K (v, h)) (evCode_det hD c (hL c hb) _ _).to ?_
    rintro ⟨e, s⟩
    cases e with
    | exit id => exact det_false
    | normal => exact hR s
    | ret => exact hR s

theorem LoopEq.none {c : Code} (h : E.lp (firstRegion c) = Option.none) : LoopEq E c := by
  intro L hL; rw [h] at hL; cases hL
end

/-- A list of numbered things. -/
def look {α : Type} : List (Nat × α) → Nat → Option α
  | [], _ => none
  | (i, t) :: l, j => cond (Nat.beq i j) (some t) (look l j)
def AllL {α : Type} (p : Nat → α → Prop) : List (Nat × α) → Prop
  | [] => True
  | (i, a) :: l => p i a ∧ AllL p l

theorem look_all {α : Type} {p : Nat → α → Prop} : ∀ (l : List (Nat × α)), AllL p l → ∀ i a, look l i = some a → p i a
  | [], _, _, _, h => by cases h
  | (j, b) :: l, hl, i, a, h => by
    simp only [look] at h
    cases hb : Nat.beq j i with
    | true =>
      rw [hb] at h
      simp only [cond_true, Option.some.injEq] at h
      subst h
      exact Nat.eq_of_beq_eq_true hb ▸ hl.1
    | false =>
      rw [hb] at h
      exact look_all l hl.2 i a h

def tdB (P : Program) (t : TypeId) : TypeDesc → TD → Bool
  | .bool, .bool => true
  | .int k, .int k' => decide (k = k')
  | .string, .str => true
  | .pointer _, .ptr => true
  | .slice e, .slice e' => Nat.beq e e'
  | .array n e, .array n' e' => Nat.beq n n' && (Nat.beq e e' && !P.eqGuardType P.depth t)
  | .struct fs, .struct fs' => decide (fs.toList.map (fun f => (f.offset, f.type)) = fs') && (fs.toList.all (fun f => f.name != "_") && (!P.stoodInHeld t && !P.eqGuardType P.depth t))
  | .func _ _ _, .func => true
  | d, .other => !TypeDescAgg d
  | _, _ => false

theorem tdB_ok {P : Program} {t : TypeId} {d : TypeDesc} {td : TD} (h : tdB P t d td = true) : tdOk P t d td := by
  unfold tdB at h
  split at h
  · trivial
  · have := of_decide_eq_true (p := _ = _) h; exact this
  · trivial
  · trivial
  · exact Nat.eq_of_beq_eq_true h
  · simp only [Bool.and_eq_true, Bool.not_eq_true'] at h
    exact ⟨Nat.eq_of_beq_eq_true h.1, Nat.eq_of_beq_eq_true h.2.1, h.2.2⟩
  · simp only [Bool.and_eq_true, Bool.not_eq_true'] at h
    exact ⟨of_decide_eq_true h.1, h.2.1, h.2.2.1, h.2.2.2⟩
  · trivial
  · simp only [Bool.not_eq_true'] at h
    cases d <;> simp_all [tdOk, TypeDescAgg]
  · cases h

def tiB (P : Program) (t : TypeId) (ti : TI) : Bool :=
  match P.underlying t, P.info? t with
  | some d, some i => tdB P t d ti.td && (Nat.beq i.size ti.size && (Nat.beq i.bytes ti.bytes && i.zero.isSome))
  | _, _ => false

theorem OkTI.of {P : Program} {t : TypeId} {ti : TI} (h : tiB P t ti = true) (h2 : (P.info? t).bind (·.zero) = encV ti.zero) : OkTI P t ti := by
  unfold tiB at h
  split at h
  · rename_i d i hd hi
    simp only [Bool.and_eq_true] at h
    rw [hi] at h2
    simp only [Option.bind_some] at h2
    cases hz : i.zero with
    | none => rw [hz] at h; simp at h
    | some z => exact ⟨d, i, z, hd, hi, tdB_ok h.1, Nat.eq_of_beq_eq_true h.2.1, Nat.eq_of_beq_eq_true h.2.2.1, hz, h2.symm.trans hz⟩
  · cases h

/-- One of two entries, by the form of the arguments. -/
def Entry.pick (c : List EV → Heap → Bool) (a b : Entry) : Entry := ⟨a.ro, a.lend, fun args H K => cond (c args H) (a.spec args H K) (b.spec args H K)⟩

/-- All that is asked of a callee. -/
structure SoundE (P : Program) (gl : Nat → Option EV) (f : FuncId) (en : Entry) : Prop where
  sound : SoundF P gl f en
  det : ∀ args H, Det2 (en.spec args H)
  known : ∃ fn, P.funcs[f]? = some fn ∧ fn.body.isNone = false ∧ (fn.name == "runtime.NumGoroutine") = false

theorem SoundE.pick {P : Program} {gl : Nat → Option EV} {f : FuncId} {c : List EV → Heap → Bool} {a b : Entry} (h : SoundE P gl f a) (k : SoundE P gl f b) : SoundE P gl f (Entry.pick c a b) := by
  refine ⟨?_, ?_, h.known⟩
  · intro ρ H w args xs K hs hr hS hG
    have hs' : cond (c args H) (a.spec args H K) (b.spec args H K) := hs
    cases hc : c args H with
    | true => rw [hc] at hs'; exact h.sound ρ H w args xs K hs' hr hS hG
    | false => rw [hc] at hs'; exact k.sound ρ H w args xs K hs' hr hS hG
  · intro args H K hs
    have hs' : cond (c args H) (a.spec args H K) (b.spec args H K) := hs
    show ∃ v u, K v u ∧ ∀ K' : EV → Heap → Prop, K' v u → cond (c args H) (a.spec args H K') (b.spec args H K')
    cases hc : c args H with
    | true => rw [hc] at hs'; exact h.det args H K hs'
    | false => rw [hc] at hs'; exact k.det args H K hs'

def loopsF (fn : Func) : List Code :=
  match fn.body with
  | some c => loopsOf c
  | none => []
def loopAt (fn : Func) (k : Nat) : Code :=
  match (loopsF fn)[k]? with
  | some c => c
  | none => .skip

def AllLoops (E : Env) (fn : Func) : Nat → Nat → Prop
  | _, 0 => True
  | k, n + 1 => LoopEq E (loopAt fn k) ∧ AllLoops E fn (k + 1) n

theorem allLoops_ok {E : Env} {fn : Func} : ∀ (n k : Nat), AllLoops E fn k n → ∀ j, k ≤ j → j < k + n → LoopEq E (loopAt fn j)
  | 0, k, _, j, h1, h2 => by omega
  | n + 1, k, h, j, h1, h2 => by
    by_cases hj : j = k
    · subst hj; exact h.1
    · exact allLoops_ok n (k + 1) h.2 j (by omega) (by omega)

theorem fnOK {P : Program} {E : Env} {f : FuncId} {fn : Func} {en : Entry} {tys : List (Nat × TI)} {fns : List (Nat × Entry)} (hty : E.ty = look tys) (htys : AllL (OkTI P) tys)
    (hfn : E.fn = look fns) (hfns : AllL (SoundE P E.gl) fns) (hm : P.follows .mixedOrders = true) (hf : P.funcs[f]? = some fn) (hb : fn.body.isNone = false) (hn : (fn.name == "runtime.NumGoroutine") = false)
    (n : Nat) (hln : (loopsF fn).length = n) (own : Bool) (hl : AllLoops E fn 0 n) (hS : ∀ args H, (∀ K, ¬ en.spec args H K) ∨ ∀ K, en.spec args H K ↔ evFn E fn own args H K) : SoundE P E.gl f en := by
  have hE : ∀ t ti, E.ty t = some ti → OkTI P t ti := by rw [hty]; exact look_all tys htys
  have hA : ∀ g e, E.fn g = some e → SoundE P E.gl g e := by rw [hfn]; exact look_all fns hfns
  have hFn : OkFn P E := fun g e h => ⟨(hA g e h).sound, (hA g e h).known⟩
  have hD : DetFn E := fun g e h => (hA g e h).det
  have hL : ∀ c, fn.body = some c → ∀ c', c' ∈ loopsOf c → LoopEq E c' := by
    intro c hc c' hc'
    have he : loopsF fn = loopsOf c := by simp [loopsF, hc]
    obtain ⟨k, hk, rfl⟩ := List.mem_iff_getElem.1 hc'
    have : loopAt fn k = (loopsOf c)[k] := by simp [loopAt, he, hk]
    rw [← this]
    exact allLoops_ok n 0 hl k (Nat.zero_le _) (by rw [he] at hln; omega)
  refine ⟨?_, ?_, ⟨fn, hf, hb, hn⟩⟩
  · intro ρ H w args xs K hs hr hS' hG
    rcases hS args H with h | h
    · exact (h K hs).elim
    · exact evFn_sound hE hFn hD hm hf (fun c hc c' hc' => (hL c hc c' hc').ok) ((h K).1 hs) hr hS' hG
  · intro args H K hs
    rcases hS args H with h | h
    · exact (h K hs).elim
    · obtain ⟨v, u, h1, h2⟩ := evFn_det hD hL K ((h K).1 hs)
      exact ⟨v, u, h1, fun K' hk => (h K').2 (h2 K' hk)⟩

/-- A law that comes to true: its call. -/
theorem law_walk {P : Program} {gl : Nat → Option EV} {f : FuncId} {en : Entry} (h : SoundE P gl f en) {W : World} {args : List EV} {xs : List Value} (hs : en.spec args [] fun v H => gd (Nat.beq H.length 0) (v = .bool true)) (hr : RelL ⟨[], []⟩ W args xs) (hG : GOk gl ⟨[], []⟩ W) :
    Calls P f xs.toArray W fun e w' => e = .returned (.bool true) ∧ RowKit.Below W.heap.size W w' := by
  refine (h.sound.plain hs hr (by simp) hG).mono ?_
  rintro e w' ⟨v, x, rfl, rfl, hv, hX⟩
  simp only [Rel] at hv
  subst hv
  exact ⟨rfl, hX.os, hX.tape, hX.output, hX.size, fun k hk => hX.out k hk (by simp [Ren.own])⟩
end Go.Ev
