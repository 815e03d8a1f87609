/- The evaluator: one operation. -/
import Derived.Test.YtfglhfahphncdaaDoorEvRen
set_option linter.unusedVariables false
set_option linter.unusedSimpArgs false
namespace Go.Ev
open Go

inductive TD where
  | bool
  | int (k : IntKind)
  | str
  | ptr
  | slice (e : TypeId)
  | array (n : Nat) (e : TypeId)
  | struct (fs : List (Nat × TypeId))
  | func
  | other
  deriving Inhabited

def TD.agg : TD → Bool
  | .struct _ => true
  | .array _ _ => true
  | .bool => false | .int _ => false | .str => false | .ptr => false | .slice _ => false | .func => false | .other => false

structure TI where
  td : TD
  size : Nat
  bytes : Nat
  zero : EV
  deriving Inhabited

def tdOk (P : Program) (t : TypeId) : TypeDesc → TD → Prop
  | .bool, .bool => True
  | .int k, .int k' => k = k'
  | .string, .str => True
  | .pointer _, .ptr => True
  | .slice e, .slice e' => e = e'
  | .array n e, .array n' e' => n = n' ∧ e = e' ∧ P.eqGuardType P.depth t = false
  | .struct fs, .struct fs' => fs.toList.map (fun f => (f.offset, f.type)) = fs' ∧ fs.toList.all (fun f => f.name != "_") = true ∧ P.stoodInHeld t = false ∧ P.eqGuardType P.depth t = false
  | .func _ _ _, .func => True
  | d, .other => TypeDescAgg d = false
  | _, _ => False

mutual
/-- A value without places, as the machine's. -/
def encV : EV → Option Value
  | .bool b => some (.bool b)
  | .int k n => some (.int k n)
  | .str s => some (.string ⟨s.toArray⟩)
  | .nilPtr => some (.pointer none)
  | .nilSlice => some (.slice none 0 0)
  | .nilFunc => some .nilFunc
  | .nilIface => some .nilIface
  | .agg l => match encF l with
    | some cs => some (.agg cs.toArray)
    | none => none
  | .arr k n g => some (.agg (ints k n g).toArray)
  | .undef => none | .ptr _ _ => none | .rref _ => none | .slice _ _ _ _ _ => none | .rsI _ _ _ => none | .func _ _ => none
  | .tuple _ => none | .iface _ _ => none
def encF : List EV → Option (List Value)
  | [] => some []
  | v :: l => match encV v, encF l with
    | some x, some cs => some (x.cells.toList ++ cs)
    | _, _ => none
end

mutual
theorem encV_rel {ρ : Ren} {w : World} : ∀ (v : EV) (x : Value), encV v = some x → Rel ρ w v x
  | .bool _, _, h => by simp only [encV, Option.some.injEq] at h; subst h; rfl
  | .int _ _, _, h => by simp only [encV, Option.some.injEq] at h; subst h; rfl
  | .str _, _, h => by simp only [encV, Option.some.injEq] at h; subst h; rfl
  | .nilPtr, _, h => by simp only [encV, Option.some.injEq] at h; subst h; rfl
  | .nilSlice, _, h => by simp only [encV, Option.some.injEq] at h; subst h; rfl
  | .nilFunc, _, h => by simp only [encV, Option.some.injEq] at h; subst h; rfl
  | .nilIface, _, h => by simp only [encV, Option.some.injEq] at h; subst h; rfl
  | .agg l, x, h => by
    simp only [encV] at h
    cases hl : encF l with
    | none => simp [hl] at h
    | some cs =>
      simp only [hl, Option.some.injEq] at h; subst h
      exact ⟨_, rfl, by simpa using encF_rel l cs hl⟩
  | .arr _ _ _, _, h => by simp only [encV, Option.some.injEq] at h; subst h; rfl
  | .undef, _, h => by simp [encV] at h
  | .ptr _ _, _, h => by simp [encV] at h
  | .rref _, _, h => by simp [encV] at h
  | .slice _ _ _ _ _, _, h => by simp [encV] at h
  | .rsI _ _ _, _, h => by simp [encV] at h
  | .func _ _, _, h => by simp [encV] at h
  | .tuple _, _, h => by simp [encV] at h
  | .iface _ _, _, h => by simp [encV] at h
theorem encF_rel {ρ : Ren} {w : World} : ∀ (l : List EV) (cs : List Value), encF l = some cs → RelF ρ w l cs
  | [], cs, h => by simp only [encF, Option.some.injEq] at h; subst h; rfl
  | v :: l, cs, h => by
    simp only [encF] at h
    cases hv : encV v with
    | none => simp [hv] at h
    | some x =>
      cases hl : encF l with
      | none => simp [hv, hl] at h
      | some ys =>
        simp only [hv, hl, Option.some.injEq] at h; subst h
        simp only [RelF]
        exact ⟨x, ys, rfl, encV_rel v x hv, encF_rel l ys hl⟩
end

def OkTI (P : Program) (t : TypeId) (ti : TI) : Prop :=
  ∃ d i z, P.underlying t = some d ∧ P.info? t = some i ∧ tdOk P t d ti.td ∧ i.size = ti.size ∧ i.bytes = ti.bytes ∧ i.zero = some z ∧ encV ti.zero = some z

theorem tdOk_agg {P : Program} {t : TypeId} {d : TypeDesc} {td : TD} (h : tdOk P t d td) : TypeDescAgg d = td.agg := by
  cases d <;> cases td <;> simp_all [tdOk, TypeDescAgg, TD.agg]

/-- What a callee is known to do: which slices it only reads; does it take and hand back places; of its arguments, and the memory that is lent to it. -/
structure Entry where
  ro : List (Option IntKind)
  lend : Bool
  spec : List EV → List (Option EV) → (EV → List (Option EV) → Prop) → Prop

inductive Ex where
  | normal
  | exit (id : Nat)
  | ret

/-- What is read later: behind, behind each block, at the end; how many blocks are lent. -/
structure LV where
  nx : Nat
  ex : List (Nat × Nat)
  rt : Nat
  nl : Nat

/-- What a loop is known to do: of the values that it keeps, and the memory. -/
structure LoopEntry where
  lv : LV
  m : Nat
  N : Nat
  spec : List EV → List (Option EV) → (Ex → List EV → List (Option EV) → Prop) → Prop

structure Env where
  ty : TypeId → Option TI
  fn : FuncId → Option Entry
  lp : Nat → Option LoopEntry
  gl : Nat → Option EV
  un : Nat → Nat

structure St where
  tmps : List EV
  heap : Heap

def St.slot (s : St) (t : Nat) : EV := (s.tmps[t]?).getD .undef
def St.put (s : St) (d : Option Nat) (v : EV) (H : Heap) : St :=
  match d with
  | some d => { tmps := s.tmps.set d v, heap := H }
  | none => { tmps := s.tmps, heap := H }

def constV : Value → EV
  | .bool b => .bool b
  | .int k n => .int k n
  | .string s => .str s.data.toList
  | .pointer none => .nilPtr
  | .slice none 0 0 => .nilSlice
  | .nilFunc => .nilFunc
  | .nilIface => .nilIface
  | _ => .undef

def St.opd (E : Env) (s : St) : Operand → EV
  | .tmp t => s.slot t
  | .const v => constV v
  | .global g => match E.gl g with
    | some v => .rref v
    | none => .undef
  | .func f => .func f []

/-- Go on where a test holds. -/
def gd (c : Bool) (p : Prop) : Prop := cond c p False

theorem gd_iff (c : Bool) (p : Prop) : gd c p ↔ c = true ∧ p := by cases c <;> simp [gd]
/-- A way that parts. -/
def br (c : Bool) (p q : Prop) : Prop := cond c p q

theorem br_iff (c : Bool) (p q : Prop) : br c p q ↔ (c = true → p) ∧ (c = false → q) := by cases c <;> simp [br]
theorem cd_iff (c : Bool) (p q : Prop) : cond c p q ↔ (c = true → p) ∧ (c = false → q) := by cases c <;> simp

def aggLike : EV → Bool
  | .agg _ => true
  | .arr _ _ _ => true
  | .undef => false | .bool _ => false | .int _ _ => false | .str _ => false | .nilPtr => false | .ptr _ _ => false | .rref _ => false
  | .nilSlice => false | .slice _ _ _ _ _ => false | .rsI _ _ _ => false | .nilFunc => false | .func _ _ => false | .tuple _ => false
  | .nilIface => false | .iface _ _ => false

def beqB : Bool → Bool → Bool
  | true, b => b
  | false, true => false
  | false, false => true

theorem beqB_eq {a b : Bool} : beqB a b = true ↔ a = b := by cases a <;> cases b <;> simp [beqB]

def conf (E : Env) (t : TypeId) (u : EV) : Bool :=
  match E.ty t with
  | some ti => beqB (aggLike u) ti.td.agg && Nat.beq ti.size u.shape.size
  | none => false

mutual
/-- No cell of it is a tuple, and none is missing. -/
def EV.storable : EV → Bool
  | .agg l => EV.storableL l
  | .tuple _ => false
  | .undef => false
  | .arr _ _ _ => true | .bool _ => true | .int _ _ => true | .str _ => true | .nilPtr => true | .ptr _ _ => true | .rref _ => true
  | .nilSlice => true | .slice _ _ _ _ _ => true | .rsI _ _ _ => true | .nilFunc => true | .func _ _ => true
  | .nilIface => true | .iface _ _ => true
def EV.storableL : List EV → Bool
  | [] => true
  | v :: l => v.storable && EV.storableL l
end

mutual
theorem storable_scal {ρ : Ren} {w : World} : ∀ (v : EV) (x : Value), v.storable = true → Rel ρ w v x → x.cells.toList.all scal = true
  | .agg l, x, h, hr => by
    simp only [Rel] at hr
    obtain ⟨cs, rfl, h1⟩ := hr
    rw [cells_agg]
    exact storableL_scal l _ (by simpa [EV.storable] using h) h1
  | .tuple _, _, h, _ => by simp [EV.storable] at h
  | .undef, _, h, _ => by simp [EV.storable] at h
  | .arr k n g, _, _, hr => by
    simp only [Rel] at hr; subst hr
    simp [cells_agg, ints, scal]
  | .bool _, _, _, hr => by simp only [Rel] at hr; subst hr; simp [Value.cells, scal]
  | .int _ _, _, _, hr => by simp only [Rel] at hr; subst hr; simp [Value.cells, scal]
  | .str _, _, _, hr => by simp only [Rel] at hr; subst hr; simp [Value.cells, scal]
  | .nilPtr, _, _, hr => by simp only [Rel] at hr; subst hr; simp [Value.cells, scal]
  | .ptr _ _, _, _, hr => by simp only [Rel] at hr; obtain ⟨_, rfl, _⟩ := hr; simp [Value.cells, scal]
  | .rref _, _, _, hr => by simp only [Rel] at hr; obtain ⟨_, _, _, rfl, _⟩ := hr; simp [Value.cells, scal]
  | .nilSlice, _, _, hr => by simp only [Rel] at hr; subst hr; simp [Value.cells, scal]
  | .slice _ _ _ _ _, _, _, hr => by simp only [Rel] at hr; obtain ⟨_, _, rfl, _⟩ := hr; simp [Value.cells, scal]
  | .rsI _ _ _, _, _, hr => by simp only [Rel] at hr; obtain ⟨_, _, rfl, _⟩ := hr; simp [Value.cells, scal]
  | .nilFunc, _, _, hr => by simp only [Rel] at hr; subst hr; simp [Value.cells, scal]
  | .func _ _, _, _, hr => by simp only [Rel] at hr; obtain ⟨_, rfl, _⟩ := hr; simp [Value.cells, scal]
  | .nilIface, _, _, hr => by simp only [Rel] at hr; subst hr; simp [Value.cells, scal]
  | .iface _ _, _, _, hr => by simp only [Rel] at hr; obtain ⟨_, rfl, _⟩ := hr; simp [Value.cells, scal]
theorem storableL_scal {ρ : Ren} {w : World} : ∀ (l : List EV) (xs : List Value), EV.storableL l = true → RelF ρ w l xs → xs.all scal = true
  | [], _, _, hr => by simp only [RelF] at hr; subst hr; rfl
  | v :: l, xs, h, hr => by
    simp only [EV.storableL, Bool.and_eq_true] at h
    simp only [RelF] at hr
    obtain ⟨x, ys, rfl, h1, h2⟩ := hr
    rw [List.all_append, storable_scal v x h.1 h1, storableL_scal l ys h.2 h2]
    rfl
end

theorem Rel.aggLike {ρ : Ren} {w : World} {v : EV} {x : Value} (h : Rel ρ w v x) : (aggLike v = true → ∃ cs, x = .agg cs) ∧ (aggLike v = false → ∀ cs, x ≠ .agg cs) := by
  cases v <;> simp only [Rel] at h
  case agg l => obtain ⟨cs, rfl, _⟩ := h; exact ⟨fun _ => ⟨_, rfl⟩, fun h => by simp [Ev.aggLike] at h⟩
  case arr => subst h; exact ⟨fun _ => ⟨_, rfl⟩, fun h => by simp [Ev.aggLike] at h⟩
  all_goals refine ⟨fun h => by simp [Ev.aggLike] at h, fun _ cs e => ?_⟩
  all_goals subst e
  all_goals simp at h

/-- What is loaded at a type. -/
def evLoad (E : Env) (t : TypeId) (v : EV) (H : Heap) (K : EV → Prop) : Prop :=
  match v with
  | .rref u => gd (conf E t u) (K u)
  | .ptr b p => match H[b]? with
    | some (some c) => match EV.get p c with
      | some u => gd (conf E t u) (K u)
      | none => False
    | _ => False
  | _ => False

def evStore (E : Env) (t : TypeId) (a v : EV) (H : Heap) (K : Heap → Prop) : Prop :=
  match a with
  | .ptr b p => match H[b]? with
    | some (some c) => match EV.set p c v with
      | some c' => gd (v.storable && match E.ty t with | some ti => Nat.beq ti.size v.shape.size | none => false) (K (H.set b (some c')))
      | none => False
    | _ => False
  | _ => False

def evNew (H : Heap) (v : EV) (K : EV → Heap → Prop) : Prop := K (.ptr H.length []) (H ++ [some v])

section sound
variable {P : Program} {E : Env}

theorem conf_spec {t : TypeId} {u : EV} (hE : ∀ t ti, E.ty t = some ti → OkTI P t ti) (h : conf E t u = true) :
    ∃ d i, P.underlying t = some d ∧ P.info? t = some i ∧ TypeDescAgg d = aggLike u ∧ i.size = u.shape.size := by
  unfold conf at h
  cases ht : E.ty t with
  | none => simp [ht] at h
  | some ti =>
    simp only [ht, Bool.and_eq_true, beqB_eq] at h
    obtain ⟨d, i, z, h1, h2, h3, h4, _⟩ := hE t ti ht
    exact ⟨d, i, h1, h2, (tdOk_agg h3).trans h.1.symm, h4.trans (Nat.eq_of_beq_eq_true h.2)⟩

theorem run_load_conf {ρ : Ren} {w : World} {t : TypeId} {u : EV} {x : Value} {m o : Nat} (hE : ∀ t ti, E.ty t = some ti → OkTI P t ti) (h : conf E t u = true)
    (hr : Rel ρ w u x) (hc : CellsAt w m o x.cells.toList) : (loadVar t ⟨m, o, none⟩).run P w = .ok x w := by
  obtain ⟨d, i, h1, h2, h3, h4⟩ := conf_spec hE h
  have hs := Rel.size u x hr
  exact run_loadVar x h1 h2 (fun hd => (hr.aggLike).1 (h3 ▸ hd)) (fun hd => (hr.aggLike).2 (h3 ▸ hd)) (by rw [h4, ← hs]; simp) hc

theorem evLoad_sound {ρ : Ren} {w : World} {t : TypeId} {v : EV} {x : Value} {H : Heap} {K : EV → Prop} (hE : ∀ t ti, E.ty t = some ti → OkTI P t ti)
    (hS : Sim ρ H w) (hr : Rel ρ w v x) (h : evLoad E t v H K) : ∃ u y, K u ∧ Rel ρ w u y ∧ (Instr.loadAt t x).run P w = .ok y w := by
  cases v <;> simp only [evLoad] at h
  case rref u =>
    rw [gd_iff] at h
    simp only [Rel] at hr
    obtain ⟨b, o, y, rfl, h1, h2, h3, h4⟩ := hr
    refine ⟨u, y, h.2, h1, ?_⟩
    simp only [Instr.loadAt, Instr.sureAddr, run_bind, run_pure]
    exact run_load_conf hE h.1 h1 h4
  case ptr b p =>
    split at h
    · rename_i c hb
      split at h
      · rename_i u hg
        rw [gd_iff] at h
        have hr' := hr
        simp only [Rel] at hr
        obtain ⟨a, rfl, _⟩ := hr
        obtain ⟨m, o, y, rfl, h1, h2⟩ := hS.get hb hg hr'
        refine ⟨u, y, h.2, h1, ?_⟩
        simp only [Instr.loadAt, Instr.sureAddr, run_bind, run_pure]
        exact run_load_conf hE h.1 h1 h2
      · exact h.elim
    · exact h.elim

theorem evStore_sound {ρ : Ren} {w : World} {t : TypeId} {a v : EV} {x y : Value} {H : Heap} {K : Heap → Prop} (hE : ∀ t ti, E.ty t = some ti → OkTI P t ti)
    (hS : Sim ρ H w) (ha : Rel ρ w a x) (hv : Rel ρ w v y) (h : evStore E t a v H K) :
    ∃ H' w', K H' ∧ Sim ρ H' w' ∧ Ext ρ w ρ w' ∧ (Instr.storeAt t x y).run P w = .ok () w' := by
  cases a <;> simp only [evStore] at h
  case ptr b p =>
    split at h
    · rename_i c hb
      split at h
      · rename_i c' hg
        rw [gd_iff, Bool.and_eq_true] at h
        obtain ⟨⟨hst, hsz⟩, hK⟩ := h
        cases ht : E.ty t with
        | none => simp [ht] at hsz
        | some ti =>
          simp only [ht] at hsz
          obtain ⟨d, i, z, h1, h2, h3, h4, _⟩ := hE t ti ht
          have ha' := ha
          simp only [Rel] at ha
          obtain ⟨aa, rfl, _⟩ := ha
          obtain ⟨m, o, cs, e, fz, rfl, h5, h6, h7, h8, h9⟩ := hS.put hb hg ha' hv
          refine ⟨_, _, hK, h8, h9, ?_⟩
          have hs := Rel.size v y hv
          have hsz' := Nat.eq_of_beq_eq_true hsz
          simp only [Instr.storeAt, Instr.sureAddr, run_bind, run_pure, storeVar, run_sizeOf h2]
          rw [if_neg (by rw [h4, hsz', ← hs]; simp)]
          exact run_storeCells y.cells.toList w o 0 cs e fz h5 h6 (by omega) (storable_scal v y hst hv)
      · exact h.elim
    · exact h.elim

theorem run_newVar (w : World) (t : TypeId) (x : Value) : (newVar t x).run P w = .ok ⟨w.heap.size, 0, none⟩ (w.alloc (.cells x.cells t)) := rfl

theorem evNew_sound {ρ : Ren} {w : World} {v : EV} {x : Value} {H : Heap} {K : EV → Heap → Prop} (t : TypeId) (hS : Sim ρ H w) (hv : Rel ρ w v x) (h : evNew H v K) :
    ∃ u H' ρ' w' y, K u H' ∧ Sim ρ' H' w' ∧ Ext ρ w ρ' w' ∧ ρ'.F = ρ.F ∧ Rel ρ' w' u (.pointer (some y)) ∧ (newVar t x).run P w = .ok y w' := by
  obtain ⟨ρ', rfl, h1, h2⟩ := hS.new v x t hv
  refine ⟨_, _, _, _, _, h, h1, h2, rfl, ?_, run_newVar w t x⟩
  simp only [Rel]
  refine ⟨_, rfl, _, by rw [List.getElem?_append_right (by rw [hS.len]; exact Nat.le_refl _), hS.len, Nat.sub_self]; rfl, ?_⟩
  intro i hi
  cases hi
  exact ⟨0, by simp [Shape.off], rfl⟩
end sound
end Go.Ev
