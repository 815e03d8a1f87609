/- The evaluator: a region whose order is open. -/
import Derived.Test.YtanelnajdbghdaaDoorEvC
import Derived.LoopN
import Derived.Scope
import Derived.Lib.SmallJoins
import Derived.SizedLaws
import Derived.Below
set_option linter.unusedVariables false
set_option linter.unusedSimpArgs false
namespace Go.Ev
open Go
def tmpsOf : List Operand → List Nat
  | [] => []
  | .tmp t :: l => t :: tmpsOf l
  | _ :: l => tmpsOf l
theorem tmpsOf_mem (t : Nat) : ∀ (l : List Operand), .tmp t ∈ l → t ∈ tmpsOf l
  | x :: l, h => by
    rcases List.mem_cons.1 h with h | h
    · subst h; simp [tmpsOf]
    · have := tmpsOf_mem t l h
      cases x <;> simp [tmpsOf, this]
def guardSlot (ops : List Oper) (o : Oper) : List Nat :=
  match o.guard with
  | none => []
  | some (j, _) => match ops[j]? with
    | some oj => match oj.dst with
      | some d => [d]
      | none => []
    | none => []
def allNone : List (Option RK) → Bool
  | [] => true
  | none :: l => allNone l
  | some _ :: _ => false
def heapK (E : Env) : Op → Nat
  | .move _ => 0 | .assign _ => 0 | .pick _ _ _ => 0 | .build _ _ => 0 | .binOp _ _ _ y _ => cond (Nat.beq (nilK y) 1) 1 0 | .unOp _ _ _ => 0 | .field _ _ _ => 0
  | .index _ _ _ => 0 | .extract _ _ => 0
  | .alloc _ => 3 | .box _ _ => 3 | .buildSlice _ _ _ => 3 | .makeSlice _ _ _ => 3
  | .slice _ _ _ _ _ => 1 | .load _ _ => 1 | .convert _ _ _ => 1 | .fieldAddr _ _ _ => 1 | .indexAddr _ _ _ => 1 | .nilCheck _ => 1
  | .call { callee := .value (.func f), args := _, argTypes := _ } => match E.fn f with
    | some en => cond (allNone en.ro && !en.lend) 0 (cond (en.lend && newRo en.ro) 4 (cond (en.lend && keepRo en.ro) 5 2))
    | none => 2
  | .call { callee := .builtin .len, args := _, argTypes := _ } => 0
  | .call { callee := .builtin .max, args := _, argTypes := _ } => 0
  | .call { callee := .builtin .min, args := _, argTypes := _ } => 0
  | _ => 2
mutual
theorem inI_congr {f g : Nat → Nat} {idx : List Nat} (h : ∀ b, b ∈ idx → f b = g b) : ∀ (v : EV), v.inI idx = true → v.ren f = v.ren g
  | .ptr b _, hv => by simp only [EV.inI, memN_iff] at hv; simp only [EV.ren, h b hv]
  | .slice b _ _ _ _, hv => by simp only [EV.inI, memN_iff] at hv; simp only [EV.ren, h b hv]
  | .rref v, hv => by simp only [EV.ren, inI_congr h v (by simpa [EV.inI] using hv)]
  | .agg l, hv => by simp only [EV.ren, inIL_congr h l (by simpa [EV.inI] using hv)]
  | .tuple l, hv => by simp only [EV.ren, inIL_congr h l (by simpa [EV.inI] using hv)]
  | .func _ l, hv => by simp only [EV.ren, inIL_congr h l (by simpa [EV.inI] using hv)]
  | .bnd _ l, hv => by simp only [EV.ren, inIL_congr h l (by simpa [EV.inI] using hv)]
  | .iface _ v, hv => by simp only [EV.ren, inI_congr h v (by simpa [EV.inI] using hv)]
  | .rsI _ _ _, _ => rfl | .undef, _ => rfl
  | .bool _, _ => rfl | .int _ _, _ => rfl | .str _, _ => rfl | .nilPtr, _ => rfl | .nilSlice, _ => rfl | .nilFunc, _ => rfl | .arr _ _ _, _ => rfl | .nilIface, _ => rfl
  | .rsT _ _ _, _ => rfl | .arrT _ _ _, _ => rfl
theorem inIL_congr {f g : Nat → Nat} {idx : List Nat} (h : ∀ b, b ∈ idx → f b = g b) : ∀ (l : List EV), EV.inIL idx l = true → EV.renL f l = EV.renL g l
  | [], _ => rfl
  | v :: l, hv => by
    simp only [EV.inIL, Bool.and_eq_true] at hv
    simp only [EV.renL, inI_congr h v hv.1, inIL_congr h l hv.2]
end
theorem hk0 {en : Entry} (hk : (cond (allNone en.ro && !en.lend) 0 (cond (en.lend && newRo en.ro) 4 (cond (en.lend && keepRo en.ro) 5 2)) : Nat) = 0) : allNone en.ro = true ∧ en.lend = false := by
  cases h1 : allNone en.ro <;> cases h2 : en.lend <;> cases h3 : newRo en.ro <;> cases h4 : keepRo en.ro <;> simp [h1, h2, h3, h4] at hk ⊢
theorem hk4 {en : Entry} (hk : (cond (allNone en.ro && !en.lend) 0 (cond (en.lend && newRo en.ro) 4 (cond (en.lend && keepRo en.ro) 5 2)) : Nat) = 4) : en.lend = true ∧ newRo en.ro = true := by
  cases h1 : allNone en.ro <;> cases h2 : en.lend <;> cases h3 : newRo en.ro <;> cases h4 : keepRo en.ro <;> simp [h1, h2, h3, h4] at hk ⊢
theorem hk5 {en : Entry} (hk : (cond (allNone en.ro && !en.lend) 0 (cond (en.lend && newRo en.ro) 4 (cond (en.lend && keepRo en.ro) 5 2)) : Nat) = 5) : en.lend = true ∧ newRo en.ro = false ∧ keepRo en.ro = true := by
  cases h1 : allNone en.ro <;> cases h2 : en.lend <;> cases h3 : newRo en.ro <;> cases h4 : keepRo en.ro <;> simp [h1, h2, h3, h4] at hk ⊢
def noMem (d : Option Nat) (l : List Nat) : Bool :=
  match d with
  | some d => !memN d l
  | none => true
def neO : Option Nat → Option Nat → Bool
  | some a, some b => !Nat.beq a b
  | _, _ => true
def kp (a : Nat) : Bool := Nat.ble a 1 || Nat.beq a 5
def heapOk (a b : Nat) : Bool := Nat.beq a 0 || (Nat.beq b 0 || ((kp a && kp b) || ((Nat.beq a 1 && Nat.beq b 3) || (Nat.beq a 1 && Nat.beq b 4))))
def readPtr : Op → Option Operand
  | .load _ a => some a
  | .fieldAddr _ x _ => some x
  | .nilCheck x => some x
  | .indexAddr _ x _ => some x
  | .slice _ x _ _ _ => some x
  | .convert _ _ x => some x
  | _ => none
def storePtr (E : Env) : Op → Option Operand
  | .store _ a _ => some a
  | .call { callee := .value (.func f), args := xs, argTypes := _ } => match E.fn f with
    | some en => cond (en.lend && (!newRo en.ro && (!keepRo en.ro && setRo en.ro))) xs.toList.head? none
    | none => none
  | _ => none
def dynP (E : Env) (p o : Op) : Option (Operand × Operand) :=
  match storePtr E p, readPtr o with
  | some a, some x => some (a, x)
  | _, _ => match readPtr p, storePtr E o with
    | some x, some a => some (x, a)
    | _, _ => none
def blkOf : EV → Option Nat
  | .ptr b _ => some b
  | .slice b _ _ _ _ => some b
  | _ => none
def apartV (a x : EV) : Bool :=
  match blkOf a, blkOf x with
  | some b, some c => !Nat.beq b c
  | _, _ => true
theorem blkOf_ren {f : Nat → Nat} (v : EV) : blkOf (v.ren f) = (blkOf v).map f := by cases v <;> rfl
def noDst (x : Operand) : List Oper → Bool
  | [] => true
  | o :: l => noMem o.dst (tmpsOf [x]) && noDst x l
def quietOps (E : Env) : List Oper → Bool
  | [] => true
  | o :: l => !Nat.beq (heapK E o.op) 2 && quietOps E l
def indepD (ops : List Oper) (p o : Oper) : Bool :=
  (noMem p.dst (tmpsOf o.op.operands.toList) && noMem p.dst (guardSlot ops o)) && ((noMem o.dst (tmpsOf p.op.operands.toList) && noMem o.dst (guardSlot ops p)) && neO p.dst o.dst)
def dynOk (E : Env) (ops : List Oper) (j i : Nat) (p o : Oper) : Bool :=
  match dynP E p.op o.op with
  | some (x, y) => noDst x (ops.drop j) && noDst y (ops.drop i)
  | none => false
def k34 (a : Nat) : Bool := Nat.beq a 3 || Nat.beq a 4
def both3 (E : Env) (p o : Op) : Bool := (k34 (heapK E p) && k34 (heapK E o)) || (Nat.beq (heapK E p) 4 && (Nat.beq (heapK E o) 1 && (readPtr o).isSome))
theorem both3_spec {E : Env} {p o : Op} (h : both3 E p o = true) : ((heapK E p = 3 ∨ heapK E p = 4) ∧ (heapK E o = 3 ∨ heapK E o = 4)) ∨ (heapK E p = 4 ∧ heapK E o = 1 ∧ ∃ x, readPtr o = some x) := by
  simp only [both3, k34, Bool.or_eq_true, Bool.and_eq_true, Nat.beq_eq, Option.isSome_iff_exists] at h
  rcases h with h | ⟨h1, h2, h3⟩
  · exact .inl h
  · exact .inr ⟨h1, h2, h3⟩
def bindsOn (j : Nat) : List Edge → Bool
  | [] => false
  | e :: l => (Region.binds .any e && Nat.beq e.on j) || bindsOn j l
def anyE (p : Edge → Bool) : List Edge → Bool
  | [] => false
  | e :: l => p e || anyE p l
def bindsT (ops : List Oper) : Nat → Nat → List Edge → Bool
  | 0, _, _ => false
  | n + 1, j, l => anyE (fun e => Region.binds .any e && (Nat.beq e.on j || (Nat.blt j e.on && (match ops[e.on]? with
    | some o => bindsT ops n j o.after.toList
    | none => false)))) l
def edgesBelow (i : Nat) : List Edge → Bool
  | [] => true
  | e :: l => (!Region.binds .any e || Nat.blt e.on i) && edgesBelow i l
def okAll (E : Env) (ops : List Oper) (o : Oper) (i : Nat) : Nat → List Oper → Bool
  | _, [] => true
  | j, p :: l => ((bindsOn j o.after.toList || (indepD ops p o && (heapOk (heapK E p.op) (heapK E o.op) || ((both3 E p.op o.op && quietOps E (ops.take i)) || dynOk E ops j i p o)))) || bindsT ops 6 j o.after.toList) && okAll E ops o i (j + 1) l
def okFrom (E : Env) (ops : List Oper) : Nat → List Oper → Bool
  | _, [] => true
  | i, o :: l => (edgesBelow i o.after.toList && okAll E ops o i 0 (ops.take i)) && okFrom E ops (i + 1) l
def commB (E : Env) (ops : List Oper) : Bool := okFrom E ops 0 ops
def chkAll (E : Env) (t : Operand → Operand → Bool) (o : Oper) : Nat → List Oper → Bool
  | _, [] => true
  | j, p :: l => (bindsOn j o.after.toList || (heapOk (heapK E p.op) (heapK E o.op) || (both3 E p.op o.op || (match dynP E p.op o.op with
    | some (x, y) => t x y
    | none => true)))) && chkAll E t o (j + 1) l
def chkFrom (E : Env) (t : Operand → Operand → Bool) (ops : List Oper) : Nat → List Oper → Bool
  | _, [] => true
  | i, o :: l => chkAll E t o 0 (ops.take i) && chkFrom E t ops (i + 1) l
def chkB (E : Env) (ops : List Oper) (s : St) : Bool := chkFrom E (fun x y => apartV (St.opd E s x) (St.opd E s y)) ops 0 ops
def evDraw (E : Env) (ops : List Oper) (s : St) (K : St → Prop) : Prop :=
  gd (commB E ops) (cond (chkFrom E (fun _ _ => false) ops 0 ops) (evOps E ops ops s K) (evOps E ops ops s fun s' => gd (chkB E ops s') (K s')))
section swap
variable {E : Env}
def Out (E : Env) (o : Op) (s : St) (v : EV) (H : Heap) : Prop := ∀ K : EV → Heap → Prop, K v H → evOp E o s K
theorem killArgs_free : ∀ (l : List EV) (H : Heap), EV.freeL l = true → killArgs l H = H
  | [], _, _ => rfl
  | v :: l, H, h => by
    simp only [EV.freeL, Bool.and_eq_true] at h
    cases v <;> simp only [killArgs] <;> first | exact killArgs_free l H h.2 | (simp [EV.free] at h)
theorem roArgs_none (H : Heap) : ∀ (ms : List (Option RK)) (vs : List EV), allNone ms = true → roArgs H ms vs = vs
  | [], vs, _ => by cases vs <;> rfl
  | none :: ms, [], _ => rfl
  | none :: ms, v :: vs, h => by
    simp only [allNone] at h
    rw [roArgs, roArgs_none H ms vs h]
    rfl
  | some _ :: _, _, h => by simp [allNone] at h
theorem evV_loc {o : Op} {s s' : St} (h : ∀ x ∈ o.operands.toList, (St.opd E s) x = (St.opd E s') x) (hh : heapK E o = 0 ∨ s.heap = s'.heap) : evV E o s = evV E o s' := by
  funext K
  unfold evV
  split
  case h_1 x => rw [h x (by simp [Op.operands])]
  case h_2 x => rw [h x (by simp [Op.operands])]
  case h_3 c a b => rw [h c (by simp [Op.operands]), h a (by simp [Op.operands]), h b (by simp [Op.operands])]
  case h_4 t ps =>
    have e1 : (ps.toList.map fun p => (St.opd E s) p.2) = ps.toList.map fun p => (St.opd E s') p.2 := List.map_congr_left fun p hp => h p.2 (by simp only [Op.operands]; exact List.mem_map.2 ⟨p, hp, rfl⟩)
    have e2 : (ps.toList.map fun p => (p.1, (St.opd E s) p.2)) = ps.toList.map fun p => (p.1, (St.opd E s') p.2) := List.map_congr_left fun p hp => by rw [h p.2 (by simp only [Op.operands]; exact List.mem_map.2 ⟨p, hp, rfl⟩)]
    rw [e1, e2]
  case h_5 t a =>
    rcases hh with hh | hh
    · simp [heapK] at hh
    · rw [h a (by simp [Op.operands]), hh]
  case h_6 op t x y u =>
    rw [h x (by simp [Op.operands]), h y (by simp [Op.operands])]
    rcases hh with hh | hh
    · simp only [heapK] at hh
      unfold evCmp
      cases hq : Nat.beq (nilK y) 1 with
      | true => rw [hq] at hh; cases hh
      | false => rfl
    · rw [hh]
  case h_7 op u x => rw [h x (by simp [Op.operands])]
  case h_8 src dst x =>
    rcases hh with hh | hh
    · simp [heapK] at hh
    · rw [h x (by simp [Op.operands]), hh]
  case h_9 t x f =>
    rcases hh with hh | hh
    · simp [heapK] at hh
    · rw [h x (by simp [Op.operands]), hh]
  case h_10 t x f => rw [h x (by simp [Op.operands])]
  case h_11 t x i =>
    rcases hh with hh | hh
    · simp [heapK] at hh
    · rw [h x (by simp [Op.operands]), h i (by simp [Op.operands]), hh]
  case h_12 t x i => rw [h x (by simp [Op.operands]), h i (by simp [Op.operands])]
  case h_13 x i => rw [h x (by simp [Op.operands])]
  case h_14 f cs =>
    have e1 : cs.toList.map (St.opd E s) = cs.toList.map (St.opd E s') := List.map_congr_left fun x hx => h x (by simp [Op.operands]; simpa using hx)
    rw [e1]
  case h_15 t x lo hi mx =>
    rcases hh with hh | hh
    · simp [heapK] at hh
    · have ho : ∀ q : Option Operand, (∀ y, q = some y → y ∈ (#[x] ++ lo.toArray ++ hi.toArray ++ mx.toArray : Array Operand).toList) → q.map (St.opd E s) = q.map (St.opd E s') := by
        intro q hq
        cases q with
        | none => rfl
        | some y => simp only [Option.map_some, h y (hq y rfl)]
      rw [h x (by simp [Op.operands]), ho lo (by intro y hy; subst hy; simp), ho hi (by intro y hy; subst hy; simp), ho mx (by intro y hy; subst hy; simp), hh]
  case h_16 x t => rw [h x (by simp [Op.operands, Call.operands])]
  case h_17 xs ts =>
    have e1 : xs.toList.map (St.opd E s) = xs.toList.map (St.opd E s') := List.map_congr_left fun x hx => h x (by simp [Op.operands, Call.operands]; simpa using hx)
    rw [e1]
  case h_18 xs ts =>
    have e1 : xs.toList.map (St.opd E s) = xs.toList.map (St.opd E s') := List.map_congr_left fun x hx => h x (by simp [Op.operands, Call.operands]; simpa using hx)
    rw [e1]
  case h_19 x =>
    rcases hh with hh | hh
    · simp [heapK] at hh
    · rw [h x (by simp [Op.operands]), hh]
  case h_20 f fs _ =>
    have e1 : fs.toList.map (St.opd E s) = fs.toList.map (St.opd E s') := List.map_congr_left fun x hx => h x (by simp [Op.operands]; simpa using hx)
    rw [e1]
  case h_21 => rfl
theorem evOp_loc {o : Op} {s s' : St} (h : ∀ x ∈ o.operands.toList, (St.opd E s) x = (St.opd E s') x) (hh : s.heap = s'.heap) : evOp E o s = evOp E o s' := by
  funext K
  unfold evOp
  split
  · rw [hh]
  · rename_i t x
    rw [h x (by simp [Op.operands]), hh]
  · rename_i t n ps
    have e1 : (ps.toList.map fun p => (St.opd E s) p.2) = ps.toList.map fun p => (St.opd E s') p.2 := List.map_congr_left fun p hp => h p.2 (by simp only [Op.operands]; exact List.mem_map.2 ⟨p, hp, rfl⟩)
    have e2 : (ps.toList.map fun p => (p.1, (St.opd E s) p.2)) = ps.toList.map fun p => (p.1, (St.opd E s') p.2) := List.map_congr_left fun p hp => by rw [h p.2 (by simp only [Op.operands]; exact List.mem_map.2 ⟨p, hp, rfl⟩)]
    rw [e1, e2, hh]
  · rename_i t a x
    rw [h a (by simp [Op.operands]), h x (by simp [Op.operands]), hh]
  · rename_i t ln cp
    rw [h ln (by simp [Op.operands]), h cp (by simp [Op.operands]), hh]
  · rename_i f xs ts
    have e1 : xs.toList.map (St.opd E s) = xs.toList.map (St.opd E s') := List.map_congr_left fun x hx => h x (by simp [Op.operands, Call.operands]; exact .inr (by simpa using hx))
    rw [e1, h f (by simp [Op.operands, Call.operands]), hh]
  · rename_i x y t u
    rw [h x (by simp [Op.operands, Call.operands]), h y (by simp [Op.operands, Call.operands]), hh]
  · rename_i x y t u
    rw [h x (by simp [Op.operands, Call.operands]), h y (by simp [Op.operands, Call.operands]), hh]
  · rw [evV_loc h (.inr hh), hh]
theorem out_any {o : Op} {s s' : St} {v : EV} {H : Heap} (hD : DetFn E) (h : ∀ x ∈ o.operands.toList, (St.opd E s) x = (St.opd E s') x) (hk : heapK E o = 0) (ho : Out E o s v H) : H = s.heap ∧ Out E o s' v s'.heap := by
  have main : ∀ (T : St → (EV → Prop) → Prop), (∀ K, evOp E o s K = T s fun v => K v s.heap) → (∀ K, evOp E o s' K = T s' fun v => K v s'.heap) → T s = T s' → Det (T s) → H = s.heap ∧ Out E o s' v s'.heap := by
    intro T h1 h2 h3 h4
    have := ho (fun v' H' => v' = v ∧ H' = H) ⟨rfl, rfl⟩
    rw [h1] at this
    obtain ⟨u, ⟨rfl, hH⟩, h6⟩ := h4 _ this
    refine ⟨hH.symm, fun K hK => ?_⟩
    rw [h2, ← h3]
    exact h6 _ hK
  cases o
  case alloc => simp [heapK] at hk
  case box => simp [heapK] at hk
  case buildSlice => simp [heapK] at hk
  case store => simp [heapK] at hk
  case makeSlice => simp [heapK] at hk
  case call c =>
    obtain ⟨cal, xs, ts⟩ := c
    cases cal
    case value f =>
      cases f
      case func f =>
        simp only [heapK] at hk
        cases he : E.fn f with
        | none => simp [he] at hk
        | some en =>
          simp only [he] at hk
          obtain ⟨hn, hnl⟩ := hk0 hk
          have e1 : xs.toList.map (St.opd E s) = xs.toList.map (St.opd E s') := List.map_congr_left fun x hx => h x (by simp [Op.operands, Call.operands]; exact .inr (by simpa using hx))
          have key : ∀ (r : St) K, evOp E (.call { callee := .value (.func f), args := xs, argTypes := ts }) r K =
              gd (EV.freeL (xs.toList.map (St.opd E r))) (en.spec (xs.toList.map (St.opd E r)) [] fun v H' => gd (Nat.beq H'.length 0 && v.inI []) (K v r.heap)) := by
            intro r K
            simp only [evOp, St.opd, evCall, evCallF, he, List.append_nil, roArgs_none _ _ _ hn, hnl, cond_false]
            cases hfr : EV.freeL (xs.toList.map (St.opd E r)) with
            | false => rfl
            | true =>
              have : killArgs (xs.toList.map (St.opd E r)) r.heap = r.heap := killArgs_free _ _ hfr
              simp only [this]
              congr 1
              have : (fun (v : EV) (H' : Heap) => gd (Nat.beq H'.length 0 && v.inI []) (cond v.noRS (K v r.heap) (K v r.heap))) = fun v H' => gd (Nat.beq H'.length 0 && v.inI []) (K v r.heap) := by
                funext v H'
                cases v.noRS <;> rfl
              rw [this]
          exact main (fun r K => gd (EV.freeL (xs.toList.map (St.opd E r))) (en.spec (xs.toList.map (St.opd E r)) [] fun v H' => gd (Nat.beq H'.length 0 && v.inI []) (K v))) (key s) (key s') (by funext K; simp only [e1])
            (det_gd (det_bind (T := fun K : EV × Heap → Prop => en.spec _ _ fun v H' => K (v, H')) (U := fun (p : EV × Heap) (K : EV → Prop) => gd (Nat.beq p.2.length 0 && p.1.inI []) (K p.1)) (hD f en he _ _).to fun p => det_gd (det_pure p.1)))
      all_goals simp [heapK] at hk
    case builtin bi =>
      cases bi
      case len => exact main (fun r => evV E _ r) (fun _ => rfl) (fun _ => rfl) (evV_loc h (.inl hk)) det_evV
      case max => exact main (fun r => evV E _ r) (fun _ => rfl) (fun _ => rfl) (evV_loc h (.inl hk)) det_evV
      case min => exact main (fun r => evV E _ r) (fun _ => rfl) (fun _ => rfl) (evV_loc h (.inl hk)) det_evV
      all_goals simp [heapK] at hk
    all_goals simp [heapK] at hk
  all_goals first
    | exact main (fun r => evV E _ r) (fun _ => rfl) (fun _ => rfl) (evV_loc h (.inl hk)) det_evV
    | (simp [heapK] at hk)
theorem out_keep {o : Op} {s : St} {v : EV} {H : Heap} (hD : DetFn E) (hk : heapK E o ≤ 1) (ho : Out E o s v H) : H = s.heap := by
  by_cases h0 : heapK E o = 0
  · exact (out_any hD (fun _ _ => rfl) h0 ho).1
  · have main : (∀ K, evOp E o s K = evV E o s fun v => K v s.heap) → H = s.heap := by
      intro h1
      have := ho (fun v' H' => v' = v ∧ H' = H) ⟨rfl, rfl⟩
      rw [h1] at this
      obtain ⟨u, ⟨rfl, hH⟩, h6⟩ := det_evV _ this
      exact hH.symm
    cases o
    case alloc => simp [heapK] at hk
    case box => simp [heapK] at hk
    case buildSlice => simp [heapK] at hk
    case store => simp [heapK] at hk
    case makeSlice => simp [heapK] at hk
    case call c =>
      obtain ⟨cal, xs, ts⟩ := c
      cases cal
      case value f =>
        cases f
        case func f =>
          simp only [heapK] at hk h0
          cases he : E.fn f with
          | none => simp [he] at hk
          | some en =>
            simp only [he] at hk h0
            cases q1 : allNone en.ro <;> cases q2 : en.lend <;> cases q3 : newRo en.ro <;> cases q4 : keepRo en.ro <;> simp [q1, q2, q3, q4] at hk h0
        all_goals simp [heapK] at hk
      case builtin bi => cases bi <;> simp [heapK] at hk h0
      all_goals simp [heapK] at hk
    all_goals exact main fun _ => rfl
def More (H H' : Heap) : Prop := ∀ (b : Nat) c, H[b]? = some (some c) → H'[b]? = some (some c)
theorem More.append (H t : Heap) : More H (H ++ t) := by
  intro b c h
  have hlt : b < H.length := by
    rcases Nat.lt_or_ge b H.length with hh | hh
    · exact hh
    · rw [List.getElem?_eq_none hh] at h; cases h
  rw [List.getElem?_append_left hlt]; exact h
theorem evLoad_more {t : TypeId} {v : EV} {H H' : Heap} {K : EV → Prop} (hm : More H H') (h : evLoad E t v H K) : evLoad E t v H' K := by
  cases v <;> simp only [evLoad] at h ⊢ <;> try exact h
  split at h
  · rename_i c hb
    rw [hm _ _ hb]; exact h
  · exact h.elim
theorem evWin_more {x : EV} {H H' : Heap} (hm : More H H') {r : IntKind × Nat × (Nat → Int)} (h : evWin H x = some r) : evWin H' x = some r := by
  cases x <;> simp only [evWin] at h ⊢ <;> try exact h
  split at h
  · rename_i k g hb
    rw [hm _ _ hb]; exact h
  · cases h
theorem evConv_more {src dst : TypeId} {x : EV} {H H' : Heap} {K : EV → Prop} (hm : More H H') (h : evConv E src dst x H K) : evConv E src dst x H' K := by
  unfold evConv at h ⊢
  split at h
  case h_2 => exact h.elim
  rename_i si di hs hd
  split at h
  · exact h
  · exact h
  · rename_i htd
    split at h
    case h_2 => exact h.elim
    rename_i e he
    rw [cd_iff] at h
    cases hi : isIntTy E e .u8 with
    | false => exact (h.2 hi).elim
    | true =>
      have h' := h.1 hi
      simp only [cond_true]
      split at h'
      · rename_i n g hw
        rw [evWin_more hm hw]; exact h'
      · split at h'
        · exact h'
        · exact h'.elim
  · exact h.elim
theorem evFieldAddr_more {t : TypeId} {x : EV} {f : Nat} {H H' : Heap} {K : EV → Prop} (hm : More H H') (h : evFieldAddr E t x f H K) : evFieldAddr E t x f H' K := by
  unfold evFieldAddr at h ⊢
  split at h
  case h_2 => exact h.elim
  split at h
  case h_2 => exact h.elim
  split at h
  case h_2 => exact h.elim
  split at h
  case h_2 => exact h.elim
  split at h
  · split at h
    · rename_i c hb
      simp_all [hm _ _ hb]
    · exact h.elim
  · simp_all
  · exact h.elim
theorem evIndexAddr_more {t : TypeId} {x i : EV} {H H' : Heap} {K : EV → Prop} (hm : More H H') (h : evIndexAddr E t x i H K) : evIndexAddr E t x i H' K := by
  unfold evIndexAddr at h ⊢
  split at h
  case h_2 => exact h.elim
  split at h
  · split at h
    case h_2 => exact h.elim
    split at h
    · split at h
      · rename_i c hb
        simp_all [hm _ _ hb]
      · exact h.elim
    · exact h
    · exact h
    · exact h.elim
  · split at h
    case h_2 => exact h.elim
    split at h
    · split at h
      · rename_i c hb
        simp_all [hm _ _ hb]
      · exact h.elim
    · simp_all
    · simp_all
    · exact h.elim
  · exact h.elim
theorem evSlice_more {t : TypeId} {x : EV} {lo hi mx : Option EV} {H H' : Heap} {K : EV → Prop} (hm : More H H') (h : evSlice E t x lo hi mx H K) : evSlice E t x lo hi mx H' K := by
  unfold evSlice at h ⊢
  split at h
  case h_2 => exact h.elim
  split at h
  · simp_all
  · split at h
    · rename_i c _ _ hb
      simp_all [hm _ _ hb]
    · exact h.elim
  · simp_all
  · simp_all
  · split at h
    · rename_i hb
      simp_all [hm _ _ hb]
    · exact h.elim
  · exact h.elim
theorem evSliceA_more {t : TypeId} {x : EV} {lo hi mx : Option EV} {H H' : Heap} {K : EV → Prop} (hm : More H H') (h : evSliceA E t x lo hi mx H K) : evSliceA E t x lo hi mx H' K := by
  cases x
  case rsT n s g => exact h
  all_goals exact evSlice_more hm h
theorem evNil_more {x : EV} {H H' : Heap} {K : EV → Prop} (hm : More H H') (h : evNil x H K) : evNil x H' K := by
  unfold evNil at h ⊢
  cases x <;> simp only at h ⊢ <;> try exact h
  rename_i b p
  split at h
  · rename_i c hb
    rw [hm _ _ hb]
    exact h
  · exact h.elim
theorem evCmp_more {op : BinOp} {t : TypeId} {o : Operand} {x y : EV} {H H' : Heap} {K : EV → Prop} (hm : More H H') (h : evCmp E op t o x y H K) : evCmp E op t o x y H' K := by
  unfold evCmp at h ⊢
  cases h1 : Nat.beq (nilK o) 1 with
  | false => rw [h1] at h; exact h
  | true =>
    rw [h1] at h
    simp only [cond_true] at h ⊢
    unfold evPN at h ⊢
    split at h
    · exact h
    · cases h2 : tdIs E t 1 with
      | false => rw [h2] at h; exact h.elim
      | true => rw [h2] at h; simp only [cond_true] at h ⊢; exact evNil_more hm h
    · exact h.elim
theorem out_more {o : Op} {s s' : St} {v : EV} {H : Heap} (hD : DetFn E) (h : ∀ x ∈ o.operands.toList, (St.opd E s) x = (St.opd E s') x) (hk : heapK E o = 1) (hm : More s.heap s'.heap) (ho : Out E o s v H) : Out E o s' v s'.heap := by
  have hH := out_keep hD (Nat.le_of_eq hk) ho
  subst hH
  have main : (∀ (r : St) K, evOp E o r K = evV E o r fun v => K v r.heap) → (∀ K, evV E o s K → evV E o s' K) → Out E o s' v s'.heap := by
    intro h1 h2 K hK
    rw [h1]
    refine h2 _ ?_
    have := ho (fun v _ => K v s'.heap) hK
    rwa [h1] at this
  cases o <;> simp [heapK] at hk
  case load t a =>
    refine main (fun _ _ => rfl) fun K hK => ?_
    simp only [evV] at hK ⊢
    rw [← h a (by simp [Op.operands])]
    exact evLoad_more hm hK
  case convert src dst x =>
    refine main (fun _ _ => rfl) fun K hK => ?_
    simp only [evV] at hK ⊢
    rw [← h x (by simp [Op.operands])]
    rw [gd_iff] at hK ⊢
    exact ⟨hK.1, evConv_more hm hK.2⟩
  case nilCheck x =>
    refine main (fun _ _ => rfl) fun K hK => ?_
    simp only [evV] at hK ⊢
    rw [← h x (by simp [Op.operands])]
    rw [gd_iff] at hK ⊢
    exact ⟨hK.1, evNil_more hm hK.2⟩
  case binOp op t x y u =>
    refine main (fun _ _ => rfl) fun K hK => ?_
    simp only [evV] at hK ⊢
    rw [← h x (by simp [Op.operands]), ← h y (by simp [Op.operands])]
    rw [gd_iff] at hK ⊢
    exact ⟨hK.1, evCmp_more hm hK.2⟩
  case fieldAddr t x f =>
    refine main (fun _ _ => rfl) fun K hK => ?_
    simp only [evV] at hK ⊢
    rw [← h x (by simp [Op.operands])]
    rw [gd_iff] at hK ⊢
    exact ⟨hK.1, evFieldAddr_more hm hK.2⟩
  case indexAddr t x i =>
    refine main (fun _ _ => rfl) fun K hK => ?_
    simp only [evV] at hK ⊢
    rw [← h x (by simp [Op.operands]), ← h i (by simp [Op.operands])]
    rw [gd_iff] at hK ⊢
    exact ⟨hK.1, evIndexAddr_more hm hK.2⟩
  case slice t x lo hi mx =>
    refine main (fun _ _ => rfl) fun K hK => ?_
    simp only [evV] at hK ⊢
    have ho : ∀ q : Option Operand, (∀ y, q = some y → y ∈ (#[x] ++ lo.toArray ++ hi.toArray ++ mx.toArray : Array Operand).toList) → q.map (St.opd E s) = q.map (St.opd E s') := by
      intro q hq
      cases q with
      | none => rfl
      | some y => simp only [Option.map_some, h y (hq y rfl)]
    rw [← h x (by simp [Op.operands]), ← ho lo (by intro y hy; subst hy; simp), ← ho hi (by intro y hy; subst hy; simp), ← ho mx (by intro y hy; subst hy; simp)]
    rw [gd_iff] at hK ⊢
    exact ⟨hK.1, evSliceA_more hm hK.2⟩
  case call c =>
    obtain ⟨cal, xs, ts⟩ := c
    cases cal
    case value f =>
      cases f
      case func f =>
        simp only at hk
        cases he : E.fn f with
        | none => simp [he] at hk
        | some en =>
          simp only [he] at hk
          cases q1 : allNone en.ro <;> cases q2 : en.lend <;> cases q3 : newRo en.ro <;> cases q4 : keepRo en.ro <;> simp [q1, q2, q3, q4] at hk
      all_goals simp at hk
    case builtin bi => cases bi <;> simp at hk
    all_goals simp at hk
theorem out_grow {o : Op} {s : St} {v : EV} {H : Heap} (hk : heapK E o = 3) (ho : Out E o s v H) : More s.heap H := by
  have h := ho (fun v' H' => v' = v ∧ H' = H) ⟨rfl, rfl⟩
  cases o <;> simp [heapK] at hk
  case binOp op t x y u => cases hq : Nat.beq (nilK y) 1 <;> rw [hq] at hk <;> cases hk
  case alloc t =>
    simp only [evOp] at h
    split at h
    · obtain ⟨_, rfl⟩ := h; exact More.append _ _
    · exact h.elim
  case box t x =>
    simp only [evOp] at h
    split at h
    · exact h.elim
    · obtain ⟨_, rfl⟩ := h; exact More.append _ _
  case buildSlice t n ps =>
    simp only [evOp] at h
    rw [gd_iff] at h
    have h := h.2
    unfold evBuildSlice at h
    split at h
    case h_2 => exact h.elim
    split at h
    case h_2 => exact h.elim
    split at h
    case h_2 => exact h.elim
    rw [gd_iff] at h
    have h := h.2
    split at h
    · rw [gd_iff] at h
      have h := h.2
      split at h
      · obtain ⟨_, rfl⟩ := h; exact More.append _ _
      · exact h.elim
    · rw [gd_iff] at h
      have h := h.2
      split at h
      · obtain ⟨_, rfl⟩ := h; exact More.append _ _
      · exact h.elim
  case makeSlice t l c =>
    simp only [evOp] at h
    rw [gd_iff] at h
    have h := h.2
    unfold evMakeSliceA at h
    cases hel : elInt E t with
    | true =>
      rw [hel, cond_true] at h
      unfold evMakeSlice at h
      split at h
      case h_2 => exact h.elim
      split at h
      case h_2 => exact h.elim
      split at h
      case h_2 => exact h.elim
      split at h
      case h_2 => exact h.elim
      rw [gd_iff] at h
      obtain ⟨_, _, rfl⟩ := h
      exact More.append _ _
    | false =>
      rw [hel, cond_false] at h
      unfold evMakeSliceT at h
      split at h
      case h_2 => exact h.elim
      split at h
      case h_2 => exact h.elim
      split at h
      case h_2 => exact h.elim
      split at h
      case h_2 => exact h.elim
      rw [gd_iff] at h
      obtain ⟨_, _, rfl⟩ := h
      exact More.append _ _
  case call c =>
    obtain ⟨cal, xs, ts⟩ := c
    cases cal
    case value f =>
      cases f
      case func f =>
        simp only at hk
        cases he : E.fn f with
        | none => simp [he] at hk
        | some en =>
          simp only [he] at hk
          cases q1 : allNone en.ro <;> cases q2 : en.lend <;> cases q3 : newRo en.ro <;> cases q4 : keepRo en.ro <;> simp [q1, q2, q3, q4] at hk
      all_goals simp at hk
    case builtin bi => cases bi <;> simp at hk
    all_goals simp at hk
theorem op4 {o : Op} (hk : heapK E o = 4) : ∃ (f : FuncId) (en : Entry) (xs : List Operand), E.fn f = some en ∧ (∀ x ∈ xs, x ∈ o.operands.toList) ∧ ∀ (s : St) (K : EV → Heap → Prop), evOp E o s K =
    gd (EV.freeL (xs.map (St.opd E s))) (evCallL en (xs.map (St.opd E s)) [] [] s.heap fun v H2 => gd (oneNew s.heap H2) (K v H2)) := by
  cases o <;> simp [heapK] at hk
  case binOp op t x y u => cases hq : Nat.beq (nilK y) 1 <;> rw [hq] at hk <;> cases hk
  case call c =>
    obtain ⟨cal, xs, ts⟩ := c
    cases cal
    case value f =>
      cases f
      case func f =>
        simp only at hk
        cases he : E.fn f with
        | none => simp [he] at hk
        | some en =>
          simp only [he] at hk
          obtain ⟨h1, h2⟩ := hk4 hk
          refine ⟨f, en, xs.toList, he, fun x hx => by simp [Op.operands, Call.operands]; exact .inr (by simpa using hx), fun s K => ?_⟩
          simp only [evOp, St.opd, evCall, evCallF, he, List.append_nil, h1, h2, cond_true]
      all_goals simp at hk
    case builtin bi => cases bi <;> simp at hk
    all_goals simp at hk
theorem call4 {en : Entry} {args : List EV} {H : Heap} {K : EV → Heap → Prop} : evCallL en args [] [] H K =
    gd (dfdL args && (EV.inIL [] args && (inIH [] H [] && (allLt H.length [] && noneIn [] []))))
    (en.spec (EV.renL (pos []) args) (subH H []) fun v H' =>
      gd (v.inI (upTo H'.length) && (inIH (upTo H'.length) H' (upTo H'.length) && Nat.ble 0 H'.length))
        (K (v.ren (backN [] H.length)) (H ++ renH (backN [] H.length) H'))) := by
  unfold evCallL
  have : ∀ (c : Bool) (X : Heap), killN (cond c [] []) X = X := by intro c X; cases c <;> rfl
  simp only [this, putB]
  rfl
theorem op5 {o : Op} (hk : heapK E o = 5) : ∃ (f : FuncId) (en : Entry) (xs : List Operand), E.fn f = some en ∧ ∀ (s : St) (K : EV → Heap → Prop), evOp E o s K =
    evCallL en (xs.map (St.opd E s)) [] (canI 0 (xs.map (St.opd E s)) s.heap) s.heap fun v H2 => keepH H2 s.heap ∧ gd (v.inI []) (K v s.heap) := by
  cases o <;> simp [heapK] at hk
  case binOp op t x y u => cases hq : Nat.beq (nilK y) 1 <;> rw [hq] at hk <;> cases hk
  case call c =>
    obtain ⟨cal, xs, ts⟩ := c
    cases cal
    case value f =>
      cases f
      case func f =>
        simp only at hk
        cases he : E.fn f with
        | none => simp [he] at hk
        | some en =>
          simp only [he] at hk
          obtain ⟨h1, h2, h3⟩ := hk5 hk
          refine ⟨f, en, xs.toList, he, fun s K => ?_⟩
          simp only [evOp, St.opd, evCall, evCallF, he, List.append_nil, h1, h2, h3, cond_true, cond_false]
      all_goals simp at hk
    case builtin bi => cases bi <;> simp at hk
    all_goals simp at hk
theorem out_keep5 (hD : DetFn E) {o : Op} {s : St} {v : EV} {H : Heap} (hk : kp (heapK E o) = true) (ho : Out E o s v H) : H = s.heap := by
  simp only [kp, Bool.or_eq_true, Nat.ble_eq, Nat.beq_eq] at hk
  rcases hk with hk | hk
  · exact out_keep hD hk ho
  · have h := ho (fun v' H' => v' = v ∧ H' = H) ⟨rfl, rfl⟩
    obtain ⟨f, en, xs, he, h1⟩ := op5 hk
    rw [h1] at h
    obtain ⟨u, w, h2, _⟩ := det_evCallL (hD f en he) _ h
    have h2 := h2.2
    rw [gd_iff] at h2
    exact h2.2.2.symm
theorem len_one {α : Type} {l : List α} (h : l.length = 1) : ∃ a, l = [a] := List.length_eq_one_iff.1 h
theorem out_newC (hD : DetFn E) {o : Op} {s : St} {v : EV} {H : Heap} (hk : heapK E o = 4) (ho : Out E o s v H) :
    ∃ (mk : Nat → EV) (c : EV), (∀ f n, (mk n).ren f = mk (f n)) ∧ v = mk s.heap.length ∧ H = s.heap ++ [some c] ∧ c.inI [] = true ∧
      ∀ s', (∀ x ∈ o.operands.toList, (St.opd E s) x = (St.opd E s') x) → Out E o s' (mk s'.heap.length) (s'.heap ++ [some c]) := by
  have h := ho (fun v' H' => v' = v ∧ H' = H) ⟨rfl, rfl⟩
  obtain ⟨f, en, xs, he, hxs, h1⟩ := op4 hk
  rw [h1, gd_iff] at h
  obtain ⟨g0, h⟩ := h
  rw [call4, gd_iff] at h
  obtain ⟨gA, h⟩ := h
  obtain ⟨v0, H0, h2, h3⟩ := hD f en he _ _ _ h
  rw [gd_iff] at h2
  obtain ⟨gB, h2⟩ := h2
  rw [gd_iff] at h2
  obtain ⟨gO, rfl, rfl⟩ := h2
  have bk : ∀ n j, backN [] n j = n + j := fun n j => by simp [backN]
  simp only [oneNew, Bool.and_eq_true, Nat.beq_eq, List.length_append, renH_length] at gO
  obtain ⟨oc, rfl⟩ := len_one (show H0.length = 1 by omega)
  have gO := gO.2
  rw [List.getElem?_append_right (Nat.le_refl _), Nat.sub_self, renH_get] at gO
  cases oc with
  | none => simp [renO] at gO
  | some c =>
    have gO : (c.ren (backN [] s.heap.length)).inI [] = true := by simpa [renO] using gO
    have hc : c.inI [] = true := by
      rw [← inI_ren (f := backN [] s.heap.length) (fun a b e => by rw [bk, bk] at e; omega) [] c]
      exact gO
    have hH : ∀ n, renH (backN [] n) [some c] = [some c] := fun n => by simp [renH, renO, ren_in c hc]
    simp only [Bool.and_eq_true] at gB
    have hv : ∀ n, v0.ren (backN [] n) = v0.ren fun _ => n := fun n => inI_congr (fun b hb => by
      have := (mem_upTo _ _).1 hb
      simp at this
      subst this
      rw [bk]; omega) v0 gB.1
    refine ⟨fun n => v0.ren fun _ => n, c, fun f n => by rw [ren_ren], hv _, by rw [hH], hc, fun s' hop K hK => ?_⟩
    have ea : xs.map (St.opd E s') = xs.map (St.opd E s) := List.map_congr_left fun x hx => (hop x (hxs x hx)).symm
    rw [h1, ea, gd_iff]
    refine ⟨g0, ?_⟩
    rw [call4, gd_iff]
    refine ⟨gA, h3 _ ?_⟩
    rw [gd_iff]
    refine ⟨by simp only [Bool.and_eq_true]; exact gB, ?_⟩
    rw [gd_iff, hH, hv]
    exact ⟨by simp [oneNew, hc], hK⟩
theorem out_new4 (hD : DetFn E) {o : Op} {s : St} {v : EV} {H : Heap} (hk : heapK E o = 4) (ho : Out E o s v H) : ∃ t, H = s.heap ++ t := by
  obtain ⟨_, c, _, _, h, _⟩ := out_newC hD hk ho
  exact ⟨_, h⟩
def gval (ops : List Oper) (o : Oper) (s : St) : Option Bool :=
  match o.guard with
  | none => some true
  | some (j, want) => match ops[j]? with
    | some oj => match oj.dst with
      | some d => match s.slot d with
        | .bool b => some (beqB b want)
        | .tuple [] => some false
        | _ => none
      | none => none
    | none => none
theorem evOne_iff {ops : List Oper} {o : Oper} {s : St} {K : St → Prop} : evOne E ops o s K ↔ match gval ops o s with
    | some true => evOp E o.op s fun v H => K (s.put o.dst v H)
    | some false => K (s.put o.dst (.tuple []) s.heap)
    | none => False := by
  unfold evOne gval
  cases hg : o.guard with
  | none => exact Iff.rfl
  | some g =>
    obtain ⟨j, want⟩ := g
    dsimp only
    cases ops[j]? with
    | none => exact Iff.rfl
    | some oj =>
      dsimp only
      cases oj.dst with
      | none => exact Iff.rfl
      | some d =>
        dsimp only
        cases hs : s.slot d
        case bool b =>
          have hset : s.put (some d) (.bool b) s.heap = s := by
            simp only [St.put, put_same (slot_some hs (by simp))]
          dsimp only
          rw [br_iff]
          cases b <;> cases want <;> simp [hset, beqB]
        case tuple l => cases l <;> exact Iff.rfl
        all_goals exact Iff.rfl
theorem gval_loc {ops : List Oper} {o : Oper} {s s' : St} (h : ∀ d ∈ guardSlot ops o, s.slot d = s'.slot d) : gval ops o s = gval ops o s' := by
  unfold gval
  unfold guardSlot at h
  cases hg : o.guard with
  | none => rfl
  | some g =>
    obtain ⟨j, want⟩ := g
    simp only [hg] at h
    dsimp only
    cases hj : ops[j]? with
    | none => rfl
    | some oj =>
      simp only [hj] at h
      dsimp only
      cases hd : oj.dst with
      | none => rfl
      | some d =>
        simp only [hd] at h
        dsimp only
        rw [h d (by simp)]
theorem slot_put {s : St} {d : Option Nat} {v : EV} {H : Heap} {t : Nat} (h : d ≠ some t) : (s.put d v H).slot t = s.slot t := by
  cases d with
  | none => rfl
  | some d =>
    simp only [St.put, St.slot]
    rw [map_some_ne]
    intro e; subst e; exact h rfl
theorem opd_put {s : St} {d : Option Nat} {v : EV} {H : Heap} {l : List Operand} (h : noMem d (tmpsOf l) = true) : ∀ x ∈ l, St.opd E (s.put d v H) x = (St.opd E s) x := by
  intro x hx
  cases x
  case tmp t =>
    have ht := tmpsOf_mem t l hx
    simp only [St.opd]
    refine slot_put ?_
    intro e; subst e
    simp only [noMem, Bool.not_eq_true', ← Bool.not_eq_true, memN_iff] at h
    exact h ht
  all_goals rfl
theorem gval_put {ops : List Oper} {o : Oper} {s : St} {d : Option Nat} {v : EV} {H : Heap} (h : noMem d (guardSlot ops o) = true) : gval ops o (s.put d v H) = gval ops o s := by
  refine gval_loc fun t ht => slot_put ?_
  intro e; subst e
  simp only [noMem, Bool.not_eq_true', ← Bool.not_eq_true, memN_iff] at h
  exact h ht
theorem put_heap {s : St} {d : Option Nat} {v : EV} {H : Heap} : (s.put d v H).heap = H := by cases d <;> rfl
theorem put_comm {s : St} {a b : Option Nat} {u v : EV} {H H' H'' : Heap} (h : neO a b = true) : (s.put a u H).put b v H'' = (s.put b v H').put a u H'' := by
  cases a <;> cases b <;> simp only [St.put]
  rename_i a b
  simp only [neO, Bool.not_eq_true'] at h
  rw [List.set_comm]
  intro e; subst e; simp at h
theorem evOne_swap_of (hD : DetFn E) {ops : List Oper} {p o : Oper} (hi : indepD ops p o = true) {s : St} {K K' : St → Prop} (hK : ∀ s, K s → K' s)
    (hc : ∀ v1 H1 v2 H2, Out E p.op s v1 H1 → Out E o.op (s.put p.dst v1 H1) v2 H2 → K ((s.put p.dst v1 H1).put o.dst v2 H2) →
      ∃ v2' H2' v1' H1', Out E o.op s v2' H2' ∧ Out E p.op (s.put o.dst v2' H2') v1' H1' ∧ K' ((s.put o.dst v2' H2').put p.dst v1' H1'))
    (h : evOne E ops p s fun s1 => evOne E ops o s1 K) : evOne E ops o s fun s2 => evOne E ops p s2 K' := by
  simp only [indepD, Bool.and_eq_true] at hi
  obtain ⟨⟨hi1, hi2⟩, ⟨hi3, hi4⟩, hi5⟩ := hi
  rw [evOne_iff] at h ⊢
  cases hp : gval ops p s with
  | none => simp only [hp] at h
  | some bp =>
    simp only [hp] at h
    cases bp with
    | false =>
      simp only at h
      rw [evOne_iff, gval_put hi2] at h
      cases ho : gval ops o s with
      | none => simp only [ho] at h
      | some bo =>
        simp only [ho] at h
        cases bo with
        | false =>
          simp only at h ⊢
          rw [evOne_iff, gval_put hi4, hp]
          simp only
          rw [put_heap] at h ⊢
          rw [← put_comm hi5]; exact hK _ h
        | true =>
          simp only at h ⊢
          obtain ⟨v, H, h1, h2⟩ := det_evOp hD _ h
          rw [evOp_loc (s' := s) (opd_put hi1) put_heap] at h2
          refine h2 _ ?_
          rw [evOne_iff, gval_put hi4, hp]
          simp only
          rw [put_heap, ← put_comm hi5]; exact hK _ h1
    | true =>
      simp only at h
      obtain ⟨v1, H1, h1, h2⟩ := det_evOp hD _ h
      have hO1 : Out E p.op s v1 H1 := h2
      rw [evOne_iff, gval_put hi2] at h1
      cases ho : gval ops o s with
      | none => simp only [ho] at h1
      | some bo =>
        simp only [ho] at h1
        cases bo with
        | false =>
          simp only at h1 ⊢
          rw [evOne_iff, gval_put hi4, hp]
          simp only
          rw [evOp_loc (s' := s) (opd_put hi3) put_heap]
          refine h2 _ ?_
          rw [put_heap] at h1
          rw [← put_comm hi5]; exact hK _ h1
        | true =>
          simp only at h1 ⊢
          obtain ⟨v2, H2, h3, h4⟩ := det_evOp hD _ h1
          have hO2 : Out E o.op (s.put p.dst v1 H1) v2 H2 := h4
          obtain ⟨v2', H2', v1', H1', q1, q2, q3⟩ := hc v1 H1 v2 H2 hO1 hO2 h3
          refine q1 _ ?_
          rw [evOne_iff, gval_put hi4, hp]
          simp only
          exact q2 _ q3
theorem hsame_out {o : Op} {s : St} {d : Option Nat} {v v1 : EV} {H' H1 : Heap} (hi : noMem d (tmpsOf o.operands.toList) = true) (hH' : H' = s.heap) (h : Out E o s v1 H1) : Out E o (s.put d v H') v1 H1 := by
  intro K' hK'
  rw [evOp_loc (s' := s) (opd_put hi) (by rw [put_heap, hH'])]
  exact h K' hK'
theorem back_out {o : Op} {s : St} {d : Option Nat} {v v1 : EV} {H' H1 : Heap} (hi : noMem d (tmpsOf o.operands.toList) = true) (hH' : H' = s.heap) (h : Out E o (s.put d v H') v1 H1) : Out E o s v1 H1 := by
  intro K' hK'
  rw [← evOp_loc (s := s.put d v H') (opd_put hi) (by rw [put_heap, hH'])]
  exact h K' hK'
theorem evOne_swap (hD : DetFn E) {ops : List Oper} {p o : Oper} (hi : indepD ops p o = true) (hi6 : heapOk (heapK E p.op) (heapK E o.op) = true) {s : St} {K : St → Prop}
    (h : evOne E ops p s fun s1 => evOne E ops o s1 K) : evOne E ops o s fun s2 => evOne E ops p s2 K := by
  refine evOne_swap_of hD hi (fun _ h => h) ?_ h
  simp only [indepD, Bool.and_eq_true] at hi
  obtain ⟨⟨hi1, hi2⟩, ⟨hi3, hi4⟩, hi5⟩ := hi
  intro v1 H1 v2 H2 hO1 hO2 h3
  have fin : ∀ H2', Out E o.op s v2 H2' → Out E p.op (s.put o.dst v2 H2') v1 H2 → ∃ v2' H2' v1' H1', Out E o.op s v2' H2' ∧ Out E p.op (s.put o.dst v2' H2') v1' H1' ∧ K ((s.put o.dst v2' H2').put p.dst v1' H1') :=
    fun H2' q1 q2 => ⟨v2, H2', v1, H2, q1, q2, by rw [← put_comm hi5]; exact h3⟩
  simp only [heapOk, Bool.or_eq_true, Bool.and_eq_true, Nat.beq_eq] at hi6
  rcases hi6 with hz | hz | ⟨hz1, hz2⟩ | ⟨hz1, hz2⟩ | ⟨hz1, hz2⟩
  · obtain ⟨q1, q2⟩ := out_any (s' := s.put o.dst v2 H2) hD (fun x hx => (opd_put hi3 x hx).symm) hz hO1
    rw [put_heap] at q2
    exact fin H2 (back_out hi1 q1 hO2) q2
  · obtain ⟨q1, q2⟩ := out_any (s' := s) hD (opd_put hi1) hz hO2
    rw [put_heap] at q1
    refine fin s.heap q2 ?_
    rw [q1]
    exact hsame_out hi3 rfl hO1
  · have q1 := out_keep5 hD hz1 hO1
    have q2 := out_keep5 hD hz2 hO2
    rw [put_heap] at q2
    refine fin H2 (back_out hi1 q1 hO2) ?_
    rw [q2]
    exact hsame_out hi3 q1 hO1
  · -- what is read, and new blocks
    have q1 := out_keep hD (Nat.le_of_eq hz1) hO1
    have hO2' : Out E o.op s v2 H2 := back_out hi1 q1 hO2
    have hmore := out_grow hz2 hO2'
    refine fin H2 hO2' ?_
    have := out_more (s' := s.put o.dst v2 H2) hD (fun x hx => (opd_put hi3 x hx).symm) hz1 (by rw [put_heap]; exact hmore) hO1
    rwa [put_heap] at this
  · have q1 := out_keep hD (Nat.le_of_eq hz1) hO1
    have hO2' : Out E o.op s v2 H2 := back_out hi1 q1 hO2
    obtain ⟨t, ht⟩ := out_new4 hD hz2 hO2'
    have hmore : More s.heap H2 := by rw [ht]; exact More.append _ _
    refine fin H2 hO2' ?_
    have := out_more (s' := s.put o.dst v2 H2) hD (fun x hx => (opd_put hi3 x hx).symm) hz1 (by rw [put_heap]; exact hmore) hO1
    rwa [put_heap] at this
theorem evLoad_at {t : TypeId} {v : EV} {H H' : Heap} (hb : ∀ b, blkOf v = some b → H[b]? = H'[b]?) : evLoad E t v H = evLoad E t v H' := by
  funext K
  cases v <;> simp only [evLoad]
  rw [hb _ rfl]
theorem evWin_at {x : EV} {H H' : Heap} (hb : ∀ b, blkOf x = some b → H[b]? = H'[b]?) : evWin H x = evWin H' x := by
  cases x <;> simp only [evWin]
  rw [hb _ rfl]
theorem evConv_at {src dst : TypeId} {x : EV} {H H' : Heap} (hb : ∀ b, blkOf x = some b → H[b]? = H'[b]?) : evConv E src dst x H = evConv E src dst x H' := by
  funext K
  have hw := evWin_at hb
  unfold evConv
  cases E.ty src with
  | none => rfl
  | some si =>
    cases E.ty dst with
    | none => rfl
    | some di =>
      simp only
      cases di.td <;> try rfl
      all_goals (cases x <;> first | rfl | (show convRest E si _ H K = convRest E si _ H' K; unfold convRest; rw [hw]))
theorem evNil_at {x : EV} {H H' : Heap} (hb : ∀ b, blkOf x = some b → H[b]? = H'[b]?) : evNil x H = evNil x H' := by
  funext K
  cases x <;> first | rfl | (simp only [evNil]; rw [hb _ rfl]) | (rename_i v; cases v <;> rfl)
theorem evFieldAddr_at {t : TypeId} {x : EV} {f : Nat} {H H' : Heap} (hb : ∀ b, blkOf x = some b → H[b]? = H'[b]?) : evFieldAddr E t x f H = evFieldAddr E t x f H' := by
  funext K
  cases x <;> first | rfl | (simp only [evFieldAddr]; rw [hb _ rfl]) | (rename_i v; cases v <;> rfl)
theorem evIndexAddr_at {t : TypeId} {x i : EV} {H H' : Heap} (hb : ∀ b, blkOf x = some b → H[b]? = H'[b]?) : evIndexAddr E t x i H = evIndexAddr E t x i H' := by
  funext K
  cases x <;> first | rfl | (simp only [evIndexAddr]; rw [hb _ rfl]) | (rename_i v; cases v <;> rfl)
theorem evSlice_at {t : TypeId} {x : EV} {lo hi mx : Option EV} {H H' : Heap} (hb : ∀ b, blkOf x = some b → H[b]? = H'[b]?) : evSlice E t x lo hi mx H = evSlice E t x lo hi mx H' := by
  funext K
  unfold evSlice
  cases mx with
  | some _ => rfl
  | none =>
    cases E.ty t with
    | none => rfl
    | some ti =>
      simp only
      cases ti.td
      case slice =>
        cases x
        case slice => simp only; rw [hb _ rfl]
        all_goals rfl
      case array =>
        cases x
        case ptr b p =>
          cases p with
          | nil => simp only; rw [hb _ rfl]
          | cons _ _ => rfl
        all_goals rfl
      all_goals (cases x <;> rfl)
theorem evSliceA_at {t : TypeId} {x : EV} {lo hi mx : Option EV} {H H' : Heap} (hb : ∀ b, blkOf x = some b → H[b]? = H'[b]?) : evSliceA E t x lo hi mx H = evSliceA E t x lo hi mx H' := by
  cases x
  case rsT n s g => rfl
  all_goals exact evSlice_at hb
theorem out_read {o : Op} {s s' : St} {v : EV} {H : Heap} {x : Operand} (h : ∀ x ∈ o.operands.toList, (St.opd E s) x = (St.opd E s') x) (hr : readPtr o = some x)
    (hb : ∀ b, blkOf (St.opd E s x) = some b → s.heap[b]? = s'.heap[b]?) (ho : Out E o s v H) : H = s.heap ∧ Out E o s' v s'.heap := by
  have main : (∀ (r : St) K, evOp E o r K = evV E o r fun v => K v r.heap) → evV E o s = evV E o s' → H = s.heap ∧ Out E o s' v s'.heap := by
    intro h1 h2
    have := ho (fun v' H' => v' = v ∧ H' = H) ⟨rfl, rfl⟩
    rw [h1] at this
    obtain ⟨u, ⟨rfl, hH⟩, h6⟩ := det_evV _ this
    refine ⟨hH.symm, fun K hK => ?_⟩
    rw [h1, ← h2]
    exact h6 _ hK
  cases o <;> simp only [readPtr, Option.some.injEq, reduceCtorEq] at hr
  case load t a =>
    subst hr
    refine main (fun _ _ => rfl) (funext fun K => ?_)
    simp only [evV]
    rw [← h a (by simp [Op.operands]), evLoad_at hb]
  case convert src dst x =>
    subst hr
    refine main (fun _ _ => rfl) (funext fun K => ?_)
    simp only [evV]
    rw [← h x (by simp [Op.operands]), evConv_at hb]
  case nilCheck x =>
    subst hr
    refine main (fun _ _ => rfl) (funext fun K => ?_)
    simp only [evV]
    rw [← h x (by simp [Op.operands]), evNil_at hb]
  case fieldAddr t x f =>
    subst hr
    refine main (fun _ _ => rfl) (funext fun K => ?_)
    simp only [evV]
    rw [← h x (by simp [Op.operands]), evFieldAddr_at hb]
  case indexAddr t x i =>
    subst hr
    refine main (fun _ _ => rfl) (funext fun K => ?_)
    simp only [evV]
    rw [← h x (by simp [Op.operands]), ← h i (by simp [Op.operands]), evIndexAddr_at hb]
  case slice t x lo hi mx =>
    subst hr
    refine main (fun _ _ => rfl) (funext fun K => ?_)
    simp only [evV]
    have ho : ∀ q : Option Operand, (∀ y, q = some y → y ∈ (#[x] ++ lo.toArray ++ hi.toArray ++ mx.toArray : Array Operand).toList) → q.map (St.opd E s) = q.map (St.opd E s') := by
      intro q hq
      cases q with
      | none => rfl
      | some y => simp only [Option.map_some, h y (hq y rfl)]
    rw [← h x (by simp [Op.operands]), ← ho lo (by intro y hy; subst hy; simp), ← ho hi (by intro y hy; subst hy; simp), ← ho mx (by intro y hy; subst hy; simp), evSliceA_at hb]
theorem call_set {en : Entry} {args : List EV} {H : Heap} {b : Nat} {K : EV → Heap → Prop} : evCallL en args [] [b] H K =
    gd (dfdL args && (EV.inIL [b] args && (inIH [b] H [b] && (allLt H.length [b] && noneIn [b] []))))
    (en.spec (EV.renL (pos [b]) args) (subH H [b]) fun v H' =>
      gd (v.inI (upTo H'.length) && (inIH (upTo H'.length) H' (upTo H'.length) && Nat.ble 1 H'.length))
        (K (v.ren (backN [b] H.length)) (putB [b] (renH (backN [b] H.length) H') H))) := by
  unfold evCallL
  have : ∀ (c : Bool) (X : Heap), killN (cond c [] []) X = X := by intro c X; cases c <;> rfl
  simp only [this]
  rfl
theorem backN_inj (n b : Nat) (hb : b < n) : ∀ i j, backN [b] n i = backN [b] n j → i = j := by
  intro i j h
  have e : ∀ i, backN [b] n i = if i = 0 then b else n + (i - 1) := by
    intro i
    cases i with
    | zero => rfl
    | succ i => simp [backN]
  rw [e, e] at h
  split at h <;> split at h <;> omega
theorem set_call (hD : DetFn E) {f : FuncId} {en : Entry} (he : E.fn f = some en) {args : List EV} {H H1 : Heap} {b : Nat} {v : EV} (hsa : setArg args H = some b)
    (h : evCallL en args [] [b] H fun v' H2 => gd (v'.inI [] && setNew H H2 b) (v' = v ∧ H2 = H1)) :
    ∃ c, H1 = H.set b c ∧ ∀ H', H'[b]? = H[b]? → setArg args H' = some b ∧ ∀ K : EV → Heap → Prop, K v (H'.set b c) → evCallL en args [] [b] H' fun v' H2 => gd (v'.inI [] && setNew H' H2 b) (K v' H2) := by
  rw [call_set, gd_iff] at h
  obtain ⟨gA, h⟩ := h
  obtain ⟨v0, H0, h2, h3⟩ := hD f en he _ _ _ h
  rw [gd_iff] at h2
  obtain ⟨gB, h2⟩ := h2
  rw [gd_iff, Bool.and_eq_true] at h2
  obtain ⟨⟨gV, gS⟩, rfl, rfl⟩ := h2
  have hblt : b < H.length := by
    simp only [Bool.and_eq_true] at gA
    exact allLt_spec gA.2.2.2.1 b (by simp)
  have inj := backN_inj H.length b hblt
  have hv : v0.inI [] = true := by rw [← inI_ren (f := backN [b] H.length) inj [] v0]; exact gV
  simp only [Bool.and_eq_true] at gB
  have gL := gB.2.2
  cases H0 with
  | nil => simp at gL
  | cons oc r =>
    simp only [setNew, Bool.and_eq_true, Nat.beq_eq] at gS
    obtain ⟨gS1, gS2⟩ := gS
    simp only [renH, putB, List.length_append, List.length_set, renH_length] at gS1
    have hr : r = [] := List.length_eq_zero_iff.1 (by omega)
    subst hr
    cases oc with
    | none =>
      exfalso
      simp only [renH, renO, putB, List.append_nil] at gS2
      rw [List.getElem?_set_self hblt] at gS2
      cases gS2
    | some c =>
      have gc : (c.ren (backN [b] H.length)).inI [] = true := by
        simp only [renH, renO, putB, List.append_nil] at gS2
        rw [List.getElem?_set_self hblt] at gS2
        exact gS2
      have hc : c.inI [] = true := by rw [← inI_ren (f := backN [b] H.length) inj [] c]; exact gc
      have put : ∀ (H' : Heap) n, putB [b] (renH (backN [b] n) [some c]) H' = H'.set b (some c) := by
        intro H' n
        simp only [renH, renO, putB, List.append_nil, ren_in c hc]
      refine ⟨some c, put _ _, fun H' hb => ⟨?_, fun K hK => ?_⟩⟩
      · obtain ⟨p, l, rfl, k1, k2⟩ := setArg_inv hsa
        exact setArg_mk k1 (by rw [hb]; exact k2)
      · have hblt' : b < H'.length := by
          have h1 := List.getElem?_eq_getElem hblt
          rw [← hb] at h1
          exact (List.getElem?_eq_some_iff.1 h1).1
        have hsub : subH H' [b] = subH H [b] := by simp only [subH, subHI, hb]
        rw [call_set, gd_iff, hsub]
        refine ⟨?_, h3 _ ?_⟩
        · simp only [Bool.and_eq_true] at gA ⊢
          refine ⟨gA.1, gA.2.1, ?_, ?_, gA.2.2.2.2⟩
          · have := gA.2.2.1
            simp only [inIH, hb] at this ⊢
            exact this
          · simp only [allLt, Bool.and_true]
            exact Nat.ble_eq_true_of_le hblt'
        · rw [gd_iff]
          refine ⟨by simp only [Bool.and_eq_true]; exact gB, ?_⟩
          rw [gd_iff, put, ren_in v0 hv]
          rw [ren_in v0 hv] at hK
          refine ⟨?_, hK⟩
          rw [Bool.and_eq_true]
          refine ⟨hv, ?_⟩
          simp only [setNew, List.length_set, Nat.beq_refl, Bool.true_and]
          rw [List.getElem?_set_self hblt']
          exact hc
theorem out_store (hD : DetFn E) {o : Op} {s : St} {v : EV} {H : Heap} {a : Operand} (hp : storePtr E o = some a) (ho : Out E o s v H) :
    ∃ b c, blkOf (St.opd E s a) = some b ∧ H = s.heap.set b c ∧
      ∀ s', (∀ x ∈ o.operands.toList, (St.opd E s) x = (St.opd E s') x) → s'.heap[b]? = s.heap[b]? → Out E o s' v (s'.heap.set b c) := by
  cases o
  case call c =>
    obtain ⟨cal, xs, ts⟩ := c
    cases cal
    case value fo =>
      cases fo
      case func f =>
        simp only [storePtr] at hp
        cases he : E.fn f with
        | none => simp [he] at hp
        | some en =>
          simp only [he] at hp
          cases hq : (en.lend && (!newRo en.ro && (!keepRo en.ro && setRo en.ro))) with
          | false => rw [hq] at hp; cases hp
          | true =>
            rw [hq, cond_true] at hp
            simp only [Bool.and_eq_true, Bool.not_eq_true'] at hq
            obtain ⟨q1, q2, q3, q4⟩ := hq
            have key : ∀ (s : St) (K : EV → Heap → Prop), evOp E (.call { callee := .value (.func f), args := xs, argTypes := ts }) s K =
                (match setArg (xs.toList.map (St.opd E s)) s.heap with
                | some b => evCallL en (xs.toList.map (St.opd E s)) [] [b] s.heap fun v H2 => gd (v.inI [] && setNew s.heap H2 b) (K v H2)
                | none => False) := by
              intro s K
              simp only [evOp, St.opd, evCall, evCallF, he, List.append_nil, q1, q2, q3, q4, cond_true, cond_false]
              cases setArg (xs.toList.map (St.opd E s)) s.heap <;> rfl
            have h := ho (fun v' H' => v' = v ∧ H' = H) ⟨rfl, rfl⟩
            rw [key] at h
            cases hsa : setArg (xs.toList.map (St.opd E s)) s.heap with
            | none => rw [hsa] at h; exact h.elim
            | some b =>
              rw [hsa] at h
              simp only at h
              obtain ⟨c, e1, e2⟩ := set_call hD he hsa h
              refine ⟨b, c, ?_, e1, fun s' hop hb K hK => ?_⟩
              · obtain ⟨p, l', hargs, _, _⟩ := setArg_inv hsa
                cases hl : xs.toList with
                | nil => rw [hl] at hp; cases hp
                | cons y l =>
                  rw [hl] at hp hargs
                  simp only [List.head?_cons, Option.some.injEq] at hp
                  subst hp
                  simp only [List.map_cons, List.cons.injEq] at hargs
                  rw [hargs.1]; rfl
              · have ea : xs.toList.map (St.opd E s') = xs.toList.map (St.opd E s) := List.map_congr_left fun x hx => (hop x (by simp [Op.operands, Call.operands]; exact .inr (by simpa using hx))).symm
                obtain ⟨k1, k2⟩ := e2 s'.heap hb
                rw [key, ea, k1]
                exact k2 K hK
      all_goals simp [storePtr] at hp
    all_goals simp [storePtr] at hp
  all_goals simp only [storePtr, Option.some.injEq, reduceCtorEq] at hp
  case store t a' x =>
    subst hp
    have h := ho (fun v' H' => v' = v ∧ H' = H) ⟨rfl, rfl⟩
    simp only [evOp] at h
    cases hq : St.opd E s a' <;> rw [hq] at h <;> simp only [evStore] at h <;> try exact h.elim
    rename_i b p
    cases hb : s.heap[b]? with
    | none => rw [hb] at h; exact h.elim
    | some oc =>
      cases oc with
      | none => rw [hb] at h; exact h.elim
      | some c =>
        rw [hb] at h
        simp only at h
        cases hs : EV.set p c (St.opd E s x) with
        | none => rw [hs] at h; exact h.elim
        | some c' =>
          rw [hs] at h
          simp only at h
          rw [gd_iff] at h
          obtain ⟨h1, rfl, rfl⟩ := h
          refine ⟨b, some c', rfl, rfl, fun s' hop hbb K hK => ?_⟩
          simp only [evOp]
          rw [← hop a' (by simp [Op.operands]), ← hop x (by simp [Op.operands]), hq]
          simp only [evStore, hbb, hb, hs]
          rw [gd_iff]
          exact ⟨h1, hK⟩
theorem readPtr_mem {o : Op} {x : Operand} (h : readPtr o = some x) : x ∈ o.operands.toList := by
  cases o <;> simp only [readPtr, Option.some.injEq, reduceCtorEq] at h <;> subst h <;> simp [Op.operands]
theorem storePtr_mem {o : Op} {x : Operand} (h : storePtr E o = some x) : x ∈ o.operands.toList := by
  cases o
  case call c =>
    obtain ⟨cal, xs, ts⟩ := c
    cases cal
    case value fo =>
      cases fo
      case func f =>
        simp only [storePtr] at h
        cases he : E.fn f with
        | none => simp [he] at h
        | some en =>
          simp only [he] at h
          cases hq : (en.lend && (!newRo en.ro && (!keepRo en.ro && setRo en.ro))) with
          | false => rw [hq] at h; cases h
          | true =>
            rw [hq, cond_true] at h
            have : x ∈ xs.toList := List.mem_of_mem_head? h
            simp [Op.operands, Call.operands]
            exact .inr (by simpa using this)
      all_goals simp [storePtr] at h
    all_goals simp [storePtr] at h
  all_goals simp only [storePtr, Option.some.injEq, reduceCtorEq] at h
  subst h; simp [Op.operands]
theorem storePtr_kind {z : Op} {a : Operand} (hz : storePtr E z = some a) : heapK E z = 2 := by
  cases z
  case call c =>
    obtain ⟨cal, xs, ts⟩ := c
    cases cal
    case value fo =>
      cases fo
      case func f =>
        simp only [storePtr] at hz
        cases he : E.fn f with
        | none => simp [he] at hz
        | some en =>
          simp only [he] at hz
          cases hq : (en.lend && (!newRo en.ro && (!keepRo en.ro && setRo en.ro))) with
          | false => rw [hq] at hz; cases hz
          | true =>
            simp only [Bool.and_eq_true, Bool.not_eq_true'] at hq
            obtain ⟨q1, q2, q3, q4⟩ := hq
            simp [heapK, he, q1, q2, q3]
      all_goals simp [storePtr] at hz
    all_goals simp [storePtr] at hz
  case store => rfl
  all_goals simp only [storePtr, reduceCtorEq] at hz
theorem apart_spec {a x : EV} {b c : Nat} (h : apartV a x = true) (ha : blkOf a = some b) (hx : blkOf x = some c) : b ≠ c := by
  intro e; subst e
  simp [apartV, ha, hx] at h
theorem evOne_swap_dyn (hD : DetFn E) {ops : List Oper} {p o : Oper} (hi : indepD ops p o = true) {x y : Operand} (hd : dynP E p.op o.op = some (x, y)) {s : St} (ha : apartV (St.opd E s x) (St.opd E s y) = true) {K : St → Prop}
    (h : evOne E ops p s fun s1 => evOne E ops o s1 K) : evOne E ops o s fun s2 => evOne E ops p s2 K := by
  refine evOne_swap_of hD hi (fun _ h => h) ?_ h
  simp only [indepD, Bool.and_eq_true] at hi
  obtain ⟨⟨hi1, hi2⟩, ⟨hi3, hi4⟩, hi5⟩ := hi
  intro v1 H1 v2 H2 hO1 hO2 h3
  have fin : ∀ H2', Out E o.op s v2 H2' → Out E p.op (s.put o.dst v2 H2') v1 H2 → ∃ v2' H2' v1' H1', Out E o.op s v2' H2' ∧ Out E p.op (s.put o.dst v2' H2') v1' H1' ∧ K ((s.put o.dst v2' H2').put p.dst v1' H1') :=
    fun H2' q1 q2 => ⟨v2, H2', v1, H2, q1, q2, by rw [← put_comm hi5]; exact h3⟩
  have cases2 : (storePtr E p.op = some x ∧ readPtr o.op = some y) ∨ (readPtr p.op = some x ∧ storePtr E o.op = some y) := by
    unfold dynP at hd
    split at hd
    · rename_i a q h1 h2
      simp only [Option.some.injEq, Prod.mk.injEq] at hd
      obtain ⟨rfl, rfl⟩ := hd
      exact .inl ⟨h1, h2⟩
    · split at hd
      · rename_i a q h1 h2
        simp only [Option.some.injEq, Prod.mk.injEq] at hd
        obtain ⟨rfl, rfl⟩ := hd
        exact .inr ⟨h1, h2⟩
      · cases hd
  rcases cases2 with ⟨g1, g2⟩ | ⟨g1, g2⟩
  · obtain ⟨b, c, k1, rfl, k3⟩ := out_store hD g1 hO1
    obtain ⟨q1, q2⟩ := out_read (s' := s) (opd_put hi1) g2 (fun b' hb' => by
      rw [opd_put hi1 y (readPtr_mem g2)] at hb'
      rw [put_heap, List.getElem?_set_ne (apart_spec ha k1 hb')]) hO2
    rw [put_heap] at q1
    refine fin s.heap q2 ?_
    have := k3 (s.put o.dst v2 s.heap) (fun z hz => (opd_put hi3 z hz).symm) (by rw [put_heap])
    rw [put_heap] at this
    rw [q1]
    exact this
  · obtain ⟨q1, _⟩ := out_read (s' := s) (fun _ _ => rfl) g1 (fun _ _ => rfl) hO1
    subst q1
    have hO2' := back_out hi1 rfl hO2
    obtain ⟨b, c, k1, rfl, k3⟩ := out_store hD g2 hO2'
    refine fin _ hO2' ?_
    obtain ⟨_, q2⟩ := out_read (s' := s.put o.dst v2 (s.heap.set b c)) (fun z hz => (opd_put hi3 z hz).symm) g1 (fun b' hb' => by
      rw [put_heap, List.getElem?_set_ne (fun e => apart_spec ha hb' k1 e.symm)]) hO1
    rwa [put_heap] at q2
theorem blk_lt {n : Nat} {v : EV} {b : Nat} (h : Cl n v) (hb : blkOf v = some b) : b < n := by
  rcases Nat.lt_or_ge b n with hh | hh
  · exact hh
  · exfalso
    have h1 := h (fun c => if c < n then c else c + 1) fun c hc => by simp [hc]
    have h2 := blkOf_ren (f := fun c => if c < n then c else c + 1) v
    rw [h1, hb] at h2
    simp only [Option.map_some, Option.some.injEq] at h2
    rw [if_neg (by omega)] at h2
    omega
theorem out_new (hC : Closed E) {o : Op} {s : St} {v : EV} {H : Heap} (hk : heapK E o = 3) (hcl : ClS s) (ho : Out E o s v H) :
    ∃ (mk : Nat → EV) (c : EV), (∀ f n, (mk n).ren f = mk (f n)) ∧ v = mk s.heap.length ∧ H = s.heap ++ [some c] ∧ Cl s.heap.length c ∧
      ∀ s', (∀ x ∈ o.operands.toList, (St.opd E s) x = (St.opd E s') x) → Out E o s' (mk s'.heap.length) (s'.heap ++ [some c]) := by
  have h := ho (fun v' H' => v' = v ∧ H' = H) ⟨rfl, rfl⟩
  cases o <;> simp [heapK] at hk
  case binOp op t x y u => cases hq : Nat.beq (nilK y) 1 <;> rw [hq] at hk <;> cases hk
  case alloc t =>
    simp only [evOp] at h
    cases ht : E.ty t with
    | none => rw [ht] at h; exact h.elim
    | some ti =>
      rw [ht] at h
      obtain ⟨rfl, rfl⟩ := h
      refine ⟨fun n => .ptr n [], ti.zero, fun _ _ => rfl, rfl, rfl, Cl.of (hC.ty t ti ht), fun s' _ K hK => ?_⟩
      simp only [evOp, ht]
      exact hK
  case box t x =>
    simp only [evOp] at h
    have hu : St.opd E s x ≠ .undef := by intro e; rw [e] at h; exact h.elim
    have h1 : evNew s.heap (St.opd E s x) (fun v' H' => v' = v ∧ H' = H) := by
      revert h
      cases hq : St.opd E s x <;> intro h <;> first | exact absurd hq hu | exact h
    obtain ⟨rfl, rfl⟩ := h1
    refine ⟨fun n => .ptr n [], St.opd E s x, fun _ _ => rfl, rfl, rfl, opd_cl hC hcl x, fun s' hop K hK => ?_⟩
    simp only [evOp]
    rw [← hop x (by simp [Op.operands])]
    have hK' : evNew s'.heap (St.opd E s x) K := hK
    revert hK'
    cases hq : St.opd E s x <;> intro hK' <;> first | exact absurd hq hu | exact hK'
  case buildSlice t n ps =>
    simp only [evOp] at h
    rw [gd_iff] at h
    obtain ⟨hd, h⟩ := h
    have hps := opdP_cl hC hcl ps.toList
    have go : ∀ (L : List (Nat × EV)), (∀ p ∈ L, Cl s.heap.length p.2) → evBuildSlice E t n L s.heap (fun v' H' => v' = v ∧ H' = H) →
        ∃ (mk : Nat → EV) (c : EV), (∀ f n, (mk n).ren f = mk (f n)) ∧ v = mk s.heap.length ∧ H = s.heap ++ [some c] ∧ Cl s.heap.length c ∧ ∀ (H2 : Heap) (K : EV → Heap → Prop), K (mk H2.length) (H2 ++ [some c]) → evBuildSlice E t n L H2 K := by
      intro L hL h
      unfold evBuildSlice at h ⊢
      cases ht : E.ty t with
      | none => rw [ht] at h; exact h.elim
      | some ti =>
        rw [ht] at h
        simp only at h ⊢
        cases htd : ti.td <;> simp only [htd] at h ⊢ <;> try exact h.elim
        rename_i e
        cases he : E.ty e with
        | none => rw [he] at h; exact h.elim
        | some ei =>
          rw [he] at h
          simp only at h ⊢
          rw [gd_iff] at h
          obtain ⟨g0, h⟩ := h
          have hz : Cl s.heap.length ei.zero := Cl.of (hC.ty e ei he)
          split at h
          · rename_i q z hq
            rw [gd_iff] at h
            obtain ⟨g1, h⟩ := h
            split at h
            · rename_i u hu
              obtain ⟨rfl, rfl⟩ := h
              refine ⟨fun m => .slice m 0 n (some n) 1, u, fun _ _ => rfl, rfl, rfl, evParts_cl hL (fun f _ => rfl) hu, fun H2 K hK => ?_⟩
              rw [gd_iff]
              refine ⟨g0, ?_⟩
              first
                | (rw [gd_iff]; exact ⟨g1, hK⟩)
                | (simp only [hq, hu]; rw [gd_iff]; exact ⟨g1, hK⟩)
            · exact h.elim
          · rename_i hne
            rw [gd_iff] at h
            obtain ⟨g1, h⟩ := h
            split at h
            · rename_i u hu
              obtain ⟨rfl, rfl⟩ := h
              refine ⟨fun m => .slice m 0 n (some n) ei.size, u, fun _ _ => rfl, rfl, rfl, evParts_cl hL (fun f hf => ?_) hu, fun H2 K hK => ?_⟩
              · simp only [EV.ren, renL_map, List.map_replicate, hz f hf]
              · rw [gd_iff]
                refine ⟨g0, ?_⟩
                first
                  | (rw [gd_iff]; exact ⟨g1, hK⟩)
                  | (split
                     · rename_i q z hq; exact (hne q z hq).elim
                     · rw [gd_iff]
                       simp only [hu]
                       exact ⟨g1, hK⟩)
            · exact h.elim
    obtain ⟨mk, c, k1, k2, k3, k4, k5⟩ := go _ hps h
    refine ⟨mk, c, k1, k2, k3, k4, fun s' hop K hK => ?_⟩
    have e1 : (ps.toList.map fun p => (St.opd E s) p.2) = ps.toList.map fun p => (St.opd E s') p.2 := List.map_congr_left fun p hp => hop p.2 (by simp only [Op.operands]; exact List.mem_map.2 ⟨p, hp, rfl⟩)
    have e2 : (ps.toList.map fun p => (p.1, (St.opd E s) p.2)) = ps.toList.map fun p => (p.1, (St.opd E s') p.2) := List.map_congr_left fun p hp => by rw [hop p.2 (by simp only [Op.operands]; exact List.mem_map.2 ⟨p, hp, rfl⟩)]
    simp only [evOp]
    rw [← e1, ← e2, gd_iff]
    exact ⟨hd, k5 _ _ hK⟩
  case makeSlice t l c =>
    simp only [evOp] at h
    rw [gd_iff] at h
    obtain ⟨hd, h⟩ := h
    have go : ∀ (A B : EV), evMakeSliceA E t A B s.heap (fun v' H' => v' = v ∧ H' = H) →
        ∃ (mk : Nat → EV) (c : EV), (∀ f n, (mk n).ren f = mk (f n)) ∧ v = mk s.heap.length ∧ H = s.heap ++ [some c] ∧ Cl s.heap.length c ∧ ∀ (H2 : Heap) (K : EV → Heap → Prop), K (mk H2.length) (H2 ++ [some c]) → evMakeSliceA E t A B H2 K := by
      intro A B h
      unfold evMakeSliceA at h ⊢
      cases hel : elInt E t with
      | false =>
        rw [hel, cond_false] at h
        simp only [cond_false]
        unfold evMakeSliceT at h ⊢
        cases ht : E.ty t with
        | none => rw [ht] at h; exact h.elim
        | some ti =>
          rw [ht] at h
          cases A <;> simp only at h ⊢ <;> try exact h.elim
          cases B <;> simp only at h ⊢ <;> try exact h.elim
          rename_i ka la kb lb
          cases htd : ti.td <;> simp only [htd] at h ⊢ <;> try exact h.elim
          rename_i e
          cases he : E.ty e with
          | none => rw [he] at h; exact h.elim
          | some ei =>
            rw [he] at h
            simp only at h ⊢
            cases hz : Sk.of ei.zero with
            | none => rw [hz] at h; exact h.elim
            | some sk =>
              rw [hz] at h
              simp only at h ⊢
              rw [gd_iff] at h
              obtain ⟨g0, rfl, rfl⟩ := h
              refine ⟨fun m => .slice m 0 la.toNat (some lb.toNat) sk.shape.size, _, fun _ _ => rfl, rfl, rfl, fun _ _ => rfl, fun H2 K hK => ?_⟩
              rw [gd_iff]
              exact ⟨g0, hK⟩
      | true =>
      rw [hel, cond_true] at h
      simp only [cond_true]
      unfold evMakeSlice at h ⊢
      cases ht : E.ty t with
      | none => rw [ht] at h; exact h.elim
      | some ti =>
        rw [ht] at h
        cases A <;> simp only at h ⊢ <;> try exact h.elim
        cases B <;> simp only at h ⊢ <;> try exact h.elim
        rename_i ka la kb lb
        cases htd : ti.td <;> simp only [htd] at h ⊢ <;> try exact h.elim
        rename_i e
        cases he : E.ty e with
        | none => rw [he] at h; exact h.elim
        | some ei =>
          rw [he] at h
          simp only at h ⊢
          cases hz : ei.zero <;> simp only [hz] at h ⊢ <;> try exact h.elim
          rw [gd_iff] at h
          obtain ⟨g0, rfl, rfl⟩ := h
          refine ⟨fun m => .slice m 0 la.toNat (some lb.toNat) 1, _, fun _ _ => rfl, rfl, rfl, fun _ _ => rfl, fun H2 K hK => ?_⟩
          rw [gd_iff]
          exact ⟨g0, hK⟩
    obtain ⟨mk, c', k1, k2, k3, k4, k5⟩ := go _ _ h
    refine ⟨mk, c', k1, k2, k3, k4, fun s' hop K hK => ?_⟩
    simp only [evOp]
    rw [← hop l (by simp [Op.operands]), ← hop c (by simp [Op.operands]), gd_iff]
    exact ⟨hd, k5 _ _ hK⟩
  case call c =>
    obtain ⟨cal, xs, ts⟩ := c
    cases cal
    case value f =>
      cases f
      case func f =>
        simp only at hk
        cases he : E.fn f with
        | none => simp [he] at hk
        | some en =>
          simp only [he] at hk
          cases q1 : allNone en.ro <;> cases q2 : en.lend <;> cases q3 : newRo en.ro <;> cases q4 : keepRo en.ro <;> simp [q1, q2, q3, q4] at hk
      all_goals simp at hk
    case builtin bi => cases bi <;> simp at hk
    all_goals simp at hk
def KQ (n : Nat) (K : St → Prop) : St → Prop := fun s' => ∃ f s, Shf n s.heap.length f ∧ StR f s s' ∧ K s
theorem StR.id (s : St) : StR (fun b => b) s s := ⟨by
  have : s.tmps.map (EV.ren fun b => b) = s.tmps.map _root_.id := List.map_congr_left fun v _ => (ren_id v : v.ren (fun b => b) = _root_.id v)
  rw [this, List.map_id], HR.id _⟩
theorem StR.comp {f g : Nat → Nat} {s s' s'' : St} (h : StR f s s') (k : StR g s' s'') : StR (fun b => g (f b)) s s'' :=
  ⟨by rw [k.tmps, h.tmps, List.map_map]; exact List.map_congr_left fun v _ => ren_ren f g v, h.heap.comp k.heap⟩
theorem KQ.of {n : Nat} {K : St → Prop} {s : St} (h : K s) : KQ n K s := ⟨_, s, Shf.id n _, StR.id s, h⟩
theorem KQ.flat {n : Nat} {K : St → Prop} {s : St} (h : KQ n (KQ n K) s) : KQ n K s := by
  obtain ⟨g, s1, h1, h2, f, s2, h3, h4, h5⟩ := h
  exact ⟨_, s2, h3.comp (by rw [← h4.heap.len]; exact h1), h4.comp h2, h5⟩
theorem KQ.ops (hC : Closed E) (hD : DetFn E) {n : Nat} {ops r : List Oper} {K : St → Prop} {s : St} (h : KQ n (fun s => evOps E ops r s K) s) : evOps E ops r s (KQ n K) := by
  obtain ⟨f, s1, h1, h2, h3⟩ := h
  refine (det_evOps hD r s).mono (evOps_eqv hC hD r h1 h2 h3) ?_
  rintro s' ⟨s2, k1, k2, k3⟩
  exact ⟨f, s2, h1.mono k2, k1, k3⟩
theorem put_tmps {s : St} {d : Option Nat} {v : EV} {H : Heap} : (s.put d v H).tmps = (match d with | some d => s.tmps.set d v | none => s.tmps) := by cases d <;> rfl
theorem out_new34 (hC : Closed E) (hD : DetFn E) {o : Op} {s : St} {v : EV} {H : Heap} (hk : heapK E o = 3 ∨ heapK E o = 4) (hcl : ClS s) (ho : Out E o s v H) :
    ∃ (mk : Nat → EV) (c : EV), (∀ f n, (mk n).ren f = mk (f n)) ∧ v = mk s.heap.length ∧ H = s.heap ++ [some c] ∧ Cl s.heap.length c ∧
      ∀ s', (∀ x ∈ o.operands.toList, (St.opd E s) x = (St.opd E s') x) → Out E o s' (mk s'.heap.length) (s'.heap ++ [some c]) := by
  rcases hk with hk | hk
  · exact out_new hC hk hcl ho
  · obtain ⟨mk, c, h1, h2, h3, h4, h5⟩ := out_newC hD hk ho
    exact ⟨mk, c, h1, h2, h3, Cl.of h4, h5⟩
theorem evOne_swap33 (hC : Closed E) (hD : DetFn E) {ops : List Oper} {p o : Oper} (hi : indepD ops p o = true) (hp : heapK E p.op = 3 ∨ heapK E p.op = 4) (ho : heapK E o.op = 3 ∨ heapK E o.op = 4) {n : Nat} {s : St} (hcl : ClS s) (hn : n ≤ s.heap.length) {K : St → Prop}
    (h : evOne E ops p s fun s1 => evOne E ops o s1 K) : evOne E ops o s fun s2 => evOne E ops p s2 (KQ n K) := by
  refine evOne_swap_of hD hi (fun _ h => KQ.of h) ?_ h
  simp only [indepD, Bool.and_eq_true] at hi
  obtain ⟨⟨hi1, hi2⟩, ⟨hi3, hi4⟩, hi5⟩ := hi
  intro v1 H1 v2 H2 hO1 hO2 h3
  obtain ⟨mk1, c1, a1, rfl, rfl, a4, a5⟩ := out_new34 hC hD hp hcl hO1
  have hcl1 : ClS (s.put p.dst (mk1 s.heap.length) (s.heap ++ [some c1])) := by
    refine hcl.put _ (by simp) (fun f hf => by rw [a1, hf _ (by simp)]) ?_
    intro b c hb
    have hmono : ∀ {u : EV}, Cl s.heap.length u → Cl (s.heap ++ [some c1]).length u := fun h => h.mono (by simp)
    rcases Nat.lt_or_ge b s.heap.length with hh | hh
    · rw [List.getElem?_append_left hh] at hb; exact hmono (hcl.heap b c hb)
    · rw [List.getElem?_append_right hh] at hb
      cases hq : b - s.heap.length with
      | zero => rw [hq] at hb; simp at hb; subst hb; exact hmono a4
      | succ k => rw [hq] at hb; simp at hb
  obtain ⟨mk2, c2, b1, e2, e3, b4, b5⟩ := out_new34 hC hD ho hcl1 hO2
  rw [put_heap] at e2 e3 b4
  subst e2; subst e3
  have q1 := b5 s (opd_put hi1)
  have q2 := a5 (s.put o.dst (mk2 s.heap.length) (s.heap ++ [some c2])) (fun x hx => (opd_put hi3 x hx).symm)
  rw [put_heap] at q2
  refine ⟨_, _, _, _, q1, q2, swp s.heap.length, _, Shf.swp n s.heap.length _ hn ?_, ?_, h3⟩
  · rw [put_heap]; simp
  · have hlen1 : (s.heap ++ [some c1]).length = s.heap.length + 1 := by simp
    have hlen2 : (s.heap ++ [some c2]).length = s.heap.length + 1 := by simp
    have fixT : s.tmps.map (EV.ren (swp s.heap.length)) = s.tmps := hcl.tmps.ren _ fun b hb => by unfold swp; rw [if_neg (by omega), if_neg (by omega)]
    have sw0 : swp s.heap.length s.heap.length = s.heap.length + 1 := by simp [swp]
    have sw1 : swp s.heap.length (s.heap.length + 1) = s.heap.length := by simp [swp]
    have sc : ∀ {u : EV}, Cl s.heap.length u → u.ren (swp s.heap.length) = u := fun h => h _ fun b hb => by unfold swp; rw [if_neg (by omega), if_neg (by omega)]
    have c2cl : Cl s.heap.length c2 := by
      obtain ⟨mk', c', _, _, k3, k4, _⟩ := out_new34 hC hD ho hcl q1
      have : c2 = c' := by simpa using k3
      rw [this]; exact k4
    refine ⟨?_, ?_⟩
    · simp only [put_tmps, hlen1, hlen2]
      cases hpd : p.dst with
      | none =>
        cases hod : o.dst with
        | none => exact fixT.symm
        | some d => simp only [List.map_set, b1, sw1, fixT]
      | some d1 =>
        cases hod : o.dst with
        | none => simp only [List.map_set, a1, sw0, fixT]
        | some d2 =>
          have hne : d2 ≠ d1 := by
            intro e
            rw [hpd, hod] at hi5
            subst e
            simp [neO] at hi5
          simp only [List.map_set, a1, b1, sw0, sw1, fixT]
          rw [List.set_comm _ _ hne]
    · rw [put_heap, put_heap]
      refine ⟨by simp, fun b => ?_⟩
      rcases Nat.lt_or_ge b s.heap.length with hh | hh
      · have e : swp s.heap.length b = b := by unfold swp; rw [if_neg (by omega), if_neg (by omega)]
        rw [e, List.append_assoc, List.append_assoc, List.getElem?_append_left hh, List.getElem?_append_left hh]
        cases hq : s.heap[b]? with
        | none => rfl
        | some oc =>
          cases oc with
          | none => rfl
          | some c => simp only [Option.map_some, renO, sc (hcl.heap b c hq)]
      · rcases Nat.lt_or_ge b (s.heap.length + 2) with h2 | h2
        · rcases Nat.lt_or_ge b (s.heap.length + 1) with h4 | h4
          · obtain rfl : b = s.heap.length := by omega
            rw [sw0, List.getElem?_append_right (by simp), List.getElem?_append_left (by simp), List.getElem?_append_right (Nat.le_refl _)]
            simp [renO, sc a4]
          · obtain rfl : b = s.heap.length + 1 := by omega
            rw [sw1, List.getElem?_append_left (by simp), List.getElem?_append_right (Nat.le_refl _), List.getElem?_append_right (by simp)]
            simp [renO, sc c2cl]
        · have e : swp s.heap.length b = b := by unfold swp; rw [if_neg (by omega), if_neg (by omega)]
          rw [e, List.getElem?_eq_none (by simp; omega), List.getElem?_eq_none (by simp; omega)]
          rfl
theorem evOne_swap41 (hC : Closed E) (hD : DetFn E) {ops : List Oper} {p o : Oper} (hi : indepD ops p o = true) (hp : heapK E p.op = 4) {x : Operand} (hx : readPtr o.op = some x) {s : St} (hcl : ClS s) {K : St → Prop}
    (h : evOne E ops p s fun s1 => evOne E ops o s1 K) : evOne E ops o s fun s2 => evOne E ops p s2 K := by
  refine evOne_swap_of hD hi (fun _ h => h) ?_ h
  simp only [indepD, Bool.and_eq_true] at hi
  obtain ⟨⟨hi1, hi2⟩, ⟨hi3, hi4⟩, hi5⟩ := hi
  intro v1 H1 v2 H2 hO1 hO2 h3
  obtain ⟨t, ht⟩ := out_new4 hD hp hO1
  have hop : St.opd E (s.put p.dst v1 H1) x = St.opd E s x := opd_put hi1 x (readPtr_mem hx)
  obtain ⟨q1, q2⟩ := out_read (s' := s) (opd_put hi1) hx (fun b hb => by
    rw [hop] at hb
    have hlt := blk_lt (opd_cl hC hcl x) hb
    rw [put_heap, ht, List.getElem?_append_left hlt]) hO2
  rw [put_heap] at q1
  refine ⟨v2, s.heap, v1, H1, q2, hsame_out hi3 rfl hO1, ?_⟩
  rw [← put_comm hi5]
  rw [← q1]
  exact h3
theorem evOne_keep {ops : List Oper} {o : Oper} {s : St} {K : St → Prop} (hD : DetFn E) (h : evOne E ops o s K) : evOne E ops o s fun s' => K s' ∧ ∀ t, o.dst ≠ some t → s'.slot t = s.slot t := by
  rw [evOne_iff] at h ⊢
  cases hg : gval ops o s with
  | none => rw [hg] at h; exact h
  | some b =>
    rw [hg] at h
    cases b with
    | true => exact (det_evOp hD).mono h fun v H hK => ⟨hK, fun t ht => slot_put ht⟩
    | false => exact ⟨h, fun t ht => slot_put ht⟩
theorem evOps_keep {ops : List Oper} (hD : DetFn E) : ∀ (r : List Oper) {s : St} {K : St → Prop}, evOps E ops r s K → evOps E ops r s fun s' => K s' ∧ ∀ t, (∀ o ∈ r, o.dst ≠ some t) → s'.slot t = s.slot t
  | [], s, K, h => ⟨h, fun _ _ => rfl⟩
  | o :: r, s, K, h => by
    simp only [evOps] at h ⊢
    refine (det_evOne hD).mono (evOne_keep hD h) ?_
    rintro s1 ⟨h1, h2⟩
    refine (det_evOps hD r s1).mono (evOps_keep hD r h1) ?_
    rintro s2 ⟨h3, h4⟩
    exact ⟨h3, fun t ht => (h4 t fun q hq => ht q (List.mem_cons_of_mem _ hq)).trans (h2 t (ht o List.mem_cons_self))⟩
theorem evOne_len (hC : Closed E) (hD : DetFn E) {ops : List Oper} {o : Oper} {s : St} {K : St → Prop} (h : evOne E ops o s K) : evOne E ops o s fun s' => K s' ∧ s.heap.length ≤ s'.heap.length := by
  refine (det_evOne hD).mono (evOne_eqv hC hD (Shf.id 0 _) (StR.id s) h) ?_
  rintro s' ⟨s1, h1, h2, h3⟩
  have h4 := StR.id s1
  have e1 : s'.tmps = s1.tmps := h1.tmps.trans h4.tmps.symm
  have e2 : s'.heap = s1.heap := by
    apply List.ext_getElem?
    intro b
    rw [h1.heap.get b, ← h4.heap.get b]
  have e3 : s' = s1 := by cases s'; cases s1; simp_all
  exact ⟨e3 ▸ h3, by rw [e2]; exact h2⟩
theorem bindsOn_iff {j : Nat} : ∀ {l : List Edge}, bindsOn j l = true → ∃ e ∈ l, Region.binds .any e = true ∧ e.on = j
  | e :: l, h => by
    simp only [bindsOn, Bool.or_eq_true, Bool.and_eq_true, Nat.beq_eq] at h
    rcases h with ⟨h1, h2⟩ | h
    · exact ⟨e, List.mem_cons_self, h1, h2⟩
    · obtain ⟨e', h1, h2⟩ := bindsOn_iff h
      exact ⟨e', List.mem_cons_of_mem _ h1, h2⟩
theorem edgesBelow_spec {i : Nat} : ∀ {l : List Edge}, edgesBelow i l = true → ∀ e ∈ l, Region.binds .any e = true → e.on < i
  | e :: l, h, e', he, hb => by
    simp only [edgesBelow, Bool.and_eq_true, Bool.or_eq_true, Bool.not_eq_true', Nat.blt_eq] at h
    rcases List.mem_cons.1 he with rfl | he
    · rcases h.1 with h1 | h1
      · rw [h1] at hb; cases hb
      · exact h1
    · exact edgesBelow_spec h.2 e' he hb
theorem okAll_spec {ops : List Oper} {o : Oper} {i : Nat} (l : List Oper) : ∀ (j0 : Nat), okAll E ops o i j0 l = true → ∀ (k : Nat) p, l[k]? = some p →
    (bindsOn (j0 + k) o.after.toList = true ∨ (indepD ops p o = true ∧ (heapOk (heapK E p.op) (heapK E o.op) = true ∨ (both3 E p.op o.op = true ∧ quietOps E (ops.take i) = true) ∨ dynOk E ops (j0 + k) i p o = true))) ∨ bindsT ops 6 (j0 + k) o.after.toList = true := by
  induction l with
  | nil => intro j0 h k p hk; simp at hk
  | cons q l ih =>
    intro j0 h k p hk
    simp only [okAll, Bool.and_eq_true, Bool.or_eq_true] at h
    cases k with
    | zero =>
      rw [List.getElem?_cons_zero, Option.some.injEq] at hk
      subst hk
      exact h.1
    | succ k =>
      rw [List.getElem?_cons_succ] at hk
      have := ih (j0 + 1) h.2 k p hk
      rw [show j0 + 1 + k = j0 + (k + 1) from by omega] at this
      exact this
theorem okFrom_spec {ops : List Oper} (l : List Oper) : ∀ (i0 : Nat), okFrom E ops i0 l = true → ∀ (k : Nat) o, l[k]? = some o →
    edgesBelow (i0 + k) o.after.toList = true ∧ okAll E ops o (i0 + k) 0 (ops.take (i0 + k)) = true := by
  induction l with
  | nil => intro i0 h k o hk; simp at hk
  | cons q l ih =>
    intro i0 h k o hk
    simp only [okFrom, Bool.and_eq_true] at h
    cases k with
    | zero =>
      rw [List.getElem?_cons_zero, Option.some.injEq] at hk
      subst hk
      exact h.1
    | succ k =>
      rw [List.getElem?_cons_succ] at hk
      have := ih (i0 + 1) h.2 k o hk
      rw [show i0 + 1 + k = i0 + (k + 1) from by omega] at this
      exact this
theorem commB_spec {ops : List Oper} (h : commB E ops = true) {i : Nat} {o : Oper} (hi : ops[i]? = some o) :
    (∀ e ∈ o.after.toList, Region.binds .any e = true → e.on < i) ∧ ∀ (j : Nat) p, j < i → ops[j]? = some p → ((∃ e ∈ o.after.toList, Region.binds .any e = true ∧ e.on = j) ∨ bindsT ops 6 j o.after.toList = true) ∨
      (indepD ops p o = true ∧ (heapOk (heapK E p.op) (heapK E o.op) = true ∨ (both3 E p.op o.op = true ∧ quietOps E (ops.take i) = true) ∨ dynOk E ops j i p o = true)) := by
  obtain ⟨h1, h2⟩ := okFrom_spec ops 0 h i o hi
  rw [Nat.zero_add] at h1 h2
  refine ⟨edgesBelow_spec h1, fun j p hj hp => ?_⟩
  rcases okAll_spec _ 0 h2 j p (by rw [List.getElem?_take_of_lt hj]; exact hp) with (h3 | h3) | h3
  · rw [Nat.zero_add] at h3; exact .inl (.inl (bindsOn_iff h3))
  · rw [Nat.zero_add] at h3; exact .inr h3
  · rw [Nat.zero_add] at h3; exact .inl (.inr h3)
theorem anyE_iff {p : Edge → Bool} : ∀ {l : List Edge}, anyE p l = true → ∃ e ∈ l, p e = true
  | e :: l, h => by
    simp only [anyE, Bool.or_eq_true] at h
    rcases h with h | h
    · exact ⟨e, List.mem_cons_self, h⟩
    · obtain ⟨e', h1, h2⟩ := anyE_iff h
      exact ⟨e', List.mem_cons_of_mem _ h1, h2⟩
theorem bindsT_listed {ops : List Oper} {listed : Array Bool} (hdown : ∀ m o, ops[m]? = some o → listed.getD m false = true → ∀ e ∈ o.after.toList, Region.binds .any e = true → listed.getD e.on false = true) :
    ∀ (n j : Nat) (l : List Edge), bindsT ops n j l = true → (∀ e ∈ l, Region.binds .any e = true → listed.getD e.on false = true) → listed.getD j false = true
  | 0, j, l, h, hl => by simp [bindsT] at h
  | n + 1, j, l, h, hl => by
    simp only [bindsT] at h
    obtain ⟨e, he, h⟩ := anyE_iff h
    simp only [Bool.and_eq_true, Bool.or_eq_true] at h
    obtain ⟨hb, h⟩ := h
    have h1 := hl e he hb
    rcases h with h | ⟨_, h⟩
    · rw [← Nat.eq_of_beq_eq_true h]; exact h1
    · split at h
      · rename_i o ho
        exact bindsT_listed hdown n j _ h (hdown _ o ho h1)
      · cases h
theorem chkAll_spec {t : Operand → Operand → Bool} {o : Oper} (l : List Oper) : ∀ (j0 : Nat), chkAll E t o j0 l = true → ∀ (k : Nat) p, l[k]? = some p →
    bindsOn (j0 + k) o.after.toList = true ∨ heapOk (heapK E p.op) (heapK E o.op) = true ∨ both3 E p.op o.op = true ∨ ∀ x y, dynP E p.op o.op = some (x, y) → t x y = true := by
  induction l with
  | nil => intro j0 h k p hk; simp at hk
  | cons q l ih =>
    intro j0 h k p hk
    simp only [chkAll, Bool.and_eq_true, Bool.or_eq_true] at h
    cases k with
    | zero =>
      rw [List.getElem?_cons_zero, Option.some.injEq] at hk
      subst hk
      rcases h.1 with h | h | h | h
      · exact .inl h
      · exact .inr (.inl h)
      · exact .inr (.inr (.inl h))
      · refine .inr (.inr (.inr fun x y hd => ?_))
        rw [hd] at h; exact h
    | succ k =>
      rw [List.getElem?_cons_succ] at hk
      have := ih (j0 + 1) h.2 k p hk
      rw [show j0 + 1 + k = j0 + (k + 1) from by omega] at this
      exact this
theorem chkFrom_spec {t : Operand → Operand → Bool} {ops : List Oper} (l : List Oper) : ∀ (i0 : Nat), chkFrom E t ops i0 l = true → ∀ (k : Nat) o, l[k]? = some o → chkAll E t o 0 (ops.take (i0 + k)) = true := by
  induction l with
  | nil => intro i0 h k o hk; simp at hk
  | cons q l ih =>
    intro i0 h k o hk
    simp only [chkFrom, Bool.and_eq_true] at h
    cases k with
    | zero =>
      rw [List.getElem?_cons_zero, Option.some.injEq] at hk
      subst hk
      exact h.1
    | succ k =>
      rw [List.getElem?_cons_succ] at hk
      have := ih (i0 + 1) h.2 k o hk
      rw [show i0 + 1 + k = i0 + (k + 1) from by omega] at this
      exact this
theorem chkAll_mono {t t' : Operand → Operand → Bool} (ht : ∀ x y, t x y = true → t' x y = true) {o : Oper} (l : List Oper) : ∀ (j : Nat), chkAll E t o j l = true → chkAll E t' o j l = true := by
  induction l with
  | nil => intro j h; rfl
  | cons p l ih =>
    intro j h
    simp only [chkAll, Bool.and_eq_true, Bool.or_eq_true] at h ⊢
    refine ⟨?_, ih (j + 1) h.2⟩
    rcases h.1 with h | h | h | h
    · exact .inl h
    · exact .inr (.inl h)
    · exact .inr (.inr (.inl h))
    · refine .inr (.inr (.inr ?_))
      cases hd : dynP E p.op o.op with
      | none => rfl
      | some q => rw [hd] at h; exact ht _ _ h
theorem chkFrom_mono {t t' : Operand → Operand → Bool} (ht : ∀ x y, t x y = true → t' x y = true) {ops : List Oper} (l : List Oper) : ∀ (j : Nat), chkFrom E t ops j l = true → chkFrom E t' ops j l = true := by
  induction l with
  | nil => intro j h; rfl
  | cons p l ih =>
    intro j h
    simp only [chkFrom, Bool.and_eq_true] at h ⊢
    exact ⟨chkAll_mono ht _ _ h.1, ih (j + 1) h.2⟩
theorem apartV_ren {f : Nat → Nat} (hi : ∀ a b, f a = f b → a = b) (a x : EV) : apartV (a.ren f) (x.ren f) = apartV a x := by
  unfold apartV
  rw [blkOf_ren, blkOf_ren]
  cases blkOf a <;> cases blkOf x <;> simp only [Option.map_some, Option.map_none]
  rw [beq_map hi]
theorem chkB_ren (hC : Closed E) {f : Nat → Nat} (hi : ∀ a b, f a = f b → a = b) {ops : List Oper} {s s' : St} (h : StR f s s') : chkB E ops s' = chkB E ops s := by
  unfold chkB
  have : (fun x y => apartV (St.opd E s' x) (St.opd E s' y)) = fun x y => apartV (St.opd E s x) (St.opd E s y) := by
    funext x y
    rw [opd_eqv hC h, opd_eqv hC h, apartV_ren hi]
  rw [this]
theorem noDst_spec {x : Operand} {l : List Oper} (h : noDst x l = true) : ∀ o ∈ l, noMem o.dst (tmpsOf [x]) = true := by
  induction l with
  | nil => intro o ho; cases ho
  | cons o l ih =>
    intro q hq
    simp only [noDst, Bool.and_eq_true] at h
    rcases List.mem_cons.1 hq with e | hq
    · rw [e]; exact h.1
    · exact ih h.2 q hq
theorem quietOps_spec {l : List Oper} (h : quietOps E l = true) : ∀ o ∈ l, heapK E o.op ≠ 2 := by
  induction l with
  | nil => intro o ho; cases ho
  | cons o l ih =>
    intro q hq
    simp only [quietOps, Bool.and_eq_true, Bool.not_eq_true'] at h
    rcases List.mem_cons.1 hq with e | hq
    · rw [e]
      intro e2
      have h1 := h.1
      rw [e2] at h1
      exact absurd h1 (by decide)
    · exact ih h.2 q hq
theorem opd_keep {s s' : St} {x : Operand} (h : ∀ t, x = .tmp t → s'.slot t = s.slot t) : St.opd E s' x = St.opd E s x := by
  cases x
  case tmp t => exact h t rfl
  all_goals rfl
theorem noMem_one {d : Option Nat} {t : Nat} (h : noMem d (tmpsOf [.tmp t]) = true) : d ≠ some t := by
  intro e; subst e
  simp [noMem, tmpsOf, memN] at h
theorem evOp_cl (hC : Closed E) (hD : DetFn E) {o : Op} {s : St} {K : EV → Heap → Prop} (hk : heapK E o ≠ 2) (hcl : ClS s) (h : evOp E o s K) :
    evOp E o s fun v H => K v H ∧ Cl H.length v ∧ ClH H.length H ∧ s.heap.length ≤ H.length := by
  have viaV : (∀ K, evOp E o s K = evV E o s fun v => K v s.heap) → evOp E o s fun v H => K v H ∧ Cl H.length v ∧ ClH H.length H ∧ s.heap.length ≤ H.length := by
    intro h1
    rw [h1] at h ⊢
    exact det_evV.mono (evV_cl hC hcl h) fun v hv => ⟨hv.1, hv.2, hcl.heap, Nat.le_refl _⟩
  by_cases h3 : heapK E o = 3
  · obtain ⟨v, H, h1, h2⟩ := det_evOp hD _ h
    obtain ⟨mk, c, k1, rfl, rfl, k4, _⟩ := out_new hC h3 hcl h2
    refine h2 _ ⟨h1, fun f hf => by rw [k1, hf _ (by simp)], fun b c' hb => ?_, by simp⟩
    rcases Nat.lt_or_ge b s.heap.length with hh | hh
    · rw [List.getElem?_append_left hh] at hb; exact (hcl.heap b c' hb).mono (by simp)
    · rw [List.getElem?_append_right hh] at hb
      cases hq : b - s.heap.length with
      | zero => rw [hq] at hb; simp at hb; subst hb; exact k4.mono (by simp)
      | succ k => rw [hq] at hb; simp at hb
  by_cases h4 : heapK E o = 4
  · obtain ⟨f, en, xs, he, _, h1⟩ := op4 h4
    rw [h1, gd_iff] at h ⊢
    refine ⟨h.1, ?_⟩
    have h := h.2
    rw [call4, gd_iff] at h ⊢
    refine ⟨h.1, (hD f en he _ _).mono h.2 fun v H' hK => ?_⟩
    rw [gd_iff] at hK ⊢
    refine ⟨hK.1, ?_⟩
    have hB := hK.1
    have hK := hK.2
    rw [gd_iff] at hK ⊢
    refine ⟨hK.1, hK.2, ?_⟩
    simp only [Bool.and_eq_true] at hB
    obtain ⟨g1, g2, _⟩ := hB
    have hlen : (s.heap ++ renH (backN [] s.heap.length) H').length = s.heap.length + H'.length := by rw [List.length_append, renH_length]
    have hcl4 : ∀ u : EV, u.inI (upTo H'.length) = true → Cl (s.heap.length + H'.length) (u.ren (backN [] s.heap.length)) := by
      intro u hu f hf
      rw [ren_ren]
      refine inI_congr (fun b hb => ?_) u hu
      have hb := (mem_upTo _ _).1 hb
      have : backN [] s.heap.length b = s.heap.length + b := by simp [backN]
      rw [this]
      exact hf _ (by omega)
    rw [hlen]
    refine ⟨hcl4 v g1, fun b c hb => ?_, by omega⟩
    rcases Nat.lt_or_ge b s.heap.length with hh | hh
    · rw [List.getElem?_append_left hh] at hb; exact (hcl.heap b c hb).mono (by omega)
    · rw [List.getElem?_append_right hh, renH_get] at hb
      cases hq : H'[b - s.heap.length]? with
      | none => rw [hq] at hb; simp at hb
      | some oc =>
        rw [hq] at hb
        cases oc with
        | none => simp [renO] at hb
        | some c' =>
          simp only [Option.map_some, renO, Option.some.injEq] at hb
          subst hb
          have hlt : b - s.heap.length < H'.length := (List.getElem?_eq_some_iff.1 hq).1
          exact hcl4 c' (inIH_spec g2 _ ((mem_upTo _ _).2 hlt) c' hq)
  by_cases h5 : heapK E o = 5
  · obtain ⟨f, en, xs, he, h1⟩ := op5 h5
    rw [h1] at h ⊢
    refine (det_evCallL (hD f en he)).mono h fun v H2 hK => ⟨hK.1, ?_⟩
    have hK := hK.2
    rw [gd_iff] at hK ⊢
    exact ⟨hK.1, hK.2, Cl.of hK.1, hcl.heap, Nat.le_refl _⟩
  · cases o
    case alloc => simp [heapK] at h3
    case box => simp [heapK] at h3
    case buildSlice => simp [heapK] at h3
    case makeSlice => simp [heapK] at h3
    case store => simp [heapK] at hk
    case call c =>
      obtain ⟨cal, xs, ts⟩ := c
      cases cal
      case value f =>
        cases f
        case func f =>
          simp only [heapK] at hk
          cases he : E.fn f with
          | none => simp [he] at hk
          | some en =>
            simp only [he] at hk
            obtain ⟨hn, hnl⟩ : allNone en.ro = true ∧ en.lend = false := by
              cases q1 : allNone en.ro <;> cases q2 : en.lend <;> cases q3 : newRo en.ro <;> cases q4 : keepRo en.ro <;> simp [q1, q2, q3, q4, heapK, he] at hk h4 h5 ⊢
            simp only [evOp, St.opd, evCall, evCallF, he, List.append_nil, roArgs_none _ _ _ hn, hnl, cond_false] at h ⊢
            rw [gd_iff] at h ⊢
            obtain ⟨g0, h⟩ := h
            refine ⟨g0, ?_⟩
            have hka : killArgs (xs.toList.map (St.opd E s)) s.heap = s.heap := killArgs_free _ _ g0
            refine (hD f en he _ _).mono h fun v H' hK => ?_
            rw [gd_iff] at hK ⊢
            refine ⟨hK.1, ?_⟩
            have hv : Cl s.heap.length v := Cl.of ((Bool.and_eq_true _ _ ▸ hK.1 : _ ∧ _).2)
            have hK := hK.2
            rw [hka] at hK ⊢
            cases hr : v.noRS <;> rw [hr] at hK <;> exact ⟨hK, hv, hcl.heap, Nat.le_refl _⟩
        all_goals simp [heapK] at hk
      case builtin bi => cases bi <;> first | exact viaV fun _ => rfl | simp [heapK] at hk
      all_goals simp [heapK] at hk
    all_goals exact viaV fun _ => rfl
theorem evOne_cl (hC : Closed E) (hD : DetFn E) {ops : List Oper} {o : Oper} {s : St} {K : St → Prop} (hk : heapK E o.op ≠ 2) (hcl : ClS s) (h : evOne E ops o s K) : evOne E ops o s fun s' => K s' ∧ ClS s' := by
  rw [evOne_iff] at h ⊢
  cases hg : gval ops o s with
  | none => rw [hg] at h; exact h
  | some b =>
    rw [hg] at h
    cases b with
    | true => exact (det_evOp hD).mono (evOp_cl hC hD hk hcl h) fun v H hK => ⟨hK.1, hcl.put _ hK.2.2.2 hK.2.1 hK.2.2.1⟩
    | false => exact ⟨h, hcl.put _ (Nat.le_refl _) (fun _ _ => rfl) hcl.heap⟩
structure Pass (E : Env) (ops : List Oper) (K : St → Prop) (o : Oper) (r l1 : List Oper) (p : Oper) (l2 : List Oper) : Prop where
  ind : indepD ops p o = true
  how : heapOk (heapK E p.op) (heapK E o.op) = true ∨ (both3 E p.op o.op = true ∧ ∀ q ∈ l1, heapK E q.op ≠ 2) ∨
    ∃ x y, dynP E p.op o.op = some (x, y) ∧ (∀ q ∈ p :: o :: (l2 ++ r), noMem q.dst (tmpsOf [x]) = true) ∧ (∀ q ∈ o :: (l2 ++ r), noMem q.dst (tmpsOf [y]) = true) ∧ ∀ s, K s → apartV (St.opd E s x) (St.opd E s y) = true
theorem dynP_mem {p o : Op} {x y : Operand} (h : dynP E p o = some (x, y)) : y ∈ o.operands.toList := by
  unfold dynP at h
  split at h
  · rename_i a q h1 h2
    simp only [Option.some.injEq, Prod.mk.injEq] at h
    obtain ⟨rfl, rfl⟩ := h
    exact readPtr_mem h2
  · split at h
    · rename_i a q h1 h2
      simp only [Option.some.injEq, Prod.mk.injEq] at h
      obtain ⟨rfl, rfl⟩ := h
      exact storePtr_mem h2
    · cases h
theorem evOps_front (hC : Closed E) (hD : DetFn E) {ops : List Oper} {o : Oper} {r : List Oper} {K : St → Prop} {n : Nat} : ∀ (l : List Oper) (s : St), n ≤ s.heap.length →
    (∀ l1 p l2, l = l1 ++ p :: l2 → Pass E ops K o r l1 p l2) → ((∃ l1 p l2, l = l1 ++ p :: l2 ∧ both3 E p.op o.op = true ∧ ∀ q ∈ l1, heapK E q.op ≠ 2) → ClS s) →
    evOps E ops (l ++ o :: r) s K → evOne E ops o s fun s' => evOps E ops (l ++ r) s' (KQ n K)
  | [], s, _, _, _, h => (det_evOne hD).mono h fun s1 h1 => (det_evOps hD r s1).mono h1 fun _ h2 => KQ.of h2
  | p :: l, s, hn, hp, hcl, h => by
    have h1 : evOne E ops p s fun s1 => evOps E ops (l ++ o :: r) s1 K := h
    have hp' : ∀ l1 q l2, l = l1 ++ q :: l2 → Pass E ops K o r l1 q l2 := by
      intro l1 q l2 he
      obtain ⟨g1, g2⟩ := hp (p :: l1) q l2 (by rw [he]; rfl)
      exact ⟨g1, g2.imp _root_.id (Or.imp (fun g => ⟨g.1, fun z hz => g.2 z (List.mem_cons_of_mem _ hz)⟩) _root_.id)⟩
    have h2 : evOne E ops p s fun s1 => evOne E ops o s1 fun s2 => evOps E ops (l ++ r) s2 (KQ n K) := by
      by_cases hx : ∃ l1 q l2, l = l1 ++ q :: l2 ∧ both3 E q.op o.op = true ∧ ¬ heapOk (heapK E q.op) (heapK E o.op) = true ∧ ¬ ∃ x y, dynP E q.op o.op = some (x, y)
      · obtain ⟨l1, q, l2, he, hq3, hnh, hnd⟩ := hx
        have hq := hp (p :: l1) q l2 (by rw [he]; rfl)
        have hquiet : ∀ z ∈ p :: l1, heapK E z.op ≠ 2 := by
          rcases hq.how with g | g | ⟨x, y, g, _⟩
          · exact absurd g hnh
          · exact g.2
          · exact absurd ⟨x, y, g⟩ hnd
        have hs := hcl ⟨p :: l1, q, l2, by rw [he]; rfl, hq3, hquiet⟩
        have h3 := evOne_cl hC hD (hquiet p List.mem_cons_self) hs h1
        refine (det_evOne hD).mono (evOne_len hC hD h3) ?_
        rintro s1 ⟨⟨h4, h5⟩, h6⟩
        exact evOps_front hC hD l s1 (Nat.le_trans hn h6) hp' (fun _ => h5) h4
      · refine (det_evOne hD).mono (evOne_len hC hD h1) ?_
        rintro s1 ⟨h4, h6⟩
        refine evOps_front hC hD l s1 (Nat.le_trans hn h6) hp' ?_ h4
        rintro ⟨l1, q, l2, he, hq3, hqu⟩
        exfalso
        refine hx ⟨l1, q, l2, he, hq3, ?_, ?_⟩
        · rcases both3_spec hq3 with ⟨a1 | a1, a2 | a2⟩ | ⟨a1, a2, _⟩ <;> rw [a1, a2] <;> decide
        · rintro ⟨x, y, hd⟩
          unfold dynP at hd
          have hns : ∀ {z : Op} {a : Operand}, storePtr E z = some a → heapK E z = 2 := storePtr_kind
          have hq4 := both3_spec hq3
          split at hd
          · rename_i a b g1 g2
            have := hns g1; omega
          · split at hd
            · rename_i a b g1 g2
              have := hns g2; omega
            · cases hd
    have hpp := hp [] p l rfl
    rcases hpp.how with g | ⟨g0, g3⟩ | ⟨x, y, g1, g2, g3, g4⟩
    · exact evOne_swap hD hpp.ind g h2
    · have hs := hcl ⟨[], p, l, rfl, g0, g3⟩
      rcases both3_spec g0 with ⟨g1, g2⟩ | ⟨g1, g2, x, hx⟩
      case inr => exact evOne_swap41 hC hD hpp.ind g1 hx hs h2
      have h3 := evOne_swap33 hC hD hpp.ind g1 g2 hs hn h2
      refine (det_evOne hD).mono h3 fun s2 h4 => ?_
      show evOne E ops p s2 fun s3 => evOps E ops (l ++ r) s3 (KQ n K)
      refine (det_evOne hD).mono h4 fun s3 h5 => ?_
      exact (det_evOps hD _ s3).mono (KQ.ops hC hD h5) fun _ h6 => KQ.flat h6
    · have hy := dynP_mem g1
      have ha : apartV (St.opd E s x) (St.opd E s y) = true := by
        have h3 : evOps E ops (p :: o :: (l ++ r)) s (KQ n K) := h2
        obtain ⟨s', ⟨⟨f, s0, hf, hst, hK⟩, hkeep⟩, _⟩ := det_evOps hD _ s _ (evOps_keep hD _ h3)
        have h4 := g4 s0 hK
        rw [← apartV_ren hf.inj, ← opd_eqv hC hst, ← opd_eqv hC hst] at h4
        have ex : St.opd E s' x = St.opd E s x := opd_keep fun t ht => hkeep t fun q hq => by
          subst ht; exact noMem_one (g2 q hq)
        have ey : St.opd E s' y = St.opd E s y := opd_keep fun t ht => hkeep t fun q hq => by
          subst ht
          rcases List.mem_cons.1 hq with rfl | hq
          · have hi := hpp.ind
            simp only [indepD, Bool.and_eq_true] at hi
            have hi := hi.1.1
            intro e
            rw [e] at hi
            simp only [noMem, Bool.not_eq_true', ← Bool.not_eq_true, memN_iff] at hi
            exact hi (tmpsOf_mem t _ hy)
          · exact noMem_one (g3 q hq)
        rw [ex, ey] at h4
        exact h4
      exact evOne_swap_dyn hD hpp.ind g1 ha h2
def restOf (n : Nat) (listed : Array Bool) : List Nat := (List.range n).filter fun i => !listed.getD i true
theorem mem_restOf {n : Nat} {listed : Array Bool} {i : Nat} : i ∈ restOf n listed ↔ i < n ∧ listed.getD i true = false := by
  simp [restOf, List.mem_filter]
theorem restOf_sorted (n : Nat) (listed : Array Bool) : (restOf n listed).Pairwise (· < ·) := by
  unfold restOf
  exact List.Pairwise.filter _ List.pairwise_lt_range
theorem restOf_set {n : Nat} {listed : Array Bool} {i : Nat} {l r : List Nat} (hsz : listed.size = n) (h : restOf n listed = l ++ i :: r) : restOf n (listed.setIfInBounds i true) = l ++ r := by
  have hs := restOf_sorted n listed
  have hi : i < n := (mem_restOf.1 (by rw [h]; simp)).1
  have e1 : restOf n (listed.setIfInBounds i true) = (restOf n listed).filter fun j => !Nat.beq j i := by
    unfold restOf
    rw [List.filter_filter]
    refine List.filter_congr fun j hj => ?_
    by_cases hji : j = i
    · subst hji
      simp [Array.getD_eq_getD_getElem?, hsz, hi]
    · have : (listed.setIfInBounds i true).getD j true = listed.getD j true := by
        simp only [Array.getD_eq_getD_getElem?]
        rw [Array.getElem?_setIfInBounds_ne (fun e => hji e.symm)]
      rw [this]
      have : Nat.beq j i = false := by
        cases hb : Nat.beq j i with
        | false => rfl
        | true => exact absurd (Nat.eq_of_beq_eq_true hb) hji
      simp [this]
  rw [e1, h, List.filter_append, List.filter_cons]
  rw [h] at hs
  rw [List.pairwise_append] at hs
  obtain ⟨hs1, hs2, hs3⟩ := hs
  rw [List.pairwise_cons] at hs2
  have f1 : l.filter (fun j => !Nat.beq j i) = l := by
    refine List.filter_eq_self.2 fun j hj => ?_
    have := hs3 j hj i List.mem_cons_self
    cases hb : Nat.beq j i with
    | false => rfl
    | true => have := Nat.eq_of_beq_eq_true hb; omega
  have f2 : r.filter (fun j => !Nat.beq j i) = r := by
    refine List.filter_eq_self.2 fun j hj => ?_
    have := hs2.1 j hj
    cases hb : Nat.beq j i with
    | false => rfl
    | true => have := Nat.eq_of_beq_eq_true hb; omega
  have f3 : Nat.beq i i = true := Nat.beq_refl i
  rw [f1, f2, f3]
  simp
end swap
section sound
variable {P : Program} {E : Env}
mutual
theorem Rel.unren {ρ ρ' : Ren} {w : World} {f : Nat → Nat} (hb : ∀ b : Nat, ρ.bs[b]? = ρ'.bs[f b]?) (hm : ∀ b, b ∈ ρ.mbs → b ∈ ρ'.mbs) : ∀ (v : EV) (x : Value), Rel ρ' w (v.ren f) x → Rel ρ w v x
  | .undef, _, hr => hr.elim
  | .bool _, _, hr => hr
  | .int _ _, _, hr => hr
  | .str _, _, hr => hr
  | .nilPtr, _, hr => hr
  | .nilSlice, _, hr => hr
  | .nilFunc, _, hr => hr
  | .arr _ _ _, _, hr => hr
  | .nilIface, _, hr => hr
  | .rsT _ _ _, _, hr => rsT_mono (fun b h1 h2 => ⟨h1, fun hb => h2 (hm b hb), fun _ => rfl⟩) hr
  | .arrT _ _ _, _, hr => arrT_mono (.inr fun b h1 h2 => ⟨h1, fun hb => h2 (hm b hb), fun _ => rfl⟩) hr
  | .ptr b p, x, hr => by
    simp only [EV.ren, Rel, ← hb] at hr ⊢; exact hr
  | .slice b off len cap e, x, hr => by
    simp only [EV.ren, Rel, ← hb] at hr ⊢; exact hr
  | .rref v, x, hr => by
    simp only [EV.ren, Rel] at hr ⊢
    obtain ⟨b, o, y, h1, h2, h3, h4, h5⟩ := hr
    exact ⟨b, o, y, h1, Rel.unren hb hm v y h2, h3, fun h => h4 (hm b h), h5⟩
  | .rsI k n g, x, hr => by
    simp only [EV.ren, Rel] at hr ⊢
    obtain ⟨a, c, h1, h2, h3⟩ := hr
    refine ⟨a, c, h1, h2, h3.imp _root_.id ?_⟩
    rintro ⟨b, o, h4, h5, h6, h7⟩
    exact ⟨b, o, h4, h5, fun h => h6 (hm b h), h7⟩
  | .func g cap, x, hr => by
    simp only [EV.ren, Rel] at hr ⊢
    obtain ⟨vs, h1, h2⟩ := hr
    exact ⟨vs, h1, RelL.unren hb hm cap _ h2⟩
  | .bnd g cap, x, hr => by
    simp only [EV.ren, Rel] at hr ⊢
    obtain ⟨vs, h1, h2⟩ := hr
    exact ⟨vs, h1, RelL.unren hb hm cap _ h2⟩
  | .agg l, x, hr => by
    simp only [EV.ren, Rel] at hr ⊢
    obtain ⟨vs, h1, h2⟩ := hr
    exact ⟨vs, h1, RelF.unren hb hm l _ h2⟩
  | .tuple l, x, hr => by
    simp only [EV.ren, Rel] at hr ⊢
    obtain ⟨vs, h1, h2⟩ := hr
    exact ⟨vs, h1, RelL.unren hb hm l _ h2⟩
  | .iface t v, x, hr => by
    simp only [EV.ren, Rel] at hr ⊢
    obtain ⟨y, h1, h2⟩ := hr
    exact ⟨y, h1, Rel.unren hb hm v y h2⟩
theorem RelL.unren {ρ ρ' : Ren} {w : World} {f : Nat → Nat} (hb : ∀ b : Nat, ρ.bs[b]? = ρ'.bs[f b]?) (hm : ∀ b, b ∈ ρ.mbs → b ∈ ρ'.mbs) : ∀ (l : List EV) (xs : List Value), RelL ρ' w (EV.renL f l) xs → RelL ρ w l xs
  | [], _, hr => hr
  | v :: l, xs, hr => by
    simp only [EV.renL, RelL] at hr ⊢
    obtain ⟨x, ys, h1, h2, h3⟩ := hr
    exact ⟨x, ys, h1, Rel.unren hb hm v x h2, RelL.unren hb hm l ys h3⟩
theorem RelF.unren {ρ ρ' : Ren} {w : World} {f : Nat → Nat} (hb : ∀ b : Nat, ρ.bs[b]? = ρ'.bs[f b]?) (hm : ∀ b, b ∈ ρ.mbs → b ∈ ρ'.mbs) : ∀ (l : List EV) (xs : List Value), RelF ρ' w (EV.renL f l) xs → RelF ρ w l xs
  | [], _, hr => hr
  | v :: l, xs, hr => by
    simp only [EV.renL, RelF] at hr ⊢
    obtain ⟨x, ys, h1, h2, h3⟩ := hr
    exact ⟨x, ys, h1, Rel.unren hb hm v x h2, RelF.unren hb hm l ys h3⟩
end
def Ren.perm (f : Nat → Nat) (ρ : Ren) : Ren := ⟨ρ.F, (List.range ρ.bs.length).map fun b => (ρ.bs[f b]?).getD none⟩
theorem perm_get {f : Nat → Nat} {ρ : Ren} {n : Nat} (hf : Shf n ρ.bs.length f) (b : Nat) : (ρ.perm f).bs[b]? = ρ.bs[f b]? := by
  simp only [Ren.perm, List.getElem?_map]
  rcases Nat.lt_or_ge b ρ.bs.length with h | h
  · rw [List.getElem?_range h]
    have := hf.lt h
    show some ((ρ.bs[f b]?).getD none) = _
    rw [List.getElem?_eq_getElem this]
    rfl
  · rw [List.getElem?_eq_none (by simpa using h), hf.high b h, List.getElem?_eq_none h]
    rfl
theorem perm_own {f : Nat → Nat} {ρ : Ren} {n : Nat} (hf : Shf n ρ.bs.length f) {m : Nat} (h : m ∈ (ρ.perm f).own) : m ∈ ρ.own := by
  obtain ⟨b, r, h1, h2⟩ := own_mem h
  rw [perm_get hf] at h1
  exact h2 ▸ mem_own h1
theorem perm_mbs {f : Nat → Nat} {ρ : Ren} {n : Nat} (hf : Shf n ρ.bs.length f) {m : Nat} (h : m ∈ (ρ.perm f).mbs) : m ∈ ρ.mbs := by
  rcases List.mem_append.1 h with h | h
  · exact List.mem_append.2 (.inl h)
  · exact own_mbs (perm_own hf h)
theorem perm_state {gl : Nat → Option EV} {ρ0 ρ : Ren} {w0 w : World} {f : Nat → Nat} {s s' : St} {a : Array Value} (hf : Shf ρ0.bs.length s.heap.length f) (hst : StR f s s') (hT : RelT gl ρ w s'.tmps a) (hS : Sim ρ s'.heap w) (hX : Ext ρ0 w0 ρ w) :
    RelT gl (ρ.perm f) w s.tmps a ∧ Sim (ρ.perm f) s.heap w ∧ Ext ρ0 w0 (ρ.perm f) w := by
  have hlen : ρ.bs.length = s.heap.length := by rw [hS.len, hst.heap.len]
  have hf' : Shf ρ0.bs.length ρ.bs.length f := by rw [hlen]; exact hf
  have hg := fun b => perm_get hf' b
  have hm : ∀ b, b ∈ (ρ.perm f).mbs → b ∈ ρ.mbs := fun b h => perm_mbs hf' h
  have un : ∀ v x, Rel ρ w (v.ren f) x → Rel (ρ.perm f) w v x := Rel.unren hg hm
  refine ⟨⟨?_, fun i v hv => ?_, hT.2.2.sub hm⟩, ⟨?_, hS.fl, ?_, ?_, ?_, ?_⟩, ⟨hX.os, hX.tape, hX.output, hX.size, hX.out, ?_, ?_, ?_, hX.row, hX.drawn⟩⟩
  · rw [← hT.1, hst.tmps, List.length_map]
  · have h1 : s'.tmps[i]? = some (v.ren f) := by rw [hst.tmps, List.getElem?_map, hv]; rfl
    rcases hT.2.1 i _ h1 with h2 | ⟨x, h2, h3⟩
    · left
      cases v <;> simp [EV.ren] at h2 ⊢
    · exact .inr ⟨x, h2, un v x h3⟩
  · simp [Ren.perm, hlen]
  · intro b r hb; rw [hg] at hb; exact hS.lt _ r hb
  · intro b r hb; rw [hg] at hb; exact hS.sep _ r hb
  · intro b c r q hb hc he
    rw [hg] at hb hc
    exact hf.inj _ _ (hS.nodup _ _ r q hb hc he)
  · intro b v hb
    obtain ⟨r, h1, h2, cs, e, fz, x, h3, h4, h5, h6, h7⟩ := hS.live (f b) (v.ren f) (hst.heap.live hb)
    exact ⟨r, by rw [hg]; exact h1, by rw [← h2, shape_ren], cs, e, fz, x, h3, h4, un v x h5, h6, h7⟩
  · intro b hb hn h; exact hX.new b hb hn (hm b h)
  · intro b hb hn h; exact hX.newOwn b hb hn (perm_own hf' h)
  · intro b r hb
    have hlt : b < ρ0.bs.length := by
      rcases Nat.lt_or_ge b ρ0.bs.length with hh | hh
      · exact hh
      · rw [List.getElem?_eq_none hh] at hb; cases hb
    rw [hg, hf.low b hlt]
    exact hX.keep b r hb
theorem Ext.len {ρ ρ' : Ren} {w w' : World} (h : Ext ρ w ρ' w') : ρ.bs.length ≤ ρ'.bs.length := by
  rcases Nat.lt_or_ge ρ'.bs.length ρ.bs.length with hh | hh
  · have h1 := List.getElem?_eq_getElem hh
    rcases h.keep _ _ h1 with h2 | h2 <;> rw [List.getElem?_eq_none (Nat.le_refl _)] at h2 <;> cases h2
  · exact hh
def wpAnyG (ops : Array Oper) (Q : Exit → Act → World → Prop) (st : Nat → (Act → World → Prop) → Act → World → Prop) : Nat → Array Bool → Act → World → Prop
  | 0, listed, a, w => Region.ready .any ops listed = [] ∧ Q .normal a w
  | fuel + 1, listed, a, w => (Region.ready .any ops listed = [] → Q .normal a w) ∧ ∀ i ∈ Region.ready .any ops listed, st i (wpAnyG ops Q st fuel (listed.setIfInBounds i true)) a w
theorem wpAnyG_eq (ops : Array Oper) (Q : Exit → Act → World → Prop) : ∀ (fuel : Nat) (listed : Array Bool) (a : Act) (w : World), wpAny P .any ops Q fuel listed a w = wpAnyG ops Q (wpOp P ops Q) fuel listed a w
  | 0, listed, a, w => rfl
  | fuel + 1, listed, a, w => by
    have ih : ∀ listed, wpAny P .any ops Q fuel listed = wpAnyG ops Q (wpOp P ops Q) fuel listed := fun listed => funext fun a => funext fun w => wpAnyG_eq ops Q fuel listed a w
    simp only [wpAny, wpAnyG, ih]
theorem wpAny_evG {st : Nat → (Act → World → Prop) → Act → World → Prop} {ops : Array Oper} {Q : Exit → Act → World → Prop} {a0 : Act} {ρ0 : Ren} {w0 : World} (hE : ∀ t ti, E.ty t = some ti → OkTI P t ti) (hFn : OkFn P E) (hD : DetFn E) (hC : Closed E) (hc : commB E ops.toList = true)
    (hstp : ∀ i o next a w, ops[i]? = some o → ((Region.wanted o (yielded ops a.tmps) = true ∧ (∀ c, o.op ≠ .defer c) ∧ o.wp P a w next Q) ∨ (Region.wanted o (yielded ops a.tmps) = false ∧ next (a.put o.dst undef) w)) → st i next a w) :
    ∀ (fuel : Nat) (listed : Array Bool) (ρ : Ren) (w : World) (s : St) (a : Act) (K : St → Prop), listed.size = ops.size → (restOf ops.size listed).length ≤ fuel →
      RelT E.gl ρ w s.tmps a.tmps → Sim ρ s.heap w → Ext ρ0 w0 ρ w → ρ.F = ρ0.F → a.defers = a0.defers → (∀ m o, ops.toList[m]? = some o → listed.getD m false = true → ∀ e ∈ o.after.toList, Region.binds .any e = true → listed.getD e.on false = true) → (∀ s, K s → chkB E ops.toList s = true) → evOps E ops.toList ((restOf ops.size listed).filterMap fun i => ops.toList[i]?) s K →
      (∀ s' ρ' w' a', K s' → RelT E.gl ρ' w' s'.tmps a'.tmps → a'.defers = a0.defers → Sim ρ' s'.heap w' → Ext ρ0 w0 ρ' w' → ρ'.F = ρ0.F → Q .normal a' w') →
      wpAnyG ops Q st fuel listed a w := by
  have hready : ∀ listed, listed.size = ops.size → Region.ready .any ops listed = [] → restOf ops.size listed = [] := by
    intro listed hsz hr
    cases hres : restOf ops.size listed with
    | nil => rfl
    | cons i r =>
      exfalso
      have hs := restOf_sorted ops.size listed
      rw [hres, List.pairwise_cons] at hs
      have hi := mem_restOf.1 (show i ∈ restOf ops.size listed by rw [hres]; simp)
      have : i ∈ Region.ready .any ops listed := by
        refine mem_ready.2 ⟨hi.2, ops[i]'hi.1, by simp [hi.1], fun e he hb => ?_⟩
        have hlt := (commB_spec hc (i := i) (o := ops[i]'hi.1) (by simp [hi.1])).1 e (by simpa using he) hb
        have hn : e.on < ops.size := Nat.lt_trans hlt hi.1
        have hnot : e.on ∉ restOf ops.size listed := by
          intro hin
          rw [hres] at hin
          rcases List.mem_cons.1 hin with h' | h'
          · omega
          · have := hs.1 _ h'; omega
        rw [mem_restOf] at hnot
        have hlt' : e.on < listed.size := by omega
        simp only [Array.getD_eq_getD_getElem?, Array.getElem?_eq_getElem hlt', Option.getD_some] at hnot ⊢
        cases hq : listed[e.on] with
        | true => rfl
        | false => exact absurd ⟨hn, hq⟩ hnot
      rw [hr] at this
      cases this
  intro fuel
  induction fuel with
  | zero =>
    intro listed ρ w s a K hsz hlen hT hS hX0 hF0 hd0 hdown hck h hn
    have hnil : restOf ops.size listed = [] := List.length_eq_zero_iff.1 (by omega)
    rw [hnil] at h
    refine ⟨?_, hn s ρ w a h hT hd0 hS hX0 hF0⟩
    cases hr : Region.ready .any ops listed with
    | nil => rfl
    | cons i r =>
      have h1 := mem_ready.1 (show i ∈ Region.ready .any ops listed by rw [hr]; simp)
      obtain ⟨h2, o, h3, _⟩ := h1
      have : i ∈ restOf ops.size listed := mem_restOf.2 ⟨(Array.getElem?_eq_some_iff.1 h3).1, h2⟩
      rw [hnil] at this
      cases this
  | succ fuel ih =>
    intro listed ρ w s a K hsz hlen hT hS hX0 hF0 hd0 hdown hck h hn
    refine ⟨fun hr => ?_, fun i hi => ?_⟩
    · rw [hready listed hsz hr] at h
      exact hn s ρ w a h hT hd0 hS hX0 hF0
    · obtain ⟨h0, o, ho, hall⟩ := mem_ready.1 hi
      have hin : i ∈ restOf ops.size listed := mem_restOf.2 ⟨(Array.getElem?_eq_some_iff.1 ho).1, h0⟩
      obtain ⟨l, r, hlr⟩ := List.append_of_mem hin
      have hoL : ops.toList[i]? = some o := by rw [Array.getElem?_toList]; exact ho
      have hfm : ((restOf ops.size listed).filterMap fun i => ops.toList[i]?) = (l.filterMap fun i => ops.toList[i]?) ++ o :: (r.filterMap fun i => ops.toList[i]?) := by
        rw [hlr, List.filterMap_append, List.filterMap_cons, hoL]
      rw [hfm] at h
      have hs := restOf_sorted ops.size listed
      rw [hlr, List.pairwise_append] at hs
      have hspec := commB_spec hc hoL
      have hbt : ∀ j, ((∃ e ∈ o.after.toList, Region.binds .any e = true ∧ e.on = j) ∨ bindsT ops.toList 6 j o.after.toList = true) → listed.getD j false = true := by
        rintro j (⟨e, he, hb, rfl⟩ | h1)
        · exact hall e (by simpa using he) hb
        · exact bindsT_listed hdown 6 j _ h1 fun e he hb => hall e (by simpa using he) hb
      have inDrop : ∀ (j k : Nat) (q : Oper), j ≤ k → ops.toList[k]? = some q → q ∈ ops.toList.drop j := by
        intro j k q hjk hq
        refine List.mem_of_getElem? (i := k - j) ?_
        rw [List.getElem?_drop, show j + (k - j) = k from by omega]; exact hq
      have hpass : ∀ l1 p l2, (l.filterMap fun i => ops.toList[i]?) = l1 ++ p :: l2 → Pass E ops.toList K o (r.filterMap fun i => ops.toList[i]?) l1 p l2 := by
        intro l1 p l2 he
        have hsub : ∃ la j lb, l = la ++ j :: lb ∧ ops.toList[j]? = some p ∧ (la.filterMap fun i => ops.toList[i]?) = l1 ∧ (lb.filterMap fun i => ops.toList[i]?) = l2 := by
          clear hs hlr hfm h
          induction l generalizing l1 with
          | nil => simp at he
          | cons k l ihl =>
            rw [List.filterMap_cons] at he
            cases hk : ops.toList[k]? with
            | none =>
              rw [hk] at he
              obtain ⟨la, j, lb, e1, e2, e3, e4⟩ := ihl l1 he
              exact ⟨k :: la, j, lb, by rw [e1]; rfl, e2, by rw [List.filterMap_cons, hk]; exact e3, e4⟩
            | some q =>
              rw [hk] at he
              cases l1 with
              | nil =>
                simp only [List.nil_append, List.cons.injEq] at he
                exact ⟨[], k, l, rfl, by rw [hk, he.1], rfl, he.2⟩
              | cons z l1 =>
                simp only [List.cons_append, List.cons.injEq] at he
                obtain ⟨la, j, lb, e1, e2, e3, e4⟩ := ihl l1 he.2
                exact ⟨k :: la, j, lb, by rw [e1]; rfl, e2, by rw [List.filterMap_cons, hk]; simp only; rw [e3, he.1], e4⟩
        obtain ⟨la, j, lb, e1, e2, e3, e4⟩ := hsub
        have hjl : j ∈ l := by rw [e1]; simp
        have hji : j < i := hs.2.2 j hjl i List.mem_cons_self
        have hsl := hs.1
        rw [e1, List.pairwise_append, List.pairwise_cons] at hsl
        rcases hspec.2 j p hji e2 with hb | ⟨g0, g⟩
        · exfalso
          have h1 := hbt j hb
          have h2 := (mem_restOf.1 (show j ∈ restOf ops.size listed by rw [hlr]; exact List.mem_append.2 (.inl hjl)))
          have hlt : j < listed.size := by omega
          simp only [Array.getD_eq_getD_getElem?, Array.getElem?_eq_getElem hlt, Option.getD_some] at h1 h2
          rw [h1] at h2
          exact absurd h2.2 (by simp)
        · refine ⟨g0, ?_⟩
          rcases g with g | ⟨g1, g2⟩ | g
          · exact .inl g
          · refine .inr (.inl ?_)
            refine ⟨g1, fun q hq => ?_⟩
            rw [← e3] at hq
            obtain ⟨k, hk, hqk⟩ := List.mem_filterMap.1 hq
            refine quietOps_spec g2 q ?_
            have hki : k < i := Nat.lt_trans (hsl.2.2 k hk j List.mem_cons_self) hji
            exact List.mem_of_getElem? (i := k) (by rw [List.getElem?_take_of_lt hki]; exact hqk)
          · unfold dynOk at g
            split at g
            · rename_i x y hd
              rw [Bool.and_eq_true] at g
              have afterJ : ∀ q ∈ (lb.filterMap fun i => ops.toList[i]?), ∃ k, j < k ∧ ops.toList[k]? = some q := by
                intro q hq
                obtain ⟨k, hk, hqk⟩ := List.mem_filterMap.1 hq
                exact ⟨k, hsl.2.1.1 k hk, hqk⟩
              have afterI : ∀ q ∈ (r.filterMap fun i => ops.toList[i]?), ∃ k, i < k ∧ ops.toList[k]? = some q := by
                intro q hq
                obtain ⟨k, hk, hqk⟩ := List.mem_filterMap.1 hq
                have h2 := hs.2.1
                rw [List.pairwise_cons] at h2
                exact ⟨k, h2.1 k hk, hqk⟩
              by_cases hok : heapOk (heapK E p.op) (heapK E o.op) = true
              · exact .inl hok
              refine .inr (.inr ⟨x, y, hd, ?_, ?_, ?_⟩)
              · intro q hq
                rw [← e4] at hq
                rcases List.mem_cons.1 hq with rfl | hq
                · exact noDst_spec g.1 q (inDrop j j q (Nat.le_refl _) e2)
                · rcases List.mem_cons.1 hq with rfl | hq
                  · exact noDst_spec g.1 q (inDrop j i q (Nat.le_of_lt hji) hoL)
                  · rcases List.mem_append.1 hq with hq | hq
                    · obtain ⟨k, hk, hqk⟩ := afterJ q hq
                      exact noDst_spec g.1 q (inDrop j k q (Nat.le_of_lt hk) hqk)
                    · obtain ⟨k, hk, hqk⟩ := afterI q hq
                      exact noDst_spec g.1 q (inDrop j k q (by omega) hqk)
              · intro q hq
                rw [← e4] at hq
                rcases List.mem_cons.1 hq with rfl | hq
                · exact noDst_spec g.2 q (inDrop i i q (Nat.le_refl _) hoL)
                · rcases List.mem_append.1 hq with hq | hq
                  · -- between the two: it does not touch
                    obtain ⟨k, hk, hqk⟩ := List.mem_filterMap.1 hq
                    have hkl : k ∈ l := by rw [e1]; simp [hk]
                    have hki : k < i := hs.2.2 k hkl i List.mem_cons_self
                    rcases hspec.2 k q hki hqk with hb | ⟨g5, _⟩
                    · exfalso
                      have h1 := hbt k hb
                      have h2 := (mem_restOf.1 (show k ∈ restOf ops.size listed by rw [hlr]; exact List.mem_append.2 (.inl hkl)))
                      have hlt : k < listed.size := by omega
                      simp only [Array.getD_eq_getD_getElem?, Array.getElem?_eq_getElem hlt, Option.getD_some] at h1 h2
                      rw [h1] at h2
                      exact absurd h2.2 (by simp)
                    · simp only [indepD, Bool.and_eq_true] at g5
                      have g6 := g5.1.1
                      have hy := dynP_mem hd
                      cases y
                      case tmp t =>
                        have ht := tmpsOf_mem t _ hy
                        cases hqd : q.dst with
                        | none => rfl
                        | some d =>
                          rw [hqd] at g6
                          simp only [noMem, Bool.not_eq_true', ← Bool.not_eq_true, memN_iff] at g6 ⊢
                          intro hd'
                          simp only [tmpsOf, List.mem_singleton] at hd'
                          exact g6 (hd' ▸ ht)
                      all_goals (cases q.dst <;> rfl)
                  · obtain ⟨k, hk, hqk⟩ := afterI q hq
                    exact noDst_spec g.2 q (inDrop i k q (Nat.le_of_lt hk) hqk)
              · intro s1 hK1
                have hc1 := hck s1 hK1
                have h1 := chkFrom_spec ops.toList 0 hc1 i o hoL
                rw [Nat.zero_add] at h1
                rcases chkAll_spec _ 0 h1 j p (by rw [List.getElem?_take_of_lt hji]; exact e2) with h2 | h2 | h2 | h2
                · exfalso
                  rw [Nat.zero_add] at h2
                  obtain ⟨e, he, hb, hon⟩ := bindsOn_iff h2
                  have h1 := hall e (by simpa using he) hb
                  have h2 := (mem_restOf.1 (show j ∈ restOf ops.size listed by rw [hlr]; exact List.mem_append.2 (.inl hjl)))
                  have hlt : j < listed.size := by omega
                  rw [hon] at h1
                  simp only [Array.getD_eq_getD_getElem?, Array.getElem?_eq_getElem hlt, Option.getD_some] at h1 h2
                  rw [h1] at h2
                  exact absurd h2.2 (by simp)
                · exact absurd h2 hok
                · exfalso
                  have k1 := both3_spec h2
                  have hns : ∀ {z : Op} {a : Operand}, storePtr E z = some a → heapK E z = 2 := storePtr_kind
                  unfold dynP at hd
                  split at hd
                  · rename_i a b g1 g2
                    have := hns g1; omega
                  · split at hd
                    · rename_i a b g1 g2
                      have := hns g2; omega
                    · cases hd
                · exact h2 x y hd
            · cases g
      have hn0 : ρ0.bs.length ≤ s.heap.length := by rw [← hS.len]; exact hX0.len
      refine hstp _ _ _ _ _ ho (evOne_gen hE hFn ho hT hS (evOps_front hC hD _ s hn0 hpass (fun _ => ClS.of hT hS) h) ?_)
      intro s' ρ' w' a' hK hT' hDf hS' hX hF
      have hrest := restOf_set hsz hlr
      refine ih (listed.setIfInBounds i true) ρ' w' s' a' (KQ ρ0.bs.length K) (by simp [hsz]) ?_ hT' hS' (hX0.trans hX) (hF.trans hF0) (hDf.trans hd0) ?_ ?_ ?_ ?_
      · rw [hrest]
        rw [hlr] at hlen
        simp at hlen ⊢
        omega
      · have hi2 : i < listed.size := by have := (Array.getElem?_eq_some_iff.1 ho).1; omega
        have hup : ∀ m, listed.getD m false = true → (listed.setIfInBounds i true).getD m false = true := by
          intro m hm
          simp only [Array.getD_eq_getD_getElem?, Array.getElem?_setIfInBounds] at hm ⊢
          by_cases hq : i = m
          · rw [if_pos hq, if_pos hi2]; rfl
          · rw [if_neg hq]; exact hm
        intro m o' hm hl e he hb
        by_cases hq : i = m
        · subst hq
          rw [hoL] at hm
          obtain rfl := Option.some.inj hm
          exact hup _ (hall e (by simpa using he) hb)
        · refine hup _ (hdown m o' hm ?_ e he hb)
          simpa only [Array.getD_eq_getD_getElem?, Array.getElem?_setIfInBounds, if_neg hq] using hl
      · rintro s1 ⟨f, s2, hf, hst, hK2⟩
        rw [chkB_ren hC hf.inj hst]
        exact hck s2 hK2
      · rw [hrest, List.filterMap_append]; exact hK
      · rintro s'' ρ'' w'' a'' ⟨f, s2, hf, hst, hK2⟩ hT'' hD' hS'' hX' hF'
        obtain ⟨q1, q2, q3⟩ := perm_state hf hst hT'' hS'' hX'
        exact hn s2 _ w'' a'' hK2 q1 hD' q2 q3 hF'
theorem evDraw_any {st : Nat → (Act → World → Prop) → Act → World → Prop} {ops : Array Oper} {Q : Exit → Act → World → Prop} (hE : ∀ t ti, E.ty t = some ti → OkTI P t ti) (hFn : OkFn P E) (hD : DetFn E) (hC : Closed E) 
    (hstp : ∀ i o next a w, ops[i]? = some o → ((Region.wanted o (yielded ops a.tmps) = true ∧ (∀ c, o.op ≠ .defer c) ∧ o.wp P a w next Q) ∨ (Region.wanted o (yielded ops a.tmps) = false ∧ next (a.put o.dst undef) w)) → st i next a w)
    (ρ : Ren) (w : World) (s : St) (a : Act) (K : St → Prop) (hT : RelT E.gl ρ w s.tmps a.tmps) (hS : Sim ρ s.heap w) (h : evDraw E ops.toList s K)
    (hn : ∀ s' ρ' w' a', K s' → RelT E.gl ρ' w' s'.tmps a'.tmps → a'.defers = a.defers → Sim ρ' s'.heap w' → Ext ρ w ρ' w' → ρ'.F = ρ.F → Q .normal a' w') :
    wpAnyG ops Q st ops.size (Array.replicate ops.size false) a { w with drawn := w.drawn + 1 } := by
  unfold evDraw at h
  rw [gd_iff] at h
  obtain ⟨hc, h⟩ := h
  have h : evOps E ops.toList ops.toList s fun s' => chkB E ops.toList s' = true ∧ K s' := by
    rw [cd_iff] at h
    cases hq : chkFrom E (fun _ _ => false) ops.toList 0 ops.toList with
    | true => exact (det_evOps hD _ s).mono (h.1 hq) fun s' hK => ⟨chkFrom_mono (fun _ _ e => by cases e) _ _ hq, hK⟩
    | false => exact (det_evOps hD _ s).mono (h.2 hq) fun s' hK => (gd_iff _ _).1 hK
  have hq : ∀ F, Ext ⟨F, []⟩ w ⟨F, []⟩ { w with drawn := w.drawn + 1 } := fun F =>
    ⟨rfl, rfl, rfl, Nat.le_refl _, fun _ _ _ => rfl, fun _ _ h => h, fun _ _ h => h, fun _ _ h => .inl h, fun _ cs e fz h => ⟨cs, e, fz, h, rfl⟩, Nat.le_succ _⟩
  have hX : Ext ρ w ρ { w with drawn := w.drawn + 1 } := (hq []).quiet
  have hall : restOf ops.size (Array.replicate ops.size false) = List.range ops.size := by
    unfold restOf
    refine List.filter_eq_self.2 fun i hi => ?_
    have : i < ops.size := List.mem_range.1 hi
    simp [Array.getD_eq_getD_getElem?, this]
  refine wpAny_evG (a0 := a) (ρ0 := ρ) (w0 := { w with drawn := w.drawn + 1 }) hE hFn hD hC hc hstp ops.size _ ρ _ s a (fun s' => chkB E ops.toList s' = true ∧ K s') (by simp) (by rw [hall]; simp) (hT.ext hX) (hS.quiet (hq [])) (Ext.refl _ _) rfl rfl ?_ (fun s h => h.1) ?_ ?_
  · intro m o hm hl
    exfalso
    rw [Array.getD_eq_getD_getElem?, Array.getElem?_replicate] at hl
    split at hl <;> simp at hl
  · rw [hall]
    have : (List.range ops.size).filterMap (fun i => ops.toList[i]?) = ops.toList := by
      apply List.ext_getElem?
      intro i
      have : ∀ (l : List Oper), (List.range l.length).filterMap (fun i => l[i]?) = l := by
        intro l
        induction l with
        | nil => rfl
        | cons x l ih =>
          rw [List.length_cons, List.range_succ_eq_map, List.filterMap_cons]
          simp only [List.getElem?_cons_zero, List.filterMap_map]
          congr 1
      have h2 := this ops.toList
      rw [Array.length_toList] at h2
      rw [h2]
    rw [this]; exact h
  · intro s' ρ' w' a' hK hT' hDf hS' hX' hF
    exact hn s' ρ' w' a' hK.2 hT' hDf hS' (hX.trans hX') hF
mutual
theorem encV_in : ∀ (v : EV) (x : Value), encV v = some x → v.inI [] = true
  | .bool _, _, _ => rfl | .int _ _, _, _ => rfl | .str _, _, _ => rfl | .nilPtr, _, _ => rfl | .nilSlice, _, _ => rfl | .nilFunc, _, _ => rfl
  | .nilIface, _, _ => rfl | .arr _ _ _, _, _ => rfl | .arrT _ _ _, _, _ => rfl
  | .rsT _ _ _, _, h => by simp [encV] at h
  | .agg l, x, h => by
    simp only [encV] at h
    cases hq : encF l with
    | none => rw [hq] at h; cases h
    | some cs => simp only [EV.inI]; exact encF_in l cs hq
  | .undef, _, h => by simp [encV] at h
  | .ptr _ _, _, h => by simp [encV] at h
  | .rref _, _, h => by simp [encV] at h
  | .slice _ _ _ _ _, _, h => by simp [encV] at h
  | .rsI _ _ _, _, h => by simp [encV] at h
  | .func _ _, _, h => by simp [encV] at h
  | .bnd _ _, _, h => by simp [encV] at h
  | .tuple _, _, h => by simp [encV] at h
  | .iface _ _, _, h => by simp [encV] at h
theorem encF_in : ∀ (l : List EV) (cs : List Value), encF l = some cs → EV.inIL [] l = true
  | [], _, _ => rfl
  | v :: l, cs, h => by
    simp only [encF] at h
    cases hv : encV v with
    | none => rw [hv] at h; cases h
    | some x =>
      cases hl : encF l with
      | none => rw [hv, hl] at h; cases h
      | some ys => simp only [EV.inIL, encV_in v x hv, encF_in l ys hl, Bool.and_self]
end
theorem closed_of {ρ : Ren} {w : World} (hE : ∀ t ti, E.ty t = some ti → OkTI P t ti) (hG : GOk E.gl ρ w) : Closed E :=
  ⟨fun t ti h => by
    obtain ⟨d, it, z, h1, h2, h3, h4, h5, h6, h7⟩ := hE t ti h
    exact encV_in ti.zero z h7, fun g v h => (hG g v h).1⟩
theorem det_evDraw (hD : DetFn E) {ops : List Oper} {s : St} : Det (evDraw E ops s) := by
  unfold evDraw
  exact det_gd (det_cond (det_evOps hD _ _) (det_bind (U := fun s' K => gd (chkB E ops s') (K s')) (det_evOps hD _ _) fun s' => det_gd (det_pure s')))
theorem evDraw_sound {ops : Array Oper} {Q : Exit → Act → World → Prop} (hE : ∀ t ti, E.ty t = some ti → OkTI P t ti) (hFn : OkFn P E) (hD : DetFn E) (hC : Closed E) (hm : P.follows .mixedOrders = true)
    (id : Nat) (ρ : Ren) (w : World) (s : St) (a : Act) (K : St → Prop) (hT : RelT E.gl ρ w s.tmps a.tmps) (hS : Sim ρ s.heap w) (h : evDraw E ops.toList s K)
    (hn : ∀ s' ρ' w' a', K s' → RelT E.gl ρ' w' s'.tmps a'.tmps → a'.defers = a.defers → Sim ρ' s'.heap w' → Ext ρ w ρ' w' → ρ'.F = ρ.F → Q .normal a' w') :
    (Code.region id ops true).wp P Q a w := by
  refine wp_region_any hm ?_
  rw [wpAnyG_eq]
  refine evDraw_any hE hFn hD hC (fun i o next a w ho h => ?_) ρ w s a K hT hS h hn
  unfold wpOp
  simp only [ho]
  rcases h with ⟨h1, _, h2⟩ | ⟨h1, h2⟩
  · rw [if_pos h1]; exact .inl h2
  · rw [if_neg (by rw [h1]; exact Bool.false_ne_true)]; exact h2
end sound
end Go.Ev

/- The evaluator: code and functions. -/
set_option linter.unusedVariables false
set_option linter.unusedSimpArgs false
namespace Go.Ev
open Go
def Ex.out : Ex → Exit
  | .normal => .normal
  | .exit id => .exit id
  | .ret => .ret
def firstRegion : Code → Nat
  | .region id _ _ => id
  | .seq a _ => firstRegion a
  | .block _ c => firstRegion c
  | .loop c => firstRegion c
  | .scope c => firstRegion c
  | _ => 0
def cleanL (keep : Nat) : Nat → List EV → List EV
  | _, [] => []
  | i, v :: l => cond (Nat.testBit keep i) v .undef :: cleanL keep (i + 1) l
def pickM (keep : Nat) : Nat → List EV → List EV
  | _, [] => []
  | i, v :: l => cond (Nat.testBit keep i) (v :: pickM keep (i + 1) l) (pickM keep (i + 1) l)
def expandM (keep : Nat) : Nat → Nat → List EV → List EV
  | 0, _, _ => []
  | N + 1, i, vs => cond (Nat.testBit keep i) (match vs with
    | v :: vs => v :: expandM keep N (i + 1) vs
    | [] => .undef :: expandM keep N (i + 1) []) (.undef :: expandM keep N (i + 1) vs)
theorem expand_pick (keep : Nat) : ∀ (l : List EV) (i : Nat), expandM keep l.length i (pickM keep i l) = cleanL keep i l
  | [], _ => rfl
  | v :: l, i => by
    simp only [List.length_cons, expandM, pickM, cleanL]
    cases Nat.testBit keep i with
    | true => simp only [cond_true, expand_pick keep l (i + 1)]
    | false => simp only [cond_false, expand_pick keep l (i + 1)]
def goK (idx : List Nat) (vs : List EV) (H : Heap) (K : List EV → Heap → Prop) : Prop :=
  gd (EV.inIL idx vs && inIH idx H idx) (K (EV.renL (pos idx) vs) (subH H idx))
def outK0 (keep nl N : Nat) (s : St) (K : List EV → Heap → Prop) : Prop :=
  gd (Nat.beq s.tmps.length N) (goK (canI nl (pickM keep 0 s.tmps) s.heap) (pickM keep 0 s.tmps) s.heap K)
def EV.fgt : EV → EV
  | .slice b o l _ e => .slice b o l none e
  | .undef => .undef | .bool b => .bool b | .int k n => .int k n | .str s => .str s | .nilPtr => .nilPtr | .ptr b p => .ptr b p | .rref v => .rref v
  | .nilSlice => .nilSlice | .rsI k n g => .rsI k n g | .nilFunc => .nilFunc | .func f l => .func f l | .bnd f l => .bnd f l | .agg l => .agg l | .arr k n g => .arr k n g
  | .tuple l => .tuple l | .nilIface => .nilIface | .iface t v => .iface t v | .rsT n s g => .rsT n s g | .arrT n s g => .arrT n s g
def St.fgt (s : St) : Bool → St
  | false => s
  | true => { tmps := s.tmps.map EV.fgt, heap := s.heap }
def outK (fg : Bool) (keep nl N : Nat) (s : St) (K : List EV → Heap → Prop) : Prop := outK0 keep nl N (s.fgt fg) K
def lookL : List (Nat × Nat) → Nat → Nat
  | [], _ => 0
  | (i, m) :: l, j => cond (Nat.beq i j) m (lookL l j)
def bitOf : Operand → Nat
  | .tmp t => Nat.shiftLeft 1 t
  | _ => 0
def bitsOf : List Operand → Nat
  | [] => 0
  | x :: l => Nat.lor (bitOf x) (bitsOf l)
def dropBit (m : Nat) : Option Nat → Nat
  | some d => cond (Nat.testBit m d) (Nat.sub m (Nat.shiftLeft 1 d)) m
  | none => m
def usesOf : Op → Nat
  | .build _ ps => bitsOf (ps.toList.map (·.2))
  | .buildSlice _ _ ps => bitsOf (ps.toList.map (·.2))
  | o => bitsOf o.operands.toList
def liveOps (ops : List Oper) : List Oper → Nat → Nat
  | [], m => m
  | o :: r, m => Nat.lor (dropBit (liveOps ops r m) o.dst) (Nat.lor (usesOf o.op) (match o.guard with
    | some (j, _) => match ops[j]? with
      | some oj => match oj.dst with
        | some d => Nat.shiftLeft 1 d
        | none => 0
      | none => 0
    | none => 0))
def live : Code → LV → Nat
  | .skip, lv => lv.nx
  | .region _ ops _, lv => liveOps ops.toList ops.toList lv.nx
  | .seq a b, lv => live a { lv with nx := live b lv }
  | .cond c a b, lv => Nat.lor (bitOf c) (Nat.lor (live a lv) (live b lv))
  | .block id c, lv => live c { lv with ex := (id, lv.nx) :: lv.ex }
  | .loop c, lv => Nat.lor (live c { lv with nx := 0 }) (live c { lv with nx := live c { lv with nx := 0 } })
  | .exit id, lv => lookL lv.ex id
  | .ret, lv => lv.rt
  | .scope c, lv => live c lv
  | _, lv => lv.nx
def maskOf (lv : LV) : Ex → Nat
  | .normal => 0
  | .exit id => lookL lv.ex id
  | .ret => lv.rt
def beqEx : List (Nat × Nat) → List (Nat × Nat) → Bool
  | [], [] => true
  | (a, b) :: l, (c, d) :: r => Nat.beq a c && (Nat.beq b d && beqEx l r)
  | _, _ => false
def LV.beq (a b : LV) : Bool := Nat.beq a.nx b.nx && (Nat.beq a.rt b.rt && (Nat.beq a.nl b.nl && (beqEx a.ex b.ex && beqB a.fg b.fg)))
theorem beqEx_eq : ∀ (l r : List (Nat × Nat)), beqEx l r = true → l = r
  | [], [], _ => rfl
  | (a, b) :: l, (c, d) :: r, h => by
    simp only [beqEx, Bool.and_eq_true] at h
    rw [Nat.eq_of_beq_eq_true h.1, Nat.eq_of_beq_eq_true h.2.1, beqEx_eq l r h.2.2]
  | [], _ :: _, h => by simp [beqEx] at h
  | _ :: _, [], h => by simp [beqEx] at h
theorem beqB_eq' {a b : Bool} (h : beqB a b = true) : a = b := by cases a <;> cases b <;> first | rfl | cases h
theorem LV.eq_of_beq {a b : LV} (h : a.beq b = true) : a = b := by
  simp only [LV.beq, Bool.and_eq_true] at h
  cases a; cases b
  simp only at h
  rw [Nat.eq_of_beq_eq_true h.1, Nat.eq_of_beq_eq_true h.2.1, Nat.eq_of_beq_eq_true h.2.2.1, beqEx_eq _ _ h.2.2.2.1, beqB_eq' h.2.2.2.2]
def loopStep (step : St → (Ex → St → Prop) → Prop) (head : Nat) (lv : LV) (m N : Nat) (R : List EV → Heap → Prop) (vs : List EV) (H : Heap) (K : Ex → List EV → Heap → Prop) : Prop :=
  step { tmps := expandM head N 0 vs, heap := H } fun ex s' => match ex with
    | .normal => outK lv.fg head m N s' R
    | .exit id => outK lv.fg (lookL lv.ex id) m N s' (K (.exit id))
    | .ret => outK lv.fg lv.rt m N s' (K .ret)
def loopV (step : St → (Ex → St → Prop) → Prop) (head : Nat) (lv : LV) (m N : Nat) (K : Ex → List EV → Heap → Prop) : Nat → List EV → Heap → Prop
  | 0, _, _ => False
  | n + 1, vs, H => loopStep step head lv m N (loopV step head lv m N K n) vs H K
def loopU (step : St → (Ex → St → Prop) → Prop) (head : Nat) (lv : LV) (m N : Nat) (K : Ex → List EV → Heap → Prop) : Nat → List EV → Heap → Prop
  | 0, _, _ => False
  | n + 1, vs, H => loopStep step head lv m N (loopU step head lv m N K n) vs H K
theorem loopU_eq (step : St → (Ex → St → Prop) → Prop) (head : Nat) (lv : LV) (m N : Nat) (K : Ex → List EV → Heap → Prop) : ∀ n, loopU step head lv m N K n = loopV step head lv m N K n
  | 0 => by funext vs H; rfl
  | n + 1 => by funext vs H; simp only [loopU, loopV, loopU_eq step head lv m N K n]
def evCode (E : Env) : Code → LV → St → (Ex → St → Prop) → Prop
  | .skip, _, s, K => K .normal s
  | .region _ ops draw, _, s, K => cond draw (evDraw E ops.toList s (K .normal)) (evOps E ops.toList ops.toList s (K .normal))
  | .seq a b, lv, s, K => evCode E a { lv with nx := live b lv } s fun ex s' => match ex with
    | .normal => evCode E b lv s' K
    | .exit id => K (.exit id) s'
    | .ret => K .ret s'
  | .cond c a b, lv, s, K => match (St.opd E s) c with
    | .bool t => br t (evCode E a lv s K) (evCode E b lv s K)
    | _ => False
  | .block id c, lv, s, K => evCode E c { lv with ex := (id, lv.nx) :: lv.ex } s fun ex s' => match ex with
    | .normal => K .normal s'
    | .exit id' => cond (Nat.beq id' id) (K .normal s') (K (.exit id') s')
    | .ret => K .ret s'
  | .loop c, lv, s, K => outK lv.fg (live (.loop c) lv) lv.nl s.tmps.length s fun vs H => match E.un (firstRegion c) with
    | 0 => match E.lp (firstRegion c) with
      | some L => gd (lv.beq L.lv && (Nat.beq lv.nl L.m && Nat.beq s.tmps.length L.N)) (L.spec vs H fun ex vs H => K ex { tmps := expandM (maskOf lv ex) s.tmps.length 0 vs, heap := H })
      | none => ∃ n, loopV (evCode E c { lv with nx := live (.loop c) lv }) (live (.loop c) lv) lv lv.nl s.tmps.length (fun ex vs H => K ex { tmps := expandM (maskOf lv ex) s.tmps.length 0 vs, heap := H }) n vs H
    | n + 1 => loopU (evCode E c { lv with nx := live (.loop c) lv }) (live (.loop c) lv) lv lv.nl s.tmps.length (fun ex vs H => K ex { tmps := expandM (maskOf lv ex) s.tmps.length 0 vs, heap := H }) (n + 1) vs H
  | .exit id, _, s, K => K (.exit id) s
  | .ret, _, s, K => K .ret s
  | .scope c, lv, s, K => evCode E c lv s K
  | _, _, _, _ => False
def LoopOK (E : Env) (c : Code) : Prop :=
  ∀ L, E.lp (firstRegion c) = some L → ∀ vs H K, L.spec vs H K → ∃ n, loopV (evCode E c { L.lv with nx := live (.loop c) L.lv }) (live (.loop c) L.lv) L.lv L.m L.N K n vs H
def loopsOf : Code → List Code
  | .seq a b => loopsOf a ++ loopsOf b
  | .cond _ a b => loopsOf a ++ loopsOf b
  | .block _ c => loopsOf c
  | .loop c => c :: loopsOf c
  | .scope c => loopsOf c
  | _ => []
section sound
variable {P : Program} {E : Env}
theorem cleanL_get (keep : Nat) : ∀ (l : List EV) (j i : Nat) (v : EV), (cleanL keep j l)[i]? = some v → v = .undef ∨ l[i]? = some v
  | [], j, i, v, h => by simp [cleanL] at h
  | u :: l, j, 0, v, h => by
    simp only [cleanL, List.getElem?_cons_zero, Option.some.injEq] at h
    cases hm : Nat.testBit keep j with
    | true => right; simp [hm] at h; simp [h]
    | false => left; simp [hm] at h; exact h.symm
  | u :: l, j, i + 1, v, h => by
    simp only [cleanL, List.getElem?_cons_succ] at h ⊢
    exact cleanL_get keep l (j + 1) i v h
theorem cleanL_length (keep : Nat) : ∀ (l : List EV) (j : Nat), (cleanL keep j l).length = l.length
  | [], _ => rfl
  | _ :: l, j => by simp [cleanL, cleanL_length keep l (j + 1)]
theorem mem_of_clean {keep : Nat} {v : EV} (hu : v ≠ .undef) : ∀ (l : List EV) (j i : Nat), (cleanL keep j l)[i]? = some v → v ∈ pickM keep j l := by
  intro l
  induction l with
  | nil => intro j i h; simp [cleanL] at h
  | cons u l ih =>
    intro j i h
    simp only [cleanL, pickM] at h ⊢
    cases i with
    | zero =>
      cases ht : Nat.testBit keep j with
      | true => simp [ht] at h; subst h; simp
      | false => simp [ht] at h; exact absurd h.symm hu
    | succ i =>
      have := ih (j + 1) i (by simpa using h)
      cases Nat.testBit keep j <;> simp [this]
theorem inIL_mem {idx : List Nat} : ∀ {l : List EV}, EV.inIL idx l = true → ∀ v ∈ l, v.inI idx = true
  | v :: l, h, u, hu => by
    simp only [EV.inIL, Bool.and_eq_true] at h
    rcases List.mem_cons.1 hu with rfl | hu
    · exact h.1
    · exact inIL_mem h.2 u hu
theorem expand_ren (keep : Nat) (f : Nat → Nat) : ∀ (N i : Nat) (vs : List EV), expandM keep N i (EV.renL f vs) = (expandM keep N i vs).map (EV.ren f)
  | 0, _, _ => rfl
  | N + 1, i, vs => by
    simp only [expandM]
    cases Nat.testBit keep i with
    | true =>
      cases vs with
      | nil =>
        simp only [EV.renL, cond_true, List.map_cons, EV.ren]
        have := expand_ren keep f N (i + 1) []
        simp only [EV.renL] at this
        exact congrArg _ this
      | cons v vs => simp only [EV.renL, cond_true, List.map_cons, expand_ren keep f N (i + 1) vs]
    | false => simp only [cond_false, List.map_cons, EV.ren, expand_ren keep f N (i + 1) vs]
theorem fgt_rel {ρ : Ren} {w : World} {v : EV} {x : Value} (h : Rel ρ w v x) : Rel ρ w v.fgt x := by
  cases v <;> try (simp only [EV.fgt]; exact h)
  rename_i b off len cap e
  simp only [EV.fgt, Rel] at h ⊢
  obtain ⟨a, c, h0, r, h1, h2⟩ := h
  refine ⟨a, c, h0, r, h1, fun i hi => ?_⟩
  obtain ⟨n, h3, h4, h5, _, h6⟩ := h2 i hi
  exact ⟨n, h3, h4, h5, (fun c0 hc => by cases hc), h6⟩
theorem RelT.fgt {gl : Nat → Option EV} {ρ : Ren} {w : World} {s : St} {a : Array Value} (h : RelT gl ρ w s.tmps a) (fg : Bool) : RelT gl ρ w (s.fgt fg).tmps a := by
  cases fg with
  | false => exact h
  | true =>
    refine ⟨by simp [St.fgt, h.1], fun i v hv => ?_, h.2.2⟩
    simp only [St.fgt, List.getElem?_map] at hv
    cases hs : s.tmps[i]? with
    | none => rw [hs] at hv; cases hv
    | some u =>
      rw [hs] at hv
      simp only [Option.map_some, Option.some.injEq] at hv
      subst hv
      rcases h.2.1 i u hs with rfl | ⟨x, hx, hr⟩
      · exact .inl rfl
      · exact .inr ⟨x, hx, fgt_rel hr⟩
theorem outK0_sound {ρ0 ρ : Ren} {w0 w : World} {s : St} {a : Array Value} {keep nl N : Nat} {K : List EV → Heap → Prop} (hT : RelT E.gl ρ w s.tmps a) (hS : Sim ρ s.heap w) (hI : Ext ρ0 w0 ρ w) (hF : ρ.F = ρ0.F) (hnl : nl = ρ0.bs.length)
    (h : outK0 keep nl N s K) : ∃ vs H ρ', K vs H ∧ RelT E.gl ρ' w (expandM keep N 0 vs) a ∧ Sim ρ' H w ∧ Ext ρ0 w0 ρ' w ∧ ρ'.F = ρ0.F := by
  unfold outK0 at h
  rw [gd_iff] at h
  obtain ⟨h0, h⟩ := h
  unfold goK at h
  rw [gd_iff, Bool.and_eq_true] at h
  obtain ⟨⟨h1, h2⟩, hK⟩ := h
  obtain ⟨c1, c2⟩ := canI_spec nl (pickM keep 0 s.tmps) s.heap
  generalize canI nl (pickM keep 0 s.tmps) s.heap = idx at *
  have hN := Nat.eq_of_beq_eq_true h0
  have hm : ∀ b, b < w.heap.size → b ∉ ρ.mbs → b ∉ (⟨ρ.F, subBs ρ.bs idx⟩ : Ren).mbs := fun b _ hn hm => hn (subBs_mbs hm)
  refine ⟨_, _, ⟨ρ.F, subBs ρ.bs idx⟩, hK, ?_, ?_, hI.sub (fun j hj => c2 j (by omega)), hF⟩
  · rw [expand_ren, ← hN, expand_pick]
    refine ⟨by simp [cleanL_length, hT.1], fun i v hv => ?_, hT.2.2.sub fun b hb => subBs_mbs hb⟩
    rw [List.getElem?_map] at hv
    cases hc : (cleanL keep 0 s.tmps)[i]? with
    | none => simp [hc] at hv
    | some u =>
      simp only [hc, Option.map_some, Option.some.injEq] at hv
      subst hv
      by_cases hu : u = .undef
      · subst hu; exact .inl rfl
      · rcases cleanL_get keep s.tmps 0 i u hc with h' | h'
        · exact absurd h' hu
        · rcases hT.2.1 i u h' with h3 | ⟨x, hx, hr⟩
          · exact absurd h3 hu
          · exact .inr ⟨x, hx, Rel.ren (fun b r hb hr => .inl (subBs_pos hb hr)) u x (inIL_mem h1 u (mem_of_clean hu s.tmps 0 i hc)) (.inr hm) hr⟩
  · exact hS.sub c1 hS.fl (fun b r _ hb => hS.sep b r hb) h2 hm
theorem outK_sound {ρ0 ρ : Ren} {w0 w : World} {s : St} {a : Array Value} {fg : Bool} {keep nl N : Nat} {K : List EV → Heap → Prop} (hT : RelT E.gl ρ w s.tmps a) (hS : Sim ρ s.heap w) (hI : Ext ρ0 w0 ρ w) (hF : ρ.F = ρ0.F) (hnl : nl = ρ0.bs.length)
    (h : outK fg keep nl N s K) : ∃ vs H ρ', K vs H ∧ RelT E.gl ρ' w (expandM keep N 0 vs) a ∧ Sim ρ' H w ∧ Ext ρ0 w0 ρ' w ∧ ρ'.F = ρ0.F :=
  outK0_sound (hT.fgt fg) (by cases fg <;> exact hS) hI hF hnl h
theorem evCode_sound {ρ0 : Ren} {w0 : World} (hE : ∀ t ti, E.ty t = some ti → OkTI P t ti) (hFn : OkFn P E) (hD : DetFn E) (hm : P.follows .mixedOrders = true) :
    ∀ (c : Code) (hL : ∀ c', c' ∈ loopsOf c → LoopOK E c') (lv : LV) (hl : lv.nl = ρ0.bs.length) (ρ : Ren) (w : World) (s : St) (a : Act) (K : Ex → St → Prop) (Q : Exit → Act → World → Prop), RelT E.gl ρ w s.tmps a.tmps → Sim ρ s.heap w → Ext ρ0 w0 ρ w ∧ ρ.F = ρ0.F → evCode E c lv s K →
      (∀ ex s' ρ' w' a', K ex s' → RelT E.gl ρ' w' s'.tmps a'.tmps → Sim ρ' s'.heap w' → Ext ρ0 w0 ρ' w' ∧ ρ'.F = ρ0.F → a'.defers = a.defers → Q ex.out a' w') → c.wp P Q a w := by
  intro c
  induction c with
  | skip => intro hL lv hl ρ w s a K Q hT hS hI h hn; exact wp_skip (hn .normal s ρ w a h hT hS hI rfl)
  | region id ops draw =>
    intro hL lv hl ρ w s a K Q hT hS hI h hn
    simp only [evCode] at h
    cases draw with
    | true =>
      simp only [cond_true] at h
      exact evDraw_sound hE hFn hD (closed_of hE hT.2.2) hm id ρ w s a _ hT hS h fun s' ρ' w' a' hK hT' hD hS' hX hF => hn .normal s' ρ' w' a' hK hT' hS' ⟨hI.1.trans hX, hF.trans hI.2⟩ hD
    | false =>
      simp only [cond_false] at h
      refine wp_region ?_
      have := evOps_sound (Q := Q) hE hFn ops.toList 0 rfl ρ w s a _ hT hS h fun s' ρ' w' a' hK hT' hD hS' hX hF => hn .normal s' ρ' w' a' hK hT' hS' ⟨hI.1.trans hX, hF.trans hI.2⟩ hD
      rw [List.range_eq_range', ← Array.length_toList]
      exact this
  | seq x y ihx ihy =>
    intro hL lv hl ρ w s a K Q hT hS hI h hn
    simp only [evCode] at h
    refine wp_seq (ihx (fun c' hc => hL c' (List.mem_append.2 (.inl hc))) { lv with nx := live y lv } hl ρ w s a _ _ hT hS hI h ?_)
    intro ex s' ρ' w' a' hK hT' hS' hI' hD
    cases ex with
    | normal => exact ihy (fun c' hc => hL c' (List.mem_append.2 (.inr hc))) _ hl ρ' w' s' a' K Q hT' hS' hI' hK fun ex s'' ρ'' w'' a'' hK' hT'' hS'' hI'' hD' => hn ex s'' ρ'' w'' a'' hK' hT'' hS'' hI'' (hD'.trans hD)
    | exit id => exact hn (.exit id) s' ρ' w' a' hK hT' hS' hI' hD
    | ret => exact hn .ret s' ρ' w' a' hK hT' hS' hI' hD
  | cond c x y ihx ihy =>
    intro hL lv hl ρ w s a K Q hT hS hI h hn
    simp only [evCode] at h
    split at h
    · rename_i t ht
      have hc := opd_ok hT ht (by simp)
      simp only [Rel] at hc
      rw [br_iff] at h
      cases t with
      | true => exact wp_cond_true hc (ihx (fun c' hc => hL c' (List.mem_append.2 (.inl hc))) _ hl ρ w s a K Q hT hS hI (h.1 rfl) hn)
      | false => exact wp_cond_false hc (ihy (fun c' hc => hL c' (List.mem_append.2 (.inr hc))) _ hl ρ w s a K Q hT hS hI (h.2 rfl) hn)
    · exact h.elim
  | block id c ih =>
    intro hL lv hl ρ w s a K Q hT hS hI h hn
    simp only [evCode] at h
    refine wp_block (ih hL { lv with ex := (id, lv.nx) :: lv.ex } hl ρ w s a _ _ hT hS hI h ?_)
    intro ex s' ρ' w' a' hK hT' hS' hI' hD
    cases ex with
    | normal => exact hn .normal s' ρ' w' a' hK hT' hS' hI' hD
    | exit id' =>
      simp only [Ex.out, Exit.inBlock]
      simp only at hK
      rw [cd_iff] at hK
      by_cases hid : id' = id
      · rw [if_pos hid]
        exact hn .normal s' ρ' w' a' (hK.1 (by rw [hid]; exact Nat.beq_refl id)) hT' hS' hI' hD
      · rw [if_neg hid]
        refine hn (.exit id') s' ρ' w' a' (hK.2 ?_) hT' hS' hI' hD
        cases hb : Nat.beq id' id with
        | false => rfl
        | true => exact absurd (Nat.eq_of_beq_eq_true hb) hid
    | ret => exact hn .ret s' ρ' w' a' hK hT' hS' hI' hD
  | loop c ih =>
    intro hL lv hl ρ w s a K Q hT hS hI h hn
    simp only [evCode] at h
    have ih' := ih fun c' hc => hL c' (List.mem_cons_of_mem _ hc)
    obtain ⟨vs, H, ρ1, h, hT1, hS1, hI1, hf1⟩ := outK_sound hT hS hI.1 hI.2 hl h
    have hex : ∃ n, loopV (evCode E c { lv with nx := live (.loop c) lv }) (live (.loop c) lv) lv lv.nl s.tmps.length (fun ex vs H => K ex { tmps := expandM (maskOf lv ex) s.tmps.length 0 vs, heap := H }) n vs H := by
      split at h
      case h_2 =>
        rw [loopU_eq] at h
        exact ⟨_, h⟩
      split at h
      · rename_i L hL'
        rw [gd_iff, Bool.and_eq_true, Bool.and_eq_true] at h
        obtain ⟨⟨g1, g2, g3⟩, h⟩ := h
        have e1 := LV.eq_of_beq g1
        have e2 := Nat.eq_of_beq_eq_true g2
        have e3 := Nat.eq_of_beq_eq_true g3
        have h' := hL c List.mem_cons_self L hL' _ _ _ h
        rw [← e2, ← e3, ← e1] at h'
        exact h'
      · exact h
    clear h
    obtain ⟨n, h⟩ := hex
    refine wp_loop_rounds n ?_
    generalize hmm : lv.nl = m at h hl
    generalize s.tmps.length = N at h hT1
    generalize live (.loop c) lv = head at h hT1
    clear hT hS hI
    induction n generalizing ρ1 w vs H a with
    | zero => exact h.elim
    | succ n ihn =>
      simp only [loopV, loopStep] at h
      rw [rounds_succ]
      refine ih' ⟨head, lv.ex, lv.rt, m, lv.fg⟩ hl ρ1 w _ a _ _ hT1 hS1 ⟨hI1, hf1⟩ h ?_
      intro ex s' ρ' w' a' hK hT' hS' hI' hD
      cases ex with
      | normal =>
        obtain ⟨vs2, H2, ρ2, hK2, hT2, hS2, hI2, hf2⟩ := outK_sound hT' hS' hI'.1 hI'.2 hl hK
        exact ihn w' a' (fun ex s'' ρ'' w'' a'' hK' hT'' hS'' hI'' hD' => hn ex s'' ρ'' w'' a'' hK' hT'' hS'' hI'' (hD'.trans hD)) vs2 H2 ρ2 hS2 hI2 hf2 hK2 hT2
      | exit id =>
        obtain ⟨vs2, H2, ρ2, hK2, hT2, hS2, hI2, hf2⟩ := outK_sound hT' hS' hI'.1 hI'.2 hl hK
        exact hn (.exit id) _ ρ2 w' a' hK2 hT2 hS2 ⟨hI2, hf2⟩ hD
      | ret =>
        obtain ⟨vs2, H2, ρ2, hK2, hT2, hS2, hI2, hf2⟩ := outK_sound hT' hS' hI'.1 hI'.2 hl hK
        exact hn .ret _ ρ2 w' a' hK2 hT2 hS2 ⟨hI2, hf2⟩ hD
  | exit id => intro hL lv hl ρ w s a K Q hT hS hI h hn; exact wp_exit (hn (.exit id) s ρ w a h hT hS hI rfl)
  | ret => intro hL lv hl ρ w s a K Q hT hS hI h hn; exact wp_ret (hn .ret s ρ w a h hT hS hI rfl)
  | scope c ih =>
    intro hL lv hl ρ w s a K Q hT hS hI h hn
    simp only [evCode] at h
    refine wp_scope_straight (ih hL _ hl ρ w s a K _ hT hS hI h ?_)
    intro ex s' ρ' w' a' hK hT' hS' hI' hD
    cases ex <;> exact hn _ s' ρ' w' a' hK hT' hS' hI' hD
  | rangeFunc f ps x y _ _ => intro hL lv hl ρ w s a K Q hT hS hI h hn; exact h.elim
  | label l => intro hL lv hl ρ w s a K Q hT hS hI h hn; exact h.elim
  | goto l => intro hL lv hl ρ w s a K Q hT hS hI h hn; exact h.elim
  | refuse l => intro hL lv hl ρ w s a K Q hT hS hI h hn; exact h.elim
end sound
def roTy (E : Env) (t : TypeId) : Option RK :=
  match E.ty t with
  | some ti => match ti.td with
    | .slice e => match E.ty e with
      | some ei => match ei.td with
        | .int k => some (.int k)
        | .struct _ => match Sk.of ei.zero with
          | some s => some (.sk s)
          | none => none
        | _ => none
      | none => none
    | _ => none
  | none => none
def evResults (E : Env) : List ResultVar → St → (List EV → Prop) → Prop
  | [], s, K => K []
  | .tmp t :: rs, s, K => gd (s.slot t).dfd (evResults E rs s fun vs => K (s.slot t :: vs))
  | .cell a t :: rs, s, K => gd (s.slot a).dfd (evLoad E t (s.slot a) s.heap fun v => evResults E rs s fun vs => K (v :: vs))
def finK (vs : List EV) (dead idx : List Nat) (H : Heap) (K : EV → Heap → Prop) : Prop :=
  gd (dfdL vs && (EV.inIL idx vs && (inIH idx H idx && noneIn idx dead))) (match EV.renL (pos idx) vs with
    | [v] => K v (subH H idx)
    | vs => K (.tuple vs) (subH H idx))
def retK (nl : Nat) (ros : List (Option RK)) (vs : List EV) (H : Heap) (K : EV → Heap → Prop) : Prop :=
  finK (roArgs H ros vs) (roDead ros vs) (canI nl (roArgs H ros vs) H) H K
def rtMask : List ResultVar → Nat
  | [] => 0
  | .tmp t :: l => Nat.lor (Nat.shiftLeft 1 t) (rtMask l)
  | .cell a _ :: l => Nat.lor (Nat.shiftLeft 1 a) (rtMask l)
def evFn (E : Env) (fn : Func) (own : Bool) (args : List EV) (H : Heap) (K : EV → Heap → Prop) : Prop :=
  match fn.body with
  | some c => evCode E c { nx := rtMask fn.results.toList, ex := [], rt := rtMask fn.results.toList, nl := H.length, fg := E.fg } { tmps := args ++ List.replicate (fn.ntmps - args.length) .undef, heap := H } fun ex s => match ex with
    | .exit _ => False
    | _ => evResults E fn.results.toList s fun vs => retK H.length (cond own [] (fn.resultTypes.toList.map (roTy E))) vs s.heap K
  | none => False
def resOf (tmps : Array Value) : ResultVar → Sem Value
  | .tmp t => pure (tmps.getD t undef)
  | .cell a t => do loadVar t (← asAddr (tmps.getD a undef))
section sound
variable {P : Program} {E : Env}
theorem evResults_sound {ρ : Ren} {w : World} {s : St} {tmps : Array Value} (hE : ∀ t ti, E.ty t = some ti → OkTI P t ti) (hT : RelT E.gl ρ w s.tmps tmps) (hS : Sim ρ s.heap w) :
    ∀ (rs : List ResultVar) (K : List EV → Prop), evResults E rs s K → ∃ vs xs, K vs ∧ RelL ρ w vs xs ∧ (rs.mapM (resOf tmps)).run P w = .ok xs w
  | [], K, h => ⟨[], [], h, rfl, rfl⟩
  | .tmp t :: rs, K, h => by
    simp only [evResults] at h
    rw [gd_iff] at h
    obtain ⟨h1, h⟩ := h
    obtain ⟨vs, xs, k1, k2, k3⟩ := evResults_sound hE hT hS rs _ h
    have hr : Rel ρ w (s.slot t) (tmps.getD t undef) := opd_ok (a := { tmps, defers := [] }) hT (x := .tmp t) rfl (dfd_ne h1)
    refine ⟨_, tmps.getD t undef :: xs, k1, ⟨_, _, rfl, hr, k2⟩, ?_⟩
    rw [List.mapM_cons, run_bind]
    simp only [resOf, run_pure]
    rw [run_bind, k3]
    rfl
  | .cell a t :: rs, K, h => by
    simp only [evResults] at h
    rw [gd_iff] at h
    obtain ⟨h1, h⟩ := h
    have hr : Rel ρ w (s.slot a) (tmps.getD a undef) := opd_ok (a := { tmps, defers := [] }) hT (x := .tmp a) rfl (dfd_ne h1)
    obtain ⟨u, y, g1, g2, g3⟩ := evLoad_sound hE hS hr h
    obtain ⟨vs, xs, k1, k2, k3⟩ := evResults_sound hE hT hS rs _ g1
    refine ⟨_, y :: xs, k1, ⟨_, _, rfl, g2, k2⟩, ?_⟩
    rw [List.mapM_cons, run_bind]
    have : (resOf tmps (.cell a t)).run P w = .ok y w := by
      simp only [resOf]
      revert g3
      cases tmps.getD a undef <;> intro g3 <;> try (simp [Instr.loadAt, Instr.sureAddr, run_bind, stuck, Sem.run] at g3; done)
      rename_i aa
      cases aa with
      | none => simp [Instr.loadAt, Instr.sureAddr, run_bind, stuck, Sem.run] at g3
      | some aa => exact g3
    rw [this]
    simp only
    rw [run_bind, k3]
    rfl
theorem retK_sound {ρ0 ρ : Ren} {w0 w : World} {H : Heap} {vs : List EV} {xs : List Value} {nl : Nat} {ros : List (Option RK)} {K : EV → Heap → Prop} (hS : Sim ρ H w) (hI : Ext ρ0 w0 ρ w) (hF : ρ.F = ρ0.F) (hnl : nl = ρ0.bs.length)
    (hr : RelL ρ w vs xs) (h : retK nl ros vs H K) :
    ∃ v H' ρ', K v H' ∧ Rel ρ' w v (if h : xs.length = 1 then xs[0] else .tuple xs.toArray) ∧ Sim ρ' H' w ∧ Ext ρ0 w0 ρ' w ∧ ρ'.F = ρ0.F := by
  unfold retK finK at h
  rw [gd_iff] at h
  simp only [Bool.and_eq_true] at h
  obtain ⟨⟨h1, h2, h3, h4⟩, h⟩ := h
  obtain ⟨c1, c2⟩ := canI_spec nl (roArgs H ros vs) H
  generalize canI nl (roArgs H ros vs) H = idx at *
  have hm : ∀ b, b < w.heap.size → b ∉ ρ.mbs → b ∉ (⟨ρ.F, subBs ρ.bs idx⟩ : Ren).mbs := fun b _ hn hm => hn (subBs_mbs hm)
  have hrel : RelL ⟨ρ.F, subBs ρ.bs idx⟩ w (EV.renL (pos idx) (roArgs H ros vs)) xs := by
    refine roArgs_ren hS (fun b r hb hr => .inl (subBs_pos hb hr)) (fun b hb => subBs_mbs hb) ros vs xs ?_ h1 h2 hr
    intro b hb r h5 h6
    rcases List.mem_append.1 h6 with h6 | h6
    · exact hS.sep b r h5 h6
    · obtain ⟨c, s, g1, g2, g3⟩ := subBs_own h6
      exact noneIn_spec h4 b hb (hS.nodup c b s r g2 h5 g3 ▸ g1)
  generalize EV.renL (pos idx) (roArgs H ros vs) = vs' at *
  have fin : ∀ v, K v (subH H idx) → Rel ⟨ρ.F, subBs ρ.bs idx⟩ w v (if h : xs.length = 1 then xs[0] else .tuple xs.toArray) → ∃ v H' ρ', K v H' ∧ Rel ρ' w v (if h : xs.length = 1 then xs[0] else .tuple xs.toArray) ∧ Sim ρ' H' w ∧ Ext ρ0 w0 ρ' w ∧ ρ'.F = ρ0.F :=
    fun v hK hv => ⟨v, _, _, hK, hv, hS.sub c1 hS.fl (fun b r _ hb => hS.sep b r hb) h3 hm, hI.sub (fun j hj => c2 j (by omega)), hF⟩
  split at h
  · rename_i v
    simp only [RelL] at hrel
    obtain ⟨y, zs, rfl, g1, rfl⟩ := hrel
    exact fin v h g1
  · rename_i vs'' hne
    have hl : ¬ xs.length = 1 := by
      intro hx
      match vs', hrel, hne with
      | [], hrel, _ => simp only [RelL] at hrel; subst hrel; simp at hx
      | [v], _, hne => exact hne v rfl
      | v :: u :: l, hrel, _ =>
        simp only [RelL] at hrel
        obtain ⟨y, zs, rfl, _, y', zs', rfl, _⟩ := hrel
        simp at hx
    refine fin _ h ?_
    rw [dif_neg hl]
    simp only [Rel]
    exact ⟨xs.toArray, rfl, by simpa using hrel⟩
theorem evFn_sound {f : FuncId} {fn : Func} {own : Bool} (hE : ∀ t ti, E.ty t = some ti → OkTI P t ti) (hFn : OkFn P E) (hD : DetFn E) (hm : P.follows .mixedOrders = true) (hf : P.funcs[f]? = some fn)
    (hL : ∀ c, fn.body = some c → ∀ c', c' ∈ loopsOf c → LoopOK E c')
    {ρ : Ren} {H : Heap} {w : World} {args : List EV} {xs : List Value} {K : EV → Heap → Prop} (h : evFn E fn own args H K) (hr : RelL ρ w args xs) (hS : Sim ρ H w) (hG : GOk E.gl ρ w) :
    Calls P f xs.toArray w fun e w' => ∃ v x H' ρ', e = .returned x ∧ K v H' ∧ Rel ρ' w' v x ∧ Sim ρ' H' w' ∧ Ext ρ w ρ' w' ∧ ρ'.F = ρ.F := by
  unfold evFn at h
  split at h
  · rename_i c hc
    refine calls_of_wp hf hc ?_
    have hlen : ∀ (l : List EV) (ys : List Value), RelL ρ w l ys → l.length = ys.length := by
      intro l
      induction l with
      | nil => intro ys h; simp only [RelL] at h; subst h; rfl
      | cons v l ih =>
        intro ys h
        simp only [RelL] at h
        obtain ⟨y, zs, rfl, _, h2⟩ := h
        simp [ih zs h2]
    have hget : ∀ (l : List EV) (ys : List Value) (i : Nat) (v : EV), RelL ρ w l ys → l[i]? = some v → ∃ y, ys[i]? = some y ∧ Rel ρ w v y := by
      intro l
      induction l with
      | nil => intro ys i v _ h; simp at h
      | cons u l ih =>
        intro ys i v hr hv
        simp only [RelL] at hr
        obtain ⟨y, zs, rfl, h1, h2⟩ := hr
        cases i with
        | zero => simp at hv; subst hv; exact ⟨y, rfl, h1⟩
        | succ i => simp at hv; simpa using ih zs i v h2 hv
    have hl := hlen args xs hr
    have hT : RelT E.gl ρ w (args ++ List.replicate (fn.ntmps - args.length) .undef) (xs.toArray ++ Array.replicate (fn.ntmps - xs.toArray.size) undef) := by
      refine ⟨by simp [hl], fun i v hv => ?_, hG⟩
      rw [List.getElem?_append] at hv
      split at hv
      · rename_i hi
        obtain ⟨y, hy, hv'⟩ := hget args xs i v hr hv
        refine .inr ⟨y, ?_, hv'⟩
        rw [Array.getElem?_append_left (by simp; omega)]
        simpa using hy
      · left
        have := List.mem_of_getElem? hv
        exact (List.eq_of_mem_replicate this)
    refine evCode_sound hE hFn hD hm c (hL c hc) _ hS.len.symm ρ w _ _ _ _ hT hS ⟨Ext.refl _ _, rfl⟩ h ?_
    intro ex s' ρ' w' a' hK hT' hS' hI' hD
    have key : (evResults E fn.results.toList s' fun vs => retK H.length (cond own [] (fn.resultTypes.toList.map (roTy E))) vs s'.heap K) →
        ∃ x, (results fn a'.tmps).run P w' = .ok x w' ∧ ∃ v H' ρ'', K v H' ∧ Rel ρ'' w' v x ∧ Sim ρ'' H' w' ∧ Ext ρ w ρ'' w' ∧ ρ''.F = ρ.F := by
      intro hK
      obtain ⟨vs, ys, k1, k2, k3⟩ := evResults_sound hE hT' hS' _ _ hK
      have hres : (results fn a'.tmps).run P w' = .ok (if h : ys.length = 1 then ys[0] else .tuple ys.toArray) w' := by
        have h0 : results fn a'.tmps = (do
            let vs ← fn.results.mapM (resOf a'.tmps)
            pure (if h : vs.size = 1 then vs[0] else .tuple vs)) := rfl
        rw [h0, run_bind]
        have : (fn.results.mapM (resOf a'.tmps)).run P w' = .ok ys.toArray w' := by
          rw [show fn.results = fn.results.toList.toArray from by simp, List.mapM_toArray]
          rw [show (List.toArray <$> List.mapM (resOf a'.tmps) fn.results.toList) = (List.mapM (resOf a'.tmps) fn.results.toList >>= fun a => pure a.toArray) from rfl, run_bind, k3]
          rfl
        rw [this]
        simp only [run_pure]
        congr 1
      exact ⟨_, hres, retK_sound hS' hI'.1 hI'.2 hS.len.symm k2 k1⟩
    cases ex with
    | exit id => exact hK.elim
    | normal =>
      obtain ⟨x, h1, v, H', ρ'', h2, h3, h4, h5, h6⟩ := key hK
      exact ⟨hD, x, h1, v, x, H', ρ'', rfl, h2, h3, h4, h5, h6⟩
    | ret =>
      obtain ⟨x, h1, v, H', ρ'', h2, h3, h4, h5, h6⟩ := key hK
      exact ⟨hD, x, h1, v, x, H', ρ'', rfl, h2, h3, h4, h5, h6⟩
  · exact h.elim
end sound
end Go.Ev

/- What is handed over to a law, of a type without places, opened: as the evaluator has it. -/
set_option linter.unusedVariables false
set_option linter.unusedSimpArgs false
namespace Go.Ev
open Go Go.Joins
inductive Tm where
  | bool
  | int (k : IntKind)
  | str
  | arr (n : Nat) (k : IntKind) (e : TypeId)
  | agg (l : List Tm)
mutual
def Tm.size : Tm → Nat
  | .bool => 1
  | .int _ => 1
  | .str => 1
  | .arr n _ _ => n
  | .agg l => Tm.sizeL l
def Tm.sizeL : List Tm → Nat
  | [] => 0
  | t :: l => t.size + Tm.sizeL l
end
mutual
def Tm.ok (P : Program) : Tm → TypeId → Prop
  | .bool, t => P.underlying t = some .bool
  | .int k, t => P.underlying t = some (.int k)
  | .str, t => P.underlying t = some .string
  | .arr n k e, t => P.underlying t = some (.array n e) ∧ P.underlying e = some (.int k) ∧ P.cellsOf e = 1
  | .agg l, t => ∃ fs, P.underlying t = some (.struct fs) ∧ Tm.okL P l fs.toList 0
def Tm.okL (P : Program) : List Tm → List Field → Nat → Prop
  | [], fs, _ => fs = []
  | t :: l, fs, o => match fs with
    | [] => False
    | f :: fs => f.offset = o ∧ P.cellsOf f.type = t.size ∧ t.ok P f.type ∧ Tm.okL P l fs (o + t.size)
end
mutual
def Tm.has : Tm → EV → Prop
  | .bool, u => ∃ b, u = .bool b
  | .int k, u => ∃ n, u = .int k n ∧ (Lit.int k n).wf = true
  | .str, u => ∃ s : List UInt8, u = .str s ∧ s.length ≤ maxLen
  | .arr n k _, u => ∃ g : Nat → Int, u = .arr k n g ∧ (∀ i, i < n → (Lit.int k (g i)).wf = true) ∧ ∀ i, n ≤ i → g i = 0
  | .agg l, u => ∃ us, u = .agg us ∧ Tm.hasL l us
def Tm.hasL : List Tm → List EV → Prop
  | [], us => us = []
  | t :: l, us => ∃ v vs, us = v :: vs ∧ t.has v ∧ Tm.hasL l vs
end
theorem mapM_some {α β : Type} {f : α → Option β} : ∀ {l : List α} {r : List β}, l.mapM f = some r → ∀ (i : Nat) (a : α), l[i]? = some a → ∃ b, f a = some b
  | [], r, h, i, a, ha => by simp at ha
  | x :: l, r, h, i, a, ha => by
    rw [List.mapM_cons] at h
    cases hx : f x with
    | none => simp [hx] at h
    | some y =>
      cases hl : l.mapM f with
      | none => simp [hx, hl] at h
      | some ys =>
        cases i with
        | zero => simp at ha; subst ha; exact ⟨y, hx⟩
        | succ i => exact mapM_some hl i a (by simpa using ha)
section
variable {H : Type} {enc : TypeId × Value → H} {P : Program} {w : World} {base : Nat} {spare : Nat → Bool} {held : Bool}
theorem trod_arr {n : Nat} {k : IntKind} {e t : TypeId} (h1 : P.underlying t = some (.array n e)) (h2 : P.underlying e = some (.int k)) (h3 : P.cellsOf e = 1) {fuel : Nat} {cs : List Value} {x : DataW H × List MemPlace}
    (hl : cs.length = n) (h : DataW.trod enc P w base spare held fuel t cs = some x) : ∃ g : Nat → Int, cs = ints k n g ∧ (∀ i, i < n → (Lit.int k (g i)).wf = true) ∧ ∀ i, n ≤ i → g i = 0 := by
  cases fuel with
  | zero => simp [DataW.trod] at h
  | succ fuel =>
    simp only [DataW.trod, h1] at h
    split at h
    · rename_i hc
      cases hm : (List.range n).mapM fun i => DataW.trod enc P w base spare held fuel e ((cs.drop (i * P.cellsOf e)).take (P.cellsOf e)) with
      | none => rw [hm] at h; simp at h
      | some r =>
        have key : ∀ i, i < n → ∃ m, cs[i]? = some (.int k m) ∧ (Lit.int k m).wf = true := by
          intro i hi
          obtain ⟨b, hb⟩ := mapM_some hm i i (by simp [hi])
          rw [h3, Nat.mul_one] at hb
          obtain ⟨v, hv⟩ : ∃ v, cs[i]? = some v := ⟨cs[i]'(by omega), List.getElem?_eq_getElem (by omega)⟩
          have e1 : (cs.drop i).take 1 = [v] := by
            rw [List.drop_eq_getElem_cons (by omega)]
            have : cs[i]'(by omega) = v := by rw [List.getElem?_eq_getElem (by omega)] at hv; exact Option.some.inj hv
            simp [this]
          rw [e1] at hb
          cases fuel with
          | zero => simp [DataW.trod] at hb
          | succ fuel =>
            simp only [DataW.trod, h2] at hb
            cases v <;> simp at hb
            rename_i k' m
            obtain ⟨⟨rfl, hw⟩, _⟩ := hb
            exact ⟨m, hv, hw⟩
        refine ⟨fun i => match cs[i]? with | some (.int _ m) => m | _ => 0, ?_, ?_, ?_⟩
        · apply List.ext_getElem?
          intro i
          unfold ints
          by_cases hi : i < n
          · obtain ⟨m, hm', _⟩ := key i hi
            rw [hm']
            simp [hi, hm']
          · rw [List.getElem?_eq_none (by omega), List.getElem?_eq_none (by simp; omega)]
        · intro i hi
          obtain ⟨m, hm', hw⟩ := key i hi
          simp only [hm']; exact hw
        · intro i hi
          have : cs[i]? = none := List.getElem?_eq_none (by omega)
          simp only [this]
    · cases h
theorem one_cell {α : Type} {cs : List α} (h : cs.length = 1) : ∃ v, cs = [v] := List.length_eq_one_iff.1 h
mutual
theorem Tm.open : ∀ (tm : Tm) (t : TypeId), tm.ok P t → ∀ (fuel : Nat) (cs : List Value) (x : DataW H × List MemPlace), cs.length = tm.size → DataW.trod enc P w base spare held fuel t cs = some x →
    ∃ u, tm.has u ∧ ∃ y : Value, y.cells.toList = cs ∧ ∀ ρ W, Rel ρ W u y
  | .bool, t, hk, fuel, cs, x, hl, h => by
    simp only [Tm.ok] at hk
    obtain ⟨v, rfl⟩ := one_cell hl
    cases fuel with
    | zero => simp [DataW.trod] at h
    | succ fuel =>
      simp only [DataW.trod, hk] at h
      cases v <;> simp at h
      rename_i b
      exact ⟨.bool b, ⟨b, rfl⟩, .bool b, rfl, fun ρ W => rfl⟩
  | .int k, t, hk, fuel, cs, x, hl, h => by
    simp only [Tm.ok] at hk
    obtain ⟨v, rfl⟩ := one_cell hl
    cases fuel with
    | zero => simp [DataW.trod] at h
    | succ fuel =>
      simp only [DataW.trod, hk] at h
      cases v <;> simp at h
      rename_i k' n
      obtain ⟨⟨rfl, hw⟩, _⟩ := h
      exact ⟨.int k' n, ⟨n, rfl, hw⟩, .int k' n, rfl, fun ρ W => rfl⟩
  | .str, t, hk, fuel, cs, x, hl, h => by
    simp only [Tm.ok] at hk
    obtain ⟨v, rfl⟩ := one_cell hl
    cases fuel with
    | zero => simp [DataW.trod] at h
    | succ fuel =>
      simp only [DataW.trod, hk] at h
      cases v <;> simp at h
      rename_i s
      exact ⟨.str s.data.toList, ⟨_, rfl, by rw [Array.length_toList]; exact h.1⟩, .string s, rfl, fun ρ W => rfl⟩
  | .arr n k e, t, hk, fuel, cs, x, hl, h => by
    simp only [Tm.ok] at hk
    obtain ⟨g, h1, h2, h3⟩ := trod_arr hk.1 hk.2.1 hk.2.2 (by simpa [Tm.size] using hl) h
    exact ⟨.arr k n g, ⟨g, rfl, h2, h3⟩, .agg (ints k n g).toArray, by rw [h1]; rfl, fun ρ W => rfl⟩
  | .agg l, t, hk, fuel, cs, x, hl, h => by
    simp only [Tm.ok] at hk
    obtain ⟨fs, h1, h2⟩ := hk
    cases fuel with
    | zero => simp [DataW.trod] at h
    | succ fuel =>
      simp only [DataW.trod, h1] at h
      split at h
      · rename_i hc
        cases hm : fs.toList.mapM fun f => DataW.trod enc P w base spare held fuel f.type ((cs.drop f.offset).take (P.cellsOf f.type)) with
        | none => rw [hm] at h; simp at h
        | some r =>
          obtain ⟨us, g1, g2⟩ := Tm.openL l fs.toList 0 h2 fuel cs (by simpa [Tm.size] using hl) fun i f hf => mapM_some hm i f hf
          refine ⟨.agg us, ⟨us, rfl, g1⟩, .agg cs.toArray, rfl, fun ρ W => ?_⟩
          simp only [Rel]
          exact ⟨cs.toArray, rfl, by simpa using g2 ρ W⟩
      · cases h
theorem Tm.openL : ∀ (l : List Tm) (fs : List Field) (o : Nat), Tm.okL P l fs o → ∀ (fuel : Nat) (cs : List Value), cs.length = o + Tm.sizeL l →
    (∀ (i : Nat) f, fs[i]? = some f → ∃ b, DataW.trod enc P w base spare held fuel f.type ((cs.drop f.offset).take (P.cellsOf f.type)) = some b) →
    ∃ us, Tm.hasL l us ∧ ∀ ρ W, RelF ρ W us (cs.drop o)
  | [], fs, o, hk, fuel, cs, hl, h => by
    refine ⟨[], rfl, fun ρ W => ?_⟩
    simp only [RelF]
    exact List.drop_eq_nil_of_le (by simp [Tm.sizeL] at hl; omega)
  | tm :: l, fs, o, hk, fuel, cs, hl, h => by
    simp only [Tm.okL] at hk
    cases fs with
    | nil => exact hk.elim
    | cons f fs =>
      simp only [Tm.sizeL] at hl
      obtain ⟨k1, k2, k3, k4⟩ := hk
      obtain ⟨b, hb⟩ := h 0 f rfl
      rw [k1, k2] at hb
      obtain ⟨u, g1, y, g2, g3⟩ := Tm.open tm f.type k3 fuel _ b (by simp; omega) hb
      obtain ⟨us, e1, e2⟩ := Tm.openL l fs (o + tm.size) k4 fuel cs (by omega) fun i f' hf => h (i + 1) f' (by simpa using hf)
      refine ⟨u :: us, ⟨u, us, rfl, g1, e1⟩, fun ρ W => ?_⟩
      simp only [RelF]
      refine ⟨y, cs.drop (o + tm.size), ?_, g3 ρ W, e2 ρ W⟩
      rw [g2, ← List.drop_drop]
      exact (List.take_append_drop _ _).symm
end
end
end Go.Ev

/- What is handed over to a law, opened: tables of structs, and slices of structs that are read only. -/
set_option linter.unusedVariables false
set_option linter.unusedSimpArgs false
namespace Go.Ev
open Go Go.Joins
mutual
def Sk.tok (P : Program) : Sk → TypeId → Prop
  | .int k, t => P.underlying t = some (.int k)
  | .bool, t => P.underlying t = some .bool
  | .sl s, t => ∃ e, P.underlying t = some (.slice e) ∧ P.cellsOf e = s.shape.size ∧ 0 < s.shape.size ∧ s.tok P e
  | .agg l, t => ∃ fs, P.underlying t = some (.struct fs) ∧ Sk.tokL P l fs.toList 0
def Sk.tokL (P : Program) : List Sk → List Field → Nat → Prop
  | [], fs, _ => fs = []
  | s :: l, fs, o => match fs with
    | [] => False
    | f :: fs => f.offset = o ∧ P.cellsOf f.type = s.shape.size ∧ s.tok P f.type ∧ Sk.tokL P l fs (o + s.shape.size)
end
mutual
def Sk.has : Sk → Nat → (Nat → Lf) → Prop
  | .int k, c, r => (Lit.int k (r c).toI).wf = true
  | .bool, _, _ => True
  | .sl s, c, r => (r c).len ≤ maxLen ∧ ∀ i, i < (r c).len → s.has 0 ((r c).row i)
  | .agg l, c, r => Sk.hasL l c r
def Sk.hasL : List Sk → Nat → (Nat → Lf) → Prop
  | [], _, _ => True
  | s :: l, c, r => s.has c r ∧ Sk.hasL l (c + s.shape.size) r
end
mutual
theorem LfAt.congr {ρ : Ren} {w : World} : ∀ (s : Sk) (cv cv' : Nat → Option Value) (c : Nat) (r r' : Nat → Lf), (∀ j, c ≤ j → j < c + s.shape.size → cv j = cv' j ∧ r j = r' j) → LfAt ρ w s cv c r → LfAt ρ w s cv' c r'
  | .int k, cv, cv', c, r, r', h, hr => by
    obtain ⟨e1, e2⟩ := h c (Nat.le_refl _) (by simp [Sk.shape, Shape.size])
    simp only [LfAt] at hr ⊢
    rw [← e1, ← e2]; exact hr
  | .bool, cv, cv', c, r, r', h, hr => by
    obtain ⟨e1, e2⟩ := h c (Nat.le_refl _) (by simp [Sk.shape, Shape.size])
    simp only [LfAt] at hr ⊢
    rw [← e1, ← e2]; exact hr
  | .sl s, cv, cv', c, r, r', h, hr => by
    obtain ⟨e1, e2⟩ := h c (Nat.le_refl _) (by simp [Sk.shape, Shape.size])
    simp only [LfAt] at hr ⊢
    rw [← e1, ← e2]; exact hr
  | .agg l, cv, cv', c, r, r', h, hr => by
    simp only [LfAt] at hr ⊢
    exact LfAtL.congr l cv cv' c r r' (by simpa [Sk.shape, Shape.size] using h) hr
theorem LfAtL.congr {ρ : Ren} {w : World} : ∀ (l : List Sk) (cv cv' : Nat → Option Value) (c : Nat) (r r' : Nat → Lf), (∀ j, c ≤ j → j < c + Shape.sizeL (Sk.shapeL l) → cv j = cv' j ∧ r j = r' j) → LfAtL ρ w l cv c r → LfAtL ρ w l cv' c r'
  | [], _, _, _, _, _, _, _ => trivial
  | s :: l, cv, cv', c, r, r', h, hr => by
    simp only [Sk.shapeL, Shape.sizeL] at h
    simp only [LfAtL] at hr ⊢
    exact ⟨LfAt.congr s cv cv' c r r' (fun j h1 h2 => h j h1 (by omega)) hr.1, LfAtL.congr l cv cv' _ r r' (fun j h1 h2 => h j (by omega) (by omega)) hr.2⟩
end
mutual
theorem Sk.has_congr : ∀ (s : Sk) (c : Nat) (r r' : Nat → Lf), (∀ j, c ≤ j → j < c + s.shape.size → r j = r' j) → s.has c r → s.has c r'
  | .int k, c, r, r', h, hr => by
    have e := h c (Nat.le_refl _) (by simp [Sk.shape, Shape.size])
    simp only [Sk.has] at hr ⊢
    rw [← e]; exact hr
  | .bool, _, _, _, _, _ => trivial
  | .sl s, c, r, r', h, hr => by
    have e := h c (Nat.le_refl _) (by simp [Sk.shape, Shape.size])
    simp only [Sk.has] at hr ⊢
    rw [← e]; exact hr
  | .agg l, c, r, r', h, hr => by
    simp only [Sk.has] at hr ⊢
    exact Sk.hasL_congr l c r r' (by simpa [Sk.shape, Shape.size] using h) hr
theorem Sk.hasL_congr : ∀ (l : List Sk) (c : Nat) (r r' : Nat → Lf), (∀ j, c ≤ j → j < c + Shape.sizeL (Sk.shapeL l) → r j = r' j) → Sk.hasL l c r → Sk.hasL l c r'
  | [], _, _, _, _, _ => trivial
  | s :: l, c, r, r', h, hr => by
    simp only [Sk.shapeL, Shape.sizeL] at h
    simp only [Sk.hasL] at hr ⊢
    exact ⟨Sk.has_congr s c r r' (fun j h1 h2 => h j h1 (by omega)) hr.1, Sk.hasL_congr l _ r r' (fun j h1 h2 => h j (by omega) (by omega)) hr.2⟩
end
mutual
theorem Sk.has_shift : ∀ (s : Sk) (c o : Nat) (r : Nat → Lf), s.has c r → s.has (o + c) (fun j => r (j - o))
  | .int k, c, o, r, h => by simp only [Sk.has, Nat.add_sub_cancel_left] at h ⊢; exact h
  | .bool, _, _, _, _ => trivial
  | .sl s, c, o, r, h => by simp only [Sk.has, Nat.add_sub_cancel_left] at h ⊢; exact h
  | .agg l, c, o, r, h => by simp only [Sk.has] at h ⊢; exact Sk.hasL_shift l c o r h
theorem Sk.hasL_shift : ∀ (l : List Sk) (c o : Nat) (r : Nat → Lf), Sk.hasL l c r → Sk.hasL l (o + c) (fun j => r (j - o))
  | [], _, _, _, _ => trivial
  | s :: l, c, o, r, h => by
    simp only [Sk.hasL] at h ⊢
    exact ⟨Sk.has_shift s c o r h.1, by rw [Nat.add_assoc]; exact Sk.hasL_shift l _ o r h.2⟩
end
mutual
theorem LfAt.shift {ρ : Ren} {w : World} : ∀ (s : Sk) (c o : Nat) (cv cv' : Nat → Option Value) (r : Nat → Lf), (∀ j, c ≤ j → j < c + s.shape.size → cv j = cv' (o + j)) → LfAt ρ w s cv c r → LfAt ρ w s cv' (o + c) (fun j => r (j - o))
  | .int k, c, o, cv, cv', r, e, h => by
    have e := e c (Nat.le_refl _) (by simp [Sk.shape, Shape.size])
    simp only [LfAt, Nat.add_sub_cancel_left] at h ⊢; rw [← e]; exact h
  | .bool, c, o, cv, cv', r, e, h => by
    have e := e c (Nat.le_refl _) (by simp [Sk.shape, Shape.size])
    simp only [LfAt, Nat.add_sub_cancel_left] at h ⊢; rw [← e]; exact h
  | .sl s, c, o, cv, cv', r, e, h => by
    have e := e c (Nat.le_refl _) (by simp [Sk.shape, Shape.size])
    simp only [LfAt, Nat.add_sub_cancel_left] at h ⊢; rw [← e]; exact h
  | .agg l, c, o, cv, cv', r, e, h => by
    simp only [LfAt] at h ⊢
    exact LfAtL.shift l c o cv cv' r (by simpa [Sk.shape, Shape.size] using e) h
theorem LfAtL.shift {ρ : Ren} {w : World} : ∀ (l : List Sk) (c o : Nat) (cv cv' : Nat → Option Value) (r : Nat → Lf), (∀ j, c ≤ j → j < c + Shape.sizeL (Sk.shapeL l) → cv j = cv' (o + j)) → LfAtL ρ w l cv c r → LfAtL ρ w l cv' (o + c) (fun j => r (j - o))
  | [], _, _, _, _, _, _, _ => trivial
  | s :: l, c, o, cv, cv', r, e, h => by
    simp only [Sk.shapeL, Shape.sizeL] at e
    simp only [LfAtL] at h ⊢
    exact ⟨LfAt.shift s c o cv cv' r (fun j h1 h2 => e j h1 (by omega)) h.1, by rw [Nat.add_assoc]; exact LfAtL.shift l _ o cv cv' r (fun j h1 h2 => e j (by omega) (by omega)) h.2⟩
end
theorem pick_rows {n : Nat} {p : Nat → (Nat → Lf) → Prop} (h : ∀ i, i < n → ∃ r, p i r) : ∃ g : Nat → Nat → Lf, ∀ i, i < n → p i (g i) := by
  refine ⟨fun i => if hi : i < n then Classical.choose (h i hi) else fun _ => .z 0, fun i hi => ?_⟩
  simp only [dif_pos hi]
  exact Classical.choose_spec (h i hi)
theorem cells_get {w : World} {b o : Nat} {sp : Option Nat} {i sz : Nat} {ci : List Value} (hsz : 0 < sz) (h : w.cells? 0 ((⟨b, o, sp⟩ : Addr).add (i * sz)) sz = some ci) :
    ci.length = sz ∧ b < w.heap.size ∧ (i = 0 → sp = none) ∧ ∀ j, j < sz → (sp = none → w.cell? ⟨b, o + i * sz + j, none⟩ = ci[j]?) := by
  obtain ⟨-, hl, hc⟩ := World.cells?_some h
  have hb := World.cells?_block h hsz
  have hb' : b < w.heap.size := by
    unfold Addr.add at hb
    split at hb <;> exact hb
  refine ⟨hl, hb', fun h0 => ?_, fun j hj hs => ?_⟩
  · subst h0
    have := hc 0 hsz
    rw [Nat.zero_mul, List.getElem?_eq_getElem (by omega)] at this
    have e : ((⟨b, o, sp⟩ : Addr).add 0).add 0 = ⟨b, o, sp⟩ := rfl
    rw [e] at this
    cases sp with
    | none => rfl
    | some q =>
      exfalso
      simp only [World.cell?] at this
      split at this <;> simp at this
  · subst hs
    have := hc j hj
    rw [← this]
    congr 1
    unfold Addr.add
    split <;> split <;> simp_all <;> omega
section
variable {H : Type} {enc : TypeId × Value → H} {P : Program} {w : World} {spare : Nat → Bool} {held : Bool}
theorem open_sl {s : Sk} {t e : TypeId} (ih : ∀ (fuel : Nat) (cs : List Value) (x : DataW H × List MemPlace), cs.length = s.shape.size → DataW.trod enc P w 0 spare held fuel e cs = some x → ∃ r, s.has 0 r ∧ LfAt ⟨[], []⟩ w s (fun j => cs[j]?) 0 r)
    (h1 : P.underlying t = some (.slice e)) (h2 : P.cellsOf e = s.shape.size) (h3 : 0 < s.shape.size) {fuel : Nat} {v : Value} {x : DataW H × List MemPlace} (h : DataW.trod enc P w 0 spare held fuel t [v] = some x) :
    ∃ (a : Option Addr) (n c : Nat) (g : Nat → Nat → Lf), v = Value.slice a n c ∧ n ≤ c ∧ c ≤ maxLen ∧ (∀ i, i < n → s.has 0 (g i)) ∧
      (n = 0 ∨ ∃ b o, a = some ⟨b, o, none⟩ ∧ b < w.heap.size ∧ b ∉ (⟨[], []⟩ : Ren).mbs ∧ ∀ i, i < n → LfAt ⟨[], []⟩ w s (fun j => w.cell? ⟨b, o + i * s.shape.size + j, none⟩) 0 (g i)) := by
  cases fuel with
  | zero => simp [DataW.trod] at h
  | succ fuel =>
    cases v
    case slice a len cap =>
      cases a with
      | none =>
        have e : len = 0 ∧ cap = 0 := by
          simp only [DataW.trod, h1] at h
          split at h <;> simp_all
        obtain ⟨rfl, rfl⟩ := e
        exact ⟨none, 0, 0, fun _ _ => .z 0, rfl, Nat.le_refl _, Nat.zero_le _, fun i hi => absurd hi (by omega), .inl rfl⟩
      | some a =>
        obtain ⟨b, o, sp⟩ := a
        simp only [DataW.trod, h1] at h
        split at h
        · rename_i hc
          cases hm : (List.range len).mapM fun i => (w.cells? 0 ((⟨b, o, sp⟩ : Addr).add (i * P.cellsOf e)) (P.cellsOf e)).bind (DataW.trod enc P w 0 spare held fuel e) with
          | none => rw [hm] at h; simp at h
          | some r =>
            have key : ∀ i, i < len → ∃ ci, w.cells? 0 ((⟨b, o, sp⟩ : Addr).add (i * s.shape.size)) s.shape.size = some ci ∧ ∃ y, DataW.trod enc P w 0 spare held fuel e ci = some y := by
              intro i hi
              obtain ⟨y, hy⟩ := mapM_some hm i i (by simp [hi])
              rw [h2] at hy
              cases hq : w.cells? 0 ((⟨b, o, sp⟩ : Addr).add (i * s.shape.size)) s.shape.size with
              | none => rw [hq] at hy; simp at hy
              | some ci => rw [hq] at hy; exact ⟨ci, rfl, y, hy⟩
            by_cases h0 : len = 0
            · subst h0
              exact ⟨_, 0, cap, fun _ _ => .z 0, rfl, hc.2.1, hc.2.2, fun i hi => absurd hi (by omega), .inl rfl⟩
            · have hsp : sp = none := by
                obtain ⟨ci, hci, _⟩ := key 0 (by omega)
                exact (cells_get h3 hci).2.2.1 rfl
              have hb : b < w.heap.size := by
                obtain ⟨ci, hci, _⟩ := key 0 (by omega)
                exact (cells_get h3 hci).2.1
              obtain ⟨g, hg⟩ := pick_rows (n := len) (p := fun i r => s.has 0 r ∧ LfAt ⟨[], []⟩ w s (fun j => w.cell? ⟨b, o + i * s.shape.size + j, none⟩) 0 r) fun i hi => by
                obtain ⟨ci, hci, y, hy⟩ := key i hi
                obtain ⟨k1, _, _, k4⟩ := cells_get h3 hci
                obtain ⟨r, r1, r2⟩ := ih fuel ci y k1 hy
                exact ⟨r, r1, LfAt.congr s _ _ 0 r r (fun j _ hj => ⟨(k4 j (by omega) hsp).symm, rfl⟩) r2⟩
              subst hsp
              exact ⟨_, len, cap, g, rfl, hc.2.1, hc.2.2, fun i hi => (hg i hi).1, .inr ⟨b, o, rfl, hb, by simp [Ren.mbs, Ren.own], fun i hi => (hg i hi).2⟩⟩
        · simp at h
    all_goals (simp [DataW.trod, h1] at h)
mutual
theorem Sk.open : ∀ (s : Sk) (t : TypeId), s.tok P t → ∀ (fuel : Nat) (cs : List Value) (x : DataW H × List MemPlace), cs.length = s.shape.size → DataW.trod enc P w 0 spare held fuel t cs = some x →
    ∃ r, s.has 0 r ∧ LfAt ⟨[], []⟩ w s (fun j => cs[j]?) 0 r
  | .bool, t, hk, fuel, cs, x, hl, h => by
    simp only [Sk.tok] at hk
    obtain ⟨v, rfl⟩ := one_cell (by simpa [Sk.shape, Shape.size] using hl)
    cases fuel with
    | zero => simp [DataW.trod] at h
    | succ fuel =>
      simp only [DataW.trod, hk] at h
      cases v <;> simp at h
      rename_i b
      refine ⟨fun _ => .z (b2i b), trivial, ?_⟩
      simp only [LfAt]
      cases b <;> rfl
  | .int k, t, hk, fuel, cs, x, hl, h => by
    simp only [Sk.tok] at hk
    obtain ⟨v, rfl⟩ := one_cell (by simpa [Sk.shape, Shape.size] using hl)
    cases fuel with
    | zero => simp [DataW.trod] at h
    | succ fuel =>
      simp only [DataW.trod, hk] at h
      cases v <;> simp at h
      rename_i k' n
      obtain ⟨⟨rfl, hw⟩, _⟩ := h
      refine ⟨fun _ => .z n, hw, ?_⟩
      simp only [LfAt]
      rfl
  | .sl s, t, hk, fuel, cs, x, hl, h => by
    simp only [Sk.tok] at hk
    obtain ⟨e, h1, h2, h3, h4⟩ := hk
    obtain ⟨v, rfl⟩ := one_cell (by simpa [Sk.shape, Shape.size] using hl)
    obtain ⟨a, n, c, g, rfl, k1, k2, k3, k4⟩ := open_sl (fun fuel cs x hl h => Sk.open s e h4 fuel cs x hl h) h1 h2 h3 h
    refine ⟨fun _ => .r n g, ⟨Nat.le_trans k1 k2, fun i hi => k3 i hi⟩, ?_⟩
    simp only [LfAt]
    exact ⟨a, c, rfl, k1, k4⟩
  | .agg l, t, hk, fuel, cs, x, hl, h => by
    simp only [Sk.tok] at hk
    obtain ⟨fs, h1, h2⟩ := hk
    cases fuel with
    | zero => simp [DataW.trod] at h
    | succ fuel =>
      simp only [DataW.trod, h1] at h
      split at h
      · cases hm : fs.toList.mapM fun f => DataW.trod enc P w 0 spare held fuel f.type ((cs.drop f.offset).take (P.cellsOf f.type)) with
        | none => rw [hm] at h; simp at h
        | some r =>
          obtain ⟨r, g1, g2⟩ := Sk.openL l fs.toList 0 h2 fuel cs (by simpa [Sk.shape, Shape.size] using hl) fun i f hf => mapM_some hm i f hf
          exact ⟨r, by simpa [Sk.has] using g1, by simp only [LfAt]; exact g2⟩
      · cases h
theorem Sk.openL : ∀ (l : List Sk) (fs : List Field) (o : Nat), Sk.tokL P l fs o → ∀ (fuel : Nat) (cs : List Value), cs.length = o + Shape.sizeL (Sk.shapeL l) →
    (∀ (i : Nat) f, fs[i]? = some f → ∃ b, DataW.trod enc P w 0 spare held fuel f.type ((cs.drop f.offset).take (P.cellsOf f.type)) = some b) →
    ∃ r, Sk.hasL l o r ∧ LfAtL ⟨[], []⟩ w l (fun j => cs[j]?) o r
  | [], fs, o, hk, fuel, cs, hl, h => ⟨fun _ => .z 0, trivial, trivial⟩
  | s :: l, fs, o, hk, fuel, cs, hl, h => by
    simp only [Sk.tokL] at hk
    cases fs with
    | nil => exact hk.elim
    | cons f fs =>
      simp only [Sk.shapeL, Shape.sizeL] at hl
      obtain ⟨k1, k2, k3, k4⟩ := hk
      obtain ⟨b, hb⟩ := h 0 f rfl
      rw [k1, k2] at hb
      obtain ⟨r1, g1, g2⟩ := Sk.open s f.type k3 fuel _ b (by simp; omega) hb
      obtain ⟨r2, e1, e2⟩ := Sk.openL l fs (o + s.shape.size) k4 fuel cs (by omega) fun i f' hf => h (i + 1) f' (by simpa using hf)
      have sh1 : s.has o (fun j => r1 (j - o)) := Sk.has_shift s 0 o r1 g1
      have sh2 : LfAt ⟨[], []⟩ w s (fun j => cs[j]?) o (fun j => r1 (j - o)) := LfAt.shift s 0 o _ _ r1 (fun j _ hj => by
        show ((cs.drop o).take s.shape.size)[j]? = cs[o + j]?
        rw [List.getElem?_take_of_lt (by omega), List.getElem?_drop]) g2
      refine ⟨fun j => if j < o + s.shape.size then r1 (j - o) else r2 j, ?_, ?_⟩
      · simp only [Sk.hasL]
        exact ⟨Sk.has_congr s o _ _ (fun j h1 h2 => by rw [if_pos h2]) sh1, Sk.hasL_congr l _ _ _ (fun j h1 h2 => by rw [if_neg (by omega)]) e1⟩
      · simp only [LfAtL]
        exact ⟨LfAt.congr s _ _ o _ _ (fun j h1 h2 => ⟨rfl, by rw [if_pos h2]⟩) sh2, LfAtL.congr l _ _ _ _ _ (fun j h1 h2 => ⟨rfl, by rw [if_neg (by omega)]⟩) e2⟩
end
inductive Tw where
  | bool
  | int (k : IntKind)
  | str
  | arr (n : Nat) (k : IntKind) (e : TypeId)
  | tab (n : Nat) (s : Sk) (e : TypeId)
  | row (s : Sk) (e : TypeId)
  | agg (l : List Tw)
mutual
def Tw.size : Tw → Nat
  | .bool => 1
  | .int _ => 1
  | .str => 1
  | .arr n _ _ => n
  | .tab n s _ => n * s.shape.size
  | .row _ _ => 1
  | .agg l => Tw.sizeL l
def Tw.sizeL : List Tw → Nat
  | [] => 0
  | t :: l => t.size + Tw.sizeL l
end
mutual
def Tw.ok (P : Program) : Tw → TypeId → Prop
  | .bool, t => P.underlying t = some .bool
  | .int k, t => P.underlying t = some (.int k)
  | .str, t => P.underlying t = some .string
  | .arr n k e, t => P.underlying t = some (.array n e) ∧ P.underlying e = some (.int k) ∧ P.cellsOf e = 1
  | .tab n s e, t => P.underlying t = some (.array n e) ∧ P.cellsOf e = s.shape.size ∧ s.tok P e
  | .row s e, t => P.underlying t = some (.slice e) ∧ P.cellsOf e = s.shape.size ∧ 0 < s.shape.size ∧ s.tok P e
  | .agg l, t => ∃ fs, P.underlying t = some (.struct fs) ∧ Tw.okL P l fs.toList 0
def Tw.okL (P : Program) : List Tw → List Field → Nat → Prop
  | [], fs, _ => fs = []
  | t :: l, fs, o => match fs with
    | [] => False
    | f :: fs => f.offset = o ∧ P.cellsOf f.type = t.size ∧ t.ok P f.type ∧ Tw.okL P l fs (o + t.size)
end
mutual
def Tw.has : Tw → EV → Prop
  | .bool, u => ∃ b, u = .bool b
  | .int k, u => ∃ n, u = .int k n ∧ (Lit.int k n).wf = true
  | .str, u => ∃ s : List UInt8, u = .str s ∧ s.length ≤ maxLen
  | .arr n k _, u => ∃ g : Nat → Int, u = .arr k n g ∧ (∀ i, i < n → (Lit.int k (g i)).wf = true) ∧ ∀ i, n ≤ i → g i = 0
  | .tab n s _, u => ∃ g : Nat → Nat → Lf, u = .arrT n s g ∧ ∀ i, i < n → s.has 0 (g i)
  | .row s _, u => ∃ (n : Nat) (g : Nat → Nat → Lf), u = .rsT n s g ∧ n ≤ maxLen ∧ ∀ i, i < n → s.has 0 (g i)
  | .agg l, u => ∃ us, u = .agg us ∧ Tw.hasL l us
def Tw.hasL : List Tw → List EV → Prop
  | [], us => us = []
  | t :: l, us => ∃ v vs, us = v :: vs ∧ t.has v ∧ Tw.hasL l vs
end
theorem trod_tab {n : Nat} {s : Sk} {e t : TypeId} (h1 : P.underlying t = some (.array n e)) (h2 : P.cellsOf e = s.shape.size) (h3 : s.tok P e) {fuel : Nat} {cs : List Value} {x : DataW H × List MemPlace}
    (hl : cs.length = n * s.shape.size) (h : DataW.trod enc P w 0 spare held fuel t cs = some x) : ∃ g : Nat → Nat → Lf, (∀ i, i < n → s.has 0 (g i)) ∧ ∀ i, i < n → LfAt ⟨[], []⟩ w s (fun j => cs[i * s.shape.size + j]?) 0 (g i) := by
  cases fuel with
  | zero => simp [DataW.trod] at h
  | succ fuel =>
    simp only [DataW.trod, h1] at h
    split at h
    · rename_i hc
      cases hm : (List.range n).mapM fun i => DataW.trod enc P w 0 spare held fuel e ((cs.drop (i * P.cellsOf e)).take (P.cellsOf e)) with
      | none => rw [hm] at h; simp at h
      | some r =>
        obtain ⟨g, hg⟩ := pick_rows (n := n) (p := fun i r => s.has 0 r ∧ LfAt ⟨[], []⟩ w s (fun j => cs[i * s.shape.size + j]?) 0 r) fun i hi => by
          obtain ⟨y, hy⟩ := mapM_some hm i i (by simp [hi])
          rw [h2] at hy
          have hle : (i + 1) * s.shape.size ≤ n * s.shape.size := Nat.mul_le_mul_right _ hi
          rw [Nat.succ_mul] at hle
          obtain ⟨r, r1, r2⟩ := Sk.open s e h3 fuel _ y (by simp; omega) hy
          exact ⟨r, r1, LfAt.congr s _ _ 0 r r (fun j _ hj => ⟨by rw [List.getElem?_take_of_lt (by omega), List.getElem?_drop], rfl⟩) r2⟩
        exact ⟨g, fun i hi => (hg i hi).1, fun i hi => (hg i hi).2⟩
    · cases h
mutual
theorem Tw.open : ∀ (tm : Tw) (t : TypeId), tm.ok P t → ∀ (fuel : Nat) (cs : List Value) (x : DataW H × List MemPlace), cs.length = tm.size → DataW.trod enc P w 0 spare held fuel t cs = some x →
    ∃ u, tm.has u ∧ ∃ y : Value, y.cells.toList = cs ∧ Rel ⟨[], []⟩ w u y
  | .bool, t, hk, fuel, cs, x, hl, h => by
    obtain ⟨u, h1, y, h2, h3⟩ := Tm.open .bool t hk fuel cs x hl h
    exact ⟨u, h1, y, h2, h3 _ _⟩
  | .int k, t, hk, fuel, cs, x, hl, h => by
    obtain ⟨u, h1, y, h2, h3⟩ := Tm.open (.int k) t hk fuel cs x hl h
    exact ⟨u, h1, y, h2, h3 _ _⟩
  | .str, t, hk, fuel, cs, x, hl, h => by
    obtain ⟨u, h1, y, h2, h3⟩ := Tm.open .str t hk fuel cs x hl h
    exact ⟨u, h1, y, h2, h3 _ _⟩
  | .arr n k e, t, hk, fuel, cs, x, hl, h => by
    obtain ⟨u, h1, y, h2, h3⟩ := Tm.open (.arr n k e) t hk fuel cs x hl h
    exact ⟨u, h1, y, h2, h3 _ _⟩
  | .tab n s e, t, hk, fuel, cs, x, hl, h => by
    simp only [Tw.ok] at hk
    simp only [Tw.size] at hl
    obtain ⟨g, h1, h2⟩ := trod_tab hk.1 hk.2.1 hk.2.2 hl h
    refine ⟨.arrT n s g, ⟨g, rfl, h1⟩, .agg cs.toArray, rfl, ?_⟩
    simp only [Rel]
    exact ⟨_, rfl, by simpa using hl, fun i hi => by simpa using h2 i hi⟩
  | .row s e, t, hk, fuel, cs, x, hl, h => by
    simp only [Tw.ok] at hk
    obtain ⟨v, rfl⟩ := one_cell (by simpa [Tw.size] using hl)
    obtain ⟨a, n, c, g, rfl, k1, k2, k3, k4⟩ := open_sl (fun fuel cs x hl h => Sk.open s e hk.2.2.2 fuel cs x hl h) hk.1 hk.2.1 hk.2.2.1 h
    refine ⟨.rsT n s g, ⟨n, g, rfl, Nat.le_trans k1 k2, k3⟩, .slice a n c, rfl, ?_⟩
    simp only [Rel]
    exact ⟨a, c, rfl, k1, k4⟩
  | .agg l, t, hk, fuel, cs, x, hl, h => by
    simp only [Tw.ok] at hk
    obtain ⟨fs, h1, h2⟩ := hk
    cases fuel with
    | zero => simp [DataW.trod] at h
    | succ fuel =>
      simp only [DataW.trod, h1] at h
      split at h
      · cases hm : fs.toList.mapM fun f => DataW.trod enc P w 0 spare held fuel f.type ((cs.drop f.offset).take (P.cellsOf f.type)) with
        | none => rw [hm] at h; simp at h
        | some r =>
          obtain ⟨us, g1, g2⟩ := Tw.openL l fs.toList 0 h2 fuel cs (by simpa [Tw.size] using hl) fun i f hf => mapM_some hm i f hf
          refine ⟨.agg us, ⟨us, rfl, g1⟩, .agg cs.toArray, rfl, ?_⟩
          simp only [Rel]
          exact ⟨cs.toArray, rfl, by simpa using g2⟩
      · cases h
theorem Tw.openL : ∀ (l : List Tw) (fs : List Field) (o : Nat), Tw.okL P l fs o → ∀ (fuel : Nat) (cs : List Value), cs.length = o + Tw.sizeL l →
    (∀ (i : Nat) f, fs[i]? = some f → ∃ b, DataW.trod enc P w 0 spare held fuel f.type ((cs.drop f.offset).take (P.cellsOf f.type)) = some b) →
    ∃ us, Tw.hasL l us ∧ RelF ⟨[], []⟩ w us (cs.drop o)
  | [], fs, o, hk, fuel, cs, hl, h => by
    refine ⟨[], rfl, ?_⟩
    simp only [RelF]
    exact List.drop_eq_nil_of_le (by simp [Tw.sizeL] at hl; omega)
  | tm :: l, fs, o, hk, fuel, cs, hl, h => by
    simp only [Tw.okL] at hk
    cases fs with
    | nil => exact hk.elim
    | cons f fs =>
      simp only [Tw.sizeL] at hl
      obtain ⟨k1, k2, k3, k4⟩ := hk
      obtain ⟨b, hb⟩ := h 0 f rfl
      rw [k1, k2] at hb
      obtain ⟨u, g1, y, g2, g3⟩ := Tw.open tm f.type k3 fuel _ b (by simp; omega) hb
      obtain ⟨us, e1, e2⟩ := Tw.openL l fs (o + tm.size) k4 fuel cs (by omega) fun i f' hf => h (i + 1) f' (by simpa using hf)
      refine ⟨u :: us, ⟨u, us, rfl, g1, e1⟩, ?_⟩
      simp only [RelF]
      refine ⟨y, cs.drop (o + tm.size), ?_, g3, e2⟩
      rw [g2, ← List.drop_drop]
      exact (List.take_append_drop _ _).symm
end
theorem open_rows {t e : TypeId} {s : Sk} {v : Value} {d : DataW H} {ps : List MemPlace} (hk : (Tw.row s e).ok P t) (h1 : v.cells.toList.length = 1) (hv : ∀ cs, v ≠ .agg cs) (hd : DataW.Trod enc P w 0 spare held t v d ps) :
    ∃ u, (Tw.row s e).has u ∧ Rel ⟨[], []⟩ w u v := by
  obtain ⟨fuel, hf⟩ := hd
  obtain ⟨u, h1, y, h2, h3⟩ := Tw.open (.row s e) t hk fuel _ _ h1 hf
  refine ⟨u, h1, ?_⟩
  have h1' := h1
  simp only [Tw.has] at h1'
  obtain ⟨n, g, rfl, _⟩ := h1'
  have h3' := h3
  simp only [Rel] at h3'
  obtain ⟨a, c, rfl, _⟩ := h3'
  have : v = .slice a n c := by
    cases v <;> simp_all [Value.cells]
  rw [this]; exact h3
end
end Go.Ev

/- What is handed over to a law, opened: how long the slices in it can be, by what a machine's memory holds. -/
set_option linter.unusedVariables false
set_option linter.unusedSimpArgs false
namespace Go.Ev
open Go Go.Joins
mutual
def Sk.atl (P : Program) (B : Nat) : Sk → TypeId → Prop
  | .int k, t => P.underlying t = some (.int k)
  | .bool, t => P.underlying t = some .bool
  | .sl s, t => ∃ e, P.underlying t = some (.slice e) ∧ P.cellsOf e = s.shape.size ∧ 0 < s.shape.size ∧ B ≤ P.bytesOf e ∧ s.atl P B e
  | .agg l, t => ∃ fs, P.underlying t = some (.struct fs) ∧ Sk.atlL P B l fs.toList 0
def Sk.atlL (P : Program) (B : Nat) : List Sk → List Field → Nat → Prop
  | [], fs, _ => fs = []
  | s :: l, fs, o => match fs with
    | [] => False
    | f :: fs => f.offset = o ∧ P.cellsOf f.type = s.shape.size ∧ s.atl P B f.type ∧ Sk.atlL P B l fs (o + s.shape.size)
end
mutual
def Sk.lim (B : Nat) : Sk → Nat → (Nat → Lf) → Prop
  | .int _, _, _ => True
  | .bool, _, _ => True
  | .sl s, c, r => (r c).len * B ≤ reachBytes ∧ ∀ i, i < (r c).len → s.lim B 0 ((r c).row i)
  | .agg l, c, r => Sk.limL B l c r
def Sk.limL (B : Nat) : List Sk → Nat → (Nat → Lf) → Prop
  | [], _, _ => True
  | s :: l, c, r => s.lim B c r ∧ Sk.limL B l (c + s.shape.size) r
end
theorem mapM_get {α β : Type} {f : α → Option β} : ∀ {l : List α} {r : List β}, l.mapM f = some r → r.length = l.length ∧ ∀ (i : Nat) (a : α), l[i]? = some a → ∃ b, f a = some b ∧ r[i]? = some b
  | [], r, h => by simp at h; subst h; exact ⟨rfl, fun i a ha => by simp at ha⟩
  | x :: l, r, h => by
    rw [List.mapM_cons] at h
    cases hx : f x with
    | none => simp [hx] at h
    | some y =>
      cases hl : l.mapM f with
      | none => simp [hx, hl] at h
      | some ys =>
        simp [hx, hl] at h
        subst h
        obtain ⟨h1, h2⟩ := mapM_get hl
        refine ⟨by simp [h1], fun i a ha => ?_⟩
        cases i with
        | zero => simp at ha; subst ha; exact ⟨y, hx, rfl⟩
        | succ i => exact h2 i a (by simpa using ha)
theorem weights_mem_all {H : Type} {P : Program} {e : TypeId} : ∀ {ds : List (DataW H)} {j : Nat} {d : DataW H}, ds[j]? = some d → ∀ n ∈ d.weights P e, n ∈ DataW.weightsAll P e ds
  | d0 :: ds, 0, d, hd, n, hn => by
    simp only [List.getElem?_cons_zero, Option.some.injEq] at hd
    subst hd
    simp only [DataW.weightsAll, List.mem_append]
    exact Or.inl hn
  | d0 :: ds, j + 1, d, hd, n, hn => by
    simp only [List.getElem?_cons_succ] at hd
    simp only [DataW.weightsAll, List.mem_append]
    exact Or.inr (weights_mem_all hd n hn)
  | [], _, _, hd, _, _ => by simp at hd
section
variable {H : Type} {enc : TypeId × Value → H} {P : Program} {w : World} {spare : Nat → Bool} {held : Bool} {ρ : Ren} {B : Nat}
theorem lim_sl {s : Sk} {t e : TypeId} (ih : ∀ (fuel : Nat) (cs : List Value) (x : DataW H × List MemPlace) (cv : Nat → Option Value) (c : Nat) (r : Nat → Lf), cs.length = s.shape.size → DataW.trod enc P w 0 spare held fuel e cs = some x → LfAt ρ w s cv c r →
      (∀ j, j < s.shape.size → cv (c + j) = cs[j]?) → (∀ n ∈ x.1.weights P e, n ≤ reachBytes) → s.lim B c r)
    (h1 : P.underlying t = some (.slice e)) (h2 : P.cellsOf e = s.shape.size) (h3 : 0 < s.shape.size) (hB : B ≤ P.bytesOf e) {fuel : Nat} {a : Option Addr} {n cp : Nat} {g : Nat → Nat → Lf} {x : DataW H × List MemPlace} (h : DataW.trod enc P w 0 spare held fuel t [.slice a n cp] = some x)
    (hr : n = 0 ∨ ∃ b o, a = some ⟨b, o, none⟩ ∧ b < w.heap.size ∧ b ∉ ρ.mbs ∧ ∀ i, i < n → LfAt ρ w s (fun j => w.cell? ⟨b, o + i * s.shape.size + j, none⟩) 0 (g i)) (hw : ∀ m ∈ x.1.weights P t, m ≤ reachBytes) :
    n * B ≤ reachBytes ∧ ∀ i, i < n → s.lim B 0 (g i) := by
  by_cases h0 : n = 0
  · subst h0
    exact ⟨by simp, fun i hi => absurd hi (by omega)⟩
  · obtain ⟨b, o, rfl, hb, hm, hrow⟩ := hr.resolve_left h0
    cases fuel with
    | zero => simp [DataW.trod] at h
    | succ fuel =>
      simp only [DataW.trod, h1] at h
      split at h
      · rename_i hc
        cases hm : (List.range n).mapM fun i => (w.cells? 0 ((⟨b, o, none⟩ : Addr).add (i * P.cellsOf e)) (P.cellsOf e)).bind (DataW.trod enc P w 0 spare held fuel e) with
        | none => rw [hm] at h; simp at h
        | some r =>
          rw [hm] at h
          simp only [Option.bind_some, Option.map_eq_some_iff] at h
          obtain ⟨rest, -, rfl⟩ := h
          obtain ⟨l1, l2⟩ := mapM_get hm
          simp only [List.length_range] at l1
          have hwt : ∀ m ∈ ((r.map (·.1)).length + (rest.map (·.1)).length) * P.bytesOf e :: (DataW.weightsAll P e (r.map (·.1)) ++ DataW.weightsAll P e (rest.map (·.1))), m ≤ reachBytes := fun m hm => hw m (by simp only [DataW.weights, h1]; exact hm)
          constructor
          · have h4 := hwt _ (List.mem_cons_self ..)
            simp only [List.length_map, l1] at h4
            refine Nat.le_trans ?_ h4
            exact Nat.mul_le_mul (by omega) hB
          · intro i hi
            obtain ⟨y, hy, hyr⟩ := l2 i i (by simp [hi])
            rw [h2] at hy
            cases hq : w.cells? 0 ((⟨b, o, none⟩ : Addr).add (i * s.shape.size)) s.shape.size with
            | none => rw [hq] at hy; simp at hy
            | some ci =>
              rw [hq] at hy
              obtain ⟨k1, _, _, k4⟩ := cells_get h3 hq
              refine ih fuel ci y _ 0 (g i) k1 hy (hrow i hi) (fun j hj => by rw [Nat.zero_add]; exact k4 j hj rfl) fun m hm => hwt m ?_
              exact List.mem_cons_of_mem _ (List.mem_append_left _ (weights_mem_all (j := i) (by rw [List.getElem?_map, hyr]; rfl) m hm))
      · simp at h
mutual
theorem Sk.limW : ∀ (s : Sk) (t : TypeId), s.atl P B t → ∀ (fuel : Nat) (cs : List Value) (x : DataW H × List MemPlace) (cv : Nat → Option Value) (c : Nat) (r : Nat → Lf), cs.length = s.shape.size → DataW.trod enc P w 0 spare held fuel t cs = some x →
    LfAt ρ w s cv c r → (∀ j, j < s.shape.size → cv (c + j) = cs[j]?) → (∀ n ∈ x.1.weights P t, n ≤ reachBytes) → s.lim B c r
  | .bool, t, hk, fuel, cs, x, cv, c, r, hl, h, hr, hcv, hw => trivial
  | .int k, t, hk, fuel, cs, x, cv, c, r, hl, h, hr, hcv, hw => trivial
  | .sl s, t, hk, fuel, cs, x, cv, c, r, hl, h, hr, hcv, hw => by
    simp only [Sk.atl] at hk
    obtain ⟨e, h1, h2, h3, hB, h4⟩ := hk
    obtain ⟨v, rfl⟩ := one_cell (by simpa [Sk.shape, Shape.size] using hl)
    simp only [LfAt] at hr
    obtain ⟨a, cp, e1, e2, e3⟩ := hr
    have e4 := hcv 0 (by simp [Sk.shape, Shape.size])
    rw [Nat.add_zero, e1] at e4
    obtain rfl : Value.slice a (r c).len cp = v := by simpa using e4
    simp only [Sk.lim]
    exact lim_sl (fun fuel cs x cv c r hl h hr hcv hw => Sk.limW s e h4 fuel cs x cv c r hl h hr hcv hw) h1 h2 h3 hB h e3 hw
  | .agg l, t, hk, fuel, cs, x, cv, c, r, hl, h, hr, hcv, hw => by
    simp only [Sk.atl] at hk
    obtain ⟨fs, h1, h2⟩ := hk
    simp only [LfAt] at hr
    simp only [Sk.shape, Shape.size] at hl hcv
    simp only [Sk.lim]
    cases fuel with
    | zero => simp [DataW.trod] at h
    | succ fuel =>
      simp only [DataW.trod, h1] at h
      split at h
      · cases hm : fs.toList.mapM fun f => DataW.trod enc P w 0 spare held fuel f.type ((cs.drop f.offset).take (P.cellsOf f.type)) with
        | none => rw [hm] at h; simp at h
        | some xs =>
          rw [hm] at h
          simp only [Option.map_some, Option.some.injEq] at h
          subst h
          obtain ⟨l1, l2⟩ := mapM_get hm
          have hwt : ∀ m ∈ DataW.weightsEach P (fs.toList.map (·.type)) (xs.map (·.1)), m ≤ reachBytes := fun m hm => hw m (by simp only [DataW.weights, h1]; exact hm)
          refine Sk.limWL l fs.toList 0 h2 fuel cs cv c r (by rw [hl, Nat.zero_add]) hr (fun j _ hj => hcv j (by simpa using hj)) fun i f hf => ?_
          obtain ⟨y, hy, hyr⟩ := l2 i f hf
          exact ⟨y, hy, fun m hm => hwt m (DataW.weights_mem_each (j := i) (t := f.type) (d := y.1) (by rw [List.getElem?_map, hf]; rfl) (by rw [List.getElem?_map, hyr]; rfl) m hm)⟩
      · cases h
theorem Sk.limWL : ∀ (l : List Sk) (fs : List Field) (o : Nat), Sk.atlL P B l fs o → ∀ (fuel : Nat) (cs : List Value) (cv : Nat → Option Value) (c : Nat) (r : Nat → Lf), cs.length = o + Shape.sizeL (Sk.shapeL l) →
    LfAtL ρ w l cv (c + o) r → (∀ j, o ≤ j → j < o + Shape.sizeL (Sk.shapeL l) → cv (c + j) = cs[j]?) →
    (∀ (i : Nat) f, fs[i]? = some f → ∃ y, DataW.trod enc P w 0 spare held fuel f.type ((cs.drop f.offset).take (P.cellsOf f.type)) = some y ∧ ∀ m ∈ y.1.weights P f.type, m ≤ reachBytes) →
    Sk.limL B l (c + o) r
  | [], fs, o, hk, fuel, cs, cv, c, r, hl, hr, hcv, h => trivial
  | s :: l, fs, o, hk, fuel, cs, cv, c, r, hl, hr, hcv, h => by
    simp only [Sk.atlL] at hk
    cases fs with
    | nil => exact hk.elim
    | cons f fs =>
      simp only [Sk.shapeL, Shape.sizeL] at hl hcv
      obtain ⟨k1, k2, k3, k4⟩ := hk
      obtain ⟨y, hy, hyw⟩ := h 0 f rfl
      rw [k1, k2] at hy
      simp only [LfAtL] at hr
      simp only [Sk.limL]
      constructor
      · refine Sk.limW s f.type k3 fuel _ y cv (c + o) r (by simp; omega) hy hr.1 (fun j hj => ?_) hyw
        rw [List.getElem?_take_of_lt (by omega), List.getElem?_drop, Nat.add_assoc]
        exact hcv (o + j) (by omega) (by omega)
      · have h5 := Sk.limWL l fs (o + s.shape.size) k4 fuel cs cv c r (by omega) (by rw [← Nat.add_assoc]; exact hr.2) (fun j h1 h2 => hcv j (by omega) (by omega)) fun i f' hf => h (i + 1) f' (by simpa using hf)
        rw [← Nat.add_assoc] at h5; exact h5
end
theorem open_rows_lim {r : Reach} {b0 : Nat} {t e : TypeId} {s : Sk} {v : Value} {d : DataW H} {ps : List MemPlace} (hk : (Tw.row s e).ok P t) (hk2 : (Sk.sl s).atl P B t) (hval : Value.okWide P w r b0 t v) (hd : DataW.Trod enc P w 0 spare held t v d ps) (hw : ∀ n ∈ d.weights P t, n ≤ reachBytes) :
    ∃ (n : Nat) (g : Nat → Nat → Lf), Rel ⟨[], []⟩ w (.rsT n s g) v ∧ (n * B ≤ reachBytes ∧ ∀ i, i < n → s.lim B 0 (g i)) ∧ ∀ i, i < n → s.has 0 (g i) := by
  have hv : ∃ a n c, v = .slice a n c := by
    unfold Value.okWide at hval
    have hk' := hk
    simp only [Tw.ok] at hk'
    rw [hk'.1] at hval
    cases v <;> simp [Cell.okWide, Cell.ok, hk'.1] at hval
    exact ⟨_, _, _, rfl⟩
  obtain ⟨a, n, c, rfl⟩ := hv
  obtain ⟨u, h1, h2⟩ := open_rows hk rfl (fun cs h => by cases h) hd
  simp only [Tw.has] at h1
  obtain ⟨n', g, rfl, h3, h4⟩ := h1
  refine ⟨n', g, h2, ?_, h4⟩
  simp only [Rel] at h2
  obtain ⟨a', c', e1, e2, e3⟩ := h2
  cases e1
  simp only [Sk.atl] at hk2
  obtain ⟨e', q1, q2, q3, q4, q5⟩ := hk2
  obtain ⟨fuel, hf⟩ := hd
  exact lim_sl (fun fuel cs x cv c r hl h hr hcv hw => Sk.limW s e' q5 fuel cs x cv c r hl h hr hcv hw) q1 q2 q3 q4 hf e3 hw
end
end Go.Ev

/- The evaluator: functions, all that is asked of them, and how types and loops are told. -/
set_option linter.unusedVariables false
set_option linter.unusedSimpArgs false
namespace Go.Ev
open Go
abbrev Det3 (T : (Ex → List EV → Heap → Prop) → Prop) : Prop := Det (fun K : Ex × List EV × Heap → Prop => T fun e v h => K (e, v, h))
def loopE (E : Env) (c : Code) (lv : LV) (m N : Nat) (K : Ex → List EV → Heap → Prop) (n : Nat) (vs : List EV) (H : Heap) : Prop :=
  loopV (evCode E c { lv with nx := live (.loop c) lv }) (live (.loop c) lv) lv m N K n vs H
def LoopEq (E : Env) (c : Code) : Prop :=
  ∀ L, E.lp (firstRegion c) = some L → ∀ vs H, (∀ K, ¬ L.spec vs H K) ∨ ∀ K, L.spec vs H K ↔ ∃ n, loopE E c L.lv L.m L.N K n vs H
section
variable {P : Program} {E : Env}
theorem LoopEq.ok {c : Code} (h : LoopEq E c) : LoopOK E c := by
  intro L hL vs H K hs
  rcases h L hL vs H with h1 | h1
  · exact (h1 K hs).elim
  · exact (h1 K).1 hs
theorem det_outK {fg : Bool} {keep m N : Nat} {s : St} {α : Type} (f : List EV → Heap → (α → Prop) → Prop) (hf : ∀ v h, Det (f v h)) : Det (fun K => outK fg keep m N s fun v h => f v h K) := by
  unfold outK outK0 goK
  exact det_gd (det_gd (hf _ _))
theorem det_ex {α : Type} {T : Nat → (α → Prop) → Prop} (h : ∀ n, Det (T n)) : Det (fun K => ∃ n, T n K) := by
  rintro K ⟨n, hn⟩
  obtain ⟨v, h1, h2⟩ := h n K hn
  exact ⟨v, h1, fun K' hk => ⟨n, h2 K' hk⟩⟩
theorem det_loopV {step : St → (Ex → St → Prop) → Prop} (hs : ∀ s, Det2 (step s)) (head : Nat) (lv : LV) (m N : Nat) : ∀ (n : Nat) (vs : List EV) (H : Heap), Det3 (fun K => loopV step head lv m N K n vs H)
  | 0, _, _ => det_false
  | n + 1, vs, H => by
    show Det (fun K : Ex × List EV × Heap → Prop => loopStep step head lv m N (loopV step head lv m N (fun e v h => K (e, v, h)) n) vs H (fun e v h => K (e, v, h)))
    unfold loopStep
    refine det_bind (T := fun K : Ex × St → Prop => step { tmps := expandM head N 0 vs, heap := H } fun e s => K (e, s)) (U := fun (p : Ex × St) (K : Ex × List EV × Heap → Prop) => match p.1 with
      | .normal => outK lv.fg head m N p.2 (loopV step head lv m N (fun e v h => K (e, v, h)) n)
      | .exit id => outK lv.fg (lookL lv.ex id) m N p.2 fun v h => K (.exit id, v, h)
      | .ret => outK lv.fg lv.rt m N p.2 fun v h => K (.ret, v, h)) (hs _).to ?_
    rintro ⟨e, s⟩
    cases e with
    | normal => exact det_outK (fun v h K => loopV step head lv m N (fun e v h => K (e, v, h)) n v h) fun v h => det_loopV hs head lv m N n v h
    | exit id => exact det_outK (fun v h (K : Ex × List EV × Heap → Prop) => K (.exit id, v, h)) fun v h => det_pure _
    | ret => exact det_outK (fun v h (K : Ex × List EV × Heap → Prop) => K (.ret, v, h)) fun v h => det_pure _
theorem evCode_det (hD : DetFn E) : ∀ (c : Code) (hL : ∀ c', c' ∈ loopsOf c → LoopEq E c') (lv : LV) (s : St), Det2 (evCode E c lv s) := by
  intro c
  induction c with
  | skip => intro hL lv s; exact Det2.of (det_pure (Ex.normal, s))
  | region id ops draw =>
    intro hL lv s
    refine Det2.of ?_
    have : Det (fun K : Ex × St → Prop => evOps E ops.toList ops.toList s fun s' => K (.normal, s')) := det_map (fun s' => (Ex.normal, s')) (det_evOps hD _ _)
    exact det_cond (det_map (fun s' => (Ex.normal, s')) (det_evDraw hD)) this
  | seq x y ihx ihy =>
    intro hL lv s
    refine Det2.of ?_
    show Det (fun K : Ex × St → Prop => evCode E x { lv with nx := live y lv } s fun ex s' => match ex with
      | .normal => evCode E y lv s' fun e s => K (e, s)
      | .exit id => K (.exit id, s')
      | .ret => K (.ret, s'))
    refine det_bind (T := fun K : Ex × St → Prop => evCode E x { lv with nx := live y lv } s fun e s => K (e, s)) (U := fun (p : Ex × St) (K : Ex × St → Prop) => match p.1 with
      | .normal => evCode E y lv p.2 fun e s => K (e, s)
      | .exit id => K (.exit id, p.2)
      | .ret => K (.ret, p.2)) (ihx (fun c' hc => hL c' (List.mem_append.2 (.inl hc))) _ _).to ?_
    rintro ⟨e, s'⟩
    cases e with
    | normal => exact (ihy (fun c' hc => hL c' (List.mem_append.2 (.inr hc))) _ _).to
    | exit id => exact det_pure _
    | ret => exact det_pure _
  | cond c x y ihx ihy =>
    intro hL lv s
    refine Det2.of ?_
    unfold evCode
    cases St.opd E s c
    case bool t => exact det_br (ihx (fun c' hc => hL c' (List.mem_append.2 (.inl hc))) _ _).to (ihy (fun c' hc => hL c' (List.mem_append.2 (.inr hc))) _ _).to
    all_goals exact det_false
  | block id c ih =>
    intro hL lv s
    refine Det2.of ?_
    show Det (fun K : Ex × St → Prop => evCode E c { lv with ex := (id, lv.nx) :: lv.ex } s fun ex s' => match ex with
      | .normal => K (.normal, s')
      | .exit id' => cond (Nat.beq id' id) (K (.normal, s')) (K (.exit id', s'))
      | .ret => K (.ret, s'))
    refine det_bind (T := fun K : Ex × St → Prop => evCode E c { lv with ex := (id, lv.nx) :: lv.ex } s fun e s => K (e, s)) (U := fun (p : Ex × St) (K : Ex × St → Prop) => match p.1 with
      | .normal => K (.normal, p.2)
      | .exit id' => cond (Nat.beq id' id) (K (.normal, p.2)) (K (.exit id', p.2))
      | .ret => K (.ret, p.2)) (ih hL _ _).to ?_
    rintro ⟨e, s'⟩
    cases e with
    | normal => exact det_pure _
    | exit id' => exact det_cond (det_pure _) (det_pure _)
    | ret => exact det_pure _
  | loop c ih =>
    intro hL lv s
    refine Det2.of ?_
    have ih' := ih fun c' hc => hL c' (List.mem_cons_of_mem _ hc)
    show Det (fun K : Ex × St → Prop => outK lv.fg (live (.loop c) lv) lv.nl s.tmps.length s fun vs H => match E.un (firstRegion c) with
      | 0 => match E.lp (firstRegion c) with
        | some L => gd (lv.beq L.lv && (Nat.beq lv.nl L.m && Nat.beq s.tmps.length L.N)) (L.spec vs H fun ex vs H => K (ex, { tmps := expandM (maskOf lv ex) s.tmps.length 0 vs, heap := H }))
        | none => ∃ n, loopV (evCode E c { lv with nx := live (.loop c) lv }) (live (.loop c) lv) lv lv.nl s.tmps.length (fun ex vs H => K (ex, { tmps := expandM (maskOf lv ex) s.tmps.length 0 vs, heap := H })) n vs H
      | n + 1 => loopU (evCode E c { lv with nx := live (.loop c) lv }) (live (.loop c) lv) lv lv.nl s.tmps.length (fun ex vs H => K (ex, { tmps := expandM (maskOf lv ex) s.tmps.length 0 vs, heap := H })) (n + 1) vs H)
    refine det_outK (fun vs H (K : Ex × St → Prop) => match E.un (firstRegion c) with
      | 0 => match E.lp (firstRegion c) with
        | some L => gd (lv.beq L.lv && (Nat.beq lv.nl L.m && Nat.beq s.tmps.length L.N)) (L.spec vs H fun ex vs H => K (ex, { tmps := expandM (maskOf lv ex) s.tmps.length 0 vs, heap := H }))
        | none => ∃ n, loopV (evCode E c { lv with nx := live (.loop c) lv }) (live (.loop c) lv) lv lv.nl s.tmps.length (fun ex vs H => K (ex, { tmps := expandM (maskOf lv ex) s.tmps.length 0 vs, heap := H })) n vs H
      | n + 1 => loopU (evCode E c { lv with nx := live (.loop c) lv }) (live (.loop c) lv) lv lv.nl s.tmps.length (fun ex vs H => K (ex, { tmps := expandM (maskOf lv ex) s.tmps.length 0 vs, heap := H })) (n + 1) vs H) ?_
    intro vs H
    have hloop : ∀ (lv' : LV) (m N : Nat) (f : Ex × List EV × Heap → Ex × St), Det (fun K : Ex × St → Prop => ∃ n, loopV (evCode E c { lv' with nx := live (.loop c) lv' }) (live (.loop c) lv') lv' m N (fun ex vs H => K (f (ex, vs, H))) n vs H) := by
      intro lv' m N f
      refine det_ex fun n => ?_
      exact det_map (T := fun K : Ex × List EV × Heap → Prop => loopV (evCode E c { lv' with nx := live (.loop c) lv' }) (live (.loop c) lv') lv' m N (fun e v h => K (e, v, h)) n vs H) f (det_loopV (fun s => ih' _ s) _ _ _ _ n vs H)
    cases E.un (firstRegion c) with
    | succ n =>
      dsimp only
      simp only [loopU_eq]
      exact det_map (T := fun K : Ex × List EV × Heap → Prop => loopV (evCode E c { lv with nx := live (.loop c) lv }) (live (.loop c) lv) lv lv.nl s.tmps.length (fun e v h => K (e, v, h)) (n + 1) vs H) (fun p => (p.1, ({ tmps := expandM (maskOf lv p.1) s.tmps.length 0 p.2.1, heap := p.2.2 } : St))) (det_loopV (fun s => ih' _ s) _ _ _ _ (n + 1) vs H)
    | zero =>
    dsimp only
    cases hl : E.lp (firstRegion c) with
    | some L =>
      refine det_gd ?_
      rcases hL c List.mem_cons_self L hl vs H with h | h
      · intro K hK; exact (h _ hK).elim
      · intro K hK
        obtain ⟨v, h1, h2⟩ := hloop L.lv L.m L.N (fun p => (p.1, { tmps := expandM (maskOf lv p.1) s.tmps.length 0 p.2.1, heap := p.2.2 })) K ((h _).1 hK)
        exact ⟨v, h1, fun K' hk => (h _).2 (h2 K' hk)⟩
    | none => exact hloop lv _ _ fun p => (p.1, { tmps := expandM (maskOf lv p.1) s.tmps.length 0 p.2.1, heap := p.2.2 })
  | exit id => intro hL lv s; exact Det2.of (det_pure (Ex.exit id, s))
  | ret => intro hL lv s; exact Det2.of (det_pure (Ex.ret, s))
  | scope c ih => intro hL lv s; exact ih hL lv s
  | rangeFunc f ps x y _ _ => intro hL lv s; exact Det2.of det_false
  | label l => intro hL lv s; exact Det2.of det_false
  | goto l => intro hL lv s; exact Det2.of det_false
  | refuse l => intro hL lv s; exact Det2.of det_false
theorem det_evResults : ∀ (rs : List ResultVar) (s : St), Det (evResults E rs s)
  | [], s => det_pure []
  | .tmp t :: rs, s => by
    show Det (fun K => evResults E (.tmp t :: rs) s K)
    unfold evResults
    exact det_gd (det_map (fun vs => s.slot t :: vs) (det_evResults rs s))
  | .cell a t :: rs, s => by
    show Det (fun K => evResults E (.cell a t :: rs) s K)
    unfold evResults
    refine det_gd ?_
    exact det_bind (U := fun v (K : List EV → Prop) => evResults E rs s fun vs => K (v :: vs)) det_evLoad fun v => det_map (fun vs => v :: vs) (det_evResults rs s)
theorem det_retK {nl : Nat} {ros : List (Option RK)} {vs : List EV} {H : Heap} : Det2 (retK nl ros vs H) := by
  refine Det2.of ?_
  unfold retK finK
  refine det_gd ?_
  split <;> exact det_pure (_, _)
theorem evFn_det {fn : Func} {own : Bool} {args : List EV} {H : Heap} (hD : DetFn E) (hL : ∀ c, fn.body = some c → ∀ c', c' ∈ loopsOf c → LoopEq E c') : Det2 (evFn E fn own args H) := by
  refine Det2.of ?_
  unfold evFn
  cases hb : fn.body with
  | none => exact det_false
  | some c =>
    dsimp only
    have hR : ∀ s, Det (fun K : EV × Heap → Prop => evResults E fn.results.toList s fun vs => retK H.length (cond own [] (fn.resultTypes.toList.map (roTy E))) vs s.heap fun v h => K (v, h)) := by
      intro s
      exact det_bind (U := fun vs (K : EV × Heap → Prop) => retK H.length (cond own [] (fn.resultTypes.toList.map (roTy E))) vs s.heap fun v h => K (v, h)) (det_evResults _ s) fun vs => det_retK.to
    refine det_bind (T := fun K : Ex × St → Prop => evCode E c _ _ fun e s => K (e, s)) (U := fun (p : Ex × St) (K : EV × Heap → Prop) => match p.1 with
      | .exit _ => False
      | _ => evResults E fn.results.toList p.2 fun vs => retK H.length (cond own [] (fn.resultTypes.toList.map (roTy E))) vs p.2.heap fun v h => K (v, h)) (evCode_det hD c (hL c hb) _ _).to ?_
    rintro ⟨e, s⟩
    cases e with
    | exit id => exact det_false
    | normal => exact hR s
    | ret => exact hR s
end
def look {α : Type} : List (Nat × α) → Nat → Option α
  | [], _ => none
  | (i, t) :: l, j => cond (Nat.beq i j) (some t) (look l j)
def AllL {α : Type} (p : Nat → α → Prop) : List (Nat × α) → Prop
  | [] => True
  | (i, a) :: l => p i a ∧ AllL p l
theorem look_all {α : Type} {p : Nat → α → Prop} : ∀ (l : List (Nat × α)), AllL p l → ∀ i a, look l i = some a → p i a
  | [], _, _, _, h => by cases h
  | (j, b) :: l, hl, i, a, h => by
    simp only [look] at h
    cases hb : Nat.beq j i with
    | true =>
      rw [hb] at h
      simp only [cond_true, Option.some.injEq] at h
      subst h
      exact Nat.eq_of_beq_eq_true hb ▸ hl.1
    | false =>
      rw [hb] at h
      exact look_all l hl.2 i a h
def tdB (P : Program) (t : TypeId) : TypeDesc → TD → Bool
  | .bool, .bool => true
  | .int k, .int k' => decide (k = k')
  | .string, .str => true
  | .pointer _, .ptr => true
  | .slice e, .slice e' => Nat.beq e e'
  | .array n e, .array n' e' => Nat.beq n n' && (Nat.beq e e' && !P.eqGuardType P.depth t)
  | .struct fs, .struct fs' => decide (fs.toList.map (fun f => (f.offset, f.type)) = fs') && (fs.toList.all (fun f => f.name != "_") && (!P.stoodInHeld t && !P.eqGuardType P.depth t))
  | .func _ _ _, .func => true
  | .interface _, .iface => true
  | d, .other => !TypeDescAgg d
  | _, _ => false
theorem tdB_ok {P : Program} {t : TypeId} {d : TypeDesc} {td : TD} (h : tdB P t d td = true) : tdOk P t d td := by
  unfold tdB at h
  split at h
  · trivial
  · have := of_decide_eq_true (p := _ = _) h; exact this
  · trivial
  · trivial
  · exact Nat.eq_of_beq_eq_true h
  · simp only [Bool.and_eq_true, Bool.not_eq_true'] at h
    exact ⟨Nat.eq_of_beq_eq_true h.1, Nat.eq_of_beq_eq_true h.2.1, h.2.2⟩
  · simp only [Bool.and_eq_true, Bool.not_eq_true'] at h
    exact ⟨of_decide_eq_true h.1, h.2.1, h.2.2.1, h.2.2.2⟩
  · trivial
  · trivial
  · simp only [Bool.not_eq_true'] at h
    cases d <;> simp_all [tdOk, TypeDescAgg]
  · cases h
def tiB (P : Program) (t : TypeId) (ti : TI) : Bool :=
  match P.underlying t, P.info? t with
  | some d, some i => tdB P t d ti.td && (Nat.beq i.size ti.size && (Nat.beq i.bytes ti.bytes && i.zero.isSome))
  | _, _ => false
theorem OkTI.of {P : Program} {t : TypeId} {ti : TI} (h : tiB P t ti = true) (h2 : (P.info? t).bind (·.zero) = encV ti.zero) : OkTI P t ti := by
  unfold tiB at h
  split at h
  · rename_i d i hd hi
    simp only [Bool.and_eq_true] at h
    rw [hi] at h2
    simp only [Option.bind_some] at h2
    cases hz : i.zero with
    | none => rw [hz] at h; simp at h
    | some z => exact ⟨d, i, z, hd, hi, tdB_ok h.1, Nat.eq_of_beq_eq_true h.2.1, Nat.eq_of_beq_eq_true h.2.2.1, hz, h2.symm.trans hz⟩
  · cases h
def Entry.pick (c : List EV → Heap → Bool) (a b : Entry) : Entry := ⟨a.ro, a.lend, fun args H K => cond (c args H) (a.spec args H K) (b.spec args H K)⟩
structure SoundE (P : Program) (gl : Nat → Option EV) (f : FuncId) (en : Entry) : Prop where
  sound : SoundF P gl f en
  det : ∀ args H, Det2 (en.spec args H)
  known : ∃ fn, P.funcs[f]? = some fn ∧ fn.body.isNone = false ∧ (fn.name == "runtime.NumGoroutine") = false
theorem SoundE.pick {P : Program} {gl : Nat → Option EV} {f : FuncId} {c : List EV → Heap → Bool} {a b : Entry} (h : SoundE P gl f a) (k : SoundE P gl f b) : SoundE P gl f (Entry.pick c a b) := by
  refine ⟨?_, ?_, h.known⟩
  · intro ρ H w args xs K hs hr hS hG
    have hs' : cond (c args H) (a.spec args H K) (b.spec args H K) := hs
    cases hc : c args H with
    | true => rw [hc] at hs'; exact h.sound ρ H w args xs K hs' hr hS hG
    | false => rw [hc] at hs'; exact k.sound ρ H w args xs K hs' hr hS hG
  · intro args H K hs
    have hs' : cond (c args H) (a.spec args H K) (b.spec args H K) := hs
    show ∃ v u, K v u ∧ ∀ K' : EV → Heap → Prop, K' v u → cond (c args H) (a.spec args H K') (b.spec args H K')
    cases hc : c args H with
    | true => rw [hc] at hs'; exact h.det args H K hs'
    | false => rw [hc] at hs'; exact k.det args H K hs'
def loopsF (fn : Func) : List Code :=
  match fn.body with
  | some c => loopsOf c
  | none => []
def loopAt (fn : Func) (k : Nat) : Code :=
  match (loopsF fn)[k]? with
  | some c => c
  | none => .skip
def AllLoops (E : Env) (fn : Func) : Nat → Nat → Prop
  | _, 0 => True
  | k, n + 1 => LoopEq E (loopAt fn k) ∧ AllLoops E fn (k + 1) n
theorem allLoops_ok {E : Env} {fn : Func} : ∀ (n k : Nat), AllLoops E fn k n → ∀ j, k ≤ j → j < k + n → LoopEq E (loopAt fn j)
  | 0, k, _, j, h1, h2 => by omega
  | n + 1, k, h, j, h1, h2 => by
    by_cases hj : j = k
    · subst hj; exact h.1
    · exact allLoops_ok n (k + 1) h.2 j (by omega) (by omega)
theorem fnOK {P : Program} {E : Env} {f : FuncId} {fn : Func} {en : Entry} {tys : List (Nat × TI)} {fns : List (Nat × Entry)} (hty : E.ty = look tys) (htys : AllL (OkTI P) tys)
    (hfn : E.fn = look fns) (hfns : AllL (SoundE P E.gl) fns) (hm : P.follows .mixedOrders = true) (hf : P.funcs[f]? = some fn) (hb : fn.body.isNone = false) (hn : (fn.name == "runtime.NumGoroutine") = false)
    (n : Nat) (hln : (loopsF fn).length = n) (own : Bool) (hl : AllLoops E fn 0 n) (hS : ∀ args H, (∀ K, ¬ en.spec args H K) ∨ ∀ K, en.spec args H K ↔ evFn E fn own args H K) : SoundE P E.gl f en := by
  have hE : ∀ t ti, E.ty t = some ti → OkTI P t ti := by rw [hty]; exact look_all tys htys
  have hA : ∀ g e, E.fn g = some e → SoundE P E.gl g e := by rw [hfn]; exact look_all fns hfns
  have hFn : OkFn P E := fun g e h => ⟨(hA g e h).sound, (hA g e h).known⟩
  have hD : DetFn E := fun g e h => (hA g e h).det
  have hL : ∀ c, fn.body = some c → ∀ c', c' ∈ loopsOf c → LoopEq E c' := by
    intro c hc c' hc'
    have he : loopsF fn = loopsOf c := by simp [loopsF, hc]
    obtain ⟨k, hk, rfl⟩ := List.mem_iff_getElem.1 hc'
    have : loopAt fn k = (loopsOf c)[k] := by simp [loopAt, he, hk]
    rw [← this]
    exact allLoops_ok n 0 hl k (Nat.zero_le _) (by rw [he] at hln; omega)
  refine ⟨?_, ?_, ⟨fn, hf, hb, hn⟩⟩
  · intro ρ H w args xs K hs hr hS' hG
    rcases hS args H with h | h
    · exact (h K hs).elim
    · exact evFn_sound hE hFn hD hm hf (fun c hc c' hc' => (hL c hc c' hc').ok) ((h K).1 hs) hr hS' hG
  · intro args H K hs
    rcases hS args H with h | h
    · exact (h K hs).elim
    · obtain ⟨v, u, h1, h2⟩ := evFn_det hD hL K ((h K).1 hs)
      exact ⟨v, u, h1, fun K' hk => (h K').2 (h2 K' hk)⟩
theorem law_walk {P : Program} {gl : Nat → Option EV} {f : FuncId} {en : Entry} (h : SoundE P gl f en) {W : World} {args : List EV} {xs : List Value} (hs : en.spec args [] fun v H => gd (Nat.beq H.length 0) (v = .bool true)) (hr : RelL ⟨[], []⟩ W args xs) (hG : GOk gl ⟨[], []⟩ W) :
    Calls P f xs.toArray W fun e w' => e = .returned (.bool true) ∧ RowKit.Below W.heap.size W w' := by
  refine (h.sound.plain hs hr (by simp) hG).mono ?_
  rintro e w' ⟨v, x, rfl, rfl, hv, hX⟩
  simp only [Rel] at hv
  subst hv
  exact ⟨rfl, hX.os, hX.tape, hX.output, hX.size, fun k hk => hX.out k hk (by simp [Ren.own])⟩
end Go.Ev
