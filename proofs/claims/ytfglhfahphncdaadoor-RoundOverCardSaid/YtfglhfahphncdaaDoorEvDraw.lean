/- The evaluator: a region whose order is open. -/
import Derived.Test.YtfglhfahphncdaaDoorEvDet
set_option linter.unusedVariables false
set_option linter.unusedSimpArgs false
namespace Go.Ev
open Go

def tmpsOf : List Operand → List Nat
  | [] => []
  | .tmp t :: l => t :: tmpsOf l
  | _ :: l => tmpsOf l

theorem tmpsOf_mem (t : Nat) : ∀ (l : List Operand), .tmp t ∈ l → t ∈ tmpsOf l
  | x :: l, h => by
    rcases List.mem_cons.1 h with h | h
    · subst h; simp [tmpsOf]
    · have := tmpsOf_mem t l h
      cases x <;> simp [tmpsOf, this]

def guardSlot (ops : List Oper) (o : Oper) : List Nat :=
  match o.guard with
  | none => []
  | some (j, _) => match ops[j]? with
    | some oj => match oj.dst with
      | some d => [d]
      | none => []
    | none => []

def allNone : List (Option IntKind) → Bool
  | [] => true
  | none :: l => allNone l
  | some _ :: _ => false

/-- 0: memory is of no matter; 1: it is read; 2: it may become another; 3: it has more blocks then, and is as it was else. -/
def heapK (E : Env) : Op → Nat
  | .move _ => 0 | .assign _ => 0 | .pick _ _ _ => 0 | .build _ _ => 0 | .binOp _ _ _ _ _ => 0 | .unOp _ _ _ => 0 | .field _ _ _ => 0
  | .index _ _ _ => 0 | .extract _ _ => 0
  | .alloc _ => 3 | .box _ _ => 3 | .buildSlice _ _ _ => 3 | .makeSlice _ _ _ => 3
  | .slice _ _ _ _ _ => 1 | .load _ _ => 1 | .convert _ _ _ => 1 | .fieldAddr _ _ _ => 1 | .indexAddr _ _ _ => 1
  | .call { callee := .value (.func f), args := _, argTypes := _ } => match E.fn f with
    | some en => cond (allNone en.ro && !en.lend) 0 2
    | none => 2
  | _ => 2

def noMem (d : Option Nat) (l : List Nat) : Bool :=
  match d with
  | some d => !memN d l
  | none => true
def neO : Option Nat → Option Nat → Bool
  | some a, some b => !Nat.beq a b
  | _, _ => true
def heapOk (a b : Nat) : Bool := Nat.beq a 0 || (Nat.beq b 0 || ((Nat.ble a 1 && Nat.ble b 1) || (Nat.beq a 1 && Nat.beq b 3)))

def indep (E : Env) (ops : List Oper) (p o : Oper) : Bool :=
  (noMem p.dst (tmpsOf o.op.operands.toList) && noMem p.dst (guardSlot ops o)) && ((noMem o.dst (tmpsOf p.op.operands.toList) && noMem o.dst (guardSlot ops p)) && (neO p.dst o.dst && heapOk (heapK E p.op) (heapK E o.op)))

def bindsOn (j : Nat) : List Edge → Bool
  | [] => false
  | e :: l => (Region.binds .any e && Nat.beq e.on j) || bindsOn j l
def edgesBelow (i : Nat) : List Edge → Bool
  | [] => true
  | e :: l => (!Region.binds .any e || Nat.blt e.on i) && edgesBelow i l
/-- The operations ahead of one: it comes after them, or they do not touch. -/
def okAll (E : Env) (ops : List Oper) (o : Oper) : Nat → List Oper → Bool
  | _, [] => true
  | j, p :: l => (bindsOn j o.after.toList || indep E ops p o) && okAll E ops o (j + 1) l
def okFrom (E : Env) (ops : List Oper) : Nat → List Oper → Bool
  | _, [] => true
  | i, o :: l => (edgesBelow i o.after.toList && okAll E ops o 0 (ops.take i)) && okFrom E ops (i + 1) l

/-- May the operations of a region come in any order? -/
def commB (E : Env) (ops : List Oper) : Bool := okFrom E ops 0 ops

section swap
variable {E : Env}

def Out (E : Env) (o : Op) (s : St) (v : EV) (H : Heap) : Prop := ∀ K : EV → Heap → Prop, K v H → evOp E o s K

theorem killArgs_free : ∀ (l : List EV) (H : Heap), EV.freeL l = true → killArgs l H = H
  | [], _, _ => rfl
  | v :: l, H, h => by
    simp only [EV.freeL, Bool.and_eq_true] at h
    cases v <;> simp only [killArgs] <;> first | exact killArgs_free l H h.2 | (simp [EV.free] at h)

theorem roArgs_none (H : Heap) : ∀ (ms : List (Option IntKind)) (vs : List EV), allNone ms = true → roArgs H ms vs = vs
  | [], vs, _ => by cases vs <;> rfl
  | none :: ms, [], _ => rfl
  | none :: ms, v :: vs, h => by
    simp only [allNone] at h
    rw [roArgs, roArgs_none H ms vs h]
    rfl
  | some _ :: _, _, h => by simp [allNone] at h

theorem map_opd {α : Type} {s s' : St} (f : α → Operand) : ∀ (l : List α), (∀ x ∈ l, (St.opd E s) (f x) = (St.opd E s') (f x)) → l.map (fun x => (St.opd E s) (f x)) = l.map (fun x => (St.opd E s') (f x)) :=
  fun l h => List.map_congr_left h

theorem evV_loc {o : Op} {s s' : St} (h : ∀ x ∈ o.operands.toList, (St.opd E s) x = (St.opd E s') x) (hh : heapK E o = 0 ∨ s.heap = s'.heap) : evV E o s = evV E o s' := by
  funext K
  unfold evV
  split
  case h_1 x => rw [h x (by simp [Op.operands])]
  case h_2 x => rw [h x (by simp [Op.operands])]
  case h_3 c a b => rw [h c (by simp [Op.operands]), h a (by simp [Op.operands]), h b (by simp [Op.operands])]
  case h_4 t ps =>
    have e1 : (ps.toList.map fun p => (St.opd E s) p.2) = ps.toList.map fun p => (St.opd E s') p.2 := List.map_congr_left fun p hp => h p.2 (by simp only [Op.operands]; exact List.mem_map.2 ⟨p, hp, rfl⟩)
    have e2 : (ps.toList.map fun p => (p.1, (St.opd E s) p.2)) = ps.toList.map fun p => (p.1, (St.opd E s') p.2) := List.map_congr_left fun p hp => by rw [h p.2 (by simp only [Op.operands]; exact List.mem_map.2 ⟨p, hp, rfl⟩)]
    rw [e1, e2]
  case h_5 t a =>
    rcases hh with hh | hh
    · simp [heapK] at hh
    · rw [h a (by simp [Op.operands]), hh]
  case h_6 op t x y u => rw [h x (by simp [Op.operands]), h y (by simp [Op.operands])]
  case h_7 op u x => rw [h x (by simp [Op.operands])]
  case h_8 src dst x =>
    rcases hh with hh | hh
    · simp [heapK] at hh
    · rw [h x (by simp [Op.operands]), hh]
  case h_9 t x f =>
    rcases hh with hh | hh
    · simp [heapK] at hh
    · rw [h x (by simp [Op.operands]), hh]
  case h_10 t x f => rw [h x (by simp [Op.operands])]
  case h_11 t x i =>
    rcases hh with hh | hh
    · simp [heapK] at hh
    · rw [h x (by simp [Op.operands]), h i (by simp [Op.operands]), hh]
  case h_12 t x i => rw [h x (by simp [Op.operands]), h i (by simp [Op.operands])]
  case h_13 x i => rw [h x (by simp [Op.operands])]
  case h_14 f cs =>
    have e1 : cs.toList.map (St.opd E s) = cs.toList.map (St.opd E s') := List.map_congr_left fun x hx => h x (by simp [Op.operands]; simpa using hx)
    rw [e1]
  case h_15 t x lo hi mx =>
    rcases hh with hh | hh
    · simp [heapK] at hh
    · have ho : ∀ q : Option Operand, (∀ y, q = some y → y ∈ (#[x] ++ lo.toArray ++ hi.toArray ++ mx.toArray : Array Operand).toList) → q.map (St.opd E s) = q.map (St.opd E s') := by
        intro q hq
        cases q with
        | none => rfl
        | some y => simp only [Option.map_some, h y (hq y rfl)]
      rw [h x (by simp [Op.operands]), ho lo (by intro y hy; subst hy; simp), ho hi (by intro y hy; subst hy; simp), ho mx (by intro y hy; subst hy; simp), hh]
  case h_16 x t => rw [h x (by simp [Op.operands, Call.operands])]
  case h_17 xs ts =>
    have e1 : xs.toList.map (St.opd E s) = xs.toList.map (St.opd E s') := List.map_congr_left fun x hx => h x (by simp [Op.operands, Call.operands]; simpa using hx)
    rw [e1]
  case h_18 xs ts =>
    have e1 : xs.toList.map (St.opd E s) = xs.toList.map (St.opd E s') := List.map_congr_left fun x hx => h x (by simp [Op.operands, Call.operands]; simpa using hx)
    rw [e1]
  case h_19 => rfl

/-- What an operation comes to: of its operands, and of memory. -/
theorem evOp_loc {o : Op} {s s' : St} (h : ∀ x ∈ o.operands.toList, (St.opd E s) x = (St.opd E s') x) (hh : s.heap = s'.heap) : evOp E o s = evOp E o s' := by
  funext K
  unfold evOp
  split
  · rw [hh]
  · rename_i t x
    rw [h x (by simp [Op.operands]), hh]
  · rename_i t n ps
    have e1 : (ps.toList.map fun p => (St.opd E s) p.2) = ps.toList.map fun p => (St.opd E s') p.2 := List.map_congr_left fun p hp => h p.2 (by simp only [Op.operands]; exact List.mem_map.2 ⟨p, hp, rfl⟩)
    have e2 : (ps.toList.map fun p => (p.1, (St.opd E s) p.2)) = ps.toList.map fun p => (p.1, (St.opd E s') p.2) := List.map_congr_left fun p hp => by rw [h p.2 (by simp only [Op.operands]; exact List.mem_map.2 ⟨p, hp, rfl⟩)]
    rw [e1, e2, hh]
  · rename_i t a x
    rw [h a (by simp [Op.operands]), h x (by simp [Op.operands]), hh]
  · rename_i t ln cp
    rw [h ln (by simp [Op.operands]), h cp (by simp [Op.operands]), hh]
  · rename_i f xs ts
    have e1 : xs.toList.map (St.opd E s) = xs.toList.map (St.opd E s') := List.map_congr_left fun x hx => h x (by simp [Op.operands, Call.operands]; exact .inr (by simpa using hx))
    rw [e1, h f (by simp [Op.operands, Call.operands]), hh]
  · rename_i x y t u
    rw [h x (by simp [Op.operands, Call.operands]), h y (by simp [Op.operands, Call.operands]), hh]
  · rename_i x y t u
    rw [h x (by simp [Op.operands, Call.operands]), h y (by simp [Op.operands, Call.operands]), hh]
  · rw [evV_loc h (.inr hh), hh]

/-- An operation to which memory is of no matter. -/
theorem out_any {o : Op} {s s' : St} {v : EV} {H : Heap} (hD : DetFn E) (h : ∀ x ∈ o.operands.toList, (St.opd E s) x = (St.opd E s') x) (hk : heapK E o = 0) (ho : Out E o s v H) : H = s.heap ∧ Out E o s' v s'.heap := by
  have main : ∀ (T : St → (EV → Prop) → Prop), (∀ K, evOp E o s K = T s fun v => K v s.heap) → (∀ K, evOp E o s' K = T s' fun v => K v s'.heap) → T s = T s' → Det (T s) → H = s.heap ∧ Out E o s' v s'.heap := by
    intro T h1 h2 h3 h4
    have := ho (fun v' H' => v' = v ∧ H' = H) ⟨rfl, rfl⟩
    rw [h1] at this
    obtain ⟨u, ⟨rfl, hH⟩, h6⟩ := h4 _ this
    refine ⟨hH.symm, fun K hK => ?_⟩
    rw [h2, ← h3]
    exact h6 _ hK
  cases o
  case alloc => simp [heapK] at hk
  case box => simp [heapK] at hk
  case buildSlice => simp [heapK] at hk
  case store => simp [heapK] at hk
  case makeSlice => simp [heapK] at hk
  case call c =>
    obtain ⟨cal, xs, ts⟩ := c
    cases cal
    case value f =>
      cases f
      case func f =>
        simp only [heapK] at hk
        cases he : E.fn f with
        | none => simp [he] at hk
        | some en =>
          simp only [he] at hk
          have hn : allNone en.ro = true := by
            cases hq : allNone en.ro with
            | true => rfl
            | false => simp [hq] at hk
          have hnl : en.lend = false := by
            cases hq : en.lend with
            | false => rfl
            | true => simp [hq] at hk
          have e1 : xs.toList.map (St.opd E s) = xs.toList.map (St.opd E s') := List.map_congr_left fun x hx => h x (by simp [Op.operands, Call.operands]; exact .inr (by simpa using hx))
          have key : ∀ (r : St) K, evOp E (.call { callee := .value (.func f), args := xs, argTypes := ts }) r K =
              gd (EV.freeL (xs.toList.map (St.opd E r))) (en.spec (xs.toList.map (St.opd E r)) [] fun v H' => gd (Nat.beq H'.length 0) (K v r.heap)) := by
            intro r K
            simp only [evOp, St.opd, evCall, he, List.append_nil, roArgs_none _ _ _ hn, hnl, cond_false]
            cases hfr : EV.freeL (xs.toList.map (St.opd E r)) with
            | false => rfl
            | true =>
              have : killArgs (xs.toList.map (St.opd E r)) r.heap = r.heap := killArgs_free _ _ hfr
              simp only [this]
              congr 1
              have : (fun (v : EV) (H' : Heap) => gd (Nat.beq H'.length 0) (cond v.noRS (K v r.heap) (K v r.heap))) = fun v H' => gd (Nat.beq H'.length 0) (K v r.heap) := by
                funext v H'
                cases v.noRS <;> rfl
              rw [this]
          exact main (fun r K => gd (EV.freeL (xs.toList.map (St.opd E r))) (en.spec (xs.toList.map (St.opd E r)) [] fun v H' => gd (Nat.beq H'.length 0) (K v))) (key s) (key s') (by funext K; simp only [e1])
            (det_gd (det_bind (T := fun K : EV × Heap → Prop => en.spec _ _ fun v H' => K (v, H')) (U := fun (p : EV × Heap) (K : EV → Prop) => gd (Nat.beq p.2.length 0) (K p.1)) (hD f en he _ _).to fun p => det_gd (det_pure p.1)))
      all_goals simp [heapK] at hk
    all_goals simp [heapK] at hk
  all_goals first
    | exact main (fun r => evV E _ r) (fun _ => rfl) (fun _ => rfl) (evV_loc h (.inl hk)) det_evV
    | (simp [heapK] at hk)

/-- An operation that leaves memory. -/
theorem out_keep {o : Op} {s : St} {v : EV} {H : Heap} (hD : DetFn E) (hk : heapK E o ≤ 1) (ho : Out E o s v H) : H = s.heap := by
  by_cases h0 : heapK E o = 0
  · exact (out_any hD (fun _ _ => rfl) h0 ho).1
  · have main : (∀ K, evOp E o s K = evV E o s fun v => K v s.heap) → H = s.heap := by
      intro h1
      have := ho (fun v' H' => v' = v ∧ H' = H) ⟨rfl, rfl⟩
      rw [h1] at this
      obtain ⟨u, ⟨rfl, hH⟩, h6⟩ := det_evV _ this
      exact hH.symm
    cases o
    case alloc => simp [heapK] at hk
    case box => simp [heapK] at hk
    case buildSlice => simp [heapK] at hk
    case store => simp [heapK] at hk
    case makeSlice => simp [heapK] at hk
    case call c =>
      obtain ⟨cal, xs, ts⟩ := c
      cases cal
      case value f =>
        cases f
        case func f =>
          simp only [heapK] at hk h0
          cases he : E.fn f with
          | none => simp [he] at hk
          | some en =>
            simp only [he] at hk h0
            cases hq : (allNone en.ro && !en.lend) <;> simp [hq] at hk h0
        all_goals simp [heapK] at hk
      all_goals simp [heapK] at hk
    all_goals exact main fun _ => rfl

/-- More blocks, and all as it was. -/
def More (H H' : Heap) : Prop := ∀ (b : Nat) c, H[b]? = some (some c) → H'[b]? = some (some c)
theorem More.append (H t : Heap) : More H (H ++ t) := by
  intro b c h
  have hlt : b < H.length := by
    rcases Nat.lt_or_ge b H.length with hh | hh
    · exact hh
    · rw [List.getElem?_eq_none hh] at h; cases h
  rw [List.getElem?_append_left hlt]; exact h

theorem evLoad_more {t : TypeId} {v : EV} {H H' : Heap} {K : EV → Prop} (hm : More H H') (h : evLoad E t v H K) : evLoad E t v H' K := by
  cases v <;> simp only [evLoad] at h ⊢ <;> try exact h
  split at h
  · rename_i c hb
    rw [hm _ _ hb]; exact h
  · exact h.elim

theorem evWin_more {x : EV} {H H' : Heap} (hm : More H H') {r : IntKind × Nat × (Nat → Int)} (h : evWin H x = some r) : evWin H' x = some r := by
  cases x <;> simp only [evWin] at h ⊢ <;> try exact h
  split at h
  · rename_i k g hb
    rw [hm _ _ hb]; exact h
  · cases h

theorem evConv_more {src dst : TypeId} {x : EV} {H H' : Heap} {K : EV → Prop} (hm : More H H') (h : evConv E src dst x H K) : evConv E src dst x H' K := by
  unfold evConv at h ⊢
  split at h
  case h_2 => exact h.elim
  rename_i si di hs hd
  split at h
  · exact h
  · exact h
  · rename_i htd
    split at h
    case h_2 => exact h.elim
    rename_i e he
    rw [cd_iff] at h
    cases hi : isIntTy E e .u8 with
    | false => exact (h.2 hi).elim
    | true =>
      have h' := h.1 hi
      simp only [cond_true]
      split at h'
      · rename_i n g hw
        rw [evWin_more hm hw]; exact h'
      · split at h'
        · exact h'
        · exact h'.elim
  · exact h.elim

theorem evFieldAddr_more {t : TypeId} {x : EV} {f : Nat} {H H' : Heap} {K : EV → Prop} (hm : More H H') (h : evFieldAddr E t x f H K) : evFieldAddr E t x f H' K := by
  unfold evFieldAddr at h ⊢
  split at h
  case h_2 => exact h.elim
  split at h
  case h_2 => exact h.elim
  split at h
  case h_2 => exact h.elim
  split at h
  case h_2 => exact h.elim
  split at h
  · split at h
    · rename_i c hb
      simp_all [hm _ _ hb]
    · exact h.elim
  · simp_all
  · exact h.elim

theorem evIndexAddr_more {t : TypeId} {x i : EV} {H H' : Heap} {K : EV → Prop} (hm : More H H') (h : evIndexAddr E t x i H K) : evIndexAddr E t x i H' K := by
  unfold evIndexAddr at h ⊢
  split at h
  case h_2 => exact h.elim
  split at h
  · split at h
    case h_2 => exact h.elim
    split at h
    · split at h
      · rename_i c hb
        simp_all [hm _ _ hb]
      · exact h.elim
    · exact h
    · exact h.elim
  · split at h
    case h_2 => exact h.elim
    split at h
    · split at h
      · rename_i c hb
        simp_all [hm _ _ hb]
      · exact h.elim
    · simp_all
    · exact h.elim
  · exact h.elim

theorem evSlice_more {t : TypeId} {x : EV} {lo hi mx : Option EV} {H H' : Heap} {K : EV → Prop} (hm : More H H') (h : evSlice E t x lo hi mx H K) : evSlice E t x lo hi mx H' K := by
  unfold evSlice at h ⊢
  split at h
  case h_2 => exact h.elim
  split at h
  · simp_all
  · split at h
    · rename_i c _ _ hb
      simp_all [hm _ _ hb]
    · exact h.elim
  · simp_all
  · simp_all
  · split at h
    · rename_i hb
      simp_all [hm _ _ hb]
    · exact h.elim
  · exact h.elim

/-- What is read is there with more blocks, too. -/
theorem out_more {o : Op} {s s' : St} {v : EV} {H : Heap} (hD : DetFn E) (h : ∀ x ∈ o.operands.toList, (St.opd E s) x = (St.opd E s') x) (hk : heapK E o = 1) (hm : More s.heap s'.heap) (ho : Out E o s v H) : Out E o s' v s'.heap := by
  have hH := out_keep hD (Nat.le_of_eq hk) ho
  subst hH
  have main : (∀ (r : St) K, evOp E o r K = evV E o r fun v => K v r.heap) → (∀ K, evV E o s K → evV E o s' K) → Out E o s' v s'.heap := by
    intro h1 h2 K hK
    rw [h1]
    refine h2 _ ?_
    have := ho (fun v _ => K v s'.heap) hK
    rwa [h1] at this
  cases o <;> simp [heapK] at hk
  case load t a =>
    refine main (fun _ _ => rfl) fun K hK => ?_
    simp only [evV] at hK ⊢
    rw [← h a (by simp [Op.operands])]
    exact evLoad_more hm hK
  case convert src dst x =>
    refine main (fun _ _ => rfl) fun K hK => ?_
    simp only [evV] at hK ⊢
    rw [← h x (by simp [Op.operands])]
    rw [gd_iff] at hK ⊢
    exact ⟨hK.1, evConv_more hm hK.2⟩
  case fieldAddr t x f =>
    refine main (fun _ _ => rfl) fun K hK => ?_
    simp only [evV] at hK ⊢
    rw [← h x (by simp [Op.operands])]
    rw [gd_iff] at hK ⊢
    exact ⟨hK.1, evFieldAddr_more hm hK.2⟩
  case indexAddr t x i =>
    refine main (fun _ _ => rfl) fun K hK => ?_
    simp only [evV] at hK ⊢
    rw [← h x (by simp [Op.operands]), ← h i (by simp [Op.operands])]
    rw [gd_iff] at hK ⊢
    exact ⟨hK.1, evIndexAddr_more hm hK.2⟩
  case slice t x lo hi mx =>
    refine main (fun _ _ => rfl) fun K hK => ?_
    simp only [evV] at hK ⊢
    have ho : ∀ q : Option Operand, (∀ y, q = some y → y ∈ (#[x] ++ lo.toArray ++ hi.toArray ++ mx.toArray : Array Operand).toList) → q.map (St.opd E s) = q.map (St.opd E s') := by
      intro q hq
      cases q with
      | none => rfl
      | some y => simp only [Option.map_some, h y (hq y rfl)]
    rw [← h x (by simp [Op.operands]), ← ho lo (by intro y hy; subst hy; simp), ← ho hi (by intro y hy; subst hy; simp), ← ho mx (by intro y hy; subst hy; simp)]
    rw [gd_iff] at hK ⊢
    exact ⟨hK.1, evSlice_more hm hK.2⟩
  case call c =>
    obtain ⟨cal, xs, ts⟩ := c
    cases cal
    case value f =>
      cases f
      case func f =>
        simp only at hk
        cases he : E.fn f with
        | none => simp [he] at hk
        | some en =>
          simp only [he] at hk
          cases hq : (allNone en.ro && !en.lend) <;> simp [hq] at hk
      all_goals simp at hk
    all_goals simp at hk

/-- What makes blocks alone: all else is as it was. -/
theorem out_grow {o : Op} {s : St} {v : EV} {H : Heap} (hk : heapK E o = 3) (ho : Out E o s v H) : More s.heap H := by
  have h := ho (fun v' H' => v' = v ∧ H' = H) ⟨rfl, rfl⟩
  cases o <;> simp [heapK] at hk
  case alloc t =>
    simp only [evOp] at h
    split at h
    · obtain ⟨_, rfl⟩ := h; exact More.append _ _
    · exact h.elim
  case box t x =>
    simp only [evOp] at h
    split at h
    · exact h.elim
    · obtain ⟨_, rfl⟩ := h; exact More.append _ _
  case buildSlice t n ps =>
    simp only [evOp] at h
    rw [gd_iff] at h
    have h := h.2
    unfold evBuildSlice at h
    split at h
    case h_2 => exact h.elim
    split at h
    case h_2 => exact h.elim
    split at h
    case h_2 => exact h.elim
    rw [gd_iff] at h
    have h := h.2
    split at h
    · rw [gd_iff] at h
      have h := h.2
      split at h
      · obtain ⟨_, rfl⟩ := h; exact More.append _ _
      · exact h.elim
    · rw [gd_iff] at h
      have h := h.2
      split at h
      · obtain ⟨_, rfl⟩ := h; exact More.append _ _
      · exact h.elim
  case makeSlice t l c =>
    simp only [evOp] at h
    rw [gd_iff] at h
    have h := h.2
    unfold evMakeSlice at h
    split at h
    case h_2 => exact h.elim
    split at h
    case h_2 => exact h.elim
    split at h
    case h_2 => exact h.elim
    split at h
    case h_2 => exact h.elim
    rw [gd_iff] at h
    obtain ⟨_, _, rfl⟩ := h
    exact More.append _ _
  case call c =>
    obtain ⟨cal, xs, ts⟩ := c
    cases cal
    case value f =>
      cases f
      case func f =>
        simp only at hk
        cases he : E.fn f with
        | none => simp [he] at hk
        | some en =>
          simp only [he] at hk
          cases hq : (allNone en.ro && !en.lend) <;> simp [hq] at hk
      all_goals simp at hk
    all_goals simp at hk

def gval (ops : List Oper) (o : Oper) (s : St) : Option Bool :=
  match o.guard with
  | none => some true
  | some (j, want) => match ops[j]? with
    | some oj => match oj.dst with
      | some d => match s.slot d with
        | .bool b => some (beqB b want)
        | .tuple [] => some false
        | _ => none
      | none => none
    | none => none

theorem evOne_iff {ops : List Oper} {o : Oper} {s : St} {K : St → Prop} : evOne E ops o s K ↔ match gval ops o s with
    | some true => evOp E o.op s fun v H => K (s.put o.dst v H)
    | some false => K (s.put o.dst (.tuple []) s.heap)
    | none => False := by
  unfold evOne gval
  cases hg : o.guard with
  | none => exact Iff.rfl
  | some g =>
    obtain ⟨j, want⟩ := g
    dsimp only
    cases ops[j]? with
    | none => exact Iff.rfl
    | some oj =>
      dsimp only
      cases oj.dst with
      | none => exact Iff.rfl
      | some d =>
        dsimp only
        cases hs : s.slot d
        case bool b =>
          have hset : s.put (some d) (.bool b) s.heap = s := by
            simp only [St.put, put_same (slot_some hs (by simp))]
          dsimp only
          rw [br_iff]
          cases b <;> cases want <;> simp [hset, beqB]
        case tuple l => cases l <;> exact Iff.rfl
        all_goals exact Iff.rfl

theorem gval_loc {ops : List Oper} {o : Oper} {s s' : St} (h : ∀ d ∈ guardSlot ops o, s.slot d = s'.slot d) : gval ops o s = gval ops o s' := by
  unfold gval
  unfold guardSlot at h
  cases hg : o.guard with
  | none => rfl
  | some g =>
    obtain ⟨j, want⟩ := g
    simp only [hg] at h
    dsimp only
    cases hj : ops[j]? with
    | none => rfl
    | some oj =>
      simp only [hj] at h
      dsimp only
      cases hd : oj.dst with
      | none => rfl
      | some d =>
        simp only [hd] at h
        dsimp only
        rw [h d (by simp)]

theorem slot_put {s : St} {d : Option Nat} {v : EV} {H : Heap} {t : Nat} (h : d ≠ some t) : (s.put d v H).slot t = s.slot t := by
  cases d with
  | none => rfl
  | some d =>
    simp only [St.put, St.slot]
    rw [map_some_ne]
    intro e; subst e; exact h rfl

theorem opd_put {s : St} {d : Option Nat} {v : EV} {H : Heap} {l : List Operand} (h : noMem d (tmpsOf l) = true) : ∀ x ∈ l, St.opd E (s.put d v H) x = (St.opd E s) x := by
  intro x hx
  cases x
  case tmp t =>
    have ht := tmpsOf_mem t l hx
    simp only [St.opd]
    refine slot_put ?_
    intro e; subst e
    simp only [noMem, Bool.not_eq_true', ← Bool.not_eq_true, memN_iff] at h
    exact h ht
  all_goals rfl

theorem gval_put {ops : List Oper} {o : Oper} {s : St} {d : Option Nat} {v : EV} {H : Heap} (h : noMem d (guardSlot ops o) = true) : gval ops o (s.put d v H) = gval ops o s := by
  refine gval_loc fun t ht => slot_put ?_
  intro e; subst e
  simp only [noMem, Bool.not_eq_true', ← Bool.not_eq_true, memN_iff] at h
  exact h ht

theorem put_heap {s : St} {d : Option Nat} {v : EV} {H : Heap} : (s.put d v H).heap = H := by cases d <;> rfl

theorem put_comm {s : St} {a b : Option Nat} {u v : EV} {H H' H'' : Heap} (h : neO a b = true) : (s.put a u H).put b v H'' = (s.put b v H').put a u H'' := by
  cases a <;> cases b <;> simp only [St.put]
  rename_i a b
  simp only [neO, Bool.not_eq_true'] at h
  rw [List.set_comm]
  intro e; subst e; simp at h

/-- Two operations that do not touch, the other way about. -/
theorem evOne_swap (hD : DetFn E) {ops : List Oper} {p o : Oper} (hi : indep E ops p o = true) {s : St} {K : St → Prop} (h : evOne E ops p s fun s1 => evOne E ops o s1 K) :
    evOne E ops o s fun s2 => evOne E ops p s2 K := by
  simp only [indep, Bool.and_eq_true] at hi
  obtain ⟨⟨hi1, hi2⟩, ⟨hi3, hi4⟩, hi5, hi6⟩ := hi
  rw [evOne_iff] at h ⊢
  cases hp : gval ops p s with
  | none => simp only [hp] at h
  | some bp =>
    simp only [hp] at h
    cases bp with
    | false =>
      simp only at h
      rw [evOne_iff, gval_put hi2] at h
      cases ho : gval ops o s with
      | none => simp only [ho] at h
      | some bo =>
        simp only [ho] at h
        cases bo with
        | false =>
          simp only at h ⊢
          rw [evOne_iff, gval_put hi4, hp]
          simp only
          rw [put_heap] at h ⊢
          rw [← put_comm hi5]; exact h
        | true =>
          simp only at h ⊢
          obtain ⟨v, H, h1, h2⟩ := det_evOp hD _ h
          rw [evOp_loc (s' := s) (opd_put hi1) put_heap] at h2
          refine h2 _ ?_
          rw [evOne_iff, gval_put hi4, hp]
          simp only
          rw [put_heap, ← put_comm hi5]; exact h1
    | true =>
      simp only at h
      obtain ⟨v1, H1, h1, h2⟩ := det_evOp hD _ h
      have hO1 : Out E p.op s v1 H1 := h2
      rw [evOne_iff, gval_put hi2] at h1
      cases ho : gval ops o s with
      | none => simp only [ho] at h1
      | some bo =>
        simp only [ho] at h1
        cases bo with
        | false =>
          simp only at h1 ⊢
          rw [evOne_iff, gval_put hi4, hp]
          simp only
          rw [evOp_loc (s' := s) (opd_put hi3) put_heap]
          refine h2 _ ?_
          rw [put_heap] at h1
          rw [← put_comm hi5]; exact h1
        | true =>
          simp only at h1 ⊢
          obtain ⟨v2, H2, h3, h4⟩ := det_evOp hD _ h1
          have hO2 : Out E o.op (s.put p.dst v1 H1) v2 H2 := h4
          have fin : ∀ H2', Out E o.op s v2 H2' → Out E p.op (s.put o.dst v2 H2') v1 H2 → evOp E o.op s fun v H => evOne E ops p (s.put o.dst v H) K := by
            intro H2' q1 q2
            refine q1 _ ?_
            rw [evOne_iff, gval_put hi4, hp]
            simp only
            refine q2 _ ?_
            rw [← put_comm hi5]; exact h3
          have hsame : ∀ H', H' = s.heap → Out E p.op (s.put o.dst v2 H') v1 H1 := by
            intro H' hH' K' hK'
            rw [evOp_loc (s' := s) (opd_put hi3) (by rw [put_heap, hH'])]
            exact hO1 K' hK'
          simp only [heapOk, Bool.or_eq_true, Bool.and_eq_true, Nat.beq_eq, Nat.ble_eq] at hi6
          rcases hi6 with hz | hz | ⟨hz1, hz2⟩ | ⟨hz1, hz2⟩
          · obtain ⟨q1, q2⟩ := out_any (s' := s.put o.dst v2 H2) hD (fun x hx => (opd_put hi3 x hx).symm) hz hO1
            rw [put_heap] at q2
            refine fin H2 ?_ q2
            intro K' hK'
            rw [← evOp_loc (s := s.put p.dst v1 H1) (opd_put hi1) (by rw [put_heap, q1])]
            exact hO2 K' hK'
          · obtain ⟨q1, q2⟩ := out_any (s' := s) hD (opd_put hi1) hz hO2
            rw [put_heap] at q1
            refine fin s.heap q2 ?_
            rw [q1]
            exact hsame _ rfl
          · have q1 := out_keep hD hz1 hO1
            have q2 := out_keep hD hz2 hO2
            rw [put_heap] at q2
            refine fin H2 ?_ ?_
            · intro K' hK'
              rw [← evOp_loc (s := s.put p.dst v1 H1) (opd_put hi1) (by rw [put_heap, q1])]
              exact hO2 K' hK'
            · rw [q2]
              exact hsame _ q1
          · -- what is read, and new blocks
            have q1 := out_keep hD (Nat.le_of_eq hz1) hO1
            have hO2' : Out E o.op s v2 H2 := by
              intro K' hK'
              rw [← evOp_loc (s := s.put p.dst v1 H1) (opd_put hi1) (by rw [put_heap, q1])]
              exact hO2 K' hK'
            have hmore := out_grow hz2 hO2'
            refine fin H2 hO2' ?_
            have := out_more (s' := s.put o.dst v2 H2) hD (fun x hx => (opd_put hi3 x hx).symm) hz1 (by rw [put_heap]; exact hmore) hO1
            rwa [put_heap] at this

theorem evOps_front (hD : DetFn E) {ops : List Oper} {o : Oper} {r : List Oper} {K : St → Prop} : ∀ (l : List Oper) (s : St), (∀ p ∈ l, indep E ops p o = true) → evOps E ops (l ++ o :: r) s K →
    evOne E ops o s fun s' => evOps E ops (l ++ r) s' K
  | [], s, _, h => h
  | p :: l, s, hl, h => by
    have h1 : evOne E ops p s fun s1 => evOps E ops (l ++ o :: r) s1 K := h
    have h2 := (det_evOne hD).mono h1 fun s1 h1 => evOps_front hD l s1 (fun p hp => hl p (List.mem_cons_of_mem _ hp)) h1
    exact evOne_swap hD (hl p List.mem_cons_self) h2

theorem bindsOn_iff {j : Nat} : ∀ {l : List Edge}, bindsOn j l = true → ∃ e ∈ l, Region.binds .any e = true ∧ e.on = j
  | e :: l, h => by
    simp only [bindsOn, Bool.or_eq_true, Bool.and_eq_true, Nat.beq_eq] at h
    rcases h with ⟨h1, h2⟩ | h
    · exact ⟨e, List.mem_cons_self, h1, h2⟩
    · obtain ⟨e', h1, h2⟩ := bindsOn_iff h
      exact ⟨e', List.mem_cons_of_mem _ h1, h2⟩

theorem edgesBelow_spec {i : Nat} : ∀ {l : List Edge}, edgesBelow i l = true → ∀ e ∈ l, Region.binds .any e = true → e.on < i
  | e :: l, h, e', he, hb => by
    simp only [edgesBelow, Bool.and_eq_true, Bool.or_eq_true, Bool.not_eq_true', Nat.blt_eq] at h
    rcases List.mem_cons.1 he with rfl | he
    · rcases h.1 with h1 | h1
      · rw [h1] at hb; cases hb
      · exact h1
    · exact edgesBelow_spec h.2 e' he hb

theorem okAll_spec {ops : List Oper} {o : Oper} (l : List Oper) : ∀ (j0 : Nat), okAll E ops o j0 l = true → ∀ (k : Nat) p, l[k]? = some p → bindsOn (j0 + k) o.after.toList = true ∨ indep E ops p o = true := by
  induction l with
  | nil => intro j0 h k p hk; simp at hk
  | cons q l ih =>
    intro j0 h k p hk
    simp only [okAll, Bool.and_eq_true, Bool.or_eq_true] at h
    cases k with
    | zero =>
      rw [List.getElem?_cons_zero, Option.some.injEq] at hk
      subst hk
      exact h.1
    | succ k =>
      rw [List.getElem?_cons_succ] at hk
      have := ih (j0 + 1) h.2 k p hk
      rw [show j0 + 1 + k = j0 + (k + 1) from by omega] at this
      exact this

theorem okFrom_spec {ops : List Oper} (l : List Oper) : ∀ (i0 : Nat), okFrom E ops i0 l = true → ∀ (k : Nat) o, l[k]? = some o →
    edgesBelow (i0 + k) o.after.toList = true ∧ okAll E ops o 0 (ops.take (i0 + k)) = true := by
  induction l with
  | nil => intro i0 h k o hk; simp at hk
  | cons q l ih =>
    intro i0 h k o hk
    simp only [okFrom, Bool.and_eq_true] at h
    cases k with
    | zero =>
      rw [List.getElem?_cons_zero, Option.some.injEq] at hk
      subst hk
      exact h.1
    | succ k =>
      rw [List.getElem?_cons_succ] at hk
      have := ih (i0 + 1) h.2 k o hk
      rw [show i0 + 1 + k = i0 + (k + 1) from by omega] at this
      exact this

theorem commB_spec {ops : List Oper} (h : commB E ops = true) {i : Nat} {o : Oper} (hi : ops[i]? = some o) :
    (∀ e ∈ o.after.toList, Region.binds .any e = true → e.on < i) ∧ ∀ (j : Nat) p, j < i → ops[j]? = some p → (∃ e ∈ o.after.toList, Region.binds .any e = true ∧ e.on = j) ∨ indep E ops p o = true := by
  obtain ⟨h1, h2⟩ := okFrom_spec ops 0 h i o hi
  rw [Nat.zero_add] at h1 h2
  refine ⟨edgesBelow_spec h1, fun j p hj hp => ?_⟩
  rcases okAll_spec _ 0 h2 j p (by rw [List.getElem?_take_of_lt hj]; exact hp) with h3 | h3
  · rw [Nat.zero_add] at h3; exact .inl (bindsOn_iff h3)
  · exact .inr h3

def restOf (n : Nat) (listed : Array Bool) : List Nat := (List.range n).filter fun i => !listed.getD i true

theorem mem_restOf {n : Nat} {listed : Array Bool} {i : Nat} : i ∈ restOf n listed ↔ i < n ∧ listed.getD i true = false := by
  simp [restOf, List.mem_filter]

theorem restOf_sorted (n : Nat) (listed : Array Bool) : (restOf n listed).Pairwise (· < ·) := by
  unfold restOf
  exact List.Pairwise.filter _ List.pairwise_lt_range

theorem restOf_set {n : Nat} {listed : Array Bool} {i : Nat} {l r : List Nat} (hsz : listed.size = n) (h : restOf n listed = l ++ i :: r) : restOf n (listed.setIfInBounds i true) = l ++ r := by
  have hs := restOf_sorted n listed
  have hi : i < n := (mem_restOf.1 (by rw [h]; simp)).1
  have e1 : restOf n (listed.setIfInBounds i true) = (restOf n listed).filter fun j => !Nat.beq j i := by
    unfold restOf
    rw [List.filter_filter]
    refine List.filter_congr fun j hj => ?_
    by_cases hji : j = i
    · subst hji
      simp [Array.getD_eq_getD_getElem?, hsz, hi]
    · have : (listed.setIfInBounds i true).getD j true = listed.getD j true := by
        simp only [Array.getD_eq_getD_getElem?]
        rw [Array.getElem?_setIfInBounds_ne (fun e => hji e.symm)]
      rw [this]
      have : Nat.beq j i = false := by
        cases hb : Nat.beq j i with
        | false => rfl
        | true => exact absurd (Nat.eq_of_beq_eq_true hb) hji
      simp [this]
  rw [e1, h, List.filter_append, List.filter_cons]
  rw [h] at hs
  rw [List.pairwise_append] at hs
  obtain ⟨hs1, hs2, hs3⟩ := hs
  rw [List.pairwise_cons] at hs2
  have f1 : l.filter (fun j => !Nat.beq j i) = l := by
    refine List.filter_eq_self.2 fun j hj => ?_
    have := hs3 j hj i List.mem_cons_self
    cases hb : Nat.beq j i with
    | false => rfl
    | true => have := Nat.eq_of_beq_eq_true hb; omega
  have f2 : r.filter (fun j => !Nat.beq j i) = r := by
    refine List.filter_eq_self.2 fun j hj => ?_
    have := hs2.1 j hj
    cases hb : Nat.beq j i with
    | false => rfl
    | true => have := Nat.eq_of_beq_eq_true hb; omega
  have f3 : Nat.beq i i = true := Nat.beq_refl i
  rw [f1, f2, f3]
  simp
end swap

section sound
variable {P : Program} {E : Env}

theorem wpAny_ev {ops : Array Oper} {Q : Exit → Act → World → Prop} (hE : ∀ t ti, E.ty t = some ti → OkTI P t ti) (hFn : OkFn P E) (hD : DetFn E) (hc : commB E ops.toList = true) :
    ∀ (fuel : Nat) (listed : Array Bool) (ρ : Ren) (w : World) (s : St) (a : Act) (K : St → Prop), listed.size = ops.size → (restOf ops.size listed).length ≤ fuel →
      RelT E.gl ρ w s.tmps a.tmps → Sim ρ s.heap w → evOps E ops.toList ((restOf ops.size listed).filterMap fun i => ops.toList[i]?) s K →
      (∀ s' ρ' w' a', K s' → RelT E.gl ρ' w' s'.tmps a'.tmps → a'.defers = a.defers → Sim ρ' s'.heap w' → Ext ρ w ρ' w' → ρ'.F = ρ.F → Q .normal a' w') →
      wpAny P .any ops Q fuel listed a w := by
  have hready : ∀ listed, listed.size = ops.size → Region.ready .any ops listed = [] → restOf ops.size listed = [] := by
    intro listed hsz hr
    cases hres : restOf ops.size listed with
    | nil => rfl
    | cons i r =>
      exfalso
      have hs := restOf_sorted ops.size listed
      rw [hres, List.pairwise_cons] at hs
      have hi := mem_restOf.1 (show i ∈ restOf ops.size listed by rw [hres]; simp)
      have : i ∈ Region.ready .any ops listed := by
        refine mem_ready.2 ⟨hi.2, ops[i]'hi.1, by simp [hi.1], fun e he hb => ?_⟩
        have hlt := (commB_spec hc (i := i) (o := ops[i]'hi.1) (by simp [hi.1])).1 e (by simpa using he) hb
        have hn : e.on < ops.size := Nat.lt_trans hlt hi.1
        have hnot : e.on ∉ restOf ops.size listed := by
          intro hin
          rw [hres] at hin
          rcases List.mem_cons.1 hin with h' | h'
          · omega
          · have := hs.1 _ h'; omega
        rw [mem_restOf] at hnot
        have hlt' : e.on < listed.size := by omega
        simp only [Array.getD_eq_getD_getElem?, Array.getElem?_eq_getElem hlt', Option.getD_some] at hnot ⊢
        cases hq : listed[e.on] with
        | true => rfl
        | false => exact absurd ⟨hn, hq⟩ hnot
      rw [hr] at this
      cases this
  intro fuel
  induction fuel with
  | zero =>
    intro listed ρ w s a K hsz hlen hT hS h hn
    have hnil : restOf ops.size listed = [] := List.length_eq_zero_iff.1 (by omega)
    rw [hnil] at h
    refine wpAny_done ?_ (hn s ρ w a h hT rfl hS (Ext.refl _ _) rfl) 0
    cases hr : Region.ready .any ops listed with
    | nil => rfl
    | cons i r =>
      have h1 := mem_ready.1 (show i ∈ Region.ready .any ops listed by rw [hr]; simp)
      obtain ⟨h2, o, h3, _⟩ := h1
      have : i ∈ restOf ops.size listed := mem_restOf.2 ⟨(Array.getElem?_eq_some_iff.1 h3).1, h2⟩
      rw [hnil] at this
      cases this
  | succ fuel ih =>
    intro listed ρ w s a K hsz hlen hT hS h hn
    refine ⟨fun hr => ?_, fun i hi => ?_⟩
    · rw [hready listed hsz hr] at h
      exact hn s ρ w a h hT rfl hS (Ext.refl _ _) rfl
    · obtain ⟨h0, o, ho, hall⟩ := mem_ready.1 hi
      have hin : i ∈ restOf ops.size listed := mem_restOf.2 ⟨(Array.getElem?_eq_some_iff.1 ho).1, h0⟩
      obtain ⟨l, r, hlr⟩ := List.append_of_mem hin
      have hoL : ops.toList[i]? = some o := by rw [Array.getElem?_toList]; exact ho
      have hfm : ((restOf ops.size listed).filterMap fun i => ops.toList[i]?) = (l.filterMap fun i => ops.toList[i]?) ++ o :: (r.filterMap fun i => ops.toList[i]?) := by
        rw [hlr, List.filterMap_append, List.filterMap_cons, hoL]
      rw [hfm] at h
      have hs := restOf_sorted ops.size listed
      rw [hlr, List.pairwise_append] at hs
      have hind : ∀ p ∈ (l.filterMap fun i => ops.toList[i]?), indep E ops.toList p o = true := by
        intro p hp
        obtain ⟨j, hj, hpj⟩ := List.mem_filterMap.1 hp
        have hji : j < i := hs.2.2 j hj i List.mem_cons_self
        rcases (commB_spec hc hoL).2 j p hji hpj with ⟨e, he, hb, hon⟩ | h'
        · exfalso
          have h1 := hall e (by simpa using he) hb
          have h2 := (mem_restOf.1 (show j ∈ restOf ops.size listed by rw [hlr]; exact List.mem_append.2 (.inl hj)))
          have hlt : j < listed.size := by omega
          rw [hon] at h1
          simp only [Array.getD_eq_getD_getElem?, Array.getElem?_eq_getElem hlt, Option.getD_some] at h1 h2
          rw [h1] at h2
          exact absurd h2.2 (by simp)
        · exact h'
      refine evOne_sound hE hFn ho hT hS (evOps_front hD _ s hind h) ?_
      intro s' ρ' w' a' hK hT' hDf hS' hX hF
      have hrest := restOf_set hsz hlr
      refine ih (listed.setIfInBounds i true) ρ' w' s' a' K (by simp [hsz]) ?_ hT' hS' ?_ ?_
      · rw [hrest]
        rw [hlr] at hlen
        simp at hlen ⊢
        omega
      · rw [hrest, List.filterMap_append]; exact hK
      · intro s'' ρ'' w'' a'' hK' hT'' hD' hS'' hX' hF'
        exact hn s'' ρ'' w'' a'' hK' hT'' (hD'.trans hDf) hS'' (hX.trans hX') (hF'.trans hF)

theorem evDraw_sound {ops : Array Oper} {Q : Exit → Act → World → Prop} (hE : ∀ t ti, E.ty t = some ti → OkTI P t ti) (hFn : OkFn P E) (hD : DetFn E) (hm : P.follows .mixedOrders = true)
    (hc : commB E ops.toList = true) (id : Nat) (ρ : Ren) (w : World) (s : St) (a : Act) (K : St → Prop) (hT : RelT E.gl ρ w s.tmps a.tmps) (hS : Sim ρ s.heap w) (h : evOps E ops.toList ops.toList s K)
    (hn : ∀ s' ρ' w' a', K s' → RelT E.gl ρ' w' s'.tmps a'.tmps → a'.defers = a.defers → Sim ρ' s'.heap w' → Ext ρ w ρ' w' → ρ'.F = ρ.F → Q .normal a' w') :
    (Code.region id ops true).wp P Q a w := by
  refine wp_region_any hm ?_
  have hq : ∀ F, Ext ⟨F, []⟩ w ⟨F, []⟩ { w with drawn := w.drawn + 1 } := fun F =>
    ⟨rfl, rfl, rfl, Nat.le_refl _, fun _ _ _ => rfl, fun _ _ h => h, fun _ _ h => h, fun _ _ h => .inl h, fun _ cs e fz h => ⟨cs, e, fz, h, rfl⟩⟩
  have hX : Ext ρ w ρ { w with drawn := w.drawn + 1 } := (hq []).quiet
  have hall : restOf ops.size (Array.replicate ops.size false) = List.range ops.size := by
    unfold restOf
    refine List.filter_eq_self.2 fun i hi => ?_
    have : i < ops.size := List.mem_range.1 hi
    simp [Array.getD_eq_getD_getElem?, this]
  refine wpAny_ev hE hFn hD hc ops.size _ ρ _ s a K (by simp) (by rw [hall]; simp) (hT.ext hX) (hS.quiet (hq [])) ?_ ?_
  · rw [hall]
    have : (List.range ops.size).filterMap (fun i => ops.toList[i]?) = ops.toList := by
      apply List.ext_getElem?
      intro i
      have : ∀ (l : List Oper), (List.range l.length).filterMap (fun i => l[i]?) = l := by
        intro l
        induction l with
        | nil => rfl
        | cons x l ih =>
          rw [List.length_cons, List.range_succ_eq_map, List.filterMap_cons]
          simp only [List.getElem?_cons_zero, List.filterMap_map]
          congr 1
      have h2 := this ops.toList
      rw [Array.length_toList] at h2
      rw [h2]
    rw [this]; exact h
  · intro s' ρ' w' a' hK hT' hDf hS' hX' hF
    exact hn s' ρ' w' a' hK hT' hDf hS' (hX.trans hX') hF
end sound
end Go.Ev
