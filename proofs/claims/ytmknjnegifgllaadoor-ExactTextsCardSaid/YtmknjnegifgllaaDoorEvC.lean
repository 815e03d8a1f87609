/- The evaluator: a region whose order is open. -/
import Derived.Test.YtmknjnegifgllaaDoorEvB
import Derived.LoopN
import Derived.Scope
import Derived.Below
import Derived.DataShut
import Derived.OpenShut
import Derived.ChangeArms
import Derived.FnData
import Derived.Lib.LaidTab
import Derived.Lib.SmallJoins
set_option linter.unusedVariables false
set_option linter.unusedSimpArgs false
namespace Go.Ev
open Go
def ybR : List Operand → List Nat
  | [] => []
  | .tmp t :: l => t :: ybR l
  | _ :: l => ybR l
theorem ydD (t : Nat) : ∀ (l : List Operand), .tmp t ∈ l → t ∈ ybR l
  | x :: l, h => by
    rcases List.mem_cons.1 h with h | h
    · subst h; simp [ybR]
    · have := ydD t l h
      cases x <;> simp [ybR, this]
def ydm (ops : List Oper) (o : Oper) : List Nat :=
  match o.guard with
  | none => []
  | some (j, _) => match ops[j]? with
    | some oj => match oj.dst with
      | some d => [d]
      | none => []
    | none => []
def ybJ : List (Option IntKind) → Bool
  | [] => true
  | none :: l => ybJ l
  | some _ :: _ => false
def yat (E : Env) : Op → Nat
  | .move _ => 0 | .assign _ => 0 | .pick _ _ _ => 0 | .build _ _ => 0 | .binOp _ _ _ y _ => cond (Nat.beq (yic y) 1) 1 0 | .unOp _ _ _ => 0 | .field _ _ _ => 0
  | .index _ _ _ => 0 | .extract _ _ => 0
  | .alloc _ => 3 | .box _ _ => 3 | .buildSlice _ _ _ => 3 | .makeSlice _ _ _ => 3
  | .slice _ _ _ _ _ => 1 | .load _ _ => 1 | .convert _ _ _ => 1 | .fieldAddr _ _ _ => 1 | .indexAddr _ _ _ => 1 | .nilCheck _ => 1
  | .call { callee := .value (.func f), args := _, argTypes := _ } => match E.fn f with
    | some en => cond (ybJ en.ro && !en.lend) 0 2
    | none => 2
  | .call { callee := .builtin .len, args := _, argTypes := _ } => 0
  | .call { callee := .builtin .max, args := _, argTypes := _ } => 0
  | .call { callee := .builtin .min, args := _, argTypes := _ } => 0
  | _ => 2
def ydd (d : Option Nat) (l : List Nat) : Bool :=
  match d with
  | some d => !ygS d l
  | none => true
def neO : Option Nat → Option Nat → Bool
  | some a, some b => !Nat.beq a b
  | _, _ => true
def ydO (a b : Nat) : Bool := Nat.beq a 0 || (Nat.beq b 0 || ((Nat.ble a 1 && Nat.ble b 1) || (Nat.beq a 1 && Nat.beq b 3)))
def ydl : Op → Option Operand
  | .load _ a => some a
  | .fieldAddr _ x _ => some x
  | .nilCheck x => some x
  | .indexAddr _ x _ => some x
  | .slice _ x _ _ _ => some x
  | .convert _ _ x => some x
  | _ => none
def ybr : Op → Option Operand
  | .store _ a _ => some a
  | _ => none
def ymd (p o : Op) : Option (Operand × Operand) :=
  match ybr p, ydl o with
  | some a, some x => some (a, x)
  | _, _ => match ydl p, ybr o with
    | some x, some a => some (x, a)
    | _, _ => none
def ydk : EV → Option Nat
  | .ptr b _ => some b
  | .slice b _ _ _ _ => some b
  | _ => none
def yc8 (a x : EV) : Bool :=
  match ydk a, ydk x with
  | some b, some c => !Nat.beq b c
  | _, _ => true
def ymT (x : Operand) : List Oper → Bool
  | [] => true
  | o :: l => ydd o.dst (ybR [x]) && ymT x l
def ydz (E : Env) : List Oper → Bool
  | [] => true
  | o :: l => !Nat.beq (yat E o.op) 2 && ydz E l
def ycs (ops : List Oper) (p o : Oper) : Bool :=
  (ydd p.dst (ybR o.op.operands.toList) && ydd p.dst (ydm ops o)) && ((ydd o.dst (ybR p.op.operands.toList) && ydd o.dst (ydm ops p)) && neO p.dst o.dst)
def yos (ops : List Oper) (j i : Nat) (p o : Oper) : Bool :=
  match ymd p.op o.op with
  | some (x, y) => ymT x (ops.drop j) && ymT y (ops.drop i)
  | none => false
def yjz (a b : Nat) : Bool := Nat.beq a 3 && Nat.beq b 3
def yd2 (j : Nat) : List Edge → Bool
  | [] => false
  | e :: l => (Region.binds .any e && Nat.beq e.on j) || yd2 j l
def ycC (i : Nat) : List Edge → Bool
  | [] => true
  | e :: l => (!Region.binds .any e || Nat.blt e.on i) && ycC i l
def ynl (E : Env) (ops : List Oper) (o : Oper) (i : Nat) : Nat → List Oper → Bool
  | _, [] => true
  | j, p :: l => (yd2 j o.after.toList || (ycs ops p o && (ydO (yat E p.op) (yat E o.op) || ((yjz (yat E p.op) (yat E o.op) && ydz E (ops.take i)) || yos ops j i p o)))) && ynl E ops o i (j + 1) l
def ykn (E : Env) (ops : List Oper) : Nat → List Oper → Bool
  | _, [] => true
  | i, o :: l => (ycC i o.after.toList && ynl E ops o i 0 (ops.take i)) && ykn E ops (i + 1) l
def yn6 (E : Env) (ops : List Oper) : Bool := ykn E ops 0 ops
def ye0 (E : Env) (t : Operand → Operand → Bool) (o : Oper) : Nat → List Oper → Bool
  | _, [] => true
  | j, p :: l => (yd2 j o.after.toList || (ydO (yat E p.op) (yat E o.op) || (yjz (yat E p.op) (yat E o.op) || (match ymd p.op o.op with
    | some (x, y) => t x y
    | none => true)))) && ye0 E t o (j + 1) l
def ycj (E : Env) (t : Operand → Operand → Bool) (ops : List Oper) : Nat → List Oper → Bool
  | _, [] => true
  | i, o :: l => ye0 E t o 0 (ops.take i) && ycj E t ops (i + 1) l
def ym3 (E : Env) (ops : List Oper) (s : St) : Bool := ycj E (fun x y => yc8 (St.opd E s x) (St.opd E s y)) ops 0 ops
def yfW (E : Env) (ops : List Oper) (s : St) (K : St → Prop) : Prop :=
  gd (yn6 E ops) (cond (ycj E (fun _ _ => false) ops 0 ops) (ybL E ops ops s K) (ybL E ops ops s fun s' => gd (ym3 E ops s') (K s')))
section swap
variable {E : Env}
def Out (E : Env) (o : Op) (s : St) (v : EV) (H : yae) : Prop := ∀ K : EV → yae → Prop, K v H → ycc E o s K
theorem ycS : ∀ (l : List EV) (H : yae), EV.freeL l = true → yba l H = H
  | [], _, _ => rfl
  | v :: l, H, h => by
    simp only [EV.freeL, Bool.and_eq_true] at h
    cases v <;> simp only [yba] <;> first | exact ycS l H h.2 | (simp [EV.free] at h)
theorem ydY (H : yae) : ∀ (ms : List (Option IntKind)) (vs : List EV), ybJ ms = true → yaK H ms vs = vs
  | [], vs, _ => by cases vs <;> rfl
  | none :: ms, [], _ => rfl
  | none :: ms, v :: vs, h => by
    simp only [ybJ] at h
    rw [yaK, ydY H ms vs h]
    rfl
  | some _ :: _, _, h => by simp [ybJ] at h
theorem yfO {o : Op} {s s' : St} (h : ∀ x ∈ o.operands.toList, (St.opd E s) x = (St.opd E s') x) (hh : yat E o = 0 ∨ s.heap = s'.heap) : evV E o s = evV E o s' := by
  funext K
  unfold evV
  split
  case h_1 x => rw [h x (by simp [Op.operands])]
  case h_2 x => rw [h x (by simp [Op.operands])]
  case h_3 c a b => rw [h c (by simp [Op.operands]), h a (by simp [Op.operands]), h b (by simp [Op.operands])]
  case h_4 t ps =>
    have e1 : (ps.toList.map fun p => (St.opd E s) p.2) = ps.toList.map fun p => (St.opd E s') p.2 := List.map_congr_left fun p hp => h p.2 (by simp only [Op.operands]; exact List.mem_map.2 ⟨p, hp, rfl⟩)
    have e2 : (ps.toList.map fun p => (p.1, (St.opd E s) p.2)) = ps.toList.map fun p => (p.1, (St.opd E s') p.2) := List.map_congr_left fun p hp => by rw [h p.2 (by simp only [Op.operands]; exact List.mem_map.2 ⟨p, hp, rfl⟩)]
    rw [e1, e2]
  case h_5 t a =>
    rcases hh with hh | hh
    · simp [yat] at hh
    · rw [h a (by simp [Op.operands]), hh]
  case h_6 op t x y u =>
    rw [h x (by simp [Op.operands]), h y (by simp [Op.operands])]
    rcases hh with hh | hh
    · simp only [yat] at hh
      unfold ydu
      cases hq : Nat.beq (yic y) 1 with
      | true => rw [hq] at hh; cases hh
      | false => rfl
    · rw [hh]
  case h_7 op u x => rw [h x (by simp [Op.operands])]
  case h_8 src dst x =>
    rcases hh with hh | hh
    · simp [yat] at hh
    · rw [h x (by simp [Op.operands]), hh]
  case h_9 t x f =>
    rcases hh with hh | hh
    · simp [yat] at hh
    · rw [h x (by simp [Op.operands]), hh]
  case h_10 t x f => rw [h x (by simp [Op.operands])]
  case h_11 t x i =>
    rcases hh with hh | hh
    · simp [yat] at hh
    · rw [h x (by simp [Op.operands]), h i (by simp [Op.operands]), hh]
  case h_12 t x i => rw [h x (by simp [Op.operands]), h i (by simp [Op.operands])]
  case h_13 x i => rw [h x (by simp [Op.operands])]
  case h_14 f cs =>
    have e1 : cs.toList.map (St.opd E s) = cs.toList.map (St.opd E s') := List.map_congr_left fun x hx => h x (by simp [Op.operands]; simpa using hx)
    rw [e1]
  case h_15 t x lo hi mx =>
    rcases hh with hh | hh
    · simp [yat] at hh
    · have ho : ∀ q : Option Operand, (∀ y, q = some y → y ∈ (#[x] ++ lo.toArray ++ hi.toArray ++ mx.toArray : Array Operand).toList) → q.map (St.opd E s) = q.map (St.opd E s') := by
        intro q hq
        cases q with
        | none => rfl
        | some y => simp only [Option.map_some, h y (hq y rfl)]
      rw [h x (by simp [Op.operands]), ho lo (by intro y hy; subst hy; simp), ho hi (by intro y hy; subst hy; simp), ho mx (by intro y hy; subst hy; simp), hh]
  case h_16 x t => rw [h x (by simp [Op.operands, Call.operands])]
  case h_17 xs ts =>
    have e1 : xs.toList.map (St.opd E s) = xs.toList.map (St.opd E s') := List.map_congr_left fun x hx => h x (by simp [Op.operands, Call.operands]; simpa using hx)
    rw [e1]
  case h_18 xs ts =>
    have e1 : xs.toList.map (St.opd E s) = xs.toList.map (St.opd E s') := List.map_congr_left fun x hx => h x (by simp [Op.operands, Call.operands]; simpa using hx)
    rw [e1]
  case h_19 x =>
    rcases hh with hh | hh
    · simp [yat] at hh
    · rw [h x (by simp [Op.operands]), hh]
  case h_20 f fs _ =>
    have e1 : fs.toList.map (St.opd E s) = fs.toList.map (St.opd E s') := List.map_congr_left fun x hx => h x (by simp [Op.operands]; simpa using hx)
    rw [e1]
  case h_21 => rfl
theorem yfD {o : Op} {s s' : St} (h : ∀ x ∈ o.operands.toList, (St.opd E s) x = (St.opd E s') x) (hh : s.heap = s'.heap) : ycc E o s = ycc E o s' := by
  funext K
  unfold ycc
  split
  · rw [hh]
  · rename_i t x
    rw [h x (by simp [Op.operands]), hh]
  · rename_i t n ps
    have e1 : (ps.toList.map fun p => (St.opd E s) p.2) = ps.toList.map fun p => (St.opd E s') p.2 := List.map_congr_left fun p hp => h p.2 (by simp only [Op.operands]; exact List.mem_map.2 ⟨p, hp, rfl⟩)
    have e2 : (ps.toList.map fun p => (p.1, (St.opd E s) p.2)) = ps.toList.map fun p => (p.1, (St.opd E s') p.2) := List.map_congr_left fun p hp => by rw [h p.2 (by simp only [Op.operands]; exact List.mem_map.2 ⟨p, hp, rfl⟩)]
    rw [e1, e2, hh]
  · rename_i t a x
    rw [h a (by simp [Op.operands]), h x (by simp [Op.operands]), hh]
  · rename_i t ln cp
    rw [h ln (by simp [Op.operands]), h cp (by simp [Op.operands]), hh]
  · rename_i f xs ts
    have e1 : xs.toList.map (St.opd E s) = xs.toList.map (St.opd E s') := List.map_congr_left fun x hx => h x (by simp [Op.operands, Call.operands]; exact .inr (by simpa using hx))
    rw [e1, h f (by simp [Op.operands, Call.operands]), hh]
  · rename_i x y t u
    rw [h x (by simp [Op.operands, Call.operands]), h y (by simp [Op.operands, Call.operands]), hh]
  · rename_i x y t u
    rw [h x (by simp [Op.operands, Call.operands]), h y (by simp [Op.operands, Call.operands]), hh]
  · rw [yfO h (.inr hh), hh]
theorem yjC {o : Op} {s s' : St} {v : EV} {H : yae} (hD : ybk E) (h : ∀ x ∈ o.operands.toList, (St.opd E s) x = (St.opd E s') x) (hk : yat E o = 0) (ho : Out E o s v H) : H = s.heap ∧ Out E o s' v s'.heap := by
  have main : ∀ (T : St → (EV → Prop) → Prop), (∀ K, ycc E o s K = T s fun v => K v s.heap) → (∀ K, ycc E o s' K = T s' fun v => K v s'.heap) → T s = T s' → Det (T s) → H = s.heap ∧ Out E o s' v s'.heap := by
    intro T h1 h2 h3 h4
    have := ho (fun v' H' => v' = v ∧ H' = H) ⟨rfl, rfl⟩
    rw [h1] at this
    obtain ⟨u, ⟨rfl, hH⟩, h6⟩ := h4 _ this
    refine ⟨hH.symm, fun K hK => ?_⟩
    rw [h2, ← h3]
    exact h6 _ hK
  cases o
  case alloc => simp [yat] at hk
  case box => simp [yat] at hk
  case buildSlice => simp [yat] at hk
  case store => simp [yat] at hk
  case makeSlice => simp [yat] at hk
  case call c =>
    obtain ⟨cal, xs, ts⟩ := c
    cases cal
    case value f =>
      cases f
      case func f =>
        simp only [yat] at hk
        cases he : E.fn f with
        | none => simp [he] at hk
        | some en =>
          simp only [he] at hk
          have hn : ybJ en.ro = true := by
            cases hq : ybJ en.ro with
            | true => rfl
            | false => simp [hq] at hk
          have hnl : en.lend = false := by
            cases hq : en.lend with
            | false => rfl
            | true => simp [hq] at hk
          have e1 : xs.toList.map (St.opd E s) = xs.toList.map (St.opd E s') := List.map_congr_left fun x hx => h x (by simp [Op.operands, Call.operands]; exact .inr (by simpa using hx))
          have key : ∀ (r : St) K, ycc E (.call { callee := .value (.func f), args := xs, argTypes := ts }) r K =
              gd (EV.freeL (xs.toList.map (St.opd E r))) (en.spec (xs.toList.map (St.opd E r)) [] fun v H' => gd (Nat.beq H'.length 0 && v.inI []) (K v r.heap)) := by
            intro r K
            simp only [ycc, St.opd, yc9, ybs, he, List.append_nil, ydY _ _ _ hn, hnl, cond_false]
            cases hfr : EV.freeL (xs.toList.map (St.opd E r)) with
            | false => rfl
            | true =>
              have : yba (xs.toList.map (St.opd E r)) r.heap = r.heap := ycS _ _ hfr
              simp only [this]
              congr 1
              have : (fun (v : EV) (H' : yae) => gd (Nat.beq H'.length 0 && v.inI []) (cond v.noRS (K v r.heap) (K v r.heap))) = fun v H' => gd (Nat.beq H'.length 0 && v.inI []) (K v r.heap) := by
                funext v H'
                cases v.noRS <;> rfl
              rw [this]
          exact main (fun r K => gd (EV.freeL (xs.toList.map (St.opd E r))) (en.spec (xs.toList.map (St.opd E r)) [] fun v H' => gd (Nat.beq H'.length 0 && v.inI []) (K v))) (key s) (key s') (by funext K; simp only [e1])
            (yau (ybO (T := fun K : EV × yae → Prop => en.spec _ _ fun v H' => K (v, H')) (U := fun (p : EV × yae) (K : EV → Prop) => gd (Nat.beq p.2.length 0 && p.1.inI []) (K p.1)) (hD f en he _ _).to fun p => yau (yaj p.1)))
      all_goals simp [yat] at hk
    case builtin bi =>
      cases bi
      case len => exact main (fun r => evV E _ r) (fun _ => rfl) (fun _ => rfl) (yfO h (.inl hk)) det_evV
      case max => exact main (fun r => evV E _ r) (fun _ => rfl) (fun _ => rfl) (yfO h (.inl hk)) det_evV
      case min => exact main (fun r => evV E _ r) (fun _ => rfl) (fun _ => rfl) (yfO h (.inl hk)) det_evV
      all_goals simp [yat] at hk
    all_goals simp [yat] at hk
  all_goals first
    | exact main (fun r => evV E _ r) (fun _ => rfl) (fun _ => rfl) (yfO h (.inl hk)) det_evV
    | (simp [yat] at hk)
theorem yfA {o : Op} {s : St} {v : EV} {H : yae} (hD : ybk E) (hk : yat E o ≤ 1) (ho : Out E o s v H) : H = s.heap := by
  by_cases h0 : yat E o = 0
  · exact (yjC hD (fun _ _ => rfl) h0 ho).1
  · have main : (∀ K, ycc E o s K = evV E o s fun v => K v s.heap) → H = s.heap := by
      intro h1
      have := ho (fun v' H' => v' = v ∧ H' = H) ⟨rfl, rfl⟩
      rw [h1] at this
      obtain ⟨u, ⟨rfl, hH⟩, h6⟩ := det_evV _ this
      exact hH.symm
    cases o
    case alloc => simp [yat] at hk
    case box => simp [yat] at hk
    case buildSlice => simp [yat] at hk
    case store => simp [yat] at hk
    case makeSlice => simp [yat] at hk
    case call c =>
      obtain ⟨cal, xs, ts⟩ := c
      cases cal
      case value f =>
        cases f
        case func f =>
          simp only [yat] at hk h0
          cases he : E.fn f with
          | none => simp [he] at hk
          | some en =>
            simp only [he] at hk h0
            cases hq : (ybJ en.ro && !en.lend) <;> simp [hq] at hk h0
        all_goals simp [yat] at hk
      case builtin bi => cases bi <;> simp [yat] at hk h0
      all_goals simp [yat] at hk
    all_goals exact main fun _ => rfl
def More (H H' : yae) : Prop := ∀ (b : Nat) c, H[b]? = some (some c) → H'[b]? = some (some c)
theorem More.append (H t : yae) : More H (H ++ t) := by
  intro b c h
  have hlt : b < H.length := by
    rcases Nat.lt_or_ge b H.length with hh | hh
    · exact hh
    · rw [List.getElem?_eq_none hh] at h; cases h
  rw [List.getElem?_append_left hlt]; exact h
theorem yjJ {t : TypeId} {v : EV} {H H' : yae} {K : EV → Prop} (hm : More H H') (h : ybe E t v H K) : ybe E t v H' K := by
  cases v <;> simp only [ybe] at h ⊢ <;> try exact h
  split at h
  · rename_i c hb
    rw [hm _ _ hb]; exact h
  · exact h.elim
theorem ylE {x : EV} {H H' : yae} (hm : More H H') {r : IntKind × Nat × (Nat → Int)} (h : ycM H x = some r) : ycM H' x = some r := by
  cases x <;> simp only [ycM] at h ⊢ <;> try exact h
  split at h
  · rename_i k g hb
    rw [hm _ _ hb]; exact h
  · cases h
theorem yjs {src dst : TypeId} {x : EV} {H H' : yae} {K : EV → Prop} (hm : More H H') (h : ybA E src dst x H K) : ybA E src dst x H' K := by
  unfold ybA at h ⊢
  split at h
  case h_2 => exact h.elim
  rename_i si di hs hd
  split at h
  · exact h
  · exact h
  · rename_i htd
    split at h
    case h_2 => exact h.elim
    rename_i e he
    rw [ybo] at h
    cases hi : ybj E e .u8 with
    | false => exact (h.2 hi).elim
    | true =>
      have h' := h.1 hi
      simp only [cond_true]
      split at h'
      · rename_i n g hw
        rw [ylE hm hw]; exact h'
      · split at h'
        · exact h'
        · exact h'.elim
  · exact h.elim
theorem yfg {t : TypeId} {x : EV} {f : Nat} {H H' : yae} {K : EV → Prop} (hm : More H H') (h : yaz E t x f H K) : yaz E t x f H' K := by
  unfold yaz at h ⊢
  split at h
  case h_2 => exact h.elim
  split at h
  case h_2 => exact h.elim
  split at h
  case h_2 => exact h.elim
  split at h
  case h_2 => exact h.elim
  split at h
  · split at h
    · rename_i c hb
      simp_all [hm _ _ hb]
    · exact h.elim
  · simp_all
  · exact h.elim
theorem yfi {t : TypeId} {x i : EV} {H H' : yae} {K : EV → Prop} (hm : More H H') (h : yaA E t x i H K) : yaA E t x i H' K := by
  unfold yaA at h ⊢
  split at h
  case h_2 => exact h.elim
  split at h
  · split at h
    case h_2 => exact h.elim
    split at h
    · split at h
      · rename_i c hb
        simp_all [hm _ _ hb]
      · exact h.elim
    · exact h
    · exact h.elim
  · split at h
    case h_2 => exact h.elim
    split at h
    · split at h
      · rename_i c hb
        simp_all [hm _ _ hb]
      · exact h.elim
    · simp_all
    · exact h.elim
  · exact h.elim
theorem yi2 {t : TypeId} {x : EV} {lo hi mx : Option EV} {H H' : yae} {K : EV → Prop} (hm : More H H') (h : ya9 E t x lo hi mx H K) : ya9 E t x lo hi mx H' K := by
  unfold ya9 at h ⊢
  split at h
  case h_2 => exact h.elim
  split at h
  · simp_all
  · split at h
    · rename_i c _ _ hb
      simp_all [hm _ _ hb]
    · exact h.elim
  · simp_all
  · simp_all
  · split at h
    · rename_i hb
      simp_all [hm _ _ hb]
    · exact h.elim
  · exact h.elim
theorem yhj {x : EV} {H H' : yae} {K : EV → Prop} (hm : More H H') (h : ycw x H K) : ycw x H' K := by
  unfold ycw at h ⊢
  cases x <;> simp only at h ⊢ <;> try exact h
  rename_i b p
  split at h
  · rename_i c hb
    rw [hm _ _ hb]
    exact h
  · exact h.elim
theorem ylY {op : BinOp} {t : TypeId} {o : Operand} {x y : EV} {H H' : yae} {K : EV → Prop} (hm : More H H') (h : ydu E op t o x y H K) : ydu E op t o x y H' K := by
  unfold ydu at h ⊢
  cases h1 : Nat.beq (yic o) 1 with
  | false => rw [h1] at h; exact h
  | true =>
    rw [h1] at h
    simp only [cond_true] at h ⊢
    unfold yoS at h ⊢
    split at h
    · exact h
    · cases h2 : yh9 E t 1 with
      | false => rw [h2] at h; exact h.elim
      | true => rw [h2] at h; simp only [cond_true] at h ⊢; exact yhj hm h
    · exact h.elim
theorem yon {o : Op} {s s' : St} {v : EV} {H : yae} (hD : ybk E) (h : ∀ x ∈ o.operands.toList, (St.opd E s) x = (St.opd E s') x) (hk : yat E o = 1) (hm : More s.heap s'.heap) (ho : Out E o s v H) : Out E o s' v s'.heap := by
  have hH := yfA hD (Nat.le_of_eq hk) ho
  subst hH
  have main : (∀ (r : St) K, ycc E o r K = evV E o r fun v => K v r.heap) → (∀ K, evV E o s K → evV E o s' K) → Out E o s' v s'.heap := by
    intro h1 h2 K hK
    rw [h1]
    refine h2 _ ?_
    have := ho (fun v _ => K v s'.heap) hK
    rwa [h1] at this
  cases o <;> simp [yat] at hk
  case load t a =>
    refine main (fun _ _ => rfl) fun K hK => ?_
    simp only [evV] at hK ⊢
    rw [← h a (by simp [Op.operands])]
    exact yjJ hm hK
  case convert src dst x =>
    refine main (fun _ _ => rfl) fun K hK => ?_
    simp only [evV] at hK ⊢
    rw [← h x (by simp [Op.operands])]
    rw [yac] at hK ⊢
    exact ⟨hK.1, yjs hm hK.2⟩
  case nilCheck x =>
    refine main (fun _ _ => rfl) fun K hK => ?_
    simp only [evV] at hK ⊢
    rw [← h x (by simp [Op.operands])]
    rw [yac] at hK ⊢
    exact ⟨hK.1, yhj hm hK.2⟩
  case binOp op t x y u =>
    refine main (fun _ _ => rfl) fun K hK => ?_
    simp only [evV] at hK ⊢
    rw [← h x (by simp [Op.operands]), ← h y (by simp [Op.operands])]
    rw [yac] at hK ⊢
    exact ⟨hK.1, ylY hm hK.2⟩
  case fieldAddr t x f =>
    refine main (fun _ _ => rfl) fun K hK => ?_
    simp only [evV] at hK ⊢
    rw [← h x (by simp [Op.operands])]
    rw [yac] at hK ⊢
    exact ⟨hK.1, yfg hm hK.2⟩
  case indexAddr t x i =>
    refine main (fun _ _ => rfl) fun K hK => ?_
    simp only [evV] at hK ⊢
    rw [← h x (by simp [Op.operands]), ← h i (by simp [Op.operands])]
    rw [yac] at hK ⊢
    exact ⟨hK.1, yfi hm hK.2⟩
  case slice t x lo hi mx =>
    refine main (fun _ _ => rfl) fun K hK => ?_
    simp only [evV] at hK ⊢
    have ho : ∀ q : Option Operand, (∀ y, q = some y → y ∈ (#[x] ++ lo.toArray ++ hi.toArray ++ mx.toArray : Array Operand).toList) → q.map (St.opd E s) = q.map (St.opd E s') := by
      intro q hq
      cases q with
      | none => rfl
      | some y => simp only [Option.map_some, h y (hq y rfl)]
    rw [← h x (by simp [Op.operands]), ← ho lo (by intro y hy; subst hy; simp), ← ho hi (by intro y hy; subst hy; simp), ← ho mx (by intro y hy; subst hy; simp)]
    rw [yac] at hK ⊢
    exact ⟨hK.1, yi2 hm hK.2⟩
  case call c =>
    obtain ⟨cal, xs, ts⟩ := c
    cases cal
    case value f =>
      cases f
      case func f =>
        simp only at hk
        cases he : E.fn f with
        | none => simp [he] at hk
        | some en =>
          simp only [he] at hk
          cases hq : (ybJ en.ro && !en.lend) <;> simp [hq] at hk
      all_goals simp at hk
    case builtin bi => cases bi <;> simp at hk
    all_goals simp at hk
theorem ynZ {o : Op} {s : St} {v : EV} {H : yae} (hk : yat E o = 3) (ho : Out E o s v H) : More s.heap H := by
  have h := ho (fun v' H' => v' = v ∧ H' = H) ⟨rfl, rfl⟩
  cases o <;> simp [yat] at hk
  case binOp op t x y u => cases hq : Nat.beq (yic y) 1 <;> rw [hq] at hk <;> cases hk
  case alloc t =>
    simp only [ycc] at h
    split at h
    · obtain ⟨_, rfl⟩ := h; exact More.append _ _
    · exact h.elim
  case box t x =>
    simp only [ycc] at h
    split at h
    · exact h.elim
    · obtain ⟨_, rfl⟩ := h; exact More.append _ _
  case buildSlice t n ps =>
    simp only [ycc] at h
    rw [yac] at h
    have h := h.2
    unfold yaE at h
    split at h
    case h_2 => exact h.elim
    split at h
    case h_2 => exact h.elim
    split at h
    case h_2 => exact h.elim
    rw [yac] at h
    have h := h.2
    split at h
    · rw [yac] at h
      have h := h.2
      split at h
      · obtain ⟨_, rfl⟩ := h; exact More.append _ _
      · exact h.elim
    · rw [yac] at h
      have h := h.2
      split at h
      · obtain ⟨_, rfl⟩ := h; exact More.append _ _
      · exact h.elim
  case makeSlice t l c =>
    simp only [ycc] at h
    rw [yac] at h
    have h := h.2
    unfold yaO at h
    split at h
    case h_2 => exact h.elim
    split at h
    case h_2 => exact h.elim
    split at h
    case h_2 => exact h.elim
    split at h
    case h_2 => exact h.elim
    rw [yac] at h
    obtain ⟨_, _, rfl⟩ := h
    exact More.append _ _
  case call c =>
    obtain ⟨cal, xs, ts⟩ := c
    cases cal
    case value f =>
      cases f
      case func f =>
        simp only at hk
        cases he : E.fn f with
        | none => simp [he] at hk
        | some en =>
          simp only [he] at hk
          cases hq : (ybJ en.ro && !en.lend) <;> simp [hq] at hk
      all_goals simp at hk
    case builtin bi => cases bi <;> simp at hk
    all_goals simp at hk
def ymf (ops : List Oper) (o : Oper) (s : St) : Option Bool :=
  match o.guard with
  | none => some true
  | some (j, want) => match ops[j]? with
    | some oj => match oj.dst with
      | some d => match s.slot d with
        | .bool b => some (yeP b want)
        | .tuple [] => some false
        | _ => none
      | none => none
    | none => none
theorem ybw {ops : List Oper} {o : Oper} {s : St} {K : St → Prop} : ya5 E ops o s K ↔ match ymf ops o s with
    | some true => ycc E o.op s fun v H => K (s.put o.dst v H)
    | some false => K (s.put o.dst (.tuple []) s.heap)
    | none => False := by
  unfold ya5 ymf
  cases hg : o.guard with
  | none => exact Iff.rfl
  | some g =>
    obtain ⟨j, want⟩ := g
    dsimp only
    cases ops[j]? with
    | none => exact Iff.rfl
    | some oj =>
      dsimp only
      cases oj.dst with
      | none => exact Iff.rfl
      | some d =>
        dsimp only
        cases hs : s.slot d
        case bool b =>
          have hset : s.put (some d) (.bool b) s.heap = s := by
            simp only [St.put, ykQ (yfJ hs (by simp))]
          dsimp only
          rw [yda]
          cases b <;> cases want <;> simp [hset, yeP]
        case tuple l => cases l <;> exact Iff.rfl
        all_goals exact Iff.rfl
theorem yn1 {ops : List Oper} {o : Oper} {s s' : St} (h : ∀ d ∈ ydm ops o, s.slot d = s'.slot d) : ymf ops o s = ymf ops o s' := by
  unfold ymf
  unfold ydm at h
  cases hg : o.guard with
  | none => rfl
  | some g =>
    obtain ⟨j, want⟩ := g
    simp only [hg] at h
    dsimp only
    cases hj : ops[j]? with
    | none => rfl
    | some oj =>
      simp only [hj] at h
      dsimp only
      cases hd : oj.dst with
      | none => rfl
      | some d =>
        simp only [hd] at h
        dsimp only
        rw [h d (by simp)]
theorem yfy {s : St} {d : Option Nat} {v : EV} {H : yae} {t : Nat} (h : d ≠ some t) : (s.put d v H).slot t = s.slot t := by
  cases d with
  | none => rfl
  | some d =>
    simp only [St.put, St.slot]
    rw [yaC]
    intro e; subst e; exact h rfl
theorem ybM {s : St} {d : Option Nat} {v : EV} {H : yae} {l : List Operand} (h : ydd d (ybR l) = true) : ∀ x ∈ l, St.opd E (s.put d v H) x = (St.opd E s) x := by
  intro x hx
  cases x
  case tmp t =>
    have ht := ydD t l hx
    simp only [St.opd]
    refine yfy ?_
    intro e; subst e
    simp only [ydd, Bool.not_eq_true', ← Bool.not_eq_true, ycr] at h
    exact h ht
  all_goals rfl
theorem ydF {ops : List Oper} {o : Oper} {s : St} {d : Option Nat} {v : EV} {H : yae} (h : ydd d (ydm ops o) = true) : ymf ops o (s.put d v H) = ymf ops o s := by
  refine yn1 fun t ht => yfy ?_
  intro e; subst e
  simp only [ydd, Bool.not_eq_true', ← Bool.not_eq_true, ycr] at h
  exact h ht
theorem yaI {s : St} {d : Option Nat} {v : EV} {H : yae} : (s.put d v H).heap = H := by cases d <;> rfl
theorem yeD {s : St} {a b : Option Nat} {u v : EV} {H H' H'' : yae} (h : neO a b = true) : (s.put a u H).put b v H'' = (s.put b v H').put a u H'' := by
  cases a <;> cases b <;> simp only [St.put]
  rename_i a b
  simp only [neO, Bool.not_eq_true'] at h
  rw [List.set_comm]
  intro e; subst e; simp at h
theorem ycP (hD : ybk E) {ops : List Oper} {p o : Oper} (hi : ycs ops p o = true) {s : St} {K K' : St → Prop} (hK : ∀ s, K s → K' s)
    (hc : ∀ v1 H1 v2 H2, Out E p.op s v1 H1 → Out E o.op (s.put p.dst v1 H1) v2 H2 → K ((s.put p.dst v1 H1).put o.dst v2 H2) →
      ∃ v2' H2' v1' H1', Out E o.op s v2' H2' ∧ Out E p.op (s.put o.dst v2' H2') v1' H1' ∧ K' ((s.put o.dst v2' H2').put p.dst v1' H1'))
    (h : ya5 E ops p s fun s1 => ya5 E ops o s1 K) : ya5 E ops o s fun s2 => ya5 E ops p s2 K' := by
  simp only [ycs, Bool.and_eq_true] at hi
  obtain ⟨⟨hi1, hi2⟩, ⟨hi3, hi4⟩, hi5⟩ := hi
  rw [ybw] at h ⊢
  cases hp : ymf ops p s with
  | none => simp only [hp] at h
  | some bp =>
    simp only [hp] at h
    cases bp with
    | false =>
      simp only at h
      rw [ybw, ydF hi2] at h
      cases ho : ymf ops o s with
      | none => simp only [ho] at h
      | some bo =>
        simp only [ho] at h
        cases bo with
        | false =>
          simp only at h ⊢
          rw [ybw, ydF hi4, hp]
          simp only
          rw [yaI] at h ⊢
          rw [← yeD hi5]; exact hK _ h
        | true =>
          simp only at h ⊢
          obtain ⟨v, H, h1, h2⟩ := ybN hD _ h
          rw [yfD (s' := s) (ybM hi1) yaI] at h2
          refine h2 _ ?_
          rw [ybw, ydF hi4, hp]
          simp only
          rw [yaI, ← yeD hi5]; exact hK _ h1
    | true =>
      simp only at h
      obtain ⟨v1, H1, h1, h2⟩ := ybN hD _ h
      have hO1 : Out E p.op s v1 H1 := h2
      rw [ybw, ydF hi2] at h1
      cases ho : ymf ops o s with
      | none => simp only [ho] at h1
      | some bo =>
        simp only [ho] at h1
        cases bo with
        | false =>
          simp only at h1 ⊢
          rw [ybw, ydF hi4, hp]
          simp only
          rw [yfD (s' := s) (ybM hi3) yaI]
          refine h2 _ ?_
          rw [yaI] at h1
          rw [← yeD hi5]; exact hK _ h1
        | true =>
          simp only at h1 ⊢
          obtain ⟨v2, H2, h3, h4⟩ := ybN hD _ h1
          have hO2 : Out E o.op (s.put p.dst v1 H1) v2 H2 := h4
          obtain ⟨v2', H2', v1', H1', q1, q2, q3⟩ := hc v1 H1 v2 H2 hO1 hO2 h3
          refine q1 _ ?_
          rw [ybw, ydF hi4, hp]
          simp only
          exact q2 _ q3
theorem yis {o : Op} {s : St} {d : Option Nat} {v v1 : EV} {H' H1 : yae} (hi : ydd d (ybR o.operands.toList) = true) (hH' : H' = s.heap) (h : Out E o s v1 H1) : Out E o (s.put d v H') v1 H1 := by
  intro K' hK'
  rw [yfD (s' := s) (ybM hi) (by rw [yaI, hH'])]
  exact h K' hK'
theorem yfs {o : Op} {s : St} {d : Option Nat} {v v1 : EV} {H' H1 : yae} (hi : ydd d (ybR o.operands.toList) = true) (hH' : H' = s.heap) (h : Out E o (s.put d v H') v1 H1) : Out E o s v1 H1 := by
  intro K' hK'
  rw [← yfD (s := s.put d v H') (ybM hi) (by rw [yaI, hH'])]
  exact h K' hK'
theorem ylp (hD : ybk E) {ops : List Oper} {p o : Oper} (hi : ycs ops p o = true) (hi6 : ydO (yat E p.op) (yat E o.op) = true) {s : St} {K : St → Prop}
    (h : ya5 E ops p s fun s1 => ya5 E ops o s1 K) : ya5 E ops o s fun s2 => ya5 E ops p s2 K := by
  refine ycP hD hi (fun _ h => h) ?_ h
  simp only [ycs, Bool.and_eq_true] at hi
  obtain ⟨⟨hi1, hi2⟩, ⟨hi3, hi4⟩, hi5⟩ := hi
  intro v1 H1 v2 H2 hO1 hO2 h3
  have fin : ∀ H2', Out E o.op s v2 H2' → Out E p.op (s.put o.dst v2 H2') v1 H2 → ∃ v2' H2' v1' H1', Out E o.op s v2' H2' ∧ Out E p.op (s.put o.dst v2' H2') v1' H1' ∧ K ((s.put o.dst v2' H2').put p.dst v1' H1') :=
    fun H2' q1 q2 => ⟨v2, H2', v1, H2, q1, q2, by rw [← yeD hi5]; exact h3⟩
  simp only [ydO, Bool.or_eq_true, Bool.and_eq_true, Nat.beq_eq, Nat.ble_eq] at hi6
  rcases hi6 with hz | hz | ⟨hz1, hz2⟩ | ⟨hz1, hz2⟩
  · obtain ⟨q1, q2⟩ := yjC (s' := s.put o.dst v2 H2) hD (fun x hx => (ybM hi3 x hx).symm) hz hO1
    rw [yaI] at q2
    exact fin H2 (yfs hi1 q1 hO2) q2
  · obtain ⟨q1, q2⟩ := yjC (s' := s) hD (ybM hi1) hz hO2
    rw [yaI] at q1
    refine fin s.heap q2 ?_
    rw [q1]
    exact yis hi3 rfl hO1
  · have q1 := yfA hD hz1 hO1
    have q2 := yfA hD hz2 hO2
    rw [yaI] at q2
    refine fin H2 (yfs hi1 q1 hO2) ?_
    rw [q2]
    exact yis hi3 q1 hO1
  · -- what is read, and new blocks
    have q1 := yfA hD (Nat.le_of_eq hz1) hO1
    have hO2' : Out E o.op s v2 H2 := yfs hi1 q1 hO2
    have hmore := ynZ hz2 hO2'
    refine fin H2 hO2' ?_
    have := yon (s' := s.put o.dst v2 H2) hD (fun x hx => (ybM hi3 x hx).symm) hz1 (by rw [yaI]; exact hmore) hO1
    rwa [yaI] at this
theorem ym5 {t : TypeId} {v : EV} {H H' : yae} (hb : ∀ b, ydk v = some b → H[b]? = H'[b]?) : ybe E t v H = ybe E t v H' := by
  funext K
  cases v <;> simp only [ybe]
  rw [hb _ rfl]
theorem ynR {x : EV} {H H' : yae} (hb : ∀ b, ydk x = some b → H[b]? = H'[b]?) : ycM H x = ycM H' x := by
  cases x <;> simp only [ycM]
  rw [hb _ rfl]
theorem ynb {src dst : TypeId} {x : EV} {H H' : yae} (hb : ∀ b, ydk x = some b → H[b]? = H'[b]?) : ybA E src dst x H = ybA E src dst x H' := by
  funext K
  have hw := ynR hb
  unfold ybA
  cases E.ty src with
  | none => rfl
  | some si =>
    cases E.ty dst with
    | none => rfl
    | some di =>
      simp only
      cases di.td <;> try rfl
      all_goals (cases x <;> first | rfl | (show ybx E si _ H K = ybx E si _ H' K; unfold ybx; rw [hw]))
theorem ynF {x : EV} {H H' : yae} (hb : ∀ b, ydk x = some b → H[b]? = H'[b]?) : ycw x H = ycw x H' := by
  funext K
  cases x <;> first | rfl | (simp only [ycw]; rw [hb _ rfl]) | (rename_i v; cases v <;> rfl)
theorem ygH {t : TypeId} {x : EV} {f : Nat} {H H' : yae} (hb : ∀ b, ydk x = some b → H[b]? = H'[b]?) : yaz E t x f H = yaz E t x f H' := by
  funext K
  cases x <;> first | rfl | (simp only [yaz]; rw [hb _ rfl]) | (rename_i v; cases v <;> rfl)
theorem ygD {t : TypeId} {x i : EV} {H H' : yae} (hb : ∀ b, ydk x = some b → H[b]? = H'[b]?) : yaA E t x i H = yaA E t x i H' := by
  funext K
  cases x <;> first | rfl | (simp only [yaA]; rw [hb _ rfl]) | (rename_i v; cases v <;> rfl)
theorem yl1 {t : TypeId} {x : EV} {lo hi mx : Option EV} {H H' : yae} (hb : ∀ b, ydk x = some b → H[b]? = H'[b]?) : ya9 E t x lo hi mx H = ya9 E t x lo hi mx H' := by
  funext K
  unfold ya9
  cases mx with
  | some _ => rfl
  | none =>
    cases E.ty t with
    | none => rfl
    | some ti =>
      simp only
      cases ti.td
      case slice =>
        cases x
        case slice => simp only; rw [hb _ rfl]
        all_goals rfl
      case array =>
        cases x
        case ptr b p =>
          cases p with
          | nil => simp only; rw [hb _ rfl]
          | cons _ _ => rfl
        all_goals rfl
      all_goals (cases x <;> rfl)
theorem yhN {o : Op} {s s' : St} {v : EV} {H : yae} {x : Operand} (h : ∀ x ∈ o.operands.toList, (St.opd E s) x = (St.opd E s') x) (hr : ydl o = some x)
    (hb : ∀ b, ydk (St.opd E s x) = some b → s.heap[b]? = s'.heap[b]?) (ho : Out E o s v H) : H = s.heap ∧ Out E o s' v s'.heap := by
  have main : (∀ (r : St) K, ycc E o r K = evV E o r fun v => K v r.heap) → evV E o s = evV E o s' → H = s.heap ∧ Out E o s' v s'.heap := by
    intro h1 h2
    have := ho (fun v' H' => v' = v ∧ H' = H) ⟨rfl, rfl⟩
    rw [h1] at this
    obtain ⟨u, ⟨rfl, hH⟩, h6⟩ := det_evV _ this
    refine ⟨hH.symm, fun K hK => ?_⟩
    rw [h1, ← h2]
    exact h6 _ hK
  cases o <;> simp only [ydl, Option.some.injEq, reduceCtorEq] at hr
  case load t a =>
    subst hr
    refine main (fun _ _ => rfl) (funext fun K => ?_)
    simp only [evV]
    rw [← h a (by simp [Op.operands]), ym5 hb]
  case convert src dst x =>
    subst hr
    refine main (fun _ _ => rfl) (funext fun K => ?_)
    simp only [evV]
    rw [← h x (by simp [Op.operands]), ynb hb]
  case nilCheck x =>
    subst hr
    refine main (fun _ _ => rfl) (funext fun K => ?_)
    simp only [evV]
    rw [← h x (by simp [Op.operands]), ynF hb]
  case fieldAddr t x f =>
    subst hr
    refine main (fun _ _ => rfl) (funext fun K => ?_)
    simp only [evV]
    rw [← h x (by simp [Op.operands]), ygH hb]
  case indexAddr t x i =>
    subst hr
    refine main (fun _ _ => rfl) (funext fun K => ?_)
    simp only [evV]
    rw [← h x (by simp [Op.operands]), ← h i (by simp [Op.operands]), ygD hb]
  case slice t x lo hi mx =>
    subst hr
    refine main (fun _ _ => rfl) (funext fun K => ?_)
    simp only [evV]
    have ho : ∀ q : Option Operand, (∀ y, q = some y → y ∈ (#[x] ++ lo.toArray ++ hi.toArray ++ mx.toArray : Array Operand).toList) → q.map (St.opd E s) = q.map (St.opd E s') := by
      intro q hq
      cases q with
      | none => rfl
      | some y => simp only [Option.map_some, h y (hq y rfl)]
    rw [← h x (by simp [Op.operands]), ← ho lo (by intro y hy; subst hy; simp), ← ho hi (by intro y hy; subst hy; simp), ← ho mx (by intro y hy; subst hy; simp), yl1 hb]
theorem yiq {o : Op} {s : St} {v : EV} {H : yae} {a : Operand} (hp : ybr o = some a) (ho : Out E o s v H) :
    v = .undef ∧ ∃ b c, ydk (St.opd E s a) = some b ∧ H = s.heap.set b c ∧
      ∀ s', (∀ x ∈ o.operands.toList, (St.opd E s) x = (St.opd E s') x) → s'.heap[b]? = s.heap[b]? → Out E o s' .undef (s'.heap.set b c) := by
  cases o <;> simp only [ybr, Option.some.injEq, reduceCtorEq] at hp
  case store t a' x =>
    subst hp
    have h := ho (fun v' H' => v' = v ∧ H' = H) ⟨rfl, rfl⟩
    simp only [ycc] at h
    cases hq : St.opd E s a' <;> rw [hq] at h <;> simp only [ybY] at h <;> try exact h.elim
    rename_i b p
    cases hb : s.heap[b]? with
    | none => rw [hb] at h; exact h.elim
    | some oc =>
      cases oc with
      | none => rw [hb] at h; exact h.elim
      | some c =>
        rw [hb] at h
        simp only at h
        cases hs : EV.set p c (St.opd E s x) with
        | none => rw [hs] at h; exact h.elim
        | some c' =>
          rw [hs] at h
          simp only at h
          rw [yac] at h
          obtain ⟨h1, rfl, rfl⟩ := h
          refine ⟨rfl, b, some c', rfl, rfl, fun s' hop hbb K hK => ?_⟩
          simp only [ycc]
          rw [← hop a' (by simp [Op.operands]), ← hop x (by simp [Op.operands]), hq]
          simp only [ybY, hbb, hb, hs]
          rw [yac]
          exact ⟨h1, hK⟩
theorem ygd {o : Op} {x : Operand} (h : ydl o = some x) : x ∈ o.operands.toList := by
  cases o <;> simp only [ydl, Option.some.injEq, reduceCtorEq] at h <;> subst h <;> simp [Op.operands]
theorem yin {o : Op} {x : Operand} (h : ybr o = some x) : x ∈ o.operands.toList := by
  cases o <;> simp only [ybr, Option.some.injEq, reduceCtorEq] at h <;> subst h <;> simp [Op.operands]
theorem yhe {a x : EV} {b c : Nat} (h : yc8 a x = true) (ha : ydk a = some b) (hx : ydk x = some c) : b ≠ c := by
  intro e; subst e
  simp [yc8, ha, hx] at h
theorem ygO (hD : ybk E) {ops : List Oper} {p o : Oper} (hi : ycs ops p o = true) {x y : Operand} (hd : ymd p.op o.op = some (x, y)) {s : St} (ha : yc8 (St.opd E s x) (St.opd E s y) = true) {K : St → Prop}
    (h : ya5 E ops p s fun s1 => ya5 E ops o s1 K) : ya5 E ops o s fun s2 => ya5 E ops p s2 K := by
  refine ycP hD hi (fun _ h => h) ?_ h
  simp only [ycs, Bool.and_eq_true] at hi
  obtain ⟨⟨hi1, hi2⟩, ⟨hi3, hi4⟩, hi5⟩ := hi
  intro v1 H1 v2 H2 hO1 hO2 h3
  have fin : ∀ H2', Out E o.op s v2 H2' → Out E p.op (s.put o.dst v2 H2') v1 H2 → ∃ v2' H2' v1' H1', Out E o.op s v2' H2' ∧ Out E p.op (s.put o.dst v2' H2') v1' H1' ∧ K ((s.put o.dst v2' H2').put p.dst v1' H1') :=
    fun H2' q1 q2 => ⟨v2, H2', v1, H2, q1, q2, by rw [← yeD hi5]; exact h3⟩
  have cases2 : (ybr p.op = some x ∧ ydl o.op = some y) ∨ (ydl p.op = some x ∧ ybr o.op = some y) := by
    unfold ymd at hd
    split at hd
    · rename_i a q h1 h2
      simp only [Option.some.injEq, Prod.mk.injEq] at hd
      obtain ⟨rfl, rfl⟩ := hd
      exact .inl ⟨h1, h2⟩
    · split at hd
      · rename_i a q h1 h2
        simp only [Option.some.injEq, Prod.mk.injEq] at hd
        obtain ⟨rfl, rfl⟩ := hd
        exact .inr ⟨h1, h2⟩
      · cases hd
  rcases cases2 with ⟨g1, g2⟩ | ⟨g1, g2⟩
  · obtain ⟨rfl, b, c, k1, rfl, k3⟩ := yiq g1 hO1
    obtain ⟨q1, q2⟩ := yhN (s' := s) (ybM hi1) g2 (fun b' hb' => by
      rw [ybM hi1 y (ygd g2)] at hb'
      rw [yaI, List.getElem?_set_ne (yhe ha k1 hb')]) hO2
    rw [yaI] at q1
    refine fin s.heap q2 ?_
    have := k3 (s.put o.dst v2 s.heap) (fun z hz => (ybM hi3 z hz).symm) (by rw [yaI])
    rw [yaI] at this
    rw [q1]
    exact this
  · obtain ⟨q1, _⟩ := yhN (s' := s) (fun _ _ => rfl) g1 (fun _ _ => rfl) hO1
    subst q1
    have hO2' := yfs hi1 rfl hO2
    obtain ⟨rfl, b, c, k1, rfl, k3⟩ := yiq g2 hO2'
    refine fin _ hO2' ?_
    obtain ⟨_, q2⟩ := yhN (s' := s.put o.dst .undef (s.heap.set b c)) (fun z hz => (ybM hi3 z hz).symm) g1 (fun b' hb' => by
      rw [yaI, List.getElem?_set_ne (fun e => yhe ha hb' k1 e.symm)]) hO1
    rwa [yaI] at q2
theorem yhC (hC : ya0 E) {o : Op} {s : St} {v : EV} {H : yae} (hk : yat E o = 3) (hcl : ClS s) (ho : Out E o s v H) :
    ∃ (mk : Nat → EV) (c : EV), (∀ f n, (mk n).ren f = mk (f n)) ∧ v = mk s.heap.length ∧ H = s.heap ++ [some c] ∧ Cl s.heap.length c ∧
      ∀ s', (∀ x ∈ o.operands.toList, (St.opd E s) x = (St.opd E s') x) → Out E o s' (mk s'.heap.length) (s'.heap ++ [some c]) := by
  have h := ho (fun v' H' => v' = v ∧ H' = H) ⟨rfl, rfl⟩
  cases o <;> simp [yat] at hk
  case binOp op t x y u => cases hq : Nat.beq (yic y) 1 <;> rw [hq] at hk <;> cases hk
  case alloc t =>
    simp only [ycc] at h
    cases ht : E.ty t with
    | none => rw [ht] at h; exact h.elim
    | some ti =>
      rw [ht] at h
      obtain ⟨rfl, rfl⟩ := h
      refine ⟨fun n => .ptr n [], ti.zero, fun _ _ => rfl, rfl, rfl, Cl.of (hC.ty t ti ht), fun s' _ K hK => ?_⟩
      simp only [ycc, ht]
      exact hK
  case box t x =>
    simp only [ycc] at h
    have hu : St.opd E s x ≠ .undef := by intro e; rw [e] at h; exact h.elim
    have h1 : ygg s.heap (St.opd E s x) (fun v' H' => v' = v ∧ H' = H) := by
      revert h
      cases hq : St.opd E s x <;> intro h <;> first | exact absurd hq hu | exact h
    obtain ⟨rfl, rfl⟩ := h1
    refine ⟨fun n => .ptr n [], St.opd E s x, fun _ _ => rfl, rfl, rfl, ykl hC hcl x, fun s' hop K hK => ?_⟩
    simp only [ycc]
    rw [← hop x (by simp [Op.operands])]
    have hK' : ygg s'.heap (St.opd E s x) K := hK
    revert hK'
    cases hq : St.opd E s x <;> intro hK' <;> first | exact absurd hq hu | exact hK'
  case buildSlice t n ps =>
    simp only [ycc] at h
    rw [yac] at h
    obtain ⟨hd, h⟩ := h
    have hps := ynx hC hcl ps.toList
    have go : ∀ (L : List (Nat × EV)), (∀ p ∈ L, Cl s.heap.length p.2) → yaE E t n L s.heap (fun v' H' => v' = v ∧ H' = H) →
        ∃ (mk : Nat → EV) (c : EV), (∀ f n, (mk n).ren f = mk (f n)) ∧ v = mk s.heap.length ∧ H = s.heap ++ [some c] ∧ Cl s.heap.length c ∧ ∀ (H2 : yae) (K : EV → yae → Prop), K (mk H2.length) (H2 ++ [some c]) → yaE E t n L H2 K := by
      intro L hL h
      unfold yaE at h ⊢
      cases ht : E.ty t with
      | none => rw [ht] at h; exact h.elim
      | some ti =>
        rw [ht] at h
        simp only at h ⊢
        cases htd : ti.td <;> simp only [htd] at h ⊢ <;> try exact h.elim
        rename_i e
        cases he : E.ty e with
        | none => rw [he] at h; exact h.elim
        | some ei =>
          rw [he] at h
          simp only at h ⊢
          rw [yac] at h
          obtain ⟨g0, h⟩ := h
          have hz : Cl s.heap.length ei.zero := Cl.of (hC.ty e ei he)
          split at h
          · rename_i q z hq
            rw [yac] at h
            obtain ⟨g1, h⟩ := h
            split at h
            · rename_i u hu
              obtain ⟨rfl, rfl⟩ := h
              refine ⟨fun m => .slice m 0 n (some n) 1, u, fun _ _ => rfl, rfl, rfl, ydJ hL (fun f _ => rfl) hu, fun H2 K hK => ?_⟩
              rw [yac]
              refine ⟨g0, ?_⟩
              first
                | (rw [yac]; exact ⟨g1, hK⟩)
                | (simp only [hq, hu]; rw [yac]; exact ⟨g1, hK⟩)
            · exact h.elim
          · rename_i hne
            rw [yac] at h
            obtain ⟨g1, h⟩ := h
            split at h
            · rename_i u hu
              obtain ⟨rfl, rfl⟩ := h
              refine ⟨fun m => .slice m 0 n (some n) ei.size, u, fun _ _ => rfl, rfl, rfl, ydJ hL (fun f hf => ?_) hu, fun H2 K hK => ?_⟩
              · simp only [EV.ren, yaR, List.map_replicate, hz f hf]
              · rw [yac]
                refine ⟨g0, ?_⟩
                first
                  | (rw [yac]; exact ⟨g1, hK⟩)
                  | (split
                     · rename_i q z hq; exact (hne q z hq).elim
                     · rw [yac]
                       simp only [hu]
                       exact ⟨g1, hK⟩)
            · exact h.elim
    obtain ⟨mk, c, k1, k2, k3, k4, k5⟩ := go _ hps h
    refine ⟨mk, c, k1, k2, k3, k4, fun s' hop K hK => ?_⟩
    have e1 : (ps.toList.map fun p => (St.opd E s) p.2) = ps.toList.map fun p => (St.opd E s') p.2 := List.map_congr_left fun p hp => hop p.2 (by simp only [Op.operands]; exact List.mem_map.2 ⟨p, hp, rfl⟩)
    have e2 : (ps.toList.map fun p => (p.1, (St.opd E s) p.2)) = ps.toList.map fun p => (p.1, (St.opd E s') p.2) := List.map_congr_left fun p hp => by rw [hop p.2 (by simp only [Op.operands]; exact List.mem_map.2 ⟨p, hp, rfl⟩)]
    simp only [ycc]
    rw [← e1, ← e2, yac]
    exact ⟨hd, k5 _ _ hK⟩
  case makeSlice t l c =>
    simp only [ycc] at h
    rw [yac] at h
    obtain ⟨hd, h⟩ := h
    have go : ∀ (A B : EV), yaO E t A B s.heap (fun v' H' => v' = v ∧ H' = H) →
        ∃ (mk : Nat → EV) (c : EV), (∀ f n, (mk n).ren f = mk (f n)) ∧ v = mk s.heap.length ∧ H = s.heap ++ [some c] ∧ Cl s.heap.length c ∧ ∀ (H2 : yae) (K : EV → yae → Prop), K (mk H2.length) (H2 ++ [some c]) → yaO E t A B H2 K := by
      intro A B h
      unfold yaO at h ⊢
      cases ht : E.ty t with
      | none => rw [ht] at h; exact h.elim
      | some ti =>
        rw [ht] at h
        cases A <;> simp only at h ⊢ <;> try exact h.elim
        cases B <;> simp only at h ⊢ <;> try exact h.elim
        rename_i ka la kb lb
        cases htd : ti.td <;> simp only [htd] at h ⊢ <;> try exact h.elim
        rename_i e
        cases he : E.ty e with
        | none => rw [he] at h; exact h.elim
        | some ei =>
          rw [he] at h
          simp only at h ⊢
          cases hz : ei.zero <;> simp only [hz] at h ⊢ <;> try exact h.elim
          rw [yac] at h
          obtain ⟨g0, rfl, rfl⟩ := h
          refine ⟨fun m => .slice m 0 la.toNat (some lb.toNat) 1, _, fun _ _ => rfl, rfl, rfl, fun _ _ => rfl, fun H2 K hK => ?_⟩
          rw [yac]
          exact ⟨g0, hK⟩
    obtain ⟨mk, c', k1, k2, k3, k4, k5⟩ := go _ _ h
    refine ⟨mk, c', k1, k2, k3, k4, fun s' hop K hK => ?_⟩
    simp only [ycc]
    rw [← hop l (by simp [Op.operands]), ← hop c (by simp [Op.operands]), yac]
    exact ⟨hd, k5 _ _ hK⟩
  case call c =>
    obtain ⟨cal, xs, ts⟩ := c
    cases cal
    case value f =>
      cases f
      case func f =>
        simp only at hk
        cases he : E.fn f with
        | none => simp [he] at hk
        | some en =>
          simp only [he] at hk
          cases hq : (ybJ en.ro && !en.lend) <;> simp [hq] at hk
      all_goals simp at hk
    case builtin bi => cases bi <;> simp at hk
    all_goals simp at hk
def KQ (n : Nat) (K : St → Prop) : St → Prop := fun s' => ∃ f s, Shf n s.heap.length f ∧ StR f s s' ∧ K s
theorem StR.id (s : St) : StR (fun b => b) s s := ⟨by
  have : s.tmps.map (EV.ren fun b => b) = s.tmps.map _root_.id := List.map_congr_left fun v _ => (yiV v : v.ren (fun b => b) = _root_.id v)
  rw [this, List.map_id], HR.id _⟩
theorem StR.comp {f g : Nat → Nat} {s s' s'' : St} (h : StR f s s') (k : StR g s' s'') : StR (fun b => g (f b)) s s'' :=
  ⟨by rw [k.tmps, h.tmps, List.map_map]; exact List.map_congr_left fun v _ => ydX f g v, h.heap.comp k.heap⟩
theorem KQ.of {n : Nat} {K : St → Prop} {s : St} (h : K s) : KQ n K s := ⟨_, s, Shf.id n _, StR.id s, h⟩
theorem KQ.flat {n : Nat} {K : St → Prop} {s : St} (h : KQ n (KQ n K) s) : KQ n K s := by
  obtain ⟨g, s1, h1, h2, f, s2, h3, h4, h5⟩ := h
  exact ⟨_, s2, h3.comp (by rw [← h4.heap.len]; exact h1), h4.comp h2, h5⟩
theorem KQ.ops (hC : ya0 E) (hD : ybk E) {n : Nat} {ops r : List Oper} {K : St → Prop} {s : St} (h : KQ n (fun s => ybL E ops r s K) s) : ybL E ops r s (KQ n K) := by
  obtain ⟨f, s1, h1, h2, h3⟩ := h
  refine (ya6 hD r s).mono (yiM hC hD r h1 h2 h3) ?_
  rintro s' ⟨s2, k1, k2, k3⟩
  exact ⟨f, s2, h1.mono k2, k1, k3⟩
theorem ynH {s : St} {d : Option Nat} {v : EV} {H : yae} : (s.put d v H).tmps = (match d with | some d => s.tmps.set d v | none => s.tmps) := by cases d <;> rfl
theorem yiN (hC : ya0 E) (hD : ybk E) {ops : List Oper} {p o : Oper} (hi : ycs ops p o = true) (hp : yat E p.op = 3) (ho : yat E o.op = 3) {n : Nat} {s : St} (hcl : ClS s) (hn : n ≤ s.heap.length) {K : St → Prop}
    (h : ya5 E ops p s fun s1 => ya5 E ops o s1 K) : ya5 E ops o s fun s2 => ya5 E ops p s2 (KQ n K) := by
  refine ycP hD hi (fun _ h => KQ.of h) ?_ h
  simp only [ycs, Bool.and_eq_true] at hi
  obtain ⟨⟨hi1, hi2⟩, ⟨hi3, hi4⟩, hi5⟩ := hi
  intro v1 H1 v2 H2 hO1 hO2 h3
  obtain ⟨mk1, c1, a1, rfl, rfl, a4, a5⟩ := yhC hC hp hcl hO1
  have hcl1 : ClS (s.put p.dst (mk1 s.heap.length) (s.heap ++ [some c1])) := by
    refine hcl.put _ (by simp) (fun f hf => by rw [a1, hf _ (by simp)]) ?_
    intro b c hb
    have hmono : ∀ {u : EV}, Cl s.heap.length u → Cl (s.heap ++ [some c1]).length u := fun h => h.mono (by simp)
    rcases Nat.lt_or_ge b s.heap.length with hh | hh
    · rw [List.getElem?_append_left hh] at hb; exact hmono (hcl.heap b c hb)
    · rw [List.getElem?_append_right hh] at hb
      cases hq : b - s.heap.length with
      | zero => rw [hq] at hb; simp at hb; subst hb; exact hmono a4
      | succ k => rw [hq] at hb; simp at hb
  obtain ⟨mk2, c2, b1, e2, e3, b4, b5⟩ := yhC hC ho hcl1 hO2
  rw [yaI] at e2 e3 b4
  subst e2; subst e3
  have q1 := b5 s (ybM hi1)
  have q2 := a5 (s.put o.dst (mk2 s.heap.length) (s.heap ++ [some c2])) (fun x hx => (ybM hi3 x hx).symm)
  rw [yaI] at q2
  refine ⟨_, _, _, _, q1, q2, swp s.heap.length, _, Shf.swp n s.heap.length _ hn ?_, ?_, h3⟩
  · rw [yaI]; simp
  · have hlen1 : (s.heap ++ [some c1]).length = s.heap.length + 1 := by simp
    have hlen2 : (s.heap ++ [some c2]).length = s.heap.length + 1 := by simp
    have fixT : s.tmps.map (EV.ren (swp s.heap.length)) = s.tmps := hcl.tmps.ren _ fun b hb => by unfold swp; rw [if_neg (by omega), if_neg (by omega)]
    have sw0 : swp s.heap.length s.heap.length = s.heap.length + 1 := by simp [swp]
    have sw1 : swp s.heap.length (s.heap.length + 1) = s.heap.length := by simp [swp]
    have sc : ∀ {u : EV}, Cl s.heap.length u → u.ren (swp s.heap.length) = u := fun h => h _ fun b hb => by unfold swp; rw [if_neg (by omega), if_neg (by omega)]
    have c2cl : Cl s.heap.length c2 := by
      obtain ⟨mk', c', _, _, k3, k4, _⟩ := yhC hC ho hcl q1
      have : c2 = c' := by simpa using k3
      rw [this]; exact k4
    refine ⟨?_, ?_⟩
    · simp only [ynH, hlen1, hlen2]
      cases hpd : p.dst with
      | none =>
        cases hod : o.dst with
        | none => exact fixT.symm
        | some d => simp only [List.map_set, b1, sw1, fixT]
      | some d1 =>
        cases hod : o.dst with
        | none => simp only [List.map_set, a1, sw0, fixT]
        | some d2 =>
          have hne : d2 ≠ d1 := by
            intro e
            rw [hpd, hod] at hi5
            subst e
            simp [neO] at hi5
          simp only [List.map_set, a1, b1, sw0, sw1, fixT]
          rw [List.set_comm _ _ hne]
    · rw [yaI, yaI]
      refine ⟨by simp, fun b => ?_⟩
      rcases Nat.lt_or_ge b s.heap.length with hh | hh
      · have e : swp s.heap.length b = b := by unfold swp; rw [if_neg (by omega), if_neg (by omega)]
        rw [e, List.append_assoc, List.append_assoc, List.getElem?_append_left hh, List.getElem?_append_left hh]
        cases hq : s.heap[b]? with
        | none => rfl
        | some oc =>
          cases oc with
          | none => rfl
          | some c => simp only [Option.map_some, yfq, sc (hcl.heap b c hq)]
      · rcases Nat.lt_or_ge b (s.heap.length + 2) with h2 | h2
        · rcases Nat.lt_or_ge b (s.heap.length + 1) with h4 | h4
          · obtain rfl : b = s.heap.length := by omega
            rw [sw0, List.getElem?_append_right (by simp), List.getElem?_append_left (by simp), List.getElem?_append_right (Nat.le_refl _)]
            simp [yfq, sc a4]
          · obtain rfl : b = s.heap.length + 1 := by omega
            rw [sw1, List.getElem?_append_left (by simp), List.getElem?_append_right (Nat.le_refl _), List.getElem?_append_right (by simp)]
            simp [yfq, sc c2cl]
        · have e : swp s.heap.length b = b := by unfold swp; rw [if_neg (by omega), if_neg (by omega)]
          rw [e, List.getElem?_eq_none (by simp; omega), List.getElem?_eq_none (by simp; omega)]
          rfl
theorem yld {ops : List Oper} {o : Oper} {s : St} {K : St → Prop} (hD : ybk E) (h : ya5 E ops o s K) : ya5 E ops o s fun s' => K s' ∧ ∀ t, o.dst ≠ some t → s'.slot t = s.slot t := by
  rw [ybw] at h ⊢
  cases hg : ymf ops o s with
  | none => rw [hg] at h; exact h
  | some b =>
    rw [hg] at h
    cases b with
    | true => exact (ybN hD).mono h fun v H hK => ⟨hK, fun t ht => yfy ht⟩
    | false => exact ⟨h, fun t ht => yfy ht⟩
theorem yho {ops : List Oper} (hD : ybk E) : ∀ (r : List Oper) {s : St} {K : St → Prop}, ybL E ops r s K → ybL E ops r s fun s' => K s' ∧ ∀ t, (∀ o ∈ r, o.dst ≠ some t) → s'.slot t = s.slot t
  | [], s, K, h => ⟨h, fun _ _ => rfl⟩
  | o :: r, s, K, h => by
    simp only [ybL] at h ⊢
    refine (ybz hD).mono (yld hD h) ?_
    rintro s1 ⟨h1, h2⟩
    refine (ya6 hD r s1).mono (yho hD r h1) ?_
    rintro s2 ⟨h3, h4⟩
    exact ⟨h3, fun t ht => (h4 t fun q hq => ht q (List.mem_cons_of_mem _ hq)).trans (h2 t (ht o List.mem_cons_self))⟩
theorem yja (hC : ya0 E) (hD : ybk E) {ops : List Oper} {o : Oper} {s : St} {K : St → Prop} (h : ya5 E ops o s K) : ya5 E ops o s fun s' => K s' ∧ s.heap.length ≤ s'.heap.length := by
  refine (ybz hD).mono (yil hC hD (Shf.id 0 _) (StR.id s) h) ?_
  rintro s' ⟨s1, h1, h2, h3⟩
  have h4 := StR.id s1
  have e1 : s'.tmps = s1.tmps := h1.tmps.trans h4.tmps.symm
  have e2 : s'.heap = s1.heap := by
    apply List.ext_getElem?
    intro b
    rw [h1.heap.get b, ← h4.heap.get b]
  have e3 : s' = s1 := by cases s'; cases s1; simp_all
  exact ⟨e3 ▸ h3, by rw [e2]; exact h2⟩
theorem yd0 {j : Nat} : ∀ {l : List Edge}, yd2 j l = true → ∃ e ∈ l, Region.binds .any e = true ∧ e.on = j
  | e :: l, h => by
    simp only [yd2, Bool.or_eq_true, Bool.and_eq_true, Nat.beq_eq] at h
    rcases h with ⟨h1, h2⟩ | h
    · exact ⟨e, List.mem_cons_self, h1, h2⟩
    · obtain ⟨e', h1, h2⟩ := yd0 h
      exact ⟨e', List.mem_cons_of_mem _ h1, h2⟩
theorem ydt {i : Nat} : ∀ {l : List Edge}, ycC i l = true → ∀ e ∈ l, Region.binds .any e = true → e.on < i
  | e :: l, h, e', he, hb => by
    simp only [ycC, Bool.and_eq_true, Bool.or_eq_true, Bool.not_eq_true', Nat.blt_eq] at h
    rcases List.mem_cons.1 he with rfl | he
    · rcases h.1 with h1 | h1
      · rw [h1] at hb; cases hb
      · exact h1
    · exact ydt h.2 e' he hb
theorem yl5 {ops : List Oper} {o : Oper} {i : Nat} (l : List Oper) : ∀ (j0 : Nat), ynl E ops o i j0 l = true → ∀ (k : Nat) p, l[k]? = some p →
    yd2 (j0 + k) o.after.toList = true ∨ (ycs ops p o = true ∧ (ydO (yat E p.op) (yat E o.op) = true ∨ (yjz (yat E p.op) (yat E o.op) = true ∧ ydz E (ops.take i) = true) ∨ yos ops (j0 + k) i p o = true)) := by
  induction l with
  | nil => intro j0 h k p hk; simp at hk
  | cons q l ih =>
    intro j0 h k p hk
    simp only [ynl, Bool.and_eq_true, Bool.or_eq_true] at h
    cases k with
    | zero =>
      rw [List.getElem?_cons_zero, Option.some.injEq] at hk
      subst hk
      exact h.1
    | succ k =>
      rw [List.getElem?_cons_succ] at hk
      have := ih (j0 + 1) h.2 k p hk
      rw [show j0 + 1 + k = j0 + (k + 1) from by omega] at this
      exact this
theorem yke {ops : List Oper} (l : List Oper) : ∀ (i0 : Nat), ykn E ops i0 l = true → ∀ (k : Nat) o, l[k]? = some o →
    ycC (i0 + k) o.after.toList = true ∧ ynl E ops o (i0 + k) 0 (ops.take (i0 + k)) = true := by
  induction l with
  | nil => intro i0 h k o hk; simp at hk
  | cons q l ih =>
    intro i0 h k o hk
    simp only [ykn, Bool.and_eq_true] at h
    cases k with
    | zero =>
      rw [List.getElem?_cons_zero, Option.some.injEq] at hk
      subst hk
      exact h.1
    | succ k =>
      rw [List.getElem?_cons_succ] at hk
      have := ih (i0 + 1) h.2 k o hk
      rw [show i0 + 1 + k = i0 + (k + 1) from by omega] at this
      exact this
theorem yg9 {ops : List Oper} (h : yn6 E ops = true) {i : Nat} {o : Oper} (hi : ops[i]? = some o) :
    (∀ e ∈ o.after.toList, Region.binds .any e = true → e.on < i) ∧ ∀ (j : Nat) p, j < i → ops[j]? = some p → (∃ e ∈ o.after.toList, Region.binds .any e = true ∧ e.on = j) ∨
      (ycs ops p o = true ∧ (ydO (yat E p.op) (yat E o.op) = true ∨ (yjz (yat E p.op) (yat E o.op) = true ∧ ydz E (ops.take i) = true) ∨ yos ops j i p o = true)) := by
  obtain ⟨h1, h2⟩ := yke ops 0 h i o hi
  rw [Nat.zero_add] at h1 h2
  refine ⟨ydt h1, fun j p hj hp => ?_⟩
  rcases yl5 _ 0 h2 j p (by rw [List.getElem?_take_of_lt hj]; exact hp) with h3 | h3
  · rw [Nat.zero_add] at h3; exact .inl (yd0 h3)
  · rw [Nat.zero_add] at h3; exact .inr h3
theorem yjW {t : Operand → Operand → Bool} {o : Oper} (l : List Oper) : ∀ (j0 : Nat), ye0 E t o j0 l = true → ∀ (k : Nat) p, l[k]? = some p →
    yd2 (j0 + k) o.after.toList = true ∨ ydO (yat E p.op) (yat E o.op) = true ∨ yjz (yat E p.op) (yat E o.op) = true ∨ ∀ x y, ymd p.op o.op = some (x, y) → t x y = true := by
  induction l with
  | nil => intro j0 h k p hk; simp at hk
  | cons q l ih =>
    intro j0 h k p hk
    simp only [ye0, Bool.and_eq_true, Bool.or_eq_true] at h
    cases k with
    | zero =>
      rw [List.getElem?_cons_zero, Option.some.injEq] at hk
      subst hk
      rcases h.1 with h | h | h | h
      · exact .inl h
      · exact .inr (.inl h)
      · exact .inr (.inr (.inl h))
      · refine .inr (.inr (.inr fun x y hd => ?_))
        rw [hd] at h; exact h
    | succ k =>
      rw [List.getElem?_cons_succ] at hk
      have := ih (j0 + 1) h.2 k p hk
      rw [show j0 + 1 + k = j0 + (k + 1) from by omega] at this
      exact this
theorem yiy {t : Operand → Operand → Bool} {ops : List Oper} (l : List Oper) : ∀ (i0 : Nat), ycj E t ops i0 l = true → ∀ (k : Nat) o, l[k]? = some o → ye0 E t o 0 (ops.take (i0 + k)) = true := by
  induction l with
  | nil => intro i0 h k o hk; simp at hk
  | cons q l ih =>
    intro i0 h k o hk
    simp only [ycj, Bool.and_eq_true] at h
    cases k with
    | zero =>
      rw [List.getElem?_cons_zero, Option.some.injEq] at hk
      subst hk
      exact h.1
    | succ k =>
      rw [List.getElem?_cons_succ] at hk
      have := ih (i0 + 1) h.2 k o hk
      rw [show i0 + 1 + k = i0 + (k + 1) from by omega] at this
      exact this
theorem yj5 {t t' : Operand → Operand → Bool} (ht : ∀ x y, t x y = true → t' x y = true) {o : Oper} (l : List Oper) : ∀ (j : Nat), ye0 E t o j l = true → ye0 E t' o j l = true := by
  induction l with
  | nil => intro j h; rfl
  | cons p l ih =>
    intro j h
    simp only [ye0, Bool.and_eq_true, Bool.or_eq_true] at h ⊢
    refine ⟨?_, ih (j + 1) h.2⟩
    rcases h.1 with h | h | h | h
    · exact .inl h
    · exact .inr (.inl h)
    · exact .inr (.inr (.inl h))
    · refine .inr (.inr (.inr ?_))
      cases hd : ymd p.op o.op with
      | none => rfl
      | some q => rw [hd] at h; exact ht _ _ h
theorem yi7 {t t' : Operand → Operand → Bool} (ht : ∀ x y, t x y = true → t' x y = true) {ops : List Oper} (l : List Oper) : ∀ (j : Nat), ycj E t ops j l = true → ycj E t' ops j l = true := by
  induction l with
  | nil => intro j h; rfl
  | cons p l ih =>
    intro j h
    simp only [ycj, Bool.and_eq_true] at h ⊢
    exact ⟨yj5 ht _ _ h.1, ih (j + 1) h.2⟩
theorem yig {f : Nat → Nat} (v : EV) : ydk (v.ren f) = (ydk v).map f := by cases v <;> rfl
theorem yhn {f : Nat → Nat} (hi : ∀ a b, f a = f b → a = b) (a x : EV) : yc8 (a.ren f) (x.ren f) = yc8 a x := by
  unfold yc8
  rw [yig, yig]
  cases ydk a <;> cases ydk x <;> simp only [Option.map_some, Option.map_none]
  rw [yjG hi]
theorem yn7 (hC : ya0 E) {f : Nat → Nat} (hi : ∀ a b, f a = f b → a = b) {ops : List Oper} {s s' : St} (h : StR f s s') : ym3 E ops s' = ym3 E ops s := by
  unfold ym3
  have : (fun x y => yc8 (St.opd E s' x) (St.opd E s' y)) = fun x y => yc8 (St.opd E s x) (St.opd E s y) := by
    funext x y
    rw [ycy hC h, ycy hC h, yhn hi]
  rw [this]
theorem ycd {x : Operand} {l : List Oper} (h : ymT x l = true) : ∀ o ∈ l, ydd o.dst (ybR [x]) = true := by
  induction l with
  | nil => intro o ho; cases ho
  | cons o l ih =>
    intro q hq
    simp only [ymT, Bool.and_eq_true] at h
    rcases List.mem_cons.1 hq with e | hq
    · rw [e]; exact h.1
    · exact ih h.2 q hq
theorem yhw {l : List Oper} (h : ydz E l = true) : ∀ o ∈ l, yat E o.op ≠ 2 := by
  induction l with
  | nil => intro o ho; cases ho
  | cons o l ih =>
    intro q hq
    simp only [ydz, Bool.and_eq_true, Bool.not_eq_true'] at h
    rcases List.mem_cons.1 hq with e | hq
    · rw [e]
      intro e2
      have h1 := h.1
      rw [e2] at h1
      exact absurd h1 (by decide)
    · exact ih h.2 q hq
theorem ykr {s s' : St} {x : Operand} (h : ∀ t, x = .tmp t → s'.slot t = s.slot t) : St.opd E s' x = St.opd E s x := by
  cases x
  case tmp t => exact h t rfl
  all_goals rfl
theorem yii {d : Option Nat} {t : Nat} (h : ydd d (ybR [.tmp t]) = true) : d ≠ some t := by
  intro e; subst e
  simp [ydd, ybR, ygS] at h
theorem yoZ (hC : ya0 E) (hD : ybk E) {o : Op} {s : St} {K : EV → yae → Prop} (hk : yat E o ≠ 2) (hcl : ClS s) (h : ycc E o s K) :
    ycc E o s fun v H => K v H ∧ Cl H.length v ∧ ClH H.length H ∧ s.heap.length ≤ H.length := by
  have viaV : (∀ K, ycc E o s K = evV E o s fun v => K v s.heap) → ycc E o s fun v H => K v H ∧ Cl H.length v ∧ ClH H.length H ∧ s.heap.length ≤ H.length := by
    intro h1
    rw [h1] at h ⊢
    exact det_evV.mono (ypu hC hcl h) fun v hv => ⟨hv.1, hv.2, hcl.heap, Nat.le_refl _⟩
  by_cases h3 : yat E o = 3
  · obtain ⟨v, H, h1, h2⟩ := ybN hD _ h
    obtain ⟨mk, c, k1, rfl, rfl, k4, _⟩ := yhC hC h3 hcl h2
    refine h2 _ ⟨h1, fun f hf => by rw [k1, hf _ (by simp)], fun b c' hb => ?_, by simp⟩
    rcases Nat.lt_or_ge b s.heap.length with hh | hh
    · rw [List.getElem?_append_left hh] at hb; exact (hcl.heap b c' hb).mono (by simp)
    · rw [List.getElem?_append_right hh] at hb
      cases hq : b - s.heap.length with
      | zero => rw [hq] at hb; simp at hb; subst hb; exact k4.mono (by simp)
      | succ k => rw [hq] at hb; simp at hb
  · cases o
    case alloc => simp [yat] at h3
    case box => simp [yat] at h3
    case buildSlice => simp [yat] at h3
    case makeSlice => simp [yat] at h3
    case store => simp [yat] at hk
    case call c =>
      obtain ⟨cal, xs, ts⟩ := c
      cases cal
      case value f =>
        cases f
        case func f =>
          simp only [yat] at hk
          cases he : E.fn f with
          | none => simp [he] at hk
          | some en =>
            simp only [he] at hk
            have hn : ybJ en.ro = true := by
              cases hq : ybJ en.ro with
              | true => rfl
              | false => simp [hq] at hk
            have hnl : en.lend = false := by
              cases hq : en.lend with
              | false => rfl
              | true => simp [hq, hn] at hk
            simp only [ycc, St.opd, yc9, ybs, he, List.append_nil, ydY _ _ _ hn, hnl, cond_false] at h ⊢
            rw [yac] at h ⊢
            obtain ⟨g0, h⟩ := h
            refine ⟨g0, ?_⟩
            have hka : yba (xs.toList.map (St.opd E s)) s.heap = s.heap := ycS _ _ g0
            refine (hD f en he _ _).mono h fun v H' hK => ?_
            rw [yac] at hK ⊢
            refine ⟨hK.1, ?_⟩
            have hv : Cl s.heap.length v := Cl.of ((Bool.and_eq_true _ _ ▸ hK.1 : _ ∧ _).2)
            have hK := hK.2
            rw [hka] at hK ⊢
            cases hr : v.noRS <;> rw [hr] at hK <;> exact ⟨hK, hv, hcl.heap, Nat.le_refl _⟩
        all_goals simp [yat] at hk
      case builtin bi => cases bi <;> first | exact viaV fun _ => rfl | simp [yat] at hk
      all_goals simp [yat] at hk
    all_goals exact viaV fun _ => rfl
theorem ynO (hC : ya0 E) (hD : ybk E) {ops : List Oper} {o : Oper} {s : St} {K : St → Prop} (hk : yat E o.op ≠ 2) (hcl : ClS s) (h : ya5 E ops o s K) : ya5 E ops o s fun s' => K s' ∧ ClS s' := by
  rw [ybw] at h ⊢
  cases hg : ymf ops o s with
  | none => rw [hg] at h; exact h
  | some b =>
    rw [hg] at h
    cases b with
    | true => exact (ybN hD).mono (yoZ hC hD hk hcl h) fun v H hK => ⟨hK.1, hcl.put _ hK.2.2.2 hK.2.1 hK.2.2.1⟩
    | false => exact ⟨h, hcl.put _ (Nat.le_refl _) (fun _ _ => rfl) hcl.heap⟩
structure ypY (E : Env) (ops : List Oper) (K : St → Prop) (o : Oper) (r l1 : List Oper) (p : Oper) (l2 : List Oper) : Prop where
  ind : ycs ops p o = true
  how : ydO (yat E p.op) (yat E o.op) = true ∨ (yat E p.op = 3 ∧ yat E o.op = 3 ∧ ∀ q ∈ l1, yat E q.op ≠ 2) ∨
    ∃ x y, ymd p.op o.op = some (x, y) ∧ (∀ q ∈ p :: o :: (l2 ++ r), ydd q.dst (ybR [x]) = true) ∧ (∀ q ∈ o :: (l2 ++ r), ydd q.dst (ybR [y]) = true) ∧ ∀ s, K s → yc8 (St.opd E s x) (St.opd E s y) = true
theorem ykZ {p o : Op} {x y : Operand} (h : ymd p o = some (x, y)) : y ∈ o.operands.toList := by
  unfold ymd at h
  split at h
  · rename_i a q h1 h2
    simp only [Option.some.injEq, Prod.mk.injEq] at h
    obtain ⟨rfl, rfl⟩ := h
    exact ygd h2
  · split at h
    · rename_i a q h1 h2
      simp only [Option.some.injEq, Prod.mk.injEq] at h
      obtain ⟨rfl, rfl⟩ := h
      exact yin h2
    · cases h
theorem ydW (hC : ya0 E) (hD : ybk E) {ops : List Oper} {o : Oper} {r : List Oper} {K : St → Prop} {n : Nat} : ∀ (l : List Oper) (s : St), n ≤ s.heap.length →
    (∀ l1 p l2, l = l1 ++ p :: l2 → ypY E ops K o r l1 p l2) → ((∃ l1 p l2, l = l1 ++ p :: l2 ∧ yat E p.op = 3 ∧ yat E o.op = 3 ∧ ∀ q ∈ l1, yat E q.op ≠ 2) → ClS s) →
    ybL E ops (l ++ o :: r) s K → ya5 E ops o s fun s' => ybL E ops (l ++ r) s' (KQ n K)
  | [], s, _, _, _, h => (ybz hD).mono h fun s1 h1 => (ya6 hD r s1).mono h1 fun _ h2 => KQ.of h2
  | p :: l, s, hn, hp, hcl, h => by
    have h1 : ya5 E ops p s fun s1 => ybL E ops (l ++ o :: r) s1 K := h
    have hp' : ∀ l1 q l2, l = l1 ++ q :: l2 → ypY E ops K o r l1 q l2 := by
      intro l1 q l2 he
      obtain ⟨g1, g2⟩ := hp (p :: l1) q l2 (by rw [he]; rfl)
      exact ⟨g1, g2.imp _root_.id (Or.imp (fun g => ⟨g.1, g.2.1, fun z hz => g.2.2 z (List.mem_cons_of_mem _ hz)⟩) _root_.id)⟩
    have h2 : ya5 E ops p s fun s1 => ya5 E ops o s1 fun s2 => ybL E ops (l ++ r) s2 (KQ n K) := by
      by_cases hx : ∃ l1 q l2, l = l1 ++ q :: l2 ∧ yat E q.op = 3 ∧ yat E o.op = 3 ∧ ¬ ydO (yat E q.op) (yat E o.op) = true ∧ ¬ ∃ x y, ymd q.op o.op = some (x, y)
      · obtain ⟨l1, q, l2, he, hq3, ho3, hnh, hnd⟩ := hx
        have hq := hp (p :: l1) q l2 (by rw [he]; rfl)
        have hquiet : ∀ z ∈ p :: l1, yat E z.op ≠ 2 := by
          rcases hq.how with g | g | ⟨x, y, g, _⟩
          · exact absurd g hnh
          · exact g.2.2
          · exact absurd ⟨x, y, g⟩ hnd
        have hs := hcl ⟨p :: l1, q, l2, by rw [he]; rfl, hq3, ho3, hquiet⟩
        have h3 := ynO hC hD (hquiet p List.mem_cons_self) hs h1
        refine (ybz hD).mono (yja hC hD h3) ?_
        rintro s1 ⟨⟨h4, h5⟩, h6⟩
        exact ydW hC hD l s1 (Nat.le_trans hn h6) hp' (fun _ => h5) h4
      · refine (ybz hD).mono (yja hC hD h1) ?_
        rintro s1 ⟨h4, h6⟩
        refine ydW hC hD l s1 (Nat.le_trans hn h6) hp' ?_ h4
        rintro ⟨l1, q, l2, he, hq3, ho3, hqu⟩
        exfalso
        refine hx ⟨l1, q, l2, he, hq3, ho3, ?_, ?_⟩
        · rw [hq3, ho3]; decide
        · rintro ⟨x, y, hd⟩
          unfold ymd at hd
          have hns : ∀ {z : Op} {a : Operand}, ybr z = some a → yat E z = 2 := by
            intro z a hz
            cases z <;> simp only [ybr, reduceCtorEq] at hz
            rfl
          split at hd
          · rename_i a b g1 g2
            have := hns g1; omega
          · split at hd
            · rename_i a b g1 g2
              have := hns g2; omega
            · cases hd
    have hpp := hp [] p l rfl
    rcases hpp.how with g | ⟨g1, g2, g3⟩ | ⟨x, y, g1, g2, g3, g4⟩
    · exact ylp hD hpp.ind g h2
    · have hs := hcl ⟨[], p, l, rfl, g1, g2, g3⟩
      have h3 := yiN hC hD hpp.ind g1 g2 hs hn h2
      refine (ybz hD).mono h3 fun s2 h4 => ?_
      show ya5 E ops p s2 fun s3 => ybL E ops (l ++ r) s3 (KQ n K)
      refine (ybz hD).mono h4 fun s3 h5 => ?_
      exact (ya6 hD _ s3).mono (KQ.ops hC hD h5) fun _ h6 => KQ.flat h6
    · have hy := ykZ g1
      have ha : yc8 (St.opd E s x) (St.opd E s y) = true := by
        have h3 : ybL E ops (p :: o :: (l ++ r)) s (KQ n K) := h2
        obtain ⟨s', ⟨⟨f, s0, hf, hst, hK⟩, hkeep⟩, _⟩ := ya6 hD _ s _ (yho hD _ h3)
        have h4 := g4 s0 hK
        rw [← yhn hf.inj, ← ycy hC hst, ← ycy hC hst] at h4
        have ex : St.opd E s' x = St.opd E s x := ykr fun t ht => hkeep t fun q hq => by
          subst ht; exact yii (g2 q hq)
        have ey : St.opd E s' y = St.opd E s y := ykr fun t ht => hkeep t fun q hq => by
          subst ht
          rcases List.mem_cons.1 hq with rfl | hq
          · have hi := hpp.ind
            simp only [ycs, Bool.and_eq_true] at hi
            have hi := hi.1.1
            intro e
            rw [e] at hi
            simp only [ydd, Bool.not_eq_true', ← Bool.not_eq_true, ycr] at hi
            exact hi (ydD t _ hy)
          · exact yii (g3 q hq)
        rw [ex, ey] at h4
        exact h4
      exact ygO hD hpp.ind g1 ha h2
def ybb (n : Nat) (listed : Array Bool) : List Nat := (List.range n).filter fun i => !listed.getD i true
theorem mem_restOf {n : Nat} {listed : Array Bool} {i : Nat} : i ∈ ybb n listed ↔ i < n ∧ listed.getD i true = false := by
  simp [ybb, List.mem_filter]
theorem yc2 (n : Nat) (listed : Array Bool) : (ybb n listed).Pairwise (· < ·) := by
  unfold ybb
  exact List.Pairwise.filter _ List.pairwise_lt_range
theorem ylz {n : Nat} {listed : Array Bool} {i : Nat} {l r : List Nat} (hsz : listed.size = n) (h : ybb n listed = l ++ i :: r) : ybb n (listed.setIfInBounds i true) = l ++ r := by
  have hs := yc2 n listed
  have hi : i < n := (mem_restOf.1 (by rw [h]; simp)).1
  have e1 : ybb n (listed.setIfInBounds i true) = (ybb n listed).filter fun j => !Nat.beq j i := by
    unfold ybb
    rw [List.filter_filter]
    refine List.filter_congr fun j hj => ?_
    by_cases hji : j = i
    · subst hji
      simp [Array.getD_eq_getD_getElem?, hsz, hi]
    · have : (listed.setIfInBounds i true).getD j true = listed.getD j true := by
        simp only [Array.getD_eq_getD_getElem?]
        rw [Array.getElem?_setIfInBounds_ne (fun e => hji e.symm)]
      rw [this]
      have : Nat.beq j i = false := by
        cases hb : Nat.beq j i with
        | false => rfl
        | true => exact absurd (Nat.eq_of_beq_eq_true hb) hji
      simp [this]
  rw [e1, h, List.filter_append, List.filter_cons]
  rw [h] at hs
  rw [List.pairwise_append] at hs
  obtain ⟨hs1, hs2, hs3⟩ := hs
  rw [List.pairwise_cons] at hs2
  have f1 : l.filter (fun j => !Nat.beq j i) = l := by
    refine List.filter_eq_self.2 fun j hj => ?_
    have := hs3 j hj i List.mem_cons_self
    cases hb : Nat.beq j i with
    | false => rfl
    | true => have := Nat.eq_of_beq_eq_true hb; omega
  have f2 : r.filter (fun j => !Nat.beq j i) = r := by
    refine List.filter_eq_self.2 fun j hj => ?_
    have := hs2.1 j hj
    cases hb : Nat.beq j i with
    | false => rfl
    | true => have := Nat.eq_of_beq_eq_true hb; omega
  have f3 : Nat.beq i i = true := Nat.beq_refl i
  rw [f1, f2, f3]
  simp
end swap
section sound
variable {P : Program} {E : Env}
mutual
theorem Rel.unren {ρ ρ' : Ren} {w : World} {f : Nat → Nat} (hb : ∀ b : Nat, ρ.bs[b]? = ρ'.bs[f b]?) (hm : ∀ b, b ∈ ρ.mbs → b ∈ ρ'.mbs) : ∀ (v : EV) (x : Value), Rel ρ' w (v.ren f) x → Rel ρ w v x
  | .undef, _, hr => hr.elim
  | .bool _, _, hr => hr
  | .int _ _, _, hr => hr
  | .str _, _, hr => hr
  | .nilPtr, _, hr => hr
  | .nilSlice, _, hr => hr
  | .nilFunc, _, hr => hr
  | .arr _ _ _, _, hr => hr
  | .nilIface, _, hr => hr
  | .ptr b p, x, hr => by
    simp only [EV.ren, Rel, ← hb] at hr ⊢; exact hr
  | .slice b off len cap e, x, hr => by
    simp only [EV.ren, Rel, ← hb] at hr ⊢; exact hr
  | .rref v, x, hr => by
    simp only [EV.ren, Rel] at hr ⊢
    obtain ⟨b, o, y, h1, h2, h3, h4, h5⟩ := hr
    exact ⟨b, o, y, h1, Rel.unren hb hm v y h2, h3, fun h => h4 (hm b h), h5⟩
  | .rsI k n g, x, hr => by
    simp only [EV.ren, Rel] at hr ⊢
    obtain ⟨a, c, h1, h2, h3⟩ := hr
    refine ⟨a, c, h1, h2, h3.imp _root_.id ?_⟩
    rintro ⟨b, o, h4, h5, h6, h7⟩
    exact ⟨b, o, h4, h5, fun h => h6 (hm b h), h7⟩
  | .func g cap, x, hr => by
    simp only [EV.ren, Rel] at hr ⊢
    obtain ⟨vs, h1, h2⟩ := hr
    exact ⟨vs, h1, RelL.unren hb hm cap _ h2⟩
  | .bnd g cap, x, hr => by
    simp only [EV.ren, Rel] at hr ⊢
    obtain ⟨vs, h1, h2⟩ := hr
    exact ⟨vs, h1, RelL.unren hb hm cap _ h2⟩
  | .agg l, x, hr => by
    simp only [EV.ren, Rel] at hr ⊢
    obtain ⟨vs, h1, h2⟩ := hr
    exact ⟨vs, h1, RelF.unren hb hm l _ h2⟩
  | .tuple l, x, hr => by
    simp only [EV.ren, Rel] at hr ⊢
    obtain ⟨vs, h1, h2⟩ := hr
    exact ⟨vs, h1, RelL.unren hb hm l _ h2⟩
  | .iface t v, x, hr => by
    simp only [EV.ren, Rel] at hr ⊢
    obtain ⟨y, h1, h2⟩ := hr
    exact ⟨y, h1, Rel.unren hb hm v y h2⟩
theorem RelL.unren {ρ ρ' : Ren} {w : World} {f : Nat → Nat} (hb : ∀ b : Nat, ρ.bs[b]? = ρ'.bs[f b]?) (hm : ∀ b, b ∈ ρ.mbs → b ∈ ρ'.mbs) : ∀ (l : List EV) (xs : List Value), RelL ρ' w (EV.renL f l) xs → RelL ρ w l xs
  | [], _, hr => hr
  | v :: l, xs, hr => by
    simp only [EV.renL, RelL] at hr ⊢
    obtain ⟨x, ys, h1, h2, h3⟩ := hr
    exact ⟨x, ys, h1, Rel.unren hb hm v x h2, RelL.unren hb hm l ys h3⟩
theorem RelF.unren {ρ ρ' : Ren} {w : World} {f : Nat → Nat} (hb : ∀ b : Nat, ρ.bs[b]? = ρ'.bs[f b]?) (hm : ∀ b, b ∈ ρ.mbs → b ∈ ρ'.mbs) : ∀ (l : List EV) (xs : List Value), RelF ρ' w (EV.renL f l) xs → RelF ρ w l xs
  | [], _, hr => hr
  | v :: l, xs, hr => by
    simp only [EV.renL, RelF] at hr ⊢
    obtain ⟨x, ys, h1, h2, h3⟩ := hr
    exact ⟨x, ys, h1, Rel.unren hb hm v x h2, RelF.unren hb hm l ys h3⟩
end
def Ren.perm (f : Nat → Nat) (ρ : Ren) : Ren := ⟨ρ.F, (List.range ρ.bs.length).map fun b => (ρ.bs[f b]?).getD none⟩
theorem yku {f : Nat → Nat} {ρ : Ren} {n : Nat} (hf : Shf n ρ.bs.length f) (b : Nat) : (ρ.perm f).bs[b]? = ρ.bs[f b]? := by
  simp only [Ren.perm, List.getElem?_map]
  rcases Nat.lt_or_ge b ρ.bs.length with h | h
  · rw [List.getElem?_range h]
    have := hf.lt h
    show some ((ρ.bs[f b]?).getD none) = _
    rw [List.getElem?_eq_getElem this]
    rfl
  · rw [List.getElem?_eq_none (by simpa using h), hf.high b h, List.getElem?_eq_none h]
    rfl
theorem ykz {f : Nat → Nat} {ρ : Ren} {n : Nat} (hf : Shf n ρ.bs.length f) {m : Nat} (h : m ∈ (ρ.perm f).own) : m ∈ ρ.own := by
  obtain ⟨b, r, h1, h2⟩ := ybK h
  rw [yku hf] at h1
  exact h2 ▸ ya8 h1
theorem yn5 {f : Nat → Nat} {ρ : Ren} {n : Nat} (hf : Shf n ρ.bs.length f) {m : Nat} (h : m ∈ (ρ.perm f).mbs) : m ∈ ρ.mbs := by
  rcases List.mem_append.1 h with h | h
  · exact List.mem_append.2 (.inl h)
  · exact ybI (ykz hf h)
theorem ylS {gl : Nat → Option EV} {ρ0 ρ : Ren} {w0 w : World} {f : Nat → Nat} {s s' : St} {a : Array Value} (hf : Shf ρ0.bs.length s.heap.length f) (hst : StR f s s') (hT : RelT gl ρ w s'.tmps a) (hS : Sim ρ s'.heap w) (hX : Ext ρ0 w0 ρ w) :
    RelT gl (ρ.perm f) w s.tmps a ∧ Sim (ρ.perm f) s.heap w ∧ Ext ρ0 w0 (ρ.perm f) w := by
  have hlen : ρ.bs.length = s.heap.length := by rw [hS.len, hst.heap.len]
  have hf' : Shf ρ0.bs.length ρ.bs.length f := by rw [hlen]; exact hf
  have hg := fun b => yku hf' b
  have hm : ∀ b, b ∈ (ρ.perm f).mbs → b ∈ ρ.mbs := fun b h => yn5 hf' h
  have un : ∀ v x, Rel ρ w (v.ren f) x → Rel (ρ.perm f) w v x := Rel.unren hg hm
  refine ⟨⟨?_, fun i v hv => ?_, hT.2.2.sub hm⟩, ⟨?_, hS.fl, ?_, ?_, ?_, ?_⟩, ⟨hX.os, hX.tape, hX.output, hX.size, hX.out, ?_, ?_, ?_, hX.row⟩⟩
  · rw [← hT.1, hst.tmps, List.length_map]
  · have h1 : s'.tmps[i]? = some (v.ren f) := by rw [hst.tmps, List.getElem?_map, hv]; rfl
    rcases hT.2.1 i _ h1 with h2 | ⟨x, h2, h3⟩
    · left
      cases v <;> simp [EV.ren] at h2 ⊢
    · exact .inr ⟨x, h2, un v x h3⟩
  · simp [Ren.perm, hlen]
  · intro b r hb; rw [hg] at hb; exact hS.lt _ r hb
  · intro b r hb; rw [hg] at hb; exact hS.sep _ r hb
  · intro b c r q hb hc he
    rw [hg] at hb hc
    exact hf.inj _ _ (hS.nodup _ _ r q hb hc he)
  · intro b v hb
    obtain ⟨r, h1, h2, cs, e, fz, x, h3, h4, h5, h6, h7⟩ := hS.live (f b) (v.ren f) (hst.heap.live hb)
    exact ⟨r, by rw [hg]; exact h1, by rw [← h2, ybd], cs, e, fz, x, h3, h4, un v x h5, h6, h7⟩
  · intro b hb hn h; exact hX.new b hb hn (hm b h)
  · intro b hb hn h; exact hX.newOwn b hb hn (ykz hf' h)
  · intro b r hb
    have hlt : b < ρ0.bs.length := by
      rcases Nat.lt_or_ge b ρ0.bs.length with hh | hh
      · exact hh
      · rw [List.getElem?_eq_none hh] at hb; cases hb
    rw [hg, hf.low b hlt]
    exact hX.keep b r hb
theorem Ext.len {ρ ρ' : Ren} {w w' : World} (h : Ext ρ w ρ' w') : ρ.bs.length ≤ ρ'.bs.length := by
  rcases Nat.lt_or_ge ρ'.bs.length ρ.bs.length with hh | hh
  · have h1 := List.getElem?_eq_getElem hh
    rcases h.keep _ _ h1 with h2 | h2 <;> rw [List.getElem?_eq_none (Nat.le_refl _)] at h2 <;> cases h2
  · exact hh
theorem yoa {ops : Array Oper} {Q : Exit → Act → World → Prop} {a0 : Act} {ρ0 : Ren} {w0 : World} (hE : ∀ t ti, E.ty t = some ti → OkTI P t ti) (hFn : ynz P E) (hD : ybk E) (hC : ya0 E) (hc : yn6 E ops.toList = true) :
    ∀ (fuel : Nat) (listed : Array Bool) (ρ : Ren) (w : World) (s : St) (a : Act) (K : St → Prop), listed.size = ops.size → (ybb ops.size listed).length ≤ fuel →
      RelT E.gl ρ w s.tmps a.tmps → Sim ρ s.heap w → Ext ρ0 w0 ρ w → ρ.F = ρ0.F → a.defers = a0.defers → (∀ s, K s → ym3 E ops.toList s = true) → ybL E ops.toList ((ybb ops.size listed).filterMap fun i => ops.toList[i]?) s K →
      (∀ s' ρ' w' a', K s' → RelT E.gl ρ' w' s'.tmps a'.tmps → a'.defers = a0.defers → Sim ρ' s'.heap w' → Ext ρ0 w0 ρ' w' → ρ'.F = ρ0.F → Q .normal a' w') →
      wpAny P .any ops Q fuel listed a w := by
  have hready : ∀ listed, listed.size = ops.size → Region.ready .any ops listed = [] → ybb ops.size listed = [] := by
    intro listed hsz hr
    cases hres : ybb ops.size listed with
    | nil => rfl
    | cons i r =>
      exfalso
      have hs := yc2 ops.size listed
      rw [hres, List.pairwise_cons] at hs
      have hi := mem_restOf.1 (show i ∈ ybb ops.size listed by rw [hres]; simp)
      have : i ∈ Region.ready .any ops listed := by
        refine mem_ready.2 ⟨hi.2, ops[i]'hi.1, by simp [hi.1], fun e he hb => ?_⟩
        have hlt := (yg9 hc (i := i) (o := ops[i]'hi.1) (by simp [hi.1])).1 e (by simpa using he) hb
        have hn : e.on < ops.size := Nat.lt_trans hlt hi.1
        have hnot : e.on ∉ ybb ops.size listed := by
          intro hin
          rw [hres] at hin
          rcases List.mem_cons.1 hin with h' | h'
          · omega
          · have := hs.1 _ h'; omega
        rw [mem_restOf] at hnot
        have hlt' : e.on < listed.size := by omega
        simp only [Array.getD_eq_getD_getElem?, Array.getElem?_eq_getElem hlt', Option.getD_some] at hnot ⊢
        cases hq : listed[e.on] with
        | true => rfl
        | false => exact absurd ⟨hn, hq⟩ hnot
      rw [hr] at this
      cases this
  intro fuel
  induction fuel with
  | zero =>
    intro listed ρ w s a K hsz hlen hT hS hX0 hF0 hd0 hck h hn
    have hnil : ybb ops.size listed = [] := List.length_eq_zero_iff.1 (by omega)
    rw [hnil] at h
    refine wpAny_done ?_ (hn s ρ w a h hT hd0 hS hX0 hF0) 0
    cases hr : Region.ready .any ops listed with
    | nil => rfl
    | cons i r =>
      have h1 := mem_ready.1 (show i ∈ Region.ready .any ops listed by rw [hr]; simp)
      obtain ⟨h2, o, h3, _⟩ := h1
      have : i ∈ ybb ops.size listed := mem_restOf.2 ⟨(Array.getElem?_eq_some_iff.1 h3).1, h2⟩
      rw [hnil] at this
      cases this
  | succ fuel ih =>
    intro listed ρ w s a K hsz hlen hT hS hX0 hF0 hd0 hck h hn
    refine ⟨fun hr => ?_, fun i hi => ?_⟩
    · rw [hready listed hsz hr] at h
      exact hn s ρ w a h hT hd0 hS hX0 hF0
    · obtain ⟨h0, o, ho, hall⟩ := mem_ready.1 hi
      have hin : i ∈ ybb ops.size listed := mem_restOf.2 ⟨(Array.getElem?_eq_some_iff.1 ho).1, h0⟩
      obtain ⟨l, r, hlr⟩ := List.append_of_mem hin
      have hoL : ops.toList[i]? = some o := by rw [Array.getElem?_toList]; exact ho
      have hfm : ((ybb ops.size listed).filterMap fun i => ops.toList[i]?) = (l.filterMap fun i => ops.toList[i]?) ++ o :: (r.filterMap fun i => ops.toList[i]?) := by
        rw [hlr, List.filterMap_append, List.filterMap_cons, hoL]
      rw [hfm] at h
      have hs := yc2 ops.size listed
      rw [hlr, List.pairwise_append] at hs
      have hspec := yg9 hc hoL
      have inDrop : ∀ (j k : Nat) (q : Oper), j ≤ k → ops.toList[k]? = some q → q ∈ ops.toList.drop j := by
        intro j k q hjk hq
        refine List.mem_of_getElem? (i := k - j) ?_
        rw [List.getElem?_drop, show j + (k - j) = k from by omega]; exact hq
      have hpass : ∀ l1 p l2, (l.filterMap fun i => ops.toList[i]?) = l1 ++ p :: l2 → ypY E ops.toList K o (r.filterMap fun i => ops.toList[i]?) l1 p l2 := by
        intro l1 p l2 he
        have hsub : ∃ la j lb, l = la ++ j :: lb ∧ ops.toList[j]? = some p ∧ (la.filterMap fun i => ops.toList[i]?) = l1 ∧ (lb.filterMap fun i => ops.toList[i]?) = l2 := by
          clear hs hlr hfm h
          induction l generalizing l1 with
          | nil => simp at he
          | cons k l ihl =>
            rw [List.filterMap_cons] at he
            cases hk : ops.toList[k]? with
            | none =>
              rw [hk] at he
              obtain ⟨la, j, lb, e1, e2, e3, e4⟩ := ihl l1 he
              exact ⟨k :: la, j, lb, by rw [e1]; rfl, e2, by rw [List.filterMap_cons, hk]; exact e3, e4⟩
            | some q =>
              rw [hk] at he
              cases l1 with
              | nil =>
                simp only [List.nil_append, List.cons.injEq] at he
                exact ⟨[], k, l, rfl, by rw [hk, he.1], rfl, he.2⟩
              | cons z l1 =>
                simp only [List.cons_append, List.cons.injEq] at he
                obtain ⟨la, j, lb, e1, e2, e3, e4⟩ := ihl l1 he.2
                exact ⟨k :: la, j, lb, by rw [e1]; rfl, e2, by rw [List.filterMap_cons, hk]; simp only; rw [e3, he.1], e4⟩
        obtain ⟨la, j, lb, e1, e2, e3, e4⟩ := hsub
        have hjl : j ∈ l := by rw [e1]; simp
        have hji : j < i := hs.2.2 j hjl i List.mem_cons_self
        have hsl := hs.1
        rw [e1, List.pairwise_append, List.pairwise_cons] at hsl
        rcases hspec.2 j p hji e2 with ⟨e, he, hb, hon⟩ | ⟨g0, g⟩
        · exfalso
          have h1 := hall e (by simpa using he) hb
          have h2 := (mem_restOf.1 (show j ∈ ybb ops.size listed by rw [hlr]; exact List.mem_append.2 (.inl hjl)))
          have hlt : j < listed.size := by omega
          rw [hon] at h1
          simp only [Array.getD_eq_getD_getElem?, Array.getElem?_eq_getElem hlt, Option.getD_some] at h1 h2
          rw [h1] at h2
          exact absurd h2.2 (by simp)
        · refine ⟨g0, ?_⟩
          rcases g with g | ⟨g1, g2⟩ | g
          · exact .inl g
          · refine .inr (.inl ?_)
            simp only [yjz, Bool.and_eq_true] at g1
            refine ⟨Nat.eq_of_beq_eq_true g1.1, Nat.eq_of_beq_eq_true g1.2, fun q hq => ?_⟩
            rw [← e3] at hq
            obtain ⟨k, hk, hqk⟩ := List.mem_filterMap.1 hq
            refine yhw g2 q ?_
            have hki : k < i := Nat.lt_trans (hsl.2.2 k hk j List.mem_cons_self) hji
            exact List.mem_of_getElem? (i := k) (by rw [List.getElem?_take_of_lt hki]; exact hqk)
          · unfold yos at g
            split at g
            · rename_i x y hd
              rw [Bool.and_eq_true] at g
              have afterJ : ∀ q ∈ (lb.filterMap fun i => ops.toList[i]?), ∃ k, j < k ∧ ops.toList[k]? = some q := by
                intro q hq
                obtain ⟨k, hk, hqk⟩ := List.mem_filterMap.1 hq
                exact ⟨k, hsl.2.1.1 k hk, hqk⟩
              have afterI : ∀ q ∈ (r.filterMap fun i => ops.toList[i]?), ∃ k, i < k ∧ ops.toList[k]? = some q := by
                intro q hq
                obtain ⟨k, hk, hqk⟩ := List.mem_filterMap.1 hq
                have h2 := hs.2.1
                rw [List.pairwise_cons] at h2
                exact ⟨k, h2.1 k hk, hqk⟩
              by_cases hok : ydO (yat E p.op) (yat E o.op) = true
              · exact .inl hok
              refine .inr (.inr ⟨x, y, hd, ?_, ?_, ?_⟩)
              · intro q hq
                rw [← e4] at hq
                rcases List.mem_cons.1 hq with rfl | hq
                · exact ycd g.1 q (inDrop j j q (Nat.le_refl _) e2)
                · rcases List.mem_cons.1 hq with rfl | hq
                  · exact ycd g.1 q (inDrop j i q (Nat.le_of_lt hji) hoL)
                  · rcases List.mem_append.1 hq with hq | hq
                    · obtain ⟨k, hk, hqk⟩ := afterJ q hq
                      exact ycd g.1 q (inDrop j k q (Nat.le_of_lt hk) hqk)
                    · obtain ⟨k, hk, hqk⟩ := afterI q hq
                      exact ycd g.1 q (inDrop j k q (by omega) hqk)
              · intro q hq
                rw [← e4] at hq
                rcases List.mem_cons.1 hq with rfl | hq
                · exact ycd g.2 q (inDrop i i q (Nat.le_refl _) hoL)
                · rcases List.mem_append.1 hq with hq | hq
                  · -- between the two: it does not touch
                    obtain ⟨k, hk, hqk⟩ := List.mem_filterMap.1 hq
                    have hkl : k ∈ l := by rw [e1]; simp [hk]
                    have hki : k < i := hs.2.2 k hkl i List.mem_cons_self
                    rcases hspec.2 k q hki hqk with ⟨e, he, hb, hon⟩ | ⟨g5, _⟩
                    · exfalso
                      have h1 := hall e (by simpa using he) hb
                      have h2 := (mem_restOf.1 (show k ∈ ybb ops.size listed by rw [hlr]; exact List.mem_append.2 (.inl hkl)))
                      have hlt : k < listed.size := by omega
                      rw [hon] at h1
                      simp only [Array.getD_eq_getD_getElem?, Array.getElem?_eq_getElem hlt, Option.getD_some] at h1 h2
                      rw [h1] at h2
                      exact absurd h2.2 (by simp)
                    · simp only [ycs, Bool.and_eq_true] at g5
                      have g6 := g5.1.1
                      have hy := ykZ hd
                      cases y
                      case tmp t =>
                        have ht := ydD t _ hy
                        cases hqd : q.dst with
                        | none => rfl
                        | some d =>
                          rw [hqd] at g6
                          simp only [ydd, Bool.not_eq_true', ← Bool.not_eq_true, ycr] at g6 ⊢
                          intro hd'
                          simp only [ybR, List.mem_singleton] at hd'
                          exact g6 (hd' ▸ ht)
                      all_goals (cases q.dst <;> rfl)
                  · obtain ⟨k, hk, hqk⟩ := afterI q hq
                    exact ycd g.2 q (inDrop i k q (Nat.le_of_lt hk) hqk)
              · intro s1 hK1
                have hc1 := hck s1 hK1
                have h1 := yiy ops.toList 0 hc1 i o hoL
                rw [Nat.zero_add] at h1
                rcases yjW _ 0 h1 j p (by rw [List.getElem?_take_of_lt hji]; exact e2) with h2 | h2 | h2 | h2
                · exfalso
                  rw [Nat.zero_add] at h2
                  obtain ⟨e, he, hb, hon⟩ := yd0 h2
                  have h1 := hall e (by simpa using he) hb
                  have h2 := (mem_restOf.1 (show j ∈ ybb ops.size listed by rw [hlr]; exact List.mem_append.2 (.inl hjl)))
                  have hlt : j < listed.size := by omega
                  rw [hon] at h1
                  simp only [Array.getD_eq_getD_getElem?, Array.getElem?_eq_getElem hlt, Option.getD_some] at h1 h2
                  rw [h1] at h2
                  exact absurd h2.2 (by simp)
                · exact absurd h2 hok
                · exfalso
                  simp only [yjz, Bool.and_eq_true] at h2
                  have k1 := Nat.eq_of_beq_eq_true h2.1
                  have k2 := Nat.eq_of_beq_eq_true h2.2
                  have hns : ∀ {z : Op} {a : Operand}, ybr z = some a → yat E z = 2 := by
                    intro z a hz
                    cases z <;> simp only [ybr, reduceCtorEq] at hz
                    rfl
                  unfold ymd at hd
                  split at hd
                  · rename_i a b g1 g2
                    have := hns g1; omega
                  · split at hd
                    · rename_i a b g1 g2
                      have := hns g2; omega
                    · cases hd
                · exact h2 x y hd
            · cases g
      have hn0 : ρ0.bs.length ≤ s.heap.length := by rw [← hS.len]; exact hX0.len
      refine yf9 hE hFn ho hT hS (ydW hC hD _ s hn0 hpass (fun _ => ClS.of hT hS) h) ?_
      intro s' ρ' w' a' hK hT' hDf hS' hX hF
      have hrest := ylz hsz hlr
      refine ih (listed.setIfInBounds i true) ρ' w' s' a' (KQ ρ0.bs.length K) (by simp [hsz]) ?_ hT' hS' (hX0.trans hX) (hF.trans hF0) (hDf.trans hd0) ?_ ?_ ?_
      · rw [hrest]
        rw [hlr] at hlen
        simp at hlen ⊢
        omega
      · rintro s1 ⟨f, s2, hf, hst, hK2⟩
        rw [yn7 hC hf.inj hst]
        exact hck s2 hK2
      · rw [hrest, List.filterMap_append]; exact hK
      · rintro s'' ρ'' w'' a'' ⟨f, s2, hf, hst, hK2⟩ hT'' hD' hS'' hX' hF'
        obtain ⟨q1, q2, q3⟩ := ylS hf hst hT'' hS'' hX'
        exact hn s2 _ w'' a'' hK2 q1 hD' q2 q3 hF'
theorem yiR {ops : Array Oper} {Q : Exit → Act → World → Prop} (hE : ∀ t ti, E.ty t = some ti → OkTI P t ti) (hFn : ynz P E) (hD : ybk E) (hC : ya0 E) (hm : P.follows .mixedOrders = true)
    (id : Nat) (ρ : Ren) (w : World) (s : St) (a : Act) (K : St → Prop) (hT : RelT E.gl ρ w s.tmps a.tmps) (hS : Sim ρ s.heap w) (h : yfW E ops.toList s K)
    (hn : ∀ s' ρ' w' a', K s' → RelT E.gl ρ' w' s'.tmps a'.tmps → a'.defers = a.defers → Sim ρ' s'.heap w' → Ext ρ w ρ' w' → ρ'.F = ρ.F → Q .normal a' w') :
    (Code.region id ops true).wp P Q a w := by
  unfold yfW at h
  rw [yac] at h
  obtain ⟨hc, h⟩ := h
  have h : ybL E ops.toList ops.toList s fun s' => ym3 E ops.toList s' = true ∧ K s' := by
    rw [ybo] at h
    cases hq : ycj E (fun _ _ => false) ops.toList 0 ops.toList with
    | true => exact (ya6 hD _ s).mono (h.1 hq) fun s' hK => ⟨yi7 (fun _ _ e => by cases e) _ _ hq, hK⟩
    | false => exact (ya6 hD _ s).mono (h.2 hq) fun s' hK => (yac _ _).1 hK
  refine wp_region_any hm ?_
  have hq : ∀ F, Ext ⟨F, []⟩ w ⟨F, []⟩ { w with drawn := w.drawn + 1 } := fun F =>
    ⟨rfl, rfl, rfl, Nat.le_refl _, fun _ _ _ => rfl, fun _ _ h => h, fun _ _ h => h, fun _ _ h => .inl h, fun _ cs e fz h => ⟨cs, e, fz, h, rfl⟩⟩
  have hX : Ext ρ w ρ { w with drawn := w.drawn + 1 } := (hq []).quiet
  have hall : ybb ops.size (Array.replicate ops.size false) = List.range ops.size := by
    unfold ybb
    refine List.filter_eq_self.2 fun i hi => ?_
    have : i < ops.size := List.mem_range.1 hi
    simp [Array.getD_eq_getD_getElem?, this]
  refine yoa (a0 := a) (ρ0 := ρ) (w0 := { w with drawn := w.drawn + 1 }) hE hFn hD hC hc ops.size _ ρ _ s a (fun s' => ym3 E ops.toList s' = true ∧ K s') (by simp) (by rw [hall]; simp) (hT.ext hX) (hS.quiet (hq [])) (Ext.refl _ _) rfl rfl (fun s h => h.1) ?_ ?_
  · rw [hall]
    have : (List.range ops.size).filterMap (fun i => ops.toList[i]?) = ops.toList := by
      apply List.ext_getElem?
      intro i
      have : ∀ (l : List Oper), (List.range l.length).filterMap (fun i => l[i]?) = l := by
        intro l
        induction l with
        | nil => rfl
        | cons x l ih =>
          rw [List.length_cons, List.range_succ_eq_map, List.filterMap_cons]
          simp only [List.getElem?_cons_zero, List.filterMap_map]
          congr 1
      have h2 := this ops.toList
      rw [Array.length_toList] at h2
      rw [h2]
    rw [this]; exact h
  · intro s' ρ' w' a' hK hT' hDf hS' hX' hF
    exact hn s' ρ' w' a' hK.2 hT' hDf hS' (hX.trans hX') hF
mutual
theorem ymN : ∀ (v : EV) (x : Value), ydc v = some x → v.inI [] = true
  | .bool _, _, _ => rfl | .int _ _, _, _ => rfl | .str _, _, _ => rfl | .nilPtr, _, _ => rfl | .nilSlice, _, _ => rfl | .nilFunc, _, _ => rfl
  | .nilIface, _, _ => rfl | .arr _ _ _, _, _ => rfl
  | .agg l, x, h => by
    simp only [ydc] at h
    cases hq : ynf l with
    | none => rw [hq] at h; cases h
    | some cs => simp only [EV.inI]; exact ym0 l cs hq
  | .undef, _, h => by simp [ydc] at h
  | .ptr _ _, _, h => by simp [ydc] at h
  | .rref _, _, h => by simp [ydc] at h
  | .slice _ _ _ _ _, _, h => by simp [ydc] at h
  | .rsI _ _ _, _, h => by simp [ydc] at h
  | .func _ _, _, h => by simp [ydc] at h
  | .bnd _ _, _, h => by simp [ydc] at h
  | .tuple _, _, h => by simp [ydc] at h
  | .iface _ _, _, h => by simp [ydc] at h
theorem ym0 : ∀ (l : List EV) (cs : List Value), ynf l = some cs → EV.inIL [] l = true
  | [], _, _ => rfl
  | v :: l, cs, h => by
    simp only [ynf] at h
    cases hv : ydc v with
    | none => rw [hv] at h; cases h
    | some x =>
      cases hl : ynf l with
      | none => rw [hv, hl] at h; cases h
      | some ys => simp only [EV.inIL, ymN v x hv, ym0 l ys hl, Bool.and_self]
end
theorem ymz {ρ : Ren} {w : World} (hE : ∀ t ti, E.ty t = some ti → OkTI P t ti) (hG : GOk E.gl ρ w) : ya0 E :=
  ⟨fun t ti h => by
    obtain ⟨d, it, z, h1, h2, h3, h4, h5, h6, h7⟩ := hE t ti h
    exact ymN ti.zero z h7, fun g v h => (hG g v h).1⟩
theorem yk8 (hD : ybk E) {ops : List Oper} {s : St} : Det (yfW E ops s) := by
  unfold yfW
  exact yau (yaT (ya6 hD _ _) (ybO (U := fun s' K => gd (ym3 E ops s') (K s')) (ya6 hD _ _) fun s' => yau (yaj s')))
end sound
end Go.Ev

/- The evaluator: code and functions. -/
set_option linter.unusedVariables false
set_option linter.unusedSimpArgs false
namespace Go.Ev
open Go
def Ex.out : Ex → Exit
 | .normal => .normal
 | .exit id => .exit id
 | .ret => .ret
def yai : Code → Nat
 | .region id _ _ => id
 | .seq a _ => yai a
 | .block _ c => yai c
 | .loop c => yai c
 | .scope c => yai c
 | _ => 0
def ycL (keep : Nat) : Nat → List EV → List EV
 | _, [] => []
 | i, v :: l => cond (Nat.testBit keep i) v .undef :: ycL keep (i + 1) l
def ygG (keep : Nat) : Nat → List EV → List EV
 | _, [] => []
 | i, v :: l => cond (Nat.testBit keep i) (v :: ygG keep (i + 1) l) (ygG keep (i + 1) l)
def yaF (keep : Nat) : Nat → Nat → List EV → List EV
 | 0, _, _ => []
 | N + 1, i, vs => cond (Nat.testBit keep i) (match vs with
  | v :: vs => v :: yaF keep N (i + 1) vs
  | [] => .undef :: yaF keep N (i + 1) []) (.undef :: yaF keep N (i + 1) vs)
theorem ydV (keep : Nat) : ∀ (l : List EV) (i : Nat), yaF keep l.length i (ygG keep i l) = ycL keep i l
 | [], _ => rfl
 | v :: l, i => by
  simp only [List.length_cons, yaF, ygG, ycL]
  cases Nat.testBit keep i with
  | true => simp only [cond_true, ydV keep l (i + 1)]
  | false => simp only [cond_false, ydV keep l (i + 1)]
def goK (idx : List Nat) (vs : List EV) (H : yae) (K : List EV → yae → Prop) : Prop :=
 gd (EV.inIL idx vs && yla idx H idx) (K (EV.renL (pos idx) vs) (ylM H idx))
def ynG (keep nl N : Nat) (s : St) (K : List EV → yae → Prop) : Prop :=
 gd (Nat.beq s.tmps.length N) (goK (ymc nl (ygG keep 0 s.tmps) s.heap) (ygG keep 0 s.tmps) s.heap K)
def EV.fgt : EV → EV
 | .slice b o l _ e => .slice b o l none e
 | .undef => .undef | .bool b => .bool b | .int k n => .int k n | .str s => .str s | .nilPtr => .nilPtr | .ptr b p => .ptr b p | .rref v => .rref v
 | .nilSlice => .nilSlice | .rsI k n g => .rsI k n g | .nilFunc => .nilFunc | .func f l => .func f l | .bnd f l => .bnd f l | .agg l => .agg l | .arr k n g => .arr k n g
 | .tuple l => .tuple l | .nilIface => .nilIface | .iface t v => .iface t v
def St.fgt (s : St) : Bool → St
 | false => s
 | true => { tmps := s.tmps.map EV.fgt, heap := s.heap }
def yjS (fg : Bool) (keep nl N : Nat) (s : St) (K : List EV → yae → Prop) : Prop := ynG keep nl N (s.fgt fg) K
def yaM : List (Nat × Nat) → Nat → Nat
 | [], _ => 0
 | (i, m) :: l, j => cond (Nat.beq i j) m (yaM l j)
def ypv : Operand → Nat
 | .tmp t => Nat.shiftLeft 1 t
 | _ => 0
def ykR : List Operand → Nat
 | [] => 0
 | x :: l => Nat.lor (ypv x) (ykR l)
def yoW (m : Nat) : Option Nat → Nat
 | some d => cond (Nat.testBit m d) (Nat.sub m (Nat.shiftLeft 1 d)) m
 | none => m
def ypD : Op → Nat
 | .build _ ps => ykR (ps.toList.map (·.2))
 | .buildSlice _ _ ps => ykR (ps.toList.map (·.2))
 | o => ykR o.operands.toList
def ymq (ops : List Oper) : List Oper → Nat → Nat
 | [], m => m
 | o :: r, m => Nat.lor (yoW (ymq ops r m) o.dst) (Nat.lor (ypD o.op) (match o.guard with
  | some (j, _) => match ops[j]? with
   | some oj => match oj.dst with
    | some d => Nat.shiftLeft 1 d
    | none => 0
   | none => 0
  | none => 0))
def live : Code → LV → Nat
 | .skip, lv => lv.nx
 | .region _ ops _, lv => ymq ops.toList ops.toList lv.nx
 | .seq a b, lv => live a { lv with nx := live b lv }
 | .cond c a b, lv => Nat.lor (ypv c) (Nat.lor (live a lv) (live b lv))
 | .block id c, lv => live c { lv with ex := (id, lv.nx) :: lv.ex }
 | .loop c, lv => Nat.lor (live c { lv with nx := 0 }) (live c { lv with nx := live c { lv with nx := 0 } })
 | .exit id, lv => yaM lv.ex id
 | .ret, lv => lv.rt
 | .scope c, lv => live c lv
 | _, lv => lv.nx
def ybG (lv : LV) : Ex → Nat
 | .normal => 0
 | .exit id => yaM lv.ex id
 | .ret => lv.rt
def ylG : List (Nat × Nat) → List (Nat × Nat) → Bool
 | [], [] => true
 | (a, b) :: l, (c, d) :: r => Nat.beq a c && (Nat.beq b d && ylG l r)
 | _, _ => false
def LV.beq (a b : LV) : Bool := Nat.beq a.nx b.nx && (Nat.beq a.rt b.rt && (Nat.beq a.nl b.nl && (ylG a.ex b.ex && yeP a.fg b.fg)))
theorem yks : ∀ (l r : List (Nat × Nat)), ylG l r = true → l = r
 | [], [], _ => rfl
 | (a, b) :: l, (c, d) :: r, h => by
  simp only [ylG, Bool.and_eq_true] at h
  rw [Nat.eq_of_beq_eq_true h.1, Nat.eq_of_beq_eq_true h.2.1, yks l r h.2.2]
 | [], _ :: _, h => by simp [ylG] at h
 | _ :: _, [], h => by simp [ylG] at h
theorem ynV {a b : Bool} (h : yeP a b = true) : a = b := by cases a <;> cases b <;> first | rfl | cases h
theorem LV.eq_of_beq {a b : LV} (h : a.beq b = true) : a = b := by
 simp only [LV.beq, Bool.and_eq_true] at h
 cases a; cases b
 simp only at h
 rw [Nat.eq_of_beq_eq_true h.1, Nat.eq_of_beq_eq_true h.2.1, Nat.eq_of_beq_eq_true h.2.2.1, yks _ _ h.2.2.2.1, ynV h.2.2.2.2]
def yak (step : St → (Ex → St → Prop) → Prop) (head : Nat) (lv : LV) (m N : Nat) (R : List EV → yae → Prop) (vs : List EV) (H : yae) (K : Ex → List EV → yae → Prop) : Prop :=
 step { tmps := yaF head N 0 vs, heap := H } fun ex s' => match ex with
  | .normal => yjS lv.fg head m N s' R
  | .exit id => yjS lv.fg (yaM lv.ex id) m N s' (K (.exit id))
  | .ret => yjS lv.fg lv.rt m N s' (K .ret)
def yc3 (step : St → (Ex → St → Prop) → Prop) (head : Nat) (lv : LV) (m N : Nat) (K : Ex → List EV → yae → Prop) : Nat → List EV → yae → Prop
 | 0, _, _ => False
 | n + 1, vs, H => yak step head lv m N (yc3 step head lv m N K n) vs H K
def yiG (step : St → (Ex → St → Prop) → Prop) (head : Nat) (lv : LV) (m N : Nat) (K : Ex → List EV → yae → Prop) : Nat → List EV → yae → Prop
 | 0, _, _ => False
 | n + 1, vs, H => yak step head lv m N (yiG step head lv m N K n) vs H K
theorem yhE (step : St → (Ex → St → Prop) → Prop) (head : Nat) (lv : LV) (m N : Nat) (K : Ex → List EV → yae → Prop) : ∀ n, yiG step head lv m N K n = yc3 step head lv m N K n
 | 0 => by funext vs H; rfl
 | n + 1 => by funext vs H; simp only [yiG, yc3, yhE step head lv m N K n]
def yan (E : Env) : Code → LV → St → (Ex → St → Prop) → Prop
 | .skip, _, s, K => K .normal s
 | .region _ ops draw, _, s, K => cond draw (yfW E ops.toList s (K .normal)) (ybL E ops.toList ops.toList s (K .normal))
 | .seq a b, lv, s, K => yan E a { lv with nx := live b lv } s fun ex s' => match ex with
  | .normal => yan E b lv s' K
  | .exit id => K (.exit id) s'
  | .ret => K .ret s'
 | .cond c a b, lv, s, K => match (St.opd E s) c with
  | .bool t => br t (yan E a lv s K) (yan E b lv s K)
  | _ => False
 | .block id c, lv, s, K => yan E c { lv with ex := (id, lv.nx) :: lv.ex } s fun ex s' => match ex with
  | .normal => K .normal s'
  | .exit id' => cond (Nat.beq id' id) (K .normal s') (K (.exit id') s')
  | .ret => K .ret s'
 | .loop c, lv, s, K => yjS lv.fg (live (.loop c) lv) lv.nl s.tmps.length s fun vs H => match E.un (yai c) with
  | 0 => match E.lp (yai c) with
   | some L => gd (lv.beq L.lv && (Nat.beq lv.nl L.m && Nat.beq s.tmps.length L.N)) (L.spec vs H fun ex vs H => K ex { tmps := yaF (ybG lv ex) s.tmps.length 0 vs, heap := H })
   | none => ∃ n, yc3 (yan E c { lv with nx := live (.loop c) lv }) (live (.loop c) lv) lv lv.nl s.tmps.length (fun ex vs H => K ex { tmps := yaF (ybG lv ex) s.tmps.length 0 vs, heap := H }) n vs H
  | n + 1 => yiG (yan E c { lv with nx := live (.loop c) lv }) (live (.loop c) lv) lv lv.nl s.tmps.length (fun ex vs H => K ex { tmps := yaF (ybG lv ex) s.tmps.length 0 vs, heap := H }) (n + 1) vs H
 | .exit id, _, s, K => K (.exit id) s
 | .ret, _, s, K => K .ret s
 | .scope c, lv, s, K => yan E c lv s K
 | _, _, _, _ => False
def ynj (E : Env) (c : Code) : Prop :=
 ∀ L, E.lp (yai c) = some L → ∀ vs H K, L.spec vs H K → ∃ n, yc3 (yan E c { L.lv with nx := live (.loop c) L.lv }) (live (.loop c) L.lv) L.lv L.m L.N K n vs H
def ybt : Code → List Code
 | .seq a b => ybt a ++ ybt b
 | .cond _ a b => ybt a ++ ybt b
 | .block _ c => ybt c
 | .loop c => c :: ybt c
 | .scope c => ybt c
 | _ => []
section sound
variable {P : Program} {E : Env}
theorem yhu (keep : Nat) : ∀ (l : List EV) (j i : Nat) (v : EV), (ycL keep j l)[i]? = some v → v = .undef ∨ l[i]? = some v
 | [], j, i, v, h => by simp [ycL] at h
 | u :: l, j, 0, v, h => by
  simp only [ycL, List.getElem?_cons_zero, Option.some.injEq] at h
  cases hm : Nat.testBit keep j with
  | true => right; simp [hm] at h; simp [h]
  | false => left; simp [hm] at h; exact h.symm
 | u :: l, j, i + 1, v, h => by
  simp only [ycL, List.getElem?_cons_succ] at h ⊢
  exact yhu keep l (j + 1) i v h
theorem yeC (keep : Nat) : ∀ (l : List EV) (j : Nat), (ycL keep j l).length = l.length
 | [], _ => rfl
 | _ :: l, j => by simp [ycL, yeC keep l (j + 1)]
theorem yiY {keep : Nat} {v : EV} (hu : v ≠ .undef) : ∀ (l : List EV) (j i : Nat), (ycL keep j l)[i]? = some v → v ∈ ygG keep j l := by
 intro l
 induction l with
 | nil => intro j i h; simp [ycL] at h
 | cons u l ih =>
  intro j i h
  simp only [ycL, ygG] at h ⊢
  cases i with
  | zero =>
   cases ht : Nat.testBit keep j with
   | true => simp [ht] at h; subst h; simp
   | false => simp [ht] at h; exact absurd h.symm hu
  | succ i =>
   have := ih (j + 1) i (by simpa using h)
   cases Nat.testBit keep j <;> simp [this]
theorem ykP {idx : List Nat} : ∀ {l : List EV}, EV.inIL idx l = true → ∀ v ∈ l, v.inI idx = true
 | v :: l, h, u, hu => by
  simp only [EV.inIL, Bool.and_eq_true] at h
  rcases List.mem_cons.1 hu with rfl | hu
  ·exact h.1
  ·exact ykP h.2 u hu
theorem ydx (keep : Nat) (f : Nat → Nat) : ∀ (N i : Nat) (vs : List EV), yaF keep N i (EV.renL f vs) = (yaF keep N i vs).map (EV.ren f)
 | 0, _, _ => rfl
 | N + 1, i, vs => by
  simp only [yaF]
  cases Nat.testBit keep i with
  | true =>
   cases vs with
   | nil =>
    simp only [EV.renL, cond_true, List.map_cons, EV.ren]
    have := ydx keep f N (i + 1) []
    simp only [EV.renL] at this
    exact congrArg _ this
   | cons v vs => simp only [EV.renL, cond_true, List.map_cons, ydx keep f N (i + 1) vs]
  | false => simp only [cond_false, List.map_cons, EV.ren, ydx keep f N (i + 1) vs]
theorem yoQ {ρ : Ren} {w : World} {v : EV} {x : Value} (h : Rel ρ w v x) : Rel ρ w v.fgt x := by
 cases v <;> try exact h
 rename_i b off len cap e
 simp only [EV.fgt, Rel] at h ⊢
 obtain ⟨a, c, h0, r, h1, h2⟩ := h
 refine ⟨a, c, h0, r, h1, fun i hi => ?_⟩
 obtain ⟨n, h3, h4, h5, _, h6⟩ := h2 i hi
 exact ⟨n, h3, h4, h5, (fun c0 hc => by cases hc), h6⟩
theorem RelT.fgt {gl : Nat → Option EV} {ρ : Ren} {w : World} {s : St} {a : Array Value} (h : RelT gl ρ w s.tmps a) (fg : Bool) : RelT gl ρ w (s.fgt fg).tmps a := by
 cases fg with
 | false => exact h
 | true =>
  refine ⟨by simp [St.fgt, h.1], fun i v hv => ?_, h.2.2⟩
  simp only [St.fgt, List.getElem?_map] at hv
  cases hs : s.tmps[i]? with
  | none => rw [hs] at hv; cases hv
  | some u =>
   rw [hs] at hv
   simp only [Option.map_some, Option.some.injEq] at hv
   subst hv
   rcases h.2.1 i u hs with rfl | ⟨x, hx, hr⟩
   ·exact .inl rfl
   ·exact .inr ⟨x, hx, yoQ hr⟩
theorem yjX {ρ0 ρ : Ren} {w0 w : World} {s : St} {a : Array Value} {keep nl N : Nat} {K : List EV → yae → Prop} (hT : RelT E.gl ρ w s.tmps a) (hS : Sim ρ s.heap w) (hI : Ext ρ0 w0 ρ w) (hF : ρ.F = ρ0.F) (hnl : nl = ρ0.bs.length)
  (h : ynG keep nl N s K) : ∃ vs H ρ', K vs H ∧ RelT E.gl ρ' w (yaF keep N 0 vs) a ∧ Sim ρ' H w ∧ Ext ρ0 w0 ρ' w ∧ ρ'.F = ρ0.F := by
 unfold ynG at h
 rw [yac] at h
 obtain ⟨h0, h⟩ := h
 unfold goK at h
 rw [yac, Bool.and_eq_true] at h
 obtain ⟨⟨h1, h2⟩, hK⟩ := h
 obtain ⟨c1, c2⟩ := ygr nl (ygG keep 0 s.tmps) s.heap
 generalize ymc nl (ygG keep 0 s.tmps) s.heap = idx at *
 have hN := Nat.eq_of_beq_eq_true h0
 have hm : ∀ b, b < w.heap.size → b ∉ ρ.mbs → b ∉ (⟨ρ.F, yb7 ρ.bs idx⟩ : Ren).mbs := fun b _ hn hm => hn (yds hm)
 refine ⟨_, _, ⟨ρ.F, yb7 ρ.bs idx⟩, hK, ?_, ?_, hI.sub (fun j hj => c2 j (by omega)), hF⟩
 ·rw [ydx, ← hN, ydV]
  refine ⟨by simp [yeC, hT.1], fun i v hv => ?_, hT.2.2.sub fun b hb => yds hb⟩
  rw [List.getElem?_map] at hv
  cases hc : (ycL keep 0 s.tmps)[i]? with
  | none => simp [hc] at hv
  | some u =>
   simp only [hc, Option.map_some, Option.some.injEq] at hv
   subst hv
   by_cases hu : u = .undef
   ·subst hu; exact .inl rfl
   ·rcases yhu keep s.tmps 0 i u hc with h' | h'
    ·exact absurd h' hu
    ·rcases hT.2.1 i u h' with h3 | ⟨x, hx, hr⟩
     ·exact absurd h3 hu
     ·exact .inr ⟨x, hx, Rel.ren (fun b r hb hr => .inl (ycD hb hr)) u x (ykP h1 u (yiY hu s.tmps 0 i hc)) (.inr hm) hr⟩
 ·exact hS.sub c1 hS.fl (fun b r _ hb => hS.sep b r hb) h2 hm
theorem ydw {ρ0 ρ : Ren} {w0 w : World} {s : St} {a : Array Value} {fg : Bool} {keep nl N : Nat} {K : List EV → yae → Prop} (hT : RelT E.gl ρ w s.tmps a) (hS : Sim ρ s.heap w) (hI : Ext ρ0 w0 ρ w) (hF : ρ.F = ρ0.F) (hnl : nl = ρ0.bs.length)
  (h : yjS fg keep nl N s K) : ∃ vs H ρ', K vs H ∧ RelT E.gl ρ' w (yaF keep N 0 vs) a ∧ Sim ρ' H w ∧ Ext ρ0 w0 ρ' w ∧ ρ'.F = ρ0.F :=
 yjX (hT.fgt fg) (by cases fg <;> exact hS) hI hF hnl h
theorem yi8 {ρ0 : Ren} {w0 : World} (hE : ∀ t ti, E.ty t = some ti → OkTI P t ti) (hFn : ynz P E) (hD : ybk E) (hm : P.follows .mixedOrders = true) :
  ∀ (c : Code) (hL : ∀ c', c' ∈ ybt c → ynj E c') (lv : LV) (hl : lv.nl = ρ0.bs.length) (ρ : Ren) (w : World) (s : St) (a : Act) (K : Ex → St → Prop) (Q : Exit → Act → World → Prop), RelT E.gl ρ w s.tmps a.tmps → Sim ρ s.heap w → Ext ρ0 w0 ρ w ∧ ρ.F = ρ0.F → yan E c lv s K →
   (∀ ex s' ρ' w' a', K ex s' → RelT E.gl ρ' w' s'.tmps a'.tmps → Sim ρ' s'.heap w' → Ext ρ0 w0 ρ' w' ∧ ρ'.F = ρ0.F → a'.defers = a.defers → Q ex.out a' w') → c.wp P Q a w := by
 intro c
 induction c with
 | skip => intro hL lv hl ρ w s a K Q hT hS hI h hn; exact wp_skip (hn .normal s ρ w a h hT hS hI rfl)
 | region id ops draw =>
  intro hL lv hl ρ w s a K Q hT hS hI h hn
  simp only [yan] at h
  cases draw with
  | true =>
   simp only [cond_true] at h
   exact yiR hE hFn hD (ymz hE hT.2.2) hm id ρ w s a _ hT hS h fun s' ρ' w' a' hK hT' hD hS' hX hF => hn .normal s' ρ' w' a' hK hT' hS' ⟨hI.1.trans hX, hF.trans hI.2⟩ hD
  | false =>
   simp only [cond_false] at h
   refine wp_region ?_
   have := ygx (Q := Q) hE hFn ops.toList 0 rfl ρ w s a _ hT hS h fun s' ρ' w' a' hK hT' hD hS' hX hF => hn .normal s' ρ' w' a' hK hT' hS' ⟨hI.1.trans hX, hF.trans hI.2⟩ hD
   rw [List.range_eq_range', ← Array.length_toList]
   exact this
 | seq x y ihx ihy =>
  intro hL lv hl ρ w s a K Q hT hS hI h hn
  simp only [yan] at h
  refine wp_seq (ihx (fun c' hc => hL c' (List.mem_append.2 (.inl hc))) { lv with nx := live y lv } hl ρ w s a _ _ hT hS hI h ?_)
  intro ex s' ρ' w' a' hK hT' hS' hI' hD
  cases ex with
  | normal => exact ihy (fun c' hc => hL c' (List.mem_append.2 (.inr hc))) _ hl ρ' w' s' a' K Q hT' hS' hI' hK fun ex s'' ρ'' w'' a'' hK' hT'' hS'' hI'' hD' => hn ex s'' ρ'' w'' a'' hK' hT'' hS'' hI'' (hD'.trans hD)
  | exit id => exact hn (.exit id) s' ρ' w' a' hK hT' hS' hI' hD
  | ret => exact hn .ret s' ρ' w' a' hK hT' hS' hI' hD
 | cond c x y ihx ihy =>
  intro hL lv hl ρ w s a K Q hT hS hI h hn
  simp only [yan] at h
  split at h
  ·rename_i t ht
   have hc := yaU hT ht (by simp)
   simp only [Rel] at hc
   rw [yda] at h
   cases t with
   | true => exact wp_cond_true hc (ihx (fun c' hc => hL c' (List.mem_append.2 (.inl hc))) _ hl ρ w s a K Q hT hS hI (h.1 rfl) hn)
   | false => exact wp_cond_false hc (ihy (fun c' hc => hL c' (List.mem_append.2 (.inr hc))) _ hl ρ w s a K Q hT hS hI (h.2 rfl) hn)
  ·exact h.elim
 | block id c ih =>
  intro hL lv hl ρ w s a K Q hT hS hI h hn
  simp only [yan] at h
  refine wp_block (ih hL { lv with ex := (id, lv.nx) :: lv.ex } hl ρ w s a _ _ hT hS hI h ?_)
  intro ex s' ρ' w' a' hK hT' hS' hI' hD
  cases ex with
  | normal => exact hn .normal s' ρ' w' a' hK hT' hS' hI' hD
  | exit id' =>
   simp only [Ex.out, Exit.inBlock]
   simp only at hK
   rw [ybo] at hK
   by_cases hid : id' = id
   ·rw [if_pos hid]
    exact hn .normal s' ρ' w' a' (hK.1 (by rw [hid]; exact Nat.beq_refl id)) hT' hS' hI' hD
   ·rw [if_neg hid]
    refine hn (.exit id') s' ρ' w' a' (hK.2 ?_) hT' hS' hI' hD
    cases hb : Nat.beq id' id with
    | false => rfl
    | true => exact absurd (Nat.eq_of_beq_eq_true hb) hid
  | ret => exact hn .ret s' ρ' w' a' hK hT' hS' hI' hD
 | loop c ih =>
  intro hL lv hl ρ w s a K Q hT hS hI h hn
  simp only [yan] at h
  have ih' := ih fun c' hc => hL c' (List.mem_cons_of_mem _ hc)
  obtain ⟨vs, H, ρ1, h, hT1, hS1, hI1, hf1⟩ := ydw hT hS hI.1 hI.2 hl h
  have hex : ∃ n, yc3 (yan E c { lv with nx := live (.loop c) lv }) (live (.loop c) lv) lv lv.nl s.tmps.length (fun ex vs H => K ex { tmps := yaF (ybG lv ex) s.tmps.length 0 vs, heap := H }) n vs H := by
   split at h
   case h_2 =>
    rw [yhE] at h
    exact ⟨_, h⟩
   split at h
   ·rename_i L hL'
    rw [yac, Bool.and_eq_true, Bool.and_eq_true] at h
    obtain ⟨⟨g1, g2, g3⟩, h⟩ := h
    have e1 := LV.eq_of_beq g1
    have e2 := Nat.eq_of_beq_eq_true g2
    have e3 := Nat.eq_of_beq_eq_true g3
    have h' := hL c List.mem_cons_self L hL' _ _ _ h
    rw [← e2, ← e3, ← e1] at h'
    exact h'
   ·exact h
  clear h
  obtain ⟨n, h⟩ := hex
  refine wp_loop_rounds n ?_
  generalize hmm : lv.nl = m at h hl
  generalize s.tmps.length = N at h hT1
  generalize live (.loop c) lv = head at h hT1
  clear hT hS hI
  induction n generalizing ρ1 w vs H a with
  | zero => exact h.elim
  | succ n ihn =>
   simp only [yc3, yak] at h
   rw [rounds_succ]
   refine ih' ⟨head, lv.ex, lv.rt, m, lv.fg⟩ hl ρ1 w _ a _ _ hT1 hS1 ⟨hI1, hf1⟩ h ?_
   intro ex s' ρ' w' a' hK hT' hS' hI' hD
   cases ex with
   | normal =>
    obtain ⟨vs2, H2, ρ2, hK2, hT2, hS2, hI2, hf2⟩ := ydw hT' hS' hI'.1 hI'.2 hl hK
    exact ihn w' a' (fun ex s'' ρ'' w'' a'' hK' hT'' hS'' hI'' hD' => hn ex s'' ρ'' w'' a'' hK' hT'' hS'' hI'' (hD'.trans hD)) vs2 H2 ρ2 hS2 hI2 hf2 hK2 hT2
   | exit id =>
    obtain ⟨vs2, H2, ρ2, hK2, hT2, hS2, hI2, hf2⟩ := ydw hT' hS' hI'.1 hI'.2 hl hK
    exact hn (.exit id) _ ρ2 w' a' hK2 hT2 hS2 ⟨hI2, hf2⟩ hD
   | ret =>
    obtain ⟨vs2, H2, ρ2, hK2, hT2, hS2, hI2, hf2⟩ := ydw hT' hS' hI'.1 hI'.2 hl hK
    exact hn .ret _ ρ2 w' a' hK2 hT2 hS2 ⟨hI2, hf2⟩ hD
 | exit id => intro hL lv hl ρ w s a K Q hT hS hI h hn; exact wp_exit (hn (.exit id) s ρ w a h hT hS hI rfl)
 | ret => intro hL lv hl ρ w s a K Q hT hS hI h hn; exact wp_ret (hn .ret s ρ w a h hT hS hI rfl)
 | scope c ih =>
  intro hL lv hl ρ w s a K Q hT hS hI h hn
  simp only [yan] at h
  refine wp_scope_straight (ih hL _ hl ρ w s a K _ hT hS hI h ?_)
  intro ex s' ρ' w' a' hK hT' hS' hI' hD
  cases ex <;> exact hn _ s' ρ' w' a' hK hT' hS' hI' hD
 | rangeFunc f ps x y _ _ => intro hL lv hl ρ w s a K Q hT hS hI h hn; exact h.elim
 | label l => intro hL lv hl ρ w s a K Q hT hS hI h hn; exact h.elim
 | goto l => intro hL lv hl ρ w s a K Q hT hS hI h hn; exact h.elim
 | refuse l => intro hL lv hl ρ w s a K Q hT hS hI h hn; exact h.elim
end sound
def yph (E : Env) (t : TypeId) : Option IntKind :=
 match E.ty t with
 | some ti => match ti.td with
  | .slice e => match E.ty e with
   | some ei => match ei.td with
    | .int k => some k
    | _ => none
   | none => none
  | _ => none
 | none => none
def yaN (E : Env) : List ResultVar → St → (List EV → Prop) → Prop
 | [], s, K => K []
 | .tmp t :: rs, s, K => gd (s.slot t).dfd (yaN E rs s fun vs => K (s.slot t :: vs))
 | .cell a t :: rs, s, K => gd (s.slot a).dfd (ybe E t (s.slot a) s.heap fun v => yaN E rs s fun vs => K (v :: vs))
def ypM (vs : List EV) (dead idx : List Nat) (H : yae) (K : EV → yae → Prop) : Prop :=
 gd (yfb vs && (EV.inIL idx vs && (yla idx H idx && yei idx dead))) (match EV.renL (pos idx) vs with
  | [v] => K v (ylM H idx)
  | vs => K (.tuple vs) (ylM H idx))
def ynC (nl : Nat) (ros : List (Option IntKind)) (vs : List EV) (H : yae) (K : EV → yae → Prop) : Prop :=
 ypM (yaK H ros vs) (ycm ros vs) (ymc nl (yaK H ros vs) H) H K
def yhv : List ResultVar → Nat
 | [] => 0
 | .tmp t :: l => Nat.lor (Nat.shiftLeft 1 t) (yhv l)
 | .cell a _ :: l => Nat.lor (Nat.shiftLeft 1 a) (yhv l)
def ybC (E : Env) (fn : Func) (own : Bool) (args : List EV) (H : yae) (K : EV → yae → Prop) : Prop :=
 match fn.body with
 | some c => yan E c { nx := yhv fn.results.toList, ex := [], rt := yhv fn.results.toList, nl := H.length, fg := E.fg } { tmps := args ++ List.replicate (fn.ntmps - args.length) .undef, heap := H } fun ex s => match ex with
  | .exit _ => False
  | _ => yaN E fn.results.toList s fun vs => ynC H.length (cond own [] (fn.resultTypes.toList.map (yph E))) vs s.heap K
 | none => False
def yiZ (tmps : Array Value) : ResultVar → Sem Value
 | .tmp t => pure (tmps.getD t undef)
 | .cell a t => do loadVar t (← asAddr (tmps.getD a undef))
section sound
variable {P : Program} {E : Env}
theorem yci {ρ : Ren} {w : World} {s : St} {tmps : Array Value} (hE : ∀ t ti, E.ty t = some ti → OkTI P t ti) (hT : RelT E.gl ρ w s.tmps tmps) (hS : Sim ρ s.heap w) :
  ∀ (rs : List ResultVar) (K : List EV → Prop), yaN E rs s K → ∃ vs xs, K vs ∧ RelL ρ w vs xs ∧ (rs.mapM (yiZ tmps)).run P w = .ok xs w
 | [], K, h => ⟨[], [], h, rfl, rfl⟩
 | .tmp t :: rs, K, h => by
  simp only [yaN] at h
  rw [yac] at h
  obtain ⟨h1, h⟩ := h
  obtain ⟨vs, xs, k1, k2, k3⟩ := yci hE hT hS rs _ h
  have hr : Rel ρ w (s.slot t) (tmps.getD t undef) := yaU (a := { tmps, defers := [] }) hT (x := .tmp t) rfl (ybh h1)
  refine ⟨_, tmps.getD t undef :: xs, k1, ⟨_, _, rfl, hr, k2⟩, ?_⟩
  rw [List.mapM_cons, yad]
  simp only [yiZ, yah]
  rw [yad, k3]
  rfl
 | .cell a t :: rs, K, h => by
  simp only [yaN] at h
  rw [yac] at h
  obtain ⟨h1, h⟩ := h
  have hr : Rel ρ w (s.slot a) (tmps.getD a undef) := yaU (a := { tmps, defers := [] }) hT (x := .tmp a) rfl (ybh h1)
  obtain ⟨u, y, g1, g2, g3⟩ := yfe hE hS hr h
  obtain ⟨vs, xs, k1, k2, k3⟩ := yci hE hT hS rs _ g1
  refine ⟨_, y :: xs, k1, ⟨_, _, rfl, g2, k2⟩, ?_⟩
  rw [List.mapM_cons, yad]
  have : (yiZ tmps (.cell a t)).run P w = .ok y w := by
   simp only [yiZ]
   revert g3
   cases tmps.getD a undef <;> intro g3 <;> try (simp [Instr.loadAt, Instr.sureAddr, yad, stuck, Sem.run] at g3; done)
   rename_i aa
   cases aa with
   | none => simp [Instr.loadAt, Instr.sureAddr, yad, stuck, Sem.run] at g3
   | some aa => exact g3
  rw [this]
  simp only
  rw [yad, k3]
  rfl
theorem ylf {ρ0 ρ : Ren} {w0 w : World} {H : yae} {vs : List EV} {xs : List Value} {nl : Nat} {ros : List (Option IntKind)} {K : EV → yae → Prop} (hS : Sim ρ H w) (hI : Ext ρ0 w0 ρ w) (hF : ρ.F = ρ0.F) (hnl : nl = ρ0.bs.length)
  (hr : RelL ρ w vs xs) (h : ynC nl ros vs H K) :
  ∃ v H' ρ', K v H' ∧ Rel ρ' w v (if h : xs.length = 1 then xs[0] else .tuple xs.toArray) ∧ Sim ρ' H' w ∧ Ext ρ0 w0 ρ' w ∧ ρ'.F = ρ0.F := by
 unfold ynC ypM at h
 rw [yac] at h
 simp only [Bool.and_eq_true] at h
 obtain ⟨⟨h1, h2, h3, h4⟩, h⟩ := h
 obtain ⟨c1, c2⟩ := ygr nl (yaK H ros vs) H
 generalize ymc nl (yaK H ros vs) H = idx at *
 have hm : ∀ b, b < w.heap.size → b ∉ ρ.mbs → b ∉ (⟨ρ.F, yb7 ρ.bs idx⟩ : Ren).mbs := fun b _ hn hm => hn (yds hm)
 have hrel : RelL ⟨ρ.F, yb7 ρ.bs idx⟩ w (EV.renL (pos idx) (yaK H ros vs)) xs := by
  refine ygX hS (fun b r hb hr => .inl (ycD hb hr)) (fun b hb => yds hb) ros vs xs ?_ h1 h2 hr
  intro b hb r h5 h6
  rcases List.mem_append.1 h6 with h6 | h6
  ·exact hS.sep b r h5 h6
  ·obtain ⟨c, s, g1, g2, g3⟩ := ycg h6
   exact ydQ h4 b hb (hS.nodup c b s r g2 h5 g3 ▸ g1)
 generalize EV.renL (pos idx) (yaK H ros vs) = vs' at *
 have fin : ∀ v, K v (ylM H idx) → Rel ⟨ρ.F, yb7 ρ.bs idx⟩ w v (if h : xs.length = 1 then xs[0] else .tuple xs.toArray) → ∃ v H' ρ', K v H' ∧ Rel ρ' w v (if h : xs.length = 1 then xs[0] else .tuple xs.toArray) ∧ Sim ρ' H' w ∧ Ext ρ0 w0 ρ' w ∧ ρ'.F = ρ0.F :=
  fun v hK hv => ⟨v, _, _, hK, hv, hS.sub c1 hS.fl (fun b r _ hb => hS.sep b r hb) h3 hm, hI.sub (fun j hj => c2 j (by omega)), hF⟩
 split at h
 ·rename_i v
  simp only [RelL] at hrel
  obtain ⟨y, zs, rfl, g1, rfl⟩ := hrel
  exact fin v h g1
 ·rename_i vs'' hne
  have hl : ¬ xs.length = 1 := by
   intro hx
   match vs', hrel, hne with
   | [], hrel, _ => simp only [RelL] at hrel; subst hrel; simp at hx
   | [v], _, hne => exact hne v rfl
   | v :: u :: l, hrel, _ =>
    simp only [RelL] at hrel
    obtain ⟨y, zs, rfl, _, y', zs', rfl, _⟩ := hrel
    simp at hx
  refine fin _ h ?_
  rw [dif_neg hl]
  simp only [Rel]
  exact ⟨xs.toArray, rfl, by simpa using hrel⟩
theorem ylt {f : FuncId} {fn : Func} {own : Bool} (hE : ∀ t ti, E.ty t = some ti → OkTI P t ti) (hFn : ynz P E) (hD : ybk E) (hm : P.follows .mixedOrders = true) (hf : P.funcs[f]? = some fn)
  (hL : ∀ c, fn.body = some c → ∀ c', c' ∈ ybt c → ynj E c')
  {ρ : Ren} {H : yae} {w : World} {args : List EV} {xs : List Value} {K : EV → yae → Prop} (h : ybC E fn own args H K) (hr : RelL ρ w args xs) (hS : Sim ρ H w) (hG : GOk E.gl ρ w) :
  Calls P f xs.toArray w fun e w' => ∃ v x H' ρ', e = .returned x ∧ K v H' ∧ Rel ρ' w' v x ∧ Sim ρ' H' w' ∧ Ext ρ w ρ' w' ∧ ρ'.F = ρ.F := by
 unfold ybC at h
 split at h
 ·rename_i c hc
  refine calls_of_wp hf hc ?_
  have hlen : ∀ (l : List EV) (ys : List Value), RelL ρ w l ys → l.length = ys.length := by
   intro l
   induction l with
   | nil => intro ys h; simp only [RelL] at h; subst h; rfl
   | cons v l ih =>
    intro ys h
    simp only [RelL] at h
    obtain ⟨y, zs, rfl, _, h2⟩ := h
    simp [ih zs h2]
  have hget : ∀ (l : List EV) (ys : List Value) (i : Nat) (v : EV), RelL ρ w l ys → l[i]? = some v → ∃ y, ys[i]? = some y ∧ Rel ρ w v y := by
   intro l
   induction l with
   | nil => intro ys i v _ h; simp at h
   | cons u l ih =>
    intro ys i v hr hv
    simp only [RelL] at hr
    obtain ⟨y, zs, rfl, h1, h2⟩ := hr
    cases i with
    | zero => simp at hv; subst hv; exact ⟨y, rfl, h1⟩
    | succ i => simp at hv; simpa using ih zs i v h2 hv
  have hl := hlen args xs hr
  have hT : RelT E.gl ρ w (args ++ List.replicate (fn.ntmps - args.length) .undef) (xs.toArray ++ Array.replicate (fn.ntmps - xs.toArray.size) undef) := by
   refine ⟨by simp [hl], fun i v hv => ?_, hG⟩
   rw [List.getElem?_append] at hv
   split at hv
   ·rename_i hi
    obtain ⟨y, hy, hv'⟩ := hget args xs i v hr hv
    refine .inr ⟨y, ?_, hv'⟩
    rw [Array.getElem?_append_left (by simp; omega)]
    simpa using hy
   ·left
    have := List.mem_of_getElem? hv
    exact (List.eq_of_mem_replicate this)
  refine yi8 hE hFn hD hm c (hL c hc) _ hS.len.symm ρ w _ _ _ _ hT hS ⟨Ext.refl _ _, rfl⟩ h ?_
  intro ex s' ρ' w' a' hK hT' hS' hI' hD
  have key : (yaN E fn.results.toList s' fun vs => ynC H.length (cond own [] (fn.resultTypes.toList.map (yph E))) vs s'.heap K) →
    ∃ x, (results fn a'.tmps).run P w' = .ok x w' ∧ ∃ v H' ρ'', K v H' ∧ Rel ρ'' w' v x ∧ Sim ρ'' H' w' ∧ Ext ρ w ρ'' w' ∧ ρ''.F = ρ.F := by
   intro hK
   obtain ⟨vs, ys, k1, k2, k3⟩ := yci hE hT' hS' _ _ hK
   have hres : (results fn a'.tmps).run P w' = .ok (if h : ys.length = 1 then ys[0] else .tuple ys.toArray) w' := by
    have h0 : results fn a'.tmps = (do
      let vs ← fn.results.mapM (yiZ a'.tmps)
      pure (if h : vs.size = 1 then vs[0] else .tuple vs)) := rfl
    rw [h0, yad]
    have : (fn.results.mapM (yiZ a'.tmps)).run P w' = .ok ys.toArray w' := by
     rw [show fn.results = fn.results.toList.toArray from by simp, List.mapM_toArray]
     rw [show (List.toArray <$> List.mapM (yiZ a'.tmps) fn.results.toList) = (List.mapM (yiZ a'.tmps) fn.results.toList >>= fun a => pure a.toArray) from rfl, yad, k3]
     rfl
    rw [this]
    simp only [yah]
    congr 1
   exact ⟨_, hres, ylf hS' hI'.1 hI'.2 hS.len.symm k2 k1⟩
  cases ex with
  | exit id => exact hK.elim
  | normal =>
   obtain ⟨x, h1, v, H', ρ'', h2, h3, h4, h5, h6⟩ := key hK
   exact ⟨hD, x, h1, v, x, H', ρ'', rfl, h2, h3, h4, h5, h6⟩
  | ret =>
   obtain ⟨x, h1, v, H', ρ'', h2, h3, h4, h5, h6⟩ := key hK
   exact ⟨hD, x, h1, v, x, H', ρ'', rfl, h2, h3, h4, h5, h6⟩
 ·exact h.elim
end sound
end Go.Ev

/- The evaluator: functions, all that is asked of them, and how types and loops are told. -/
set_option linter.unusedVariables false
set_option linter.unusedSimpArgs false
namespace Go.Ev
open Go
abbrev yp2 (T : (Ex → List EV → yae → Prop) → Prop) : Prop := Det (fun K : Ex × List EV × yae → Prop => T fun e v h => K (e, v, h))
def yar (E : Env) (c : Code) (lv : LV) (m N : Nat) (K : Ex → List EV → yae → Prop) (n : Nat) (vs : List EV) (H : yae) : Prop :=
 yc3 (yan E c { lv with nx := live (.loop c) lv }) (live (.loop c) lv) lv m N K n vs H
def LoopEq (E : Env) (c : Code) : Prop :=
 ∀ L, E.lp (yai c) = some L → ∀ vs H, (∀ K, ¬ L.spec vs H K) ∨ ∀ K, L.spec vs H K ↔ ∃ n, yar E c L.lv L.m L.N K n vs H
section
variable {P : Program} {E : Env}
theorem LoopEq.ok {c : Code} (h : LoopEq E c) : ynj E c := by
 intro L hL vs H K hs
 rcases h L hL vs H with h1 | h1
 ·exact (h1 K hs).elim
 ·exact (h1 K).1 hs
theorem yfx {fg : Bool} {keep m N : Nat} {s : St} {α : Type} (f : List EV → yae → (α → Prop) → Prop) (hf : ∀ v h, Det (f v h)) : Det (fun K => yjS fg keep m N s fun v h => f v h K) := by
 unfold yjS ynG goK
 exact yau (yau (hf _ _))
theorem ypq {α : Type} {T : Nat → (α → Prop) → Prop} (h : ∀ n, Det (T n)) : Det (fun K => ∃ n, T n K) := by
 rintro K ⟨n, hn⟩
 obtain ⟨v, h1, h2⟩ := h n K hn
 exact ⟨v, h1, fun K' hk => ⟨n, h2 K' hk⟩⟩
theorem yfP {step : St → (Ex → St → Prop) → Prop} (hs : ∀ s, Det2 (step s)) (head : Nat) (lv : LV) (m N : Nat) : ∀ (n : Nat) (vs : List EV) (H : yae), yp2 (fun K => yc3 step head lv m N K n vs H)
 | 0, _, _ => yab
 | n + 1, vs, H => by
  show Det (fun K : Ex × List EV × yae → Prop => yak step head lv m N (yc3 step head lv m N (fun e v h => K (e, v, h)) n) vs H (fun e v h => K (e, v, h)))
  unfold yak
  refine ybO (T := fun K : Ex × St → Prop => step { tmps := yaF head N 0 vs, heap := H } fun e s => K (e, s)) (U := fun (p : Ex × St) (K : Ex × List EV × yae → Prop) => match p.1 with
   | .normal => yjS lv.fg head m N p.2 (yc3 step head lv m N (fun e v h => K (e, v, h)) n)
   | .exit id => yjS lv.fg (yaM lv.ex id) m N p.2 fun v h => K (.exit id, v, h)
   | .ret => yjS lv.fg lv.rt m N p.2 fun v h => K (.ret, v, h)) (hs _).to ?_
  rintro ⟨e, s⟩
  cases e with
  | normal => exact yfx (fun v h K => yc3 step head lv m N (fun e v h => K (e, v, h)) n v h) fun v h => yfP hs head lv m N n v h
  | exit id => exact yfx (fun v h (K : Ex × List EV × yae → Prop) => K (.exit id, v, h)) fun v h => yaj _
  | ret => exact yfx (fun v h (K : Ex × List EV × yae → Prop) => K (.ret, v, h)) fun v h => yaj _
theorem ylq (hD : ybk E) : ∀ (c : Code) (hL : ∀ c', c' ∈ ybt c → LoopEq E c') (lv : LV) (s : St), Det2 (yan E c lv s) := by
 intro c
 induction c with
 | skip => intro hL lv s; exact Det2.of (yaj (Ex.normal, s))
 | region id ops draw =>
  intro hL lv s
  refine Det2.of ?_
  have : Det (fun K : Ex × St → Prop => ybL E ops.toList ops.toList s fun s' => K (.normal, s')) := yck (fun s' => (Ex.normal, s')) (ya6 hD _ _)
  exact yaT (yck (fun s' => (Ex.normal, s')) (yk8 hD)) this
 | seq x y ihx ihy =>
  intro hL lv s
  refine Det2.of ?_
  show Det (fun K : Ex × St → Prop => yan E x { lv with nx := live y lv } s fun ex s' => match ex with
   | .normal => yan E y lv s' fun e s => K (e, s)
   | .exit id => K (.exit id, s')
   | .ret => K (.ret, s'))
  refine ybO (T := fun K : Ex × St → Prop => yan E x { lv with nx := live y lv } s fun e s => K (e, s)) (U := fun (p : Ex × St) (K : Ex × St → Prop) => match p.1 with
   | .normal => yan E y lv p.2 fun e s => K (e, s)
   | .exit id => K (.exit id, p.2)
   | .ret => K (.ret, p.2)) (ihx (fun c' hc => hL c' (List.mem_append.2 (.inl hc))) _ _).to ?_
  rintro ⟨e, s'⟩
  cases e with
  | normal => exact (ihy (fun c' hc => hL c' (List.mem_append.2 (.inr hc))) _ _).to
  | exit id => exact yaj _
  | ret => exact yaj _
 | cond c x y ihx ihy =>
  intro hL lv s
  refine Det2.of ?_
  unfold yan
  cases St.opd E s c
  case bool t => exact yi4 (ihx (fun c' hc => hL c' (List.mem_append.2 (.inl hc))) _ _).to (ihy (fun c' hc => hL c' (List.mem_append.2 (.inr hc))) _ _).to
  all_goals exact yab
 | block id c ih =>
  intro hL lv s
  refine Det2.of ?_
  show Det (fun K : Ex × St → Prop => yan E c { lv with ex := (id, lv.nx) :: lv.ex } s fun ex s' => match ex with
   | .normal => K (.normal, s')
   | .exit id' => cond (Nat.beq id' id) (K (.normal, s')) (K (.exit id', s'))
   | .ret => K (.ret, s'))
  refine ybO (T := fun K : Ex × St → Prop => yan E c { lv with ex := (id, lv.nx) :: lv.ex } s fun e s => K (e, s)) (U := fun (p : Ex × St) (K : Ex × St → Prop) => match p.1 with
   | .normal => K (.normal, p.2)
   | .exit id' => cond (Nat.beq id' id) (K (.normal, p.2)) (K (.exit id', p.2))
   | .ret => K (.ret, p.2)) (ih hL _ _).to ?_
  rintro ⟨e, s'⟩
  cases e with
  | normal => exact yaj _
  | exit id' => exact yaT (yaj _) (yaj _)
  | ret => exact yaj _
 | loop c ih =>
  intro hL lv s
  refine Det2.of ?_
  have ih' := ih fun c' hc => hL c' (List.mem_cons_of_mem _ hc)
  show Det (fun K : Ex × St → Prop => yjS lv.fg (live (.loop c) lv) lv.nl s.tmps.length s fun vs H => match E.un (yai c) with
   | 0 => match E.lp (yai c) with
    | some L => gd (lv.beq L.lv && (Nat.beq lv.nl L.m && Nat.beq s.tmps.length L.N)) (L.spec vs H fun ex vs H => K (ex, { tmps := yaF (ybG lv ex) s.tmps.length 0 vs, heap := H }))
    | none => ∃ n, yc3 (yan E c { lv with nx := live (.loop c) lv }) (live (.loop c) lv) lv lv.nl s.tmps.length (fun ex vs H => K (ex, { tmps := yaF (ybG lv ex) s.tmps.length 0 vs, heap := H })) n vs H
   | n + 1 => yiG (yan E c { lv with nx := live (.loop c) lv }) (live (.loop c) lv) lv lv.nl s.tmps.length (fun ex vs H => K (ex, { tmps := yaF (ybG lv ex) s.tmps.length 0 vs, heap := H })) (n + 1) vs H)
  refine yfx (fun vs H (K : Ex × St → Prop) => match E.un (yai c) with
   | 0 => match E.lp (yai c) with
    | some L => gd (lv.beq L.lv && (Nat.beq lv.nl L.m && Nat.beq s.tmps.length L.N)) (L.spec vs H fun ex vs H => K (ex, { tmps := yaF (ybG lv ex) s.tmps.length 0 vs, heap := H }))
    | none => ∃ n, yc3 (yan E c { lv with nx := live (.loop c) lv }) (live (.loop c) lv) lv lv.nl s.tmps.length (fun ex vs H => K (ex, { tmps := yaF (ybG lv ex) s.tmps.length 0 vs, heap := H })) n vs H
   | n + 1 => yiG (yan E c { lv with nx := live (.loop c) lv }) (live (.loop c) lv) lv lv.nl s.tmps.length (fun ex vs H => K (ex, { tmps := yaF (ybG lv ex) s.tmps.length 0 vs, heap := H })) (n + 1) vs H) ?_
  intro vs H
  have hloop : ∀ (lv' : LV) (m N : Nat) (f : Ex × List EV × yae → Ex × St), Det (fun K : Ex × St → Prop => ∃ n, yc3 (yan E c { lv' with nx := live (.loop c) lv' }) (live (.loop c) lv') lv' m N (fun ex vs H => K (f (ex, vs, H))) n vs H) := by
   intro lv' m N f
   refine ypq fun n => ?_
   exact yck (T := fun K : Ex × List EV × yae → Prop => yc3 (yan E c { lv' with nx := live (.loop c) lv' }) (live (.loop c) lv') lv' m N (fun e v h => K (e, v, h)) n vs H) f (yfP (fun s => ih' _ s) _ _ _ _ n vs H)
  cases E.un (yai c) with
  | succ n =>
   dsimp only
   simp only [yhE]
   exact yck (T := fun K : Ex × List EV × yae → Prop => yc3 (yan E c { lv with nx := live (.loop c) lv }) (live (.loop c) lv) lv lv.nl s.tmps.length (fun e v h => K (e, v, h)) (n + 1) vs H) (fun p => (p.1, ({ tmps := yaF (ybG lv p.1) s.tmps.length 0 p.2.1, heap := p.2.2 } : St))) (yfP (fun s => ih' _ s) _ _ _ _ (n + 1) vs H)
  | zero =>
  dsimp only
  cases hl : E.lp (yai c) with
  | some L =>
   refine yau ?_
   rcases hL c List.mem_cons_self L hl vs H with h | h
   ·intro K hK; exact (h _ hK).elim
   ·intro K hK
    obtain ⟨v, h1, h2⟩ := hloop L.lv L.m L.N (fun p => (p.1, { tmps := yaF (ybG lv p.1) s.tmps.length 0 p.2.1, heap := p.2.2 })) K ((h _).1 hK)
    exact ⟨v, h1, fun K' hk => (h _).2 (h2 K' hk)⟩
  | none => exact hloop lv _ _ fun p => (p.1, { tmps := yaF (ybG lv p.1) s.tmps.length 0 p.2.1, heap := p.2.2 })
 | exit id => intro hL lv s; exact Det2.of (yaj (Ex.exit id, s))
 | ret => intro hL lv s; exact Det2.of (yaj (Ex.ret, s))
 | scope c ih => intro hL lv s; exact ih hL lv s
 | rangeFunc f ps x y _ _ => intro hL lv s; exact Det2.of yab
 | label l => intro hL lv s; exact Det2.of yab
 | goto l => intro hL lv s; exact Det2.of yab
 | refuse l => intro hL lv s; exact Det2.of yab
theorem ycX : ∀ (rs : List ResultVar) (s : St), Det (yaN E rs s)
 | [], s => yaj []
 | .tmp t :: rs, s => by
  show Det (fun K => yaN E (.tmp t :: rs) s K)
  unfold yaN
  exact yau (yck (fun vs => s.slot t :: vs) (ycX rs s))
 | .cell a t :: rs, s => by
  show Det (fun K => yaN E (.cell a t :: rs) s K)
  unfold yaN
  refine yau ?_
  exact ybO (U := fun v (K : List EV → Prop) => yaN E rs s fun vs => K (v :: vs)) yhq fun v => yck (fun vs => v :: vs) (ycX rs s)
theorem det_retK {nl : Nat} {ros : List (Option IntKind)} {vs : List EV} {H : yae} : Det2 (ynC nl ros vs H) := by
 refine Det2.of ?_
 unfold ynC ypM
 refine yau ?_
 split <;> exact yaj (_, _)
theorem yoq {fn : Func} {own : Bool} {args : List EV} {H : yae} (hD : ybk E) (hL : ∀ c, fn.body = some c → ∀ c', c' ∈ ybt c → LoopEq E c') : Det2 (ybC E fn own args H) := by
 refine Det2.of ?_
 unfold ybC
 cases hb : fn.body with
 | none => exact yab
 | some c =>
  dsimp only
  have hR : ∀ s, Det (fun K : EV × yae → Prop => yaN E fn.results.toList s fun vs => ynC H.length (cond own [] (fn.resultTypes.toList.map (yph E))) vs s.heap fun v h => K (v, h)) := by
   intro s
   exact ybO (U := fun vs (K : EV × yae → Prop) => ynC H.length (cond own [] (fn.resultTypes.toList.map (yph E))) vs s.heap fun v h => K (v, h)) (ycX _ s) fun vs => det_retK.to
  refine ybO (T := fun K : Ex × St → Prop => yan E c _ _ fun e s => K (e, s)) (U := fun (p : Ex × St) (K : EV × yae → Prop) => match p.1 with
   | .exit _ => False
   | _ => yaN E fn.results.toList p.2 fun vs => ynC H.length (cond own [] (fn.resultTypes.toList.map (yph E))) vs p.2.heap fun v h => K (v, h)) (ylq hD c (hL c hb) _ _).to ?_
  rintro ⟨e, s⟩
  cases e with
  | exit id => exact yab
  | normal => exact hR s
  | ret => exact hR s
end
def look {α : Type} : List (Nat × α) → Nat → Option α
 | [], _ => none
 | (i, t) :: l, j => cond (Nat.beq i j) (some t) (look l j)
def ybF {α : Type} (p : Nat → α → Prop) : List (Nat × α) → Prop
 | [] => True
 | (i, a) :: l => p i a ∧ ybF p l
theorem yh5 {α : Type} {p : Nat → α → Prop} : ∀ (l : List (Nat × α)), ybF p l → ∀ i a, look l i = some a → p i a
 | [], _, _, _, h => by cases h
 | (j, b) :: l, hl, i, a, h => by
  simp only [look] at h
  cases hb : Nat.beq j i with
  | true =>
   rw [hb] at h
   simp only [cond_true, Option.some.injEq] at h
   subst h
   exact Nat.eq_of_beq_eq_true hb ▸ hl.1
  | false =>
   rw [hb] at h
   exact yh5 l hl.2 i a h
def tdB (P : Program) (t : TypeId) : TypeDesc → TD → Bool
 | .bool, .bool => true
 | .int k, .int k' => decide (k = k')
 | .string, .str => true
 | .pointer _, .ptr => true
 | .slice e, .slice e' => Nat.beq e e'
 | .array n e, .array n' e' => Nat.beq n n' && (Nat.beq e e' && !P.eqGuardType P.depth t)
 | .struct fs, .struct fs' => decide (fs.toList.map (fun f => (f.offset, f.type)) = fs') && (fs.toList.all (fun f => f.name != "_") && (!P.stoodInHeld t && !P.eqGuardType P.depth t))
 | .func _ _ _, .func => true
 | .interface _, .iface => true
 | d, .other => !yaP d
 | _, _ => false
theorem ypA {P : Program} {t : TypeId} {d : TypeDesc} {td : TD} (h : tdB P t d td = true) : yb4 P t d td := by
 unfold tdB at h
 split at h
 ·trivial
 ·have := of_decide_eq_true (p := _ = _) h; exact this
 ·trivial
 ·trivial
 ·exact Nat.eq_of_beq_eq_true h
 ·simp only [Bool.and_eq_true, Bool.not_eq_true'] at h
  exact ⟨Nat.eq_of_beq_eq_true h.1, Nat.eq_of_beq_eq_true h.2.1, h.2.2⟩
 ·simp only [Bool.and_eq_true, Bool.not_eq_true'] at h
  exact ⟨of_decide_eq_true h.1, h.2.1, h.2.2.1, h.2.2.2⟩
 ·trivial
 ·trivial
 ·simp only [Bool.not_eq_true'] at h
  cases d <;> simp_all [yb4, yaP]
 ·cases h
def tiB (P : Program) (t : TypeId) (ti : TI) : Bool :=
 match P.underlying t, P.info? t with
 | some d, some i => tdB P t d ti.td && (Nat.beq i.size ti.size && (Nat.beq i.bytes ti.bytes && i.zero.isSome))
 | _, _ => false
theorem OkTI.of {P : Program} {t : TypeId} {ti : TI} (h : tiB P t ti = true) (h2 : (P.info? t).bind (·.zero) = ydc ti.zero) : OkTI P t ti := by
 unfold tiB at h
 split at h
 ·rename_i d i hd hi
  simp only [Bool.and_eq_true] at h
  rw [hi] at h2
  simp only [Option.bind_some] at h2
  cases hz : i.zero with
  | none => rw [hz] at h; simp at h
  | some z => exact ⟨d, i, z, hd, hi, ypA h.1, Nat.eq_of_beq_eq_true h.2.1, Nat.eq_of_beq_eq_true h.2.2.1, hz, h2.symm.trans hz⟩
 ·cases h
def Entry.pick (c : List EV → yae → Bool) (a b : Entry) : Entry := ⟨a.ro, a.lend, fun args H K => cond (c args H) (a.spec args H K) (b.spec args H K)⟩
structure SoundE (P : Program) (gl : Nat → Option EV) (f : FuncId) (en : Entry) : Prop where
 sound : SoundF P gl f en
 det : ∀ args H, Det2 (en.spec args H)
 known : ∃ fn, P.funcs[f]? = some fn ∧ fn.body.isNone = false ∧ (fn.name == "runtime.NumGoroutine") = false
def ypt : EV → Bool
 | .nilSlice => false
 | .undef => true | .bool _ => true | .int _ _ => true | .str _ => true | .nilPtr => true | .ptr _ _ => true | .rref _ => true | .slice _ _ _ _ _ => true
 | .rsI _ _ _ => true | .nilFunc => true | .func _ _ => true | .bnd _ _ => true | .agg _ => true | .arr _ _ _ => true | .tuple _ => true | .nilIface => true | .iface _ _ => true
def Entry.nonil (a : Entry) : Entry := ⟨a.ro, a.lend, fun args H K => a.spec args H fun v H' => gd (ypt v) (K v H')⟩
theorem SoundE.nonil {P : Program} {gl : Nat → Option EV} {f : FuncId} {a : Entry} (h : SoundE P gl f a) : SoundE P gl f (Entry.nonil a) := by
 refine ⟨?_, ?_, h.known⟩
 ·intro ρ H w args xs K hs hr hS hG
  refine (h.sound ρ H w args xs _ hs hr hS hG).mono ?_
  rintro e w' ⟨v, x, H', ρ', he, hK, h1⟩
  exact ⟨v, x, H', ρ', he, ((yac _ _).1 hK).2, h1⟩
 ·intro args H K hs
  obtain ⟨v, u, h1, h2⟩ := h.det args H _ hs
  rw [yac] at h1
  exact ⟨v, u, h1.2, fun K' hk => h2 _ ((yac _ _).2 ⟨h1.1, hk⟩)⟩
theorem SoundE.pick {P : Program} {gl : Nat → Option EV} {f : FuncId} {c : List EV → yae → Bool} {a b : Entry} (h : SoundE P gl f a) (k : SoundE P gl f b) : SoundE P gl f (Entry.pick c a b) := by
 refine ⟨?_, ?_, h.known⟩
 ·intro ρ H w args xs K hs hr hS hG
  have hs' : cond (c args H) (a.spec args H K) (b.spec args H K) := hs
  cases hc : c args H with
  | true => rw [hc] at hs'; exact h.sound ρ H w args xs K hs' hr hS hG
  | false => rw [hc] at hs'; exact k.sound ρ H w args xs K hs' hr hS hG
 ·intro args H K hs
  have hs' : cond (c args H) (a.spec args H K) (b.spec args H K) := hs
  show ∃ v u, K v u ∧ ∀ K' : EV → yae → Prop, K' v u → cond (c args H) (a.spec args H K') (b.spec args H K')
  cases hc : c args H with
  | true => rw [hc] at hs'; exact h.det args H K hs'
  | false => rw [hc] at hs'; exact k.det args H K hs'
def yk1 (fn : Func) : List Code :=
 match fn.body with
 | some c => ybt c
 | none => []
def yaa (fn : Func) (k : Nat) : Code :=
 match (yk1 fn)[k]? with
 | some c => c
 | none => .skip
def yhz (E : Env) (fn : Func) : Nat → Nat → Prop
 | _, 0 => True
 | k, n + 1 => LoopEq E (yaa fn k) ∧ yhz E fn (k + 1) n
theorem ygf {E : Env} {fn : Func} : ∀ (n k : Nat), yhz E fn k n → ∀ j, k ≤ j → j < k + n → LoopEq E (yaa fn j)
 | 0, k, _, j, h1, h2 => by omega
 | n + 1, k, h, j, h1, h2 => by
  by_cases hj : j = k
  ·subst hj; exact h.1
  ·exact ygf n (k + 1) h.2 j (by omega) (by omega)
theorem ybZ {P : Program} {E : Env} {f : FuncId} {fn : Func} {en : Entry} {tys : List (Nat × TI)} {fns : List (Nat × Entry)} (hty : E.ty = look tys) (htys : ybF (OkTI P) tys)
  (hfn : E.fn = look fns) (hfns : ybF (SoundE P E.gl) fns) (hm : P.follows .mixedOrders = true) (hf : P.funcs[f]? = some fn) (hb : fn.body.isNone = false) (hn : (fn.name == "runtime.NumGoroutine") = false)
  (n : Nat) (hln : (yk1 fn).length = n) (own : Bool) (hl : yhz E fn 0 n) (hS : ∀ args H, (∀ K, ¬ en.spec args H K) ∨ ∀ K, en.spec args H K ↔ ybC E fn own args H K) : SoundE P E.gl f en := by
 have hE : ∀ t ti, E.ty t = some ti → OkTI P t ti := by rw [hty]; exact yh5 tys htys
 have hA : ∀ g e, E.fn g = some e → SoundE P E.gl g e := by rw [hfn]; exact yh5 fns hfns
 have hFn : ynz P E := fun g e h => ⟨(hA g e h).sound, (hA g e h).known⟩
 have hD : ybk E := fun g e h => (hA g e h).det
 have hL : ∀ c, fn.body = some c → ∀ c', c' ∈ ybt c → LoopEq E c' := by
  intro c hc c' hc'
  have he : yk1 fn = ybt c := by simp [yk1, hc]
  obtain ⟨k, hk, rfl⟩ := List.mem_iff_getElem.1 hc'
  have : yaa fn k = (ybt c)[k] := by simp [yaa, he, hk]
  rw [← this]
  exact ygf n 0 hl k (Nat.zero_le _) (by rw [he] at hln; omega)
 refine ⟨?_, ?_, ⟨fn, hf, hb, hn⟩⟩
 ·intro ρ H w args xs K hs hr hS' hG
  rcases hS args H with h | h
  ·exact (h K hs).elim
  ·exact ylt hE hFn hD hm hf (fun c hc c' hc' => (hL c hc c' hc').ok) ((h K).1 hs) hr hS' hG
 ·intro args H K hs
  rcases hS args H with h | h
  ·exact (h K hs).elim
  ·obtain ⟨v, u, h1, h2⟩ := yoq hD hL K ((h K).1 hs)
   exact ⟨v, u, h1, fun K' hk => (h K').2 (h2 K' hk)⟩
theorem law_walk {P : Program} {gl : Nat → Option EV} {f : FuncId} {en : Entry} (h : SoundE P gl f en) {W : World} {args : List EV} {xs : List Value} (hs : en.spec args [] fun v H => gd (Nat.beq H.length 0) (v = .bool true)) (hr : RelL ⟨[], []⟩ W args xs) (hG : GOk gl ⟨[], []⟩ W) :
  Calls P f xs.toArray W fun e w' => e = .returned (.bool true) ∧ RowKit.Below W.heap.size W w' := by
 refine (h.sound.plain hs hr (by simp) hG).mono ?_
 rintro e w' ⟨v, x, rfl, rfl, hv, hX⟩
 simp only [Rel] at hv
 subst hv
 exact ⟨rfl, hX.os, hX.tape, hX.output, hX.size, fun k hk => hX.out k hk (by simp [Ren.own])⟩
end Go.Ev

/- The evaluator once more, with its slots in a tree: for the kernel's sake. That it is the same. -/
set_option linter.unusedVariables false
set_option linter.unusedSimpArgs false
namespace Go.Ev
open Go
def EV.top (v : EV) (k : EV → Prop) : Prop :=
 match v with
 | .undef => k .undef
 | .bool b => k (.bool b)
 | .int q n => k (.int q n)
 | .str s => k (.str s)
 | .nilPtr => k .nilPtr
 | .ptr b p => k (.ptr b p)
 | .rref v => k (.rref v)
 | .nilSlice => k .nilSlice
 | .slice b o n c e => k (.slice b o n c e)
 | .rsI q n g => k (.rsI q n g)
 | .nilFunc => k .nilFunc
 | .func f l => k (.func f l)
 | .bnd f l => k (.bnd f l)
 | .agg l => k (.agg l)
 | .arr q n g => k (.arr q n g)
 | .tuple l => k (.tuple l)
 | .nilIface => k .nilIface
 | .iface t v => k (.iface t v)
theorem EV.top_eq (v : EV) (k : EV → Prop) : v.top k = k v := by cases v <;> rfl
def ypo : List EV → (List EV → Prop) → Prop
 | [], k => k []
 | v :: l, k => v.top fun v' => ypo l fun l' => k (v' :: l')
theorem yns : ∀ (l : List EV) (k : List EV → Prop), ypo l k = k l
 | [], _ => rfl
 | v :: l, k => by simp only [ypo, EV.top_eq, yns l]
def EV.top2 (v : EV) (k : EV → Prop) : Prop :=
 match v with
 | .undef => k .undef
 | .bool b => k (.bool b)
 | .int q n => k (.int q n)
 | .str s => k (.str s)
 | .nilPtr => k .nilPtr
 | .ptr b p => k (.ptr b p)
 | .rref v => k (.rref v)
 | .nilSlice => k .nilSlice
 | .slice b o n c e => k (.slice b o n c e)
 | .rsI q n g => k (.rsI q n g)
 | .nilFunc => k .nilFunc
 | .func f l => k (.func f l)
 | .bnd f l => k (.bnd f l)
 | .agg l => ypo l fun l' => k (.agg l')
 | .arr q n g => k (.arr q n g)
 | .tuple l => ypo l fun l' => k (.tuple l')
 | .nilIface => k .nilIface
 | .iface t v => k (.iface t v)
theorem EV.top2_eq (v : EV) (k : EV → Prop) : v.top2 k = k v := by cases v <;> first | rfl | simp only [EV.top2, yns]
def ypk : yae → (yae → Prop) → Prop
 | [], k => k []
 | none :: l, k => ypk l fun l' => k (none :: l')
 | some v :: l, k => v.top2 fun v' => ypk l fun l' => k (some v' :: l')
theorem yjL : ∀ (l : yae) (k : yae → Prop), ypk l k = k l
 | [], _ => rfl
 | none :: l, k => by simp only [ypk, yjL l]
 | some v :: l, k => by simp only [ypk, EV.top2_eq, yjL l]
inductive Tr where
 | nil
 | node (v : EV) (l r : Tr)
def Tr.v : Tr → EV
 | .nil => .undef
 | .node v _ _ => v
def Tr.l : Tr → Tr
 | .nil => .nil
 | .node _ l _ => l
def Tr.r : Tr → Tr
 | .nil => .nil
 | .node _ _ r => r
def Tr.get : Tr → Nat → EV
 | .nil, _ => .undef
 | .node v l r, i => match i with
  | 0 => v
  | i + 1 => cond (Nat.beq (Nat.mod i 2) 0) (l.get (Nat.div i 2)) (r.get (Nat.div i 2))
def Tr.set : Nat → Tr → Nat → EV → Tr
 | 0, t, _, _ => t
 | f + 1, t, i, x => match i with
  | 0 => .node x t.l t.r
  | i + 1 => cond (Nat.beq (Nat.mod i 2) 0) (.node t.v (Tr.set f t.l (Nat.div i 2) x) t.r) (.node t.v t.l (Tr.set f t.r (Nat.div i 2) x))
theorem Tr.get_zero (t : Tr) : t.get 0 = t.v := by cases t <;> rfl
theorem Tr.get_succ (t : Tr) (i : Nat) : t.get (i + 1) = if i % 2 = 0 then t.l.get (i / 2) else t.r.get (i / 2) := by
 cases t with
 | nil => simp only [Tr.get, Tr.l, Tr.r]; split <;> rfl
 | node v l r =>
  show cond (Nat.beq (i % 2) 0) (l.get (i / 2)) (r.get (i / 2)) = _
  cases hb : Nat.beq (i % 2) 0 with
  | true => rw [if_pos (Nat.eq_of_beq_eq_true hb)]; rfl
  | false => rw [if_neg (fun h => by rw [h] at hb; cases hb)]; rfl
theorem Tr.get_set : ∀ (f : Nat) (t : Tr) (i : Nat) (x : EV) (j : Nat), i < f → (Tr.set f t i x).get j = if j = i then x else t.get j
 | 0, t, i, x, j, h => by omega
 | f + 1, t, 0, x, j, h => by
  simp only [Tr.set]
  cases j with
  | zero => rw [Tr.get_zero, if_pos rfl]; rfl
  | succ j =>
   rw [Tr.get_succ, if_neg (show ¬ j + 1 = 0 by omega), Tr.get_succ]; rfl
 | f + 1, t, i + 1, x, j, h => by
  have hi : i / 2 < f := by omega
  show (cond (Nat.beq (i % 2) 0) (Tr.node t.v (Tr.set f t.l (i / 2) x) t.r) (Tr.node t.v t.l (Tr.set f t.r (i / 2) x))).get j = _
  cases hb : Nat.beq (i % 2) 0 with
  | true =>
   have h0 := Nat.eq_of_beq_eq_true hb
   rw [cond_true]
   cases j with
   | zero => rw [Tr.get_zero, if_neg (by omega), Tr.get_zero]; rfl
   | succ j =>
    rw [Tr.get_succ, Tr.get_succ]
    show (if j % 2 = 0 then (Tr.set f t.l (i / 2) x).get (j / 2) else t.r.get (j / 2)) = _
    rw [Tr.get_set f t.l (i / 2) x (j / 2) hi]
    by_cases hj : j % 2 = 0
    ·rw [if_pos hj, if_pos hj]
     by_cases he : j = i
     ·subst he; rw [if_pos rfl, if_pos rfl]
     ·rw [if_neg (by omega), if_neg (by omega)]
    ·rw [if_neg hj, if_neg hj, if_neg (by omega)]
  | false =>
   have h0 : i % 2 ≠ 0 := fun h => by rw [h] at hb; cases hb
   rw [cond_false]
   cases j with
   | zero => rw [Tr.get_zero, if_neg (by omega), Tr.get_zero]; rfl
   | succ j =>
    rw [Tr.get_succ, Tr.get_succ]
    show (if j % 2 = 0 then t.l.get (j / 2) else (Tr.set f t.r (i / 2) x).get (j / 2)) = _
    rw [Tr.get_set f t.r (i / 2) x (j / 2) hi]
    by_cases hj : j % 2 = 0
    ·rw [if_pos hj, if_pos hj, if_neg (by omega)]
    ·rw [if_neg hj, if_neg hj]
     by_cases he : j = i
     ·subst he; rw [if_pos rfl, if_pos rfl]
     ·rw [if_neg (by omega), if_neg (by omega)]
structure Q where
 n : Nat
 t : Tr
 heap : yae
def Q.slots (q : Q) : List EV := (List.range q.n).map q.t.get
def Q.to (q : Q) : St := { tmps := q.slots, heap := q.heap }
def Q.slot (q : Q) (t : Nat) : EV := cond (Nat.blt t q.n) (q.t.get t) .undef
def Q.put (q : Q) (d : Option Nat) (v : EV) (H : yae) : Q :=
 match d with
 | some d => ⟨q.n, q.t.set (d + 1) d v, H⟩
 | none => ⟨q.n, q.t, H⟩
def Tr.ofL : List EV → Nat → Tr → Tr
 | [], _, t => t
 | v :: l, i, t => match v with
  | .undef => Tr.ofL l (Nat.succ i) t
  | v => Tr.ofL l (Nat.succ i) (t.set (i + 1) i v)
def Q.of (l : List EV) (H : yae) : Q := ⟨l.length, Tr.ofL l 0 .nil, H⟩
def Q.opd (E : Env) (q : Q) : Operand → EV
 | .tmp t => q.slot t
 | .const v => yfc v
 | .global g => match E.gl g with
  | some v => .rref v
  | none => .undef
 | .func f => .func f []
theorem Q.slots_get (q : Q) (i : Nat) : q.slots[i]? = if i < q.n then some (q.t.get i) else none := by
 unfold Q.slots
 rw [List.getElem?_map]
 by_cases h : i < q.n
 ·rw [if_pos h, List.getElem?_range h]; rfl
 ·rw [if_neg h, List.getElem?_eq_none (by simp; omega)]; rfl
theorem Q.slot_to (q : Q) (t : Nat) : q.to.slot t = q.slot t := by
 show (q.slots[t]?).getD .undef = _
 rw [Q.slots_get]
 unfold Q.slot
 cases hb : Nat.blt t q.n with
 | true => rw [if_pos (show t < q.n from Nat.le_of_ble_eq_true hb)]; rfl
 | false =>
  rw [if_neg]
  ·rfl
  ·intro h
   have : Nat.blt t q.n = true := Nat.ble_eq_true_of_le (show t + 1 ≤ q.n by omega)
   rw [hb] at this; cases this
theorem Q.put_to (q : Q) (d : Option Nat) (v : EV) (H : yae) : (q.put d v H).to = q.to.put d v H := by
 cases d with
 | none => rfl
 | some d =>
  show ({ tmps := (Q.mk q.n (q.t.set (d + 1) d v) H).slots, heap := H } : St) = { tmps := q.slots.set d v, heap := H }
  congr 1
  apply List.ext_getElem?
  intro j
  rw [Q.slots_get, List.getElem?_set]
  show (if j < q.n then some ((q.t.set (d + 1) d v).get j) else none) = _
  rw [Tr.get_set _ _ _ _ _ (Nat.lt_succ_self d), Q.slots_get]
  have hl : q.slots.length = q.n := by simp [Q.slots]
  by_cases hd : d = j
  ·subst hd
   rw [if_pos rfl, if_pos rfl, hl]
  ·rw [if_neg hd, if_neg (show ¬ j = d from fun h => hd h.symm)]
theorem Tr.ofL_get : ∀ (l : List EV) (i : Nat) (t : Tr) (j : Nat), (∀ k, i ≤ k → t.get k = .undef) → (Tr.ofL l i t).get j = if j < i then t.get j else (l[j - i]?).getD .undef
 | [], i, t, j, h => by
  simp only [Tr.ofL]
  split
  ·rfl
  ·rw [h j (by omega)]; rfl
 | v :: l, i, t, j, h => by
  have key : ∀ t' : Tr, (∀ k, t'.get k = if k = i then v else t.get k) → (Tr.ofL l (i + 1) t').get j = if j < i then t.get j else ((v :: l)[j - i]?).getD .undef := by
   intro t' ht
   rw [Tr.ofL_get l (i + 1) t' j fun k hk => by rw [ht, if_neg (by omega)]; exact h k (by omega)]
   by_cases h1 : j < i
   ·rw [if_pos h1, if_pos (by omega), ht, if_neg (by omega)]
   ·rw [if_neg h1]
    by_cases h2 : j = i
    ·subst h2; rw [if_pos (by omega), ht, if_pos rfl, Nat.sub_self]; rfl
    ·rw [if_neg (by omega)]
     obtain ⟨m, hm⟩ : ∃ m, j - i = m + 1 := ⟨j - i - 1, by omega⟩
     rw [hm, show j - (i + 1) = m from by omega]; rfl
  simp only [Tr.ofL]
  split
  ·exact key t fun k => by
    split
    ·subst k; exact h i (Nat.le_refl _)
    ·rfl
  ·exact key _ fun k => Tr.get_set _ _ _ _ _ (Nat.lt_succ_self i)
theorem Q.of_to (l : List EV) (H : yae) : (Q.of l H).to = { tmps := l, heap := H } := by
 show ({ tmps := (Q.of l H).slots, heap := H } : St) = _
 congr 1
 apply List.ext_getElem?
 intro j
 rw [Q.slots_get]
 show (if j < l.length then some ((Tr.ofL l 0 .nil).get j) else none) = _
 rw [Tr.ofL_get l 0 .nil j fun _ _ => rfl, if_neg (Nat.not_lt_zero j), Nat.sub_zero]
 split
 ·rename_i hj; rw [List.getElem?_eq_getElem hj]; rfl
 ·rename_i hj; rw [List.getElem?_eq_none (by omega)]
theorem Q.opd_to (E : Env) (q : Q) : St.opd E q.to = Q.opd E q := by
 funext x
 cases x with
 | tmp t => exact Q.slot_to q t
 | const v => rfl
 | global g => rfl
 | func f => rfl
noncomputable abbrev gz (c : Bool) (p : Prop) : Prop := @Bool.rec (fun _ => Prop) False p c
noncomputable abbrev cz (c : Bool) (p q : Prop) : Prop := @Bool.rec (fun _ => Prop) q p c
theorem ylR (c : Bool) (p : Prop) : gz c p = gd c p := by cases c <;> rfl
theorem ylI (c : Bool) (p q : Prop) : cz c p q = cond c p q := by cases c <;> rfl
noncomputable def yno (E : Env) (op : BinOp) (t : TypeId) (x y : EV) (K : EV → Prop) : Prop :=
 match x, y with
 | .int k a, .int k' b =>
  match op with
  | .shl => gd (!ltI b 0) (K (.int k (yc0 k a b)))
  | .shr => gd (!ltI b 0) (K (.int k (yaS k a b)))
  | op => cz (decide (k = k')) (ydp op k a b K) False
 | .str a, .str b => ydn op a b K
 | x, y => match op with
  | .eql => match eqT E 100 t x y with
   | some b => K (.bool b)
   | none => False
  | .neq => match eqT E 100 t x y with
   | some b => K (.bool (!b))
   | none => False
  | _ => False
theorem ynv (E : Env) (op : BinOp) (t : TypeId) (x y : EV) (K : EV → Prop) : yno E op t x y K = yet E op t x y K := by
 unfold yno yet; simp only [ylI]; rfl
noncomputable def ymM (E : Env) (op : BinOp) (t : TypeId) (o : Operand) (x y : EV) (H : yae) (K : EV → Prop) : Prop :=
 cz (Nat.beq (yic o) 1) (yoS E op t x H K) (cz (Nat.beq (yic o) 2) (ypi E op t x K) (yno E op t x y K))
theorem ymH (E : Env) (op : BinOp) (t : TypeId) (o : Operand) (x y : EV) (H : yae) (K : EV → Prop) : ymM E op t o x y H K = ydu E op t o x y H K := by
 unfold ymM ydu; rw [ylI, ylI, ynv]
noncomputable def yjN (E : Env) (t : TypeId) (v : EV) (H : yae) (K : EV → Prop) : Prop :=
 match v with
 | .rref u => gz (yiw E t u) (K u)
 | .ptr b p => match H[b]? with
  | some (some c) => match EV.get p c with
   | some u => gz (yiw E t u) (K u)
   | none => False
  | _ => False
 | _ => False
noncomputable def yjD (E : Env) (src dst : TypeId) (x : EV) (H : yae) (K : EV → Prop) : Prop :=
 match E.ty src, E.ty dst with
 | some si, some di => match di.td, x with
  | .int k, .int _ n => K (.int k (cvI k n))
  | .str, .str s => K (.str s)
  | .str, x => match si.td with
   | .slice e => cz (ybj E e .u8) (match ycM H x with
    | some (.u8, n, g) => K (.str (yaL n g))
    | _ => match x with
     | .nilSlice => K (.str [])
     | _ => False) False
   | _ => False
  | _, _ => False
 | _, _ => False
noncomputable def ycZ (E : Env) (t : TypeId) (n : Nat) (ps : List (Nat × EV)) (H : yae) (K : EV → yae → Prop) : Prop :=
 match E.ty t with
 | some ti => match ti.td with
  | .slice e => match E.ty e with
   | some ei => gz (Nat.ble (n * ei.size) 16777216) (match ei.zero with
    | .int k z => gz (Nat.beq ei.size 1) (match yaV (fun i => some (i * 1, 1)) ps (.arr k n (fun _ => z)) with
     | some v => K (.slice H.length 0 n (some n) 1) (H ++ [some v])
     | none => False)
    | z => gz (Nat.blt 0 ei.size && Nat.beq z.shape.size ei.size) (match yaV (fun i => some (i * ei.size, ei.size)) ps (.agg (List.replicate n z)) with
     | some v => K (.slice H.length 0 n (some n) ei.size) (H ++ [some v])
     | none => False))
   | none => False
  | _ => False
 | none => False
noncomputable def ykw (en : Entry) (args : List EV) (dead idx : List Nat) (H : yae) (K : EV → yae → Prop) : Prop :=
 gz (yfb args && (EV.inIL idx args && (yla idx H idx && (yi5 H.length idx && yei idx dead))))
  (en.spec (EV.renL (pos idx) args) (ylM H idx) fun v H' =>
   gz (v.inI (ygA H'.length) && (yla (ygA H'.length) H' (ygA H'.length) && Nat.ble idx.length H'.length))
    (K (v.ren (ybE idx H.length)) (killN (cond (v.noRS && yd4 H') [] dead) (putB idx (yl6 (ybE idx H.length) H') H))))
noncomputable def yfG (E : Env) (f : FuncId) (args : List EV) (H : yae) (K : EV → yae → Prop) : Prop :=
 match E.fn f with
 | some en => cz en.lend
   (ykw en (yaK H en.ro args) (ycm en.ro args) (ymc 0 (yaK H en.ro args) H) H K)
   (gz (EV.freeL (yaK H en.ro args)) (en.spec (yaK H en.ro args) [] fun v H' =>
    gz (Nat.beq H'.length 0 && v.inI []) (cz v.noRS (K v H) (K v (yba args H)))))
 | none => False
noncomputable def yj2 (E : Env) (f : EV) (args : List EV) (H : yae) (K : EV → yae → Prop) : Prop :=
 match f with
 | .func f cap => yfG E f (args ++ cap) H K
 | .bnd f l => yfG E f (l ++ args) H K
 | _ => False
noncomputable def ypP (E : Env) (o : Op) (r : Operand → EV) (H : yae) (K : EV → Prop) : Prop :=
 match o with
 | .move x => K (r x)
 | .assign x => K (r x)
 | .pick c a b => match r c with
  | .bool t => br t (K (r a)) (K (r b))
  | _ => False
 | .build t ps => gz (yfb (ps.toList.map fun p => r p.2)) (yb1 E t (ps.toList.map fun p => (p.1, r p.2)) K)
 | .load t a => yjN E t (r a) H K
 | .binOp op t x y _ => gz ((r x).dfd && (r y).dfd) (ymM E op t y (r x) (r y) H K)
 | .unOp op _ x => ymK op (r x) K
 | .convert src dst x => gz (r x).dfd (yjD E src dst (r x) H K)
 | .fieldAddr t x f => gz (r x).dfd (yaz E t (r x) f H K)
 | .field t x f => gz (r x).dfd (ybW E t (r x) f K)
 | .indexAddr t x i => gz ((r x).dfd && (r i).dfd) (yaA E t (r x) (r i) H K)
 | .index t x i => gz ((r x).dfd && (r i).dfd) (yb2 E t (r x) (r i) K)
 | .extract x i => ya7 (r x) i K
 | .makeFunc (.func f) ⟨[]⟩ cs => gz (yfb (cs.toList.map r)) (K (.func f (cs.toList.map r)))
 | .slice t x lo hi mx => gz ((r x).dfd && (ynP (lo.map r) && (ynP (hi.map r) && ynP (mx.map r)))) (ya9 E t (r x) (lo.map r) (hi.map r) (mx.map r) H K)
 | .call { callee := .builtin .len, args := ⟨[x]⟩, argTypes := ⟨[t]⟩ } => gz (r x).dfd (yfm E t (r x) K)
 | .call { callee := .builtin .max, args := xs, argTypes := _ } => gz (yfb (xs.toList.map r)) (yk3 ypG (xs.toList.map r) K)
 | .call { callee := .builtin .min, args := xs, argTypes := _ } => gz (yfb (xs.toList.map r)) (yk3 ypI (xs.toList.map r) K)
 | .nilCheck x => gz (r x).dfd (ycw (r x) H K)
 | .makeFunc (.func f) fs ⟨[]⟩ => gz (yfb (fs.toList.map r)) (K (.bnd f (fs.toList.map r)))
 | _ => False
noncomputable def yly (E : Env) (o : Op) (r : Operand → EV) (H : yae) (K : EV → yae → Prop) : Prop :=
 match o with
 | .alloc t => match E.ty t with
  | some ti => ygg H ti.zero K
  | none => False
 | .box t x => match r x with
  | .undef => False
  | v => ygg H v K
 | .buildSlice t n ps => gz (yfb (ps.toList.map fun p => r p.2)) (ycZ E t n (ps.toList.map fun p => (p.1, r p.2)) H K)
 | .store t a x => ybY E t (r a) (r x) H (fun H2 => K .undef H2)
 | .makeSlice t ln cp => gz ((r ln).dfd && (r cp).dfd) (yaO E t (r ln) (r cp) H K)
 | .call { callee := .value f, args := xs, argTypes := _ } => yj2 E (r f) (xs.toList.map r) H K
 | .call { callee := .builtin .append, args := ⟨[x, y]⟩, argTypes := ⟨[t, u]⟩ } => gz ((r x).dfd && (r y).dfd) (yb8 E t u (r x) (r y) H K)
 | .call { callee := .builtin .copy, args := ⟨[x, y]⟩, argTypes := ⟨[t, _]⟩ } => gz ((r x).dfd && (r y).dfd) (yef E t (r x) (r y) H K)
 | o => ypP E o r H (fun v => K v H)
theorem ylH (E : Env) (src dst : TypeId) (x : EV) (H : yae) (K : EV → Prop) : yjD E src dst x H K = ybA E src dst x H K := by
 unfold yjD ybA; simp only [ylI]; rfl
theorem yfn (E : Env) (t : TypeId) (n : Nat) (ps : List (Nat × EV)) (H : yae) (K : EV → yae → Prop) : ycZ E t n ps H K = yaE E t n ps H K := by
 unfold ycZ yaE; simp only [ylR]; rfl
theorem ylQ (E : Env) (t : TypeId) (v : EV) (H : yae) (K : EV → Prop) : yjN E t v H K = ybe E t v H K := by
 unfold yjN ybe; simp only [ylR]; rfl
theorem ylh (E : Env) (f : EV) (args : List EV) (H : yae) (K : EV → yae → Prop) : yj2 E f args H K = yc9 E f args H K := by
 have h : ∀ f args, yfG E f args H K = ybs E f args H K := by
  intro f args
  unfold yfG ybs ykw ycU; simp only [ylR, ylI]; rfl
 unfold yj2 yc9; simp only [h]; rfl
theorem yoY (E : Env) (o : Op) (s : St) (K : EV → Prop) : ypP E o (St.opd E s) s.heap K = evV E o s K := by
 unfold ypP evV; simp only [ylR, ymH, ylQ, ylH]; rfl
theorem ynW (E : Env) (o : Op) (s : St) (K : EV → yae → Prop) : yly E o (St.opd E s) s.heap K = ycc E o s K := by
 unfold yly ycc; simp only [ylR, ylh, yoY, yfn]; rfl
noncomputable def ymk (E : Env) (ops : List Oper) (o : Oper) (q : Q) (K : Q → Prop) : Prop :=
 match o.guard with
 | none => yly E o.op (q.opd E) q.heap fun v H => v.top2 fun v => K (q.put o.dst v H)
 | some (j, want) => match ops[j]? with
  | some oj => match oj.dst with
   | some d => match q.slot d with
    | .bool b => br b
      (cond (yeP true want) (yly E o.op ((q.put (some d) (.bool true) q.heap).opd E) q.heap fun v H => v.top2 fun v => K ((q.put (some d) (.bool true) q.heap).put o.dst v H)) (K ((q.put (some d) (.bool true) q.heap).put o.dst (.tuple []) q.heap)))
      (cond (yeP false want) (yly E o.op ((q.put (some d) (.bool false) q.heap).opd E) q.heap fun v H => v.top2 fun v => K ((q.put (some d) (.bool false) q.heap).put o.dst v H)) (K ((q.put (some d) (.bool false) q.heap).put o.dst (.tuple []) q.heap)))
    | .tuple [] => K (q.put o.dst (.tuple []) q.heap)
    | _ => False
   | none => False
  | none => False
noncomputable def yg1 (E : Env) (ops : List Oper) : List Oper → Q → (Q → Prop) → Prop
 | [], q, K => K q
 | o :: r, q, K => ymk E ops o q fun q' => yg1 E ops r q' K
def yo2 (E : Env) (ops : List Oper) (q : Q) : Bool := ycj E (fun x y => yc8 (q.opd E x) (q.opd E y)) ops 0 ops
noncomputable def yjA (E : Env) (ops : List Oper) (q : Q) (K : Q → Prop) : Prop :=
 gz (yn6 E ops) (cz (ycj E (fun _ _ => false) ops 0 ops) (yg1 E ops ops q K) (yg1 E ops ops q fun q' => gz (yo2 E ops q') (K q')))
theorem ynt (E : Env) (ops : List Oper) (o : Oper) (q : Q) (K : St → Prop) : (ymk E ops o q fun q => K q.to) = ya5 E ops o q.to K := by
 have run : ∀ q1 : Q, q1.heap = q.heap → (yly E o.op (q1.opd E) q.heap fun v H => v.top2 fun v => K (q1.put o.dst v H).to) = ycc E o.op q1.to fun v H => K (q1.to.put o.dst v H) := by
  intro q1 hh
  rw [← ynW, Q.opd_to, show q1.to.heap = q.heap from hh]
  simp only [EV.top2_eq, Q.put_to]
 unfold ymk ya5
 cases o.guard with
 | none => exact run q rfl
 | some p =>
  obtain ⟨j, want⟩ := p
  simp only
  cases ops[j]? with
  | none => rfl
  | some oj =>
   simp only
   cases oj.dst with
   | none => rfl
   | some d =>
    simp only [Q.slot_to]
    have r1 := run (q.put (some d) (.bool true) q.heap) rfl
    have r2 := run (q.put (some d) (.bool false) q.heap) rfl
    rw [Q.put_to] at r1 r2
    cases q.slot d <;> try rfl
    ·rename_i b
     simp only
     rw [r1, r2, Q.put_to, Q.put_to, Q.put_to, Q.put_to]; rfl
    ·rename_i l
     cases l with
     | nil => simp only; rw [Q.put_to]; rfl
     | cons _ _ => rfl
theorem yez (E : Env) (ops : List Oper) : ∀ (r : List Oper) (q : Q) (K : St → Prop), (yg1 E ops r q fun q => K q.to) = ybL E ops r q.to K
 | [], q, K => rfl
 | o :: r, q, K => by
  simp only [yg1, ybL]
  rw [← ynt]
  simp only [yez E ops r]
theorem ylZ (E : Env) (ops : List Oper) (q : Q) (K : St → Prop) : (yjA E ops q fun q => K q.to) = yfW E ops q.to K := by
 unfold yjA yfW
 rw [yez E ops ops q K, ← yez E ops ops q fun s' => gd (ym3 E ops s') (K s')]
 have : ∀ q' : Q, yo2 E ops q' = ym3 E ops q'.to := fun q' => by unfold yo2 ym3; rw [Q.opd_to]
 simp only [this, ylR, ylI]; rfl
noncomputable def ydr (step : Q → (Ex → Q → Prop) → Prop) (head : Nat) (lv : LV) (m N : Nat) (R : List EV → yae → Prop) (vs : List EV) (H : yae) (K : Ex → List EV → yae → Prop) : Prop :=
 step (Q.of (yaF head N 0 vs) H) fun ex q => match ex with
  | .normal => yjS lv.fg head m N q.to R
  | .exit id => yjS lv.fg (yaM lv.ex id) m N q.to (K (.exit id))
  | .ret => yjS lv.fg lv.rt m N q.to (K .ret)
noncomputable def ykH (step : Q → (Ex → Q → Prop) → Prop) (head : Nat) (lv : LV) (m N : Nat) (K : Ex → List EV → yae → Prop) : Nat → List EV → yae → Prop
 | 0, _, _ => False
 | n + 1, vs, H => ydr step head lv m N (ykH step head lv m N K n) vs H K
noncomputable def ykk (step : Q → (Ex → Q → Prop) → Prop) (head : Nat) (lv : LV) (m N : Nat) (K : Ex → List EV → yae → Prop) : Nat → List EV → yae → Prop
 | 0, _, _ => False
 | n + 1, vs, H => ydr step head lv m N (ykk step head lv m N K n) vs H K
def Q.force (q : Q) (k : Q → Prop) : Prop := ypk q.heap fun h => k ⟨q.n, q.t, h⟩
theorem Q.force_eq (q : Q) (k : Q → Prop) : q.force k = k q := by simp only [Q.force, yjL]
noncomputable def ybf (E : Env) : Code → LV → Q → (Ex → Q → Prop) → Prop
 | .skip, _, q, K => K .normal q
 | .region _ ops draw, _, q, K => q.force fun q => cond draw (yjA E ops.toList q (K .normal)) (yg1 E ops.toList ops.toList q (K .normal))
 | .seq a b, lv, q, K => ybf E a { lv with nx := live b lv } q fun ex q' => match ex with
  | .normal => ybf E b lv q' K
  | .exit id => K (.exit id) q'
  | .ret => K .ret q'
 | .cond c a b, lv, q, K => match (q.opd E) c with
  | .bool t => br t (ybf E a lv q K) (ybf E b lv q K)
  | _ => False
 | .block id c, lv, q, K => ybf E c { lv with ex := (id, lv.nx) :: lv.ex } q fun ex q' => match ex with
  | .normal => K .normal q'
  | .exit id' => cond (Nat.beq id' id) (K .normal q') (K (.exit id') q')
  | .ret => K .ret q'
 | .loop c, lv, q, K => yjS lv.fg (live (.loop c) lv) lv.nl q.n q.to fun vs H => match E.un (yai c) with
  | 0 => match E.lp (yai c) with
   | some L => gd (lv.beq L.lv && (Nat.beq lv.nl L.m && Nat.beq q.n L.N)) (L.spec vs H fun ex vs H => K ex (Q.of (yaF (ybG lv ex) q.n 0 vs) H))
   | none => ∃ n, ykH (ybf E c { lv with nx := live (.loop c) lv }) (live (.loop c) lv) lv lv.nl q.n (fun ex vs H => K ex (Q.of (yaF (ybG lv ex) q.n 0 vs) H)) n vs H
  | n + 1 => ykk (ybf E c { lv with nx := live (.loop c) lv }) (live (.loop c) lv) lv lv.nl q.n (fun ex vs H => K ex (Q.of (yaF (ybG lv ex) q.n 0 vs) H)) (n + 1) vs H
 | .exit id, _, q, K => K (.exit id) q
 | .ret, _, q, K => K .ret q
 | .scope c, lv, q, K => ybf E c lv q K
 | _, _, _, _ => False
noncomputable def ycb (E : Env) : List ResultVar → Q → (List EV → Prop) → Prop
 | [], q, K => K []
 | .tmp t :: rs, q, K => gd (q.slot t).dfd (ycb E rs q fun vs => K (q.slot t :: vs))
 | .cell a t :: rs, q, K => gd (q.slot a).dfd (ybe E t (q.slot a) q.heap fun v => ycb E rs q fun vs => K (v :: vs))
noncomputable def ypn (E : Env) (fn : Func) (own : Bool) (args : List EV) (H : yae) (K : EV → yae → Prop) : Prop :=
 match fn.body with
 | some c => ybf E c { nx := yhv fn.results.toList, ex := [], rt := yhv fn.results.toList, nl := H.length, fg := E.fg } (Q.of (args ++ List.replicate (fn.ntmps - args.length) .undef) H) fun ex q => match ex with
  | .exit _ => False
  | _ => ycb E fn.results.toList q fun vs => ynC H.length (cond own [] (fn.resultTypes.toList.map (yph E))) vs q.heap K
 | none => False
theorem Q.len (q : Q) : q.to.tmps.length = q.n := by show q.slots.length = _; simp [Q.slots]
theorem ydo {stepQ : Q → (Ex → Q → Prop) → Prop} {step : St → (Ex → St → Prop) → Prop} (h : ∀ q K, (stepQ q fun ex q => K ex q.to) = step q.to K) (head : Nat) (lv : LV) (m N : Nat) (R : List EV → yae → Prop) (vs : List EV) (H : yae) (K : Ex → List EV → yae → Prop) :
  ydr stepQ head lv m N R vs H K = yak step head lv m N R vs H K := by
 unfold ydr yak
 rw [← Q.of_to, ← h]
 all_goals congr 1
theorem yiJ {stepQ : Q → (Ex → Q → Prop) → Prop} {step : St → (Ex → St → Prop) → Prop} (h : ∀ q K, (stepQ q fun ex q => K ex q.to) = step q.to K) (head : Nat) (lv : LV) (m N : Nat) (K : Ex → List EV → yae → Prop) :
  ∀ n, ykH stepQ head lv m N K n = yc3 step head lv m N K n
 | 0 => by funext vs H; rfl
 | n + 1 => by funext vs H; simp only [ykH, yc3]; rw [yiJ h, ydo h]
theorem yjg {stepQ : Q → (Ex → Q → Prop) → Prop} {step : St → (Ex → St → Prop) → Prop} (h : ∀ q K, (stepQ q fun ex q => K ex q.to) = step q.to K) (head : Nat) (lv : LV) (m N : Nat) (K : Ex → List EV → yae → Prop) :
  ∀ n, ykk stepQ head lv m N K n = yiG step head lv m N K n
 | 0 => by funext vs H; rfl
 | n + 1 => by funext vs H; simp only [ykk, yiG]; rw [yjg h, ydo h]
theorem yhs (E : Env) : ∀ (c : Code) (lv : LV) (q : Q) (K : Ex → St → Prop), (ybf E c lv q fun ex q => K ex q.to) = yan E c lv q.to K := by
 intro c
 induction c with
 | skip => intro lv q K; rfl
 | region id ops draw =>
  intro lv q K
  simp only [ybf, yan, Q.force_eq]
  rw [ylZ, yez]
 | seq a b iha ihb =>
  intro lv q K
  simp only [ybf, yan]
  rw [← iha]
  congr 1
  funext ex q'
  cases ex with
  | normal => exact ihb lv q' K
  | exit id => rfl
  | ret => rfl
 | cond c a b iha ihb =>
  intro lv q K
  simp only [ybf, yan, Q.opd_to]
  cases q.opd E c <;> try rfl
  simp only
  rw [iha, ihb]
 | block id c ih =>
  intro lv q K
  simp only [ybf, yan]
  rw [← ih]
  all_goals congr 1
 | loop c ih =>
  intro lv q K
  simp only [ybf, yan, Q.len]
  congr 1
  funext vs H
  have e1 : ∀ ex vs H, K ex (Q.of (yaF (ybG lv ex) q.n 0 vs) H).to = K ex { tmps := yaF (ybG lv ex) q.n 0 vs, heap := H } := fun ex vs H => by rw [Q.of_to]
  simp only [e1, yiJ (ih _), yjg (ih _)]
  all_goals (cases E.un (yai c) <;> first | rfl | (cases E.lp (yai c) <;> rfl))
 | exit id => intro lv q K; rfl
 | ret => intro lv q K; rfl
 | scope c ih => intro lv q K; simp only [ybf, yan]; exact ih lv q K
 | rangeFunc f ps x y _ _ => intro lv q K; rfl
 | label l => intro lv q K; rfl
 | goto l => intro lv q K; rfl
 | refuse l => intro lv q K; rfl
theorem ycR (E : Env) : ∀ (rs : List ResultVar) (q : Q) (K : List EV → Prop), ycb E rs q K = yaN E rs q.to K
 | [], q, K => rfl
 | .tmp t :: rs, q, K => by simp only [ycb, yaN, Q.slot_to, ycR E rs]
 | .cell a t :: rs, q, K => by simp only [ycb, yaN, Q.slot_to, ycR E rs]; rfl
theorem yam (E : Env) (fn : Func) (own : Bool) (args : List EV) (H : yae) (K : EV → yae → Prop) : ypn E fn own args H K = ybC E fn own args H K := by
 unfold ypn ybC
 cases fn.body with
 | none => rfl
 | some c =>
  simp only
  rw [← Q.of_to, ← yhs]
  congr 1
  funext ex q
  cases ex <;> simp only [ycR] <;> rfl
theorem yax (E : Env) (c : Code) (lv' : LV) (head : Nat) (lv : LV) (m N : Nat) (R : List EV → yae → Prop) (vs : List EV) (H : yae) (K : Ex → List EV → yae → Prop) :
  ydr (ybf E c lv') head lv m N R vs H K = yak (yan E c lv') head lv m N R vs H K := ydo (fun q K => yhs E c lv' q K) head lv m N R vs H K
end Go.Ev

/- Whole numbers of a kind, as the evaluator's operations have them. -/
set_option linter.unusedVariables false
set_option linter.unusedSimpArgs false
namespace Go.Ev
open Go
theorem yib (n : Int) : IntKind.wrap .u64 n = n % 18446744073709551616 := by simp [IntKind.wrap, IntKind.bits, IntKind.signed]
theorem ykW (n : Int) : IntKind.wrap .u32 n = n % 4294967296 := by simp [IntKind.wrap, IntKind.bits, IntKind.signed]
theorem ynp (n : Int) : IntKind.wrap .u8 n = n % 256 := by simp [IntKind.wrap, IntKind.bits, IntKind.signed]
theorem ynD (n : Int) : IntKind.wrap .i64 n = if 9223372036854775808 ≤ n % 18446744073709551616 then n % 18446744073709551616 - 18446744073709551616 else n % 18446744073709551616 := by
 simp [IntKind.wrap, IntKind.bits, IntKind.signed]
theorem yhm {n : Int} (h : 0 ≤ n) (h2 : n < 18446744073709551616) : IntKind.wrap .u64 n = n := by rw [yib]; omega
theorem ypR {n : Int} (h : 0 ≤ n) (h2 : n < 256) : IntKind.wrap .u8 n = n := by rw [ynp]; omega
theorem ydP {n : Int} (h : -9223372036854775808 ≤ n) (h2 : n < 9223372036854775808) : IntKind.wrap .i64 n = n := by rw [ynD]; split <;> omega
theorem ybi {n : Int} (h : 0 ≤ n) (h2 : n < 18446744073709551616) : cvI .u64 n = n := yhm h h2
theorem yg8 {n : Int} (h : -9223372036854775808 ≤ n) (h2 : n < 9223372036854775808) : cvI .i64 n = n := ydP h h2
theorem yaD {a b : Int} (h : -9223372036854775808 ≤ a + b) (h2 : a + b < 9223372036854775808) : yal .i64 a b = a + b := ydP h h2
theorem yaB {a b : Int} (h : -9223372036854775808 ≤ a - b) (h2 : a - b < 9223372036854775808) : yaw .i64 a b = a - b := ydP h h2
theorem ycv {a b : Int} (h : -9223372036854775808 ≤ a * b) (h2 : a * b < 9223372036854775808) : ycB .i64 a b = a * b := ydP h h2
theorem yaW {c : Bool} {p q : Prop} (h : c = true) : br c p q = p := by subst h; rfl
theorem yaH {c : Bool} {p q : Prop} (h : c = false) : br c p q = q := by subst h; rfl
theorem ybn {c : Bool} {p : Prop} (h : c = true) : gd c p = p := by subst h; rfl
theorem ybm {a b : Int} (h : a < b) : ltI a b = true := by simp [ltI, h]
theorem yca {a b : Int} (h : b ≤ a) : ltI a b = false := by simp [ltI]; omega
theorem yaQ {a b : Int} (h : a ≤ b) : leI a b = true := by simp [leI, h]
theorem ygj {a b : Int} (h : b < a) : leI a b = false := by simp [leI]; omega
theorem yme {a b : Int} (h : a = b) : eqI a b = true := by simp [eqI, h]
theorem yjM {a b : Int} (h : a ≠ b) : eqI a b = false := by simp [eqI, h]
theorem ymo (a b : Nat) (ha : a < 18446744073709551616) (hb : b < 18446744073709551616) : ydM .u64 a b = ((a &&& b : Nat) : Int) := by
 have h1 : (BitVec.ofInt 64 (a : Int)) = BitVec.ofNat 64 a := by simp
 have h2 : (BitVec.ofInt 64 (b : Int)) = BitVec.ofNat 64 b := by simp
 have h3 : a &&& b < 18446744073709551616 := Nat.lt_of_le_of_lt Nat.and_le_left ha
 show IntKind.wrap .u64 (((BitVec.ofInt 64 (a : Int) &&& BitVec.ofInt 64 (b : Int) : BitVec 64).toNat : Nat) : Int) = _
 rw [h1, h2]
 rw [BitVec.toNat_and, BitVec.toNat_ofNat, BitVec.toNat_ofNat, Nat.mod_eq_of_lt ha, Nat.mod_eq_of_lt hb]
 exact yhm (by omega) (by omega)
theorem yjU (a i : Nat) (hi : i < 64) : yaS .u64 a i = ((a >>> i : Nat) : Int) := by
 have h1 : min (Int.toNat i) (IntKind.bits .u64) = i := by simp [IntKind.bits]; omega
 simp only [yaS, h1]
 rw [Nat.shiftRight_eq_div_pow, Int.natCast_ediv]
 rw [Int.fdiv_eq_ediv_of_nonneg _ (Int.le_of_lt (Int.pow_pos (by omega)))]
 simp
theorem yol (a i : Nat) (ha : a < 18446744073709551616) (hi : i < 64) : eqI (ydM .u64 (yaS .u64 a i) 1) 1 = a.testBit i := by
 have h2 : a >>> i < 18446744073709551616 := Nat.lt_of_le_of_lt (Nat.shiftRight_le a i) ha
 rw [yjU a i hi]
 have := ymo (a >>> i) 1 h2 (by omega)
 rw [show (1 : Int) = ((1 : Nat) : Int) from rfl, this, Nat.testBit, Nat.and_comm]
 have h3 : 1 &&& a >>> i = (a >>> i) % 2 := by rw [Nat.and_comm]; exact Nat.and_one_is_mod _
 rw [h3]
 rcases Nat.mod_two_eq_zero_or_one (a >>> i) with h | h <;> rw [h] <;> rfl
end Go.Ev

/- The table of math/bits, as the evaluator has it. -/
set_option linter.unusedVariables false
set_option linter.unusedSimpArgs false
namespace Go.Ev.S
open Go Go.Ev
def tabL : List Int := [0, 1, 56, 2, 57, 49, 28, 3, 61, 58, 42, 50, 38, 29, 17, 4, 62, 47, 59, 36, 45, 43, 51, 22, 53, 39, 33, 30, 24, 18, 12, 5, 63, 55, 48, 27, 60, 41, 37, 16, 46, 35, 44, 21, 52, 32, 23, 11, 54, 26, 40, 15, 34, 20, 31, 10, 25, 14, 19, 9, 13, 8, 7, 6]
def ypl : Nat → Int := fun i => tabL.getD i 0
noncomputable def ya2 : Nat → Int := Classical.choose (⟨ypl, rfl⟩ : ∃ f, f = ypl)
theorem yoJ : ya2 = ypl := Classical.choose_spec (⟨ypl, rfl⟩ : ∃ f, f = ypl)
theorem tab_gen {P : Program} {W : World} {nm : String} {t e n fuel g : Nat} {k : IntKind} {cs : Array Value} {p : List MemPlace} {spare} {held} {base : Nat} {l : List (DataW Unit)} {zs : List Int} {T : Nat → Int} (hT : T = fun i => zs.getD i 0) (hn : zs.length = n)
  (hu : P.underlying t = some (.array n e)) (hc : P.cellsOf e = 1) (hct : P.cellsOf t = n) (hue : P.underlying e = some (.int k)) (hg : P.globalNamed nm = some g) (hv : W.var? P nm = some cs)
  (hl : l = zs.map fun n => .lit (.int k n)) (hd : DataW.trod (fun _ => ()) P W base spare held fuel t cs.toList = some (.agg l, p)) :
  Rel ⟨[], []⟩ W (.rref (.arr k n T)) (.pointer (some ⟨g, 0, none⟩)) ∧ ∀ k' n' f', EV.arr k n T = .arr k' n' f' → ∃ cs t fz, W.heap[g]? = some (.cells cs t fz) ∧ cs.size = n' := by
 subst hl
 have hcs := Go.Lib.cells_of_tab hu hue hc hct hd
 have hsz : g < W.heap.size ∧ ∃ t fz, W.heap[g]? = some (.cells cs t fz) := by
  unfold World.var? at hv
  simp only [hg, Option.bind_some] at hv
  cases h : W.heap[g]? with
  | none => rw [h] at hv; cases hv
  | some c =>
   refine ⟨(Array.getElem?_eq_some_iff.1 h).1, ?_⟩
   rw [h] at hv
   cases c with
   | cells cs0 t fz => simp only [Option.some.injEq] at hv; subst hv; exact ⟨t, fz, rfl⟩
   | _ => simp at hv
 have hint : yaX k n T = cs.toList := by
  rw [hcs]
  apply List.ext_getElem?
  intro i
  by_cases hi : i < n
  ·rw [yaq _ _ _ _ hi, List.getElem?_map, List.getElem?_eq_getElem (by omega), hT]
   simp [List.getD, List.getElem?_eq_getElem (show i < zs.length by omega)]
  ·rw [List.getElem?_eq_none (by rw [yag]; omega), List.getElem?_eq_none (by simp; omega)]
 obtain ⟨h1, t', fz, h2⟩ := hsz
 refine ⟨⟨g, 0, .agg (yaX k n T).toArray, rfl, rfl, h1, by simp [Ren.mbs, Ren.own], ?_⟩, ?_⟩
 ·intro i hi
  rw [World.var?_cell hg hv]
  show cs[0 + i]? = (Value.cells (.agg (yaX k n T).toArray)).toList[i]?
  rw [Nat.zero_add]
  simp [Value.cells, hint]
 ·rintro k' n' f' hh
  cases hh
  refine ⟨cs, t', fz, h2, ?_⟩
  have := congrArg List.length hcs
  simpa [hn] using this
theorem tab_ok {P : Program} {W : World} {nm : String} {t e fuel g : Nat} {cs : Array Value} {p : List MemPlace} {spare} {held} {base : Nat} {l : List (DataW Unit)}
  (hu : P.underlying t = some (.array 64 e)) (hc : P.cellsOf e = 1) (hct : P.cellsOf t = 64) (hue : P.underlying e = some (.int .u8)) (hg : P.globalNamed nm = some g) (hv : W.var? P nm = some cs)
  (hl : l = tabL.map fun n => .lit (.int .u8 n)) (hd : DataW.trod (fun _ => ()) P W base spare held fuel t cs.toList = some (.agg l, p)) :
  Rel ⟨[], []⟩ W (.rref (.arr .u8 64 ya2)) (.pointer (some ⟨g, 0, none⟩)) ∧ ∀ k' n' f', EV.arr .u8 64 ya2 = .arr k' n' f' → ∃ cs t fz, W.heap[g]? = some (.cells cs t fz) ∧ cs.size = n' :=
 tab_gen (zs := tabL) yoJ rfl hu hc hct hue hg hv hl hd
end Go.Ev.S

/- What is handed over to a law, of a type without places, opened: as the evaluator has it. -/
set_option linter.unusedVariables false
set_option linter.unusedSimpArgs false
namespace Go.Ev
open Go Go.Joins
inductive Tm where
 | bool
 | int (k : IntKind)
 | str
 | arr (n : Nat) (k : IntKind) (e : TypeId)
 | agg (l : List Tm)
mutual
def Tm.size : Tm → Nat
 | .bool => 1
 | .int _ => 1
 | .str => 1
 | .arr n _ _ => n
 | .agg l => Tm.sizeL l
def Tm.sizeL : List Tm → Nat
 | [] => 0
 | t :: l => t.size + Tm.sizeL l
end
mutual
def Tm.ok (P : Program) : Tm → TypeId → Prop
 | .bool, t => P.underlying t = some .bool
 | .int k, t => P.underlying t = some (.int k)
 | .str, t => P.underlying t = some .string
 | .arr n k e, t => P.underlying t = some (.array n e) ∧ P.underlying e = some (.int k) ∧ P.cellsOf e = 1
 | .agg l, t => ∃ fs, P.underlying t = some (.struct fs) ∧ Tm.okL P l fs.toList 0
def Tm.okL (P : Program) : List Tm → List Field → Nat → Prop
 | [], fs, _ => fs = []
 | t :: l, fs, o => match fs with
  | [] => False
  | f :: fs => f.offset = o ∧ P.cellsOf f.type = t.size ∧ t.ok P f.type ∧ Tm.okL P l fs (o + t.size)
end
mutual
def Tm.has : Tm → EV → Prop
 | .bool, u => ∃ b, u = .bool b
 | .int k, u => ∃ n, u = .int k n ∧ (Lit.int k n).wf = true
 | .str, u => ∃ s : List UInt8, u = .str s ∧ s.length ≤ maxLen
 | .arr n k _, u => ∃ g : Nat → Int, u = .arr k n g ∧ (∀ i, i < n → (Lit.int k (g i)).wf = true) ∧ ∀ i, n ≤ i → g i = 0
 | .agg l, u => ∃ us, u = .agg us ∧ Tm.hasL l us
def Tm.hasL : List Tm → List EV → Prop
 | [], us => us = []
 | t :: l, us => ∃ v vs, us = v :: vs ∧ t.has v ∧ Tm.hasL l vs
end
theorem yfI {α β : Type} {f : α → Option β} : ∀ {l : List α} {r : List β}, l.mapM f = some r → ∀ (i : Nat) (a : α), l[i]? = some a → ∃ b, f a = some b
 | [], r, h, i, a, ha => by simp at ha
 | x :: l, r, h, i, a, ha => by
  rw [List.mapM_cons] at h
  cases hx : f x with
  | none => simp [hx] at h
  | some y =>
   cases hl : l.mapM f with
   | none => simp [hx, hl] at h
   | some ys =>
    cases i with
    | zero => simp at ha; subst ha; exact ⟨y, hx⟩
    | succ i => exact yfI hl i a (by simpa using ha)
section
variable {H : Type} {enc : TypeId × Value → H} {P : Program} {w : World} {base : Nat} {spare : Nat → Bool} {held : Bool}
theorem yom {n : Nat} {k : IntKind} {e t : TypeId} (h1 : P.underlying t = some (.array n e)) (h2 : P.underlying e = some (.int k)) (h3 : P.cellsOf e = 1) {fuel : Nat} {cs : List Value} {x : DataW H × List MemPlace}
  (hl : cs.length = n) (h : DataW.trod enc P w base spare held fuel t cs = some x) : ∃ g : Nat → Int, cs = yaX k n g ∧ (∀ i, i < n → (Lit.int k (g i)).wf = true) ∧ ∀ i, n ≤ i → g i = 0 := by
 cases fuel with
 | zero => simp [DataW.trod] at h
 | succ fuel =>
  simp only [DataW.trod, h1] at h
  split at h
  ·rename_i hc
   cases hm : (List.range n).mapM fun i => DataW.trod enc P w base spare held fuel e ((cs.drop (i * P.cellsOf e)).take (P.cellsOf e)) with
   | none => rw [hm] at h; simp at h
   | some r =>
    have key : ∀ i, i < n → ∃ m, cs[i]? = some (.int k m) ∧ (Lit.int k m).wf = true := by
     intro i hi
     obtain ⟨b, hb⟩ := yfI hm i i (by simp [hi])
     rw [h3, Nat.mul_one] at hb
     obtain ⟨v, hv⟩ : ∃ v, cs[i]? = some v := ⟨cs[i]'(by omega), List.getElem?_eq_getElem (by omega)⟩
     have e1 : (cs.drop i).take 1 = [v] := by
      rw [List.drop_eq_getElem_cons (by omega)]
      have : cs[i]'(by omega) = v := by rw [List.getElem?_eq_getElem (by omega)] at hv; exact Option.some.inj hv
      simp [this]
     rw [e1] at hb
     cases fuel with
     | zero => simp [DataW.trod] at hb
     | succ fuel =>
      simp only [DataW.trod, h2] at hb
      cases v <;> simp at hb
      rename_i k' m
      obtain ⟨⟨rfl, hw⟩, _⟩ := hb
      exact ⟨m, hv, hw⟩
    refine ⟨fun i => match cs[i]? with | some (.int _ m) => m | _ => 0, ?_, ?_, ?_⟩
    ·apply List.ext_getElem?
     intro i
     unfold yaX
     by_cases hi : i < n
     ·obtain ⟨m, hm', _⟩ := key i hi
      rw [hm']
      simp [hi, hm']
     ·rw [List.getElem?_eq_none (by omega), List.getElem?_eq_none (by simp; omega)]
    ·intro i hi
     obtain ⟨m, hm', hw⟩ := key i hi
     simp only [hm']; exact hw
    ·intro i hi
     have : cs[i]? = none := List.getElem?_eq_none (by omega)
     simp only [this]
  ·cases h
theorem yhx {α : Type} {cs : List α} (h : cs.length = 1) : ∃ v, cs = [v] := List.length_eq_one_iff.1 h
mutual
theorem Tm.open : ∀ (tm : Tm) (t : TypeId), tm.ok P t → ∀ (fuel : Nat) (cs : List Value) (x : DataW H × List MemPlace), cs.length = tm.size → DataW.trod enc P w base spare held fuel t cs = some x →
  ∃ u, tm.has u ∧ ∃ y : Value, y.cells.toList = cs ∧ ∀ ρ W, Rel ρ W u y
 | .bool, t, hk, fuel, cs, x, hl, h => by
  simp only [Tm.ok] at hk
  obtain ⟨v, rfl⟩ := yhx hl
  cases fuel with
  | zero => simp [DataW.trod] at h
  | succ fuel =>
   simp only [DataW.trod, hk] at h
   cases v <;> simp at h
   rename_i b
   exact ⟨.bool b, ⟨b, rfl⟩, .bool b, rfl, fun ρ W => rfl⟩
 | .int k, t, hk, fuel, cs, x, hl, h => by
  simp only [Tm.ok] at hk
  obtain ⟨v, rfl⟩ := yhx hl
  cases fuel with
  | zero => simp [DataW.trod] at h
  | succ fuel =>
   simp only [DataW.trod, hk] at h
   cases v <;> simp at h
   rename_i k' n
   obtain ⟨⟨rfl, hw⟩, _⟩ := h
   exact ⟨.int k' n, ⟨n, rfl, hw⟩, .int k' n, rfl, fun ρ W => rfl⟩
 | .str, t, hk, fuel, cs, x, hl, h => by
  simp only [Tm.ok] at hk
  obtain ⟨v, rfl⟩ := yhx hl
  cases fuel with
  | zero => simp [DataW.trod] at h
  | succ fuel =>
   simp only [DataW.trod, hk] at h
   cases v <;> simp at h
   rename_i s
   exact ⟨.str s.data.toList, ⟨_, rfl, by rw [Array.length_toList]; exact h.1⟩, .string s, rfl, fun ρ W => rfl⟩
 | .arr n k e, t, hk, fuel, cs, x, hl, h => by
  simp only [Tm.ok] at hk
  obtain ⟨g, h1, h2, h3⟩ := yom hk.1 hk.2.1 hk.2.2 (by simpa [Tm.size] using hl) h
  exact ⟨.arr k n g, ⟨g, rfl, h2, h3⟩, .agg (yaX k n g).toArray, by rw [h1]; rfl, fun ρ W => rfl⟩
 | .agg l, t, hk, fuel, cs, x, hl, h => by
  simp only [Tm.ok] at hk
  obtain ⟨fs, h1, h2⟩ := hk
  cases fuel with
  | zero => simp [DataW.trod] at h
  | succ fuel =>
   simp only [DataW.trod, h1] at h
   split at h
   ·rename_i hc
    cases hm : fs.toList.mapM fun f => DataW.trod enc P w base spare held fuel f.type ((cs.drop f.offset).take (P.cellsOf f.type)) with
    | none => rw [hm] at h; simp at h
    | some r =>
     obtain ⟨us, g1, g2⟩ := Tm.openL l fs.toList 0 h2 fuel cs (by simpa [Tm.size] using hl) fun i f hf => yfI hm i f hf
     refine ⟨.agg us, ⟨us, rfl, g1⟩, .agg cs.toArray, rfl, fun ρ W => ?_⟩
     simp only [Rel]
     exact ⟨cs.toArray, rfl, by simpa using g2 ρ W⟩
   ·cases h
theorem Tm.openL : ∀ (l : List Tm) (fs : List Field) (o : Nat), Tm.okL P l fs o → ∀ (fuel : Nat) (cs : List Value), cs.length = o + Tm.sizeL l →
  (∀ (i : Nat) f, fs[i]? = some f → ∃ b, DataW.trod enc P w base spare held fuel f.type ((cs.drop f.offset).take (P.cellsOf f.type)) = some b) →
  ∃ us, Tm.hasL l us ∧ ∀ ρ W, RelF ρ W us (cs.drop o)
 | [], fs, o, hk, fuel, cs, hl, h => by
  refine ⟨[], rfl, fun ρ W => ?_⟩
  simp only [RelF]
  exact List.drop_eq_nil_of_le (by simp [Tm.sizeL] at hl; omega)
 | tm :: l, fs, o, hk, fuel, cs, hl, h => by
  simp only [Tm.okL] at hk
  cases fs with
  | nil => exact hk.elim
  | cons f fs =>
   simp only [Tm.sizeL] at hl
   obtain ⟨k1, k2, k3, k4⟩ := hk
   obtain ⟨b, hb⟩ := h 0 f rfl
   rw [k1, k2] at hb
   obtain ⟨u, g1, y, g2, g3⟩ := Tm.open tm f.type k3 fuel _ b (by simp; omega) hb
   obtain ⟨us, e1, e2⟩ := Tm.openL l fs (o + tm.size) k4 fuel cs (by omega) fun i f' hf => h (i + 1) f' (by simpa using hf)
   refine ⟨u :: us, ⟨u, us, rfl, g1, e1⟩, fun ρ W => ?_⟩
   simp only [RelF]
   refine ⟨y, cs.drop (o + tm.size), ?_, g3 ρ W, e2 ρ W⟩
   rw [g2, ← List.drop_drop]
   exact (List.take_append_drop _ _).symm
end
def Tm.isAgg : Tm → Bool
 | .arr _ _ _ => true
 | .agg _ => true
 | _ => false
theorem open_tm {r : Reach} {b0 : Nat} {t : TypeId} {v : Value} {d : DataW H} {ps : List MemPlace} (tm : Tm) (hk : tm.ok P t) (ha : tm.isAgg = true) (hs : P.cellsOf t = tm.size) (ygC : Value.okWide P w r b0 t v) (hd : DataW.Trod enc P w base spare held t v d ps) :
  ∃ u, tm.has u ∧ ∀ ρ W, Rel ρ W u v := by
 obtain ⟨fuel, hf⟩ := hd
 have hv : ∃ cs, v = .agg cs ∧ cs.size = P.cellsOf t := by
  unfold Value.okWide at ygC
  cases tm with
  | arr n k e => simp only [Tm.ok] at hk; rw [hk.1] at ygC; obtain ⟨cs, h1, h2, _⟩ := ygC; exact ⟨cs, h1, h2⟩
  | agg l => simp only [Tm.ok] at hk; obtain ⟨fs, h1, _⟩ := hk; rw [h1] at ygC; obtain ⟨cs, h1, h2, _⟩ := ygC; exact ⟨cs, h1, h2⟩
  | bool => cases ha
  | int k => cases ha
  | str => cases ha
 obtain ⟨cs, rfl, hsz⟩ := hv
 obtain ⟨u, h1, y, h2, h3⟩ := Tm.open tm t hk fuel _ _ (by show cs.toList.length = _; rw [Array.length_toList, hsz, hs]) hf
 refine ⟨u, h1, fun ρ W => ?_⟩
 have hy : y = .agg cs := by
  have h3 := h3 ⟨[], []⟩ w
  cases tm with
  | arr n k e =>
   simp only [Tm.has] at h1
   obtain ⟨g, rfl, _⟩ := h1
   simp only [Rel] at h3
   subst h3
   have : (yaX k n g) = cs.toList := h2
   rw [this]
  | agg l =>
   simp only [Tm.has] at h1
   obtain ⟨us, rfl, _⟩ := h1
   simp only [Rel] at h3
   obtain ⟨cs', rfl, _⟩ := h3
   have : cs'.toList = cs.toList := h2
   rw [Array.toList_inj.1 this]
  | bool => cases ha
  | int k => cases ha
  | str => cases ha
 rw [← hy]; exact h3 ρ W
end
end Go.Ev
