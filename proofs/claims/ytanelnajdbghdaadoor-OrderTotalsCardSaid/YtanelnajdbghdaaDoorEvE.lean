/- The evaluator once more, with its slots in a tree: for the kernel's sake. That it is the same. -/
import Derived.Test.YtanelnajdbghdaaDoorEvD
import Derived.DataShut
import Derived.OpenShut
import Derived.ChangeArms
import Derived.FnData
import Derived.Lib.LaidTab
set_option linter.unusedVariables false
set_option linter.unusedSimpArgs false
namespace Go.Ev
open Go
def EV.top (v : EV) (k : EV → Prop) : Prop :=
  match v with
  | .undef => k .undef
  | .bool b => k (.bool b)
  | .int q n => k (.int q n)
  | .str s => k (.str s)
  | .nilPtr => k .nilPtr
  | .ptr b p => k (.ptr b p)
  | .rref v => k (.rref v)
  | .nilSlice => k .nilSlice
  | .slice b o n c e => k (.slice b o n c e)
  | .rsI q n g => k (.rsI q n g)
  | .rsT n s g => k (.rsT n s g)
  | .arrT n s g => k (.arrT n s g)
  | .nilFunc => k .nilFunc
  | .func f l => k (.func f l)
  | .bnd f l => k (.bnd f l)
  | .agg l => k (.agg l)
  | .arr q n g => k (.arr q n g)
  | .tuple l => k (.tuple l)
  | .nilIface => k .nilIface
  | .iface t v => k (.iface t v)
theorem EV.top_eq (v : EV) (k : EV → Prop) : v.top k = k v := by cases v <;> rfl
def topL : List EV → (List EV → Prop) → Prop
  | [], k => k []
  | v :: l, k => v.top fun v' => topL l fun l' => k (v' :: l')
theorem topL_eq : ∀ (l : List EV) (k : List EV → Prop), topL l k = k l
  | [], _ => rfl
  | v :: l, k => by simp only [topL, EV.top_eq, topL_eq l]
def EV.top2 (v : EV) (k : EV → Prop) : Prop :=
  match v with
  | .undef => k .undef
  | .bool b => k (.bool b)
  | .int q n => k (.int q n)
  | .str s => k (.str s)
  | .nilPtr => k .nilPtr
  | .ptr b p => k (.ptr b p)
  | .rref v => k (.rref v)
  | .nilSlice => k .nilSlice
  | .slice b o n c e => k (.slice b o n c e)
  | .rsI q n g => k (.rsI q n g)
  | .rsT n s g => k (.rsT n s g)
  | .arrT n s g => k (.arrT n s g)
  | .nilFunc => k .nilFunc
  | .func f l => k (.func f l)
  | .bnd f l => k (.bnd f l)
  | .agg l => topL l fun l' => k (.agg l')
  | .arr q n g => k (.arr q n g)
  | .tuple l => topL l fun l' => k (.tuple l')
  | .nilIface => k .nilIface
  | .iface t v => k (.iface t v)
theorem EV.top2_eq (v : EV) (k : EV → Prop) : v.top2 k = k v := by cases v <;> first | rfl | simp only [EV.top2, topL_eq]
def topH : Heap → (Heap → Prop) → Prop
  | [], k => k []
  | none :: l, k => topH l fun l' => k (none :: l')
  | some v :: l, k => v.top2 fun v' => topH l fun l' => k (some v' :: l')
theorem topH_eq : ∀ (l : Heap) (k : Heap → Prop), topH l k = k l
  | [], _ => rfl
  | none :: l, k => by simp only [topH, topH_eq l]
  | some v :: l, k => by simp only [topH, EV.top2_eq, topH_eq l]
inductive Tr where
  | nil
  | node (v : EV) (l r : Tr)
def Tr.v : Tr → EV
  | .nil => .undef
  | .node v _ _ => v
def Tr.l : Tr → Tr
  | .nil => .nil
  | .node _ l _ => l
def Tr.r : Tr → Tr
  | .nil => .nil
  | .node _ _ r => r
def Tr.get : Tr → Nat → EV
  | .nil, _ => .undef
  | .node v l r, i => match i with
    | 0 => v
    | i + 1 => cond (Nat.beq (Nat.mod i 2) 0) (l.get (Nat.div i 2)) (r.get (Nat.div i 2))
def Tr.set : Nat → Tr → Nat → EV → Tr
  | 0, t, _, _ => t
  | f + 1, t, i, x => match i with
    | 0 => .node x t.l t.r
    | i + 1 => cond (Nat.beq (Nat.mod i 2) 0) (.node t.v (Tr.set f t.l (Nat.div i 2) x) t.r) (.node t.v t.l (Tr.set f t.r (Nat.div i 2) x))
theorem Tr.get_zero (t : Tr) : t.get 0 = t.v := by cases t <;> rfl
theorem Tr.get_succ (t : Tr) (i : Nat) : t.get (i + 1) = if i % 2 = 0 then t.l.get (i / 2) else t.r.get (i / 2) := by
  cases t with
  | nil => simp only [Tr.get, Tr.l, Tr.r]; split <;> rfl
  | node v l r =>
    show cond (Nat.beq (i % 2) 0) (l.get (i / 2)) (r.get (i / 2)) = _
    cases hb : Nat.beq (i % 2) 0 with
    | true => rw [if_pos (Nat.eq_of_beq_eq_true hb)]; rfl
    | false => rw [if_neg (fun h => by rw [h] at hb; cases hb)]; rfl
theorem Tr.get_set : ∀ (f : Nat) (t : Tr) (i : Nat) (x : EV) (j : Nat), i < f → (Tr.set f t i x).get j = if j = i then x else t.get j
  | 0, t, i, x, j, h => by omega
  | f + 1, t, 0, x, j, h => by
    simp only [Tr.set]
    cases j with
    | zero => rw [Tr.get_zero, if_pos rfl]; rfl
    | succ j =>
      rw [Tr.get_succ, if_neg (show ¬ j + 1 = 0 by omega), Tr.get_succ]; rfl
  | f + 1, t, i + 1, x, j, h => by
    have hi : i / 2 < f := by omega
    show (cond (Nat.beq (i % 2) 0) (Tr.node t.v (Tr.set f t.l (i / 2) x) t.r) (Tr.node t.v t.l (Tr.set f t.r (i / 2) x))).get j = _
    cases hb : Nat.beq (i % 2) 0 with
    | true =>
      have h0 := Nat.eq_of_beq_eq_true hb
      rw [cond_true]
      cases j with
      | zero => rw [Tr.get_zero, if_neg (by omega), Tr.get_zero]; rfl
      | succ j =>
        rw [Tr.get_succ, Tr.get_succ]
        show (if j % 2 = 0 then (Tr.set f t.l (i / 2) x).get (j / 2) else t.r.get (j / 2)) = _
        rw [Tr.get_set f t.l (i / 2) x (j / 2) hi]
        by_cases hj : j % 2 = 0
        · rw [if_pos hj, if_pos hj]
          by_cases he : j = i
          · subst he; rw [if_pos rfl, if_pos rfl]
          · rw [if_neg (by omega), if_neg (by omega)]
        · rw [if_neg hj, if_neg hj, if_neg (by omega)]
    | false =>
      have h0 : i % 2 ≠ 0 := fun h => by rw [h] at hb; cases hb
      rw [cond_false]
      cases j with
      | zero => rw [Tr.get_zero, if_neg (by omega), Tr.get_zero]; rfl
      | succ j =>
        rw [Tr.get_succ, Tr.get_succ]
        show (if j % 2 = 0 then t.l.get (j / 2) else (Tr.set f t.r (i / 2) x).get (j / 2)) = _
        rw [Tr.get_set f t.r (i / 2) x (j / 2) hi]
        by_cases hj : j % 2 = 0
        · rw [if_pos hj, if_pos hj, if_neg (by omega)]
        · rw [if_neg hj, if_neg hj]
          by_cases he : j = i
          · subst he; rw [if_pos rfl, if_pos rfl]
          · rw [if_neg (by omega), if_neg (by omega)]
structure Q where
  n : Nat
  t : Tr
  heap : Heap
def Q.slots (q : Q) : List EV := (List.range q.n).map q.t.get
def Q.to (q : Q) : St := { tmps := q.slots, heap := q.heap }
def Q.slot (q : Q) (t : Nat) : EV := cond (Nat.blt t q.n) (q.t.get t) .undef
def Q.put (q : Q) (d : Option Nat) (v : EV) (H : Heap) : Q :=
  match d with
  | some d => ⟨q.n, q.t.set (d + 1) d v, H⟩
  | none => ⟨q.n, q.t, H⟩
def Tr.ofL : List EV → Nat → Tr → Tr
  | [], _, t => t
  | v :: l, i, t => match v with
    | .undef => Tr.ofL l (Nat.succ i) t
    | v => Tr.ofL l (Nat.succ i) (t.set (i + 1) i v)
def Q.of (l : List EV) (H : Heap) : Q := ⟨l.length, Tr.ofL l 0 .nil, H⟩
def Q.opd (E : Env) (q : Q) : Operand → EV
  | .tmp t => q.slot t
  | .const v => constV v
  | .global g => match E.gl g with
    | some v => .rref v
    | none => .undef
  | .func f => .func f []
theorem Q.slots_get (q : Q) (i : Nat) : q.slots[i]? = if i < q.n then some (q.t.get i) else none := by
  unfold Q.slots
  rw [List.getElem?_map]
  by_cases h : i < q.n
  · rw [if_pos h, List.getElem?_range h]; rfl
  · rw [if_neg h, List.getElem?_eq_none (by simp; omega)]; rfl
theorem Q.slot_to (q : Q) (t : Nat) : q.to.slot t = q.slot t := by
  show (q.slots[t]?).getD .undef = _
  rw [Q.slots_get]
  unfold Q.slot
  cases hb : Nat.blt t q.n with
  | true => rw [if_pos (show t < q.n from Nat.le_of_ble_eq_true hb)]; rfl
  | false =>
    rw [if_neg]
    · rfl
    · intro h
      have : Nat.blt t q.n = true := Nat.ble_eq_true_of_le (show t + 1 ≤ q.n by omega)
      rw [hb] at this; cases this
theorem Q.put_to (q : Q) (d : Option Nat) (v : EV) (H : Heap) : (q.put d v H).to = q.to.put d v H := by
  cases d with
  | none => rfl
  | some d =>
    show ({ tmps := (Q.mk q.n (q.t.set (d + 1) d v) H).slots, heap := H } : St) = { tmps := q.slots.set d v, heap := H }
    congr 1
    apply List.ext_getElem?
    intro j
    rw [Q.slots_get, List.getElem?_set]
    show (if j < q.n then some ((q.t.set (d + 1) d v).get j) else none) = _
    rw [Tr.get_set _ _ _ _ _ (Nat.lt_succ_self d), Q.slots_get]
    have hl : q.slots.length = q.n := by simp [Q.slots]
    by_cases hd : d = j
    · subst hd
      rw [if_pos rfl, if_pos rfl, hl]
    · rw [if_neg hd, if_neg (show ¬ j = d from fun h => hd h.symm)]
theorem Tr.ofL_get : ∀ (l : List EV) (i : Nat) (t : Tr) (j : Nat), (∀ k, i ≤ k → t.get k = .undef) → (Tr.ofL l i t).get j = if j < i then t.get j else (l[j - i]?).getD .undef
  | [], i, t, j, h => by
    simp only [Tr.ofL]
    split
    · rfl
    · rw [h j (by omega)]; rfl
  | v :: l, i, t, j, h => by
    have key : ∀ t' : Tr, (∀ k, t'.get k = if k = i then v else t.get k) → (Tr.ofL l (i + 1) t').get j = if j < i then t.get j else ((v :: l)[j - i]?).getD .undef := by
      intro t' ht
      rw [Tr.ofL_get l (i + 1) t' j fun k hk => by rw [ht, if_neg (by omega)]; exact h k (by omega)]
      by_cases h1 : j < i
      · rw [if_pos h1, if_pos (by omega), ht, if_neg (by omega)]
      · rw [if_neg h1]
        by_cases h2 : j = i
        · subst h2; rw [if_pos (by omega), ht, if_pos rfl, Nat.sub_self]; rfl
        · rw [if_neg (by omega)]
          obtain ⟨m, hm⟩ : ∃ m, j - i = m + 1 := ⟨j - i - 1, by omega⟩
          rw [hm, show j - (i + 1) = m from by omega]; rfl
    simp only [Tr.ofL]
    split
    · exact key t fun k => by
        split
        · subst k; exact h i (Nat.le_refl _)
        · rfl
    · exact key _ fun k => Tr.get_set _ _ _ _ _ (Nat.lt_succ_self i)
theorem Q.of_to (l : List EV) (H : Heap) : (Q.of l H).to = { tmps := l, heap := H } := by
  show ({ tmps := (Q.of l H).slots, heap := H } : St) = _
  congr 1
  apply List.ext_getElem?
  intro j
  rw [Q.slots_get]
  show (if j < l.length then some ((Tr.ofL l 0 .nil).get j) else none) = _
  rw [Tr.ofL_get l 0 .nil j fun _ _ => rfl, if_neg (Nat.not_lt_zero j), Nat.sub_zero]
  split
  · rename_i hj; rw [List.getElem?_eq_getElem hj]; rfl
  · rename_i hj; rw [List.getElem?_eq_none (by omega)]
theorem Q.opd_to (E : Env) (q : Q) : St.opd E q.to = Q.opd E q := by
  funext x
  cases x with
  | tmp t => exact Q.slot_to q t
  | const v => rfl
  | global g => rfl
  | func f => rfl
noncomputable abbrev gz (c : Bool) (p : Prop) : Prop := @Bool.rec (fun _ => Prop) False p c
noncomputable abbrev cz (c : Bool) (p q : Prop) : Prop := @Bool.rec (fun _ => Prop) q p c
theorem gz_eq (c : Bool) (p : Prop) : gz c p = gd c p := by cases c <;> rfl
theorem cz_eq (c : Bool) (p q : Prop) : cz c p q = cond c p q := by cases c <;> rfl
noncomputable def intBinQ (op : BinOp) (k : IntKind) (a b : Int) (K : EV → Prop) : Prop :=
  match op with
  | .quo => gz (!eqI b 0) (K (.int k (quoI k a b)))
  | .rem => gz (!eqI b 0) (K (.int k (remI k a b)))
  | op => intBin op k a b K
theorem intBinQ_eq (op : BinOp) (k : IntKind) (a b : Int) (K : EV → Prop) : intBinQ op k a b K = intBin op k a b K := by
  cases op <;> first | rfl | exact gz_eq _ _
noncomputable def evBinQ (E : Env) (op : BinOp) (t : TypeId) (x y : EV) (K : EV → Prop) : Prop :=
  match x, y with
  | .int k a, .int k' b =>
    match op with
    | .shl => gz (!ltI b 0) (K (.int k (shlI k a b)))
    | .shr => gz (!ltI b 0) (K (.int k (shrI k a b)))
    | op => cz (decide (k = k')) (intBinQ op k a b K) False
  | .str a, .str b => strBin op a b K
  | x, y => match op with
    | .eql => match eqT E 100 t x y with
      | some b => K (.bool b)
      | none => False
    | .neq => match eqT E 100 t x y with
      | some b => K (.bool (!b))
      | none => False
    | _ => False
theorem evBinQ_eq (E : Env) (op : BinOp) (t : TypeId) (x y : EV) (K : EV → Prop) : evBinQ E op t x y K = evBin E op t x y K := by
  unfold evBinQ evBin; simp only [cz_eq, gz_eq, intBinQ_eq]; rfl
noncomputable def evCmpQ (E : Env) (op : BinOp) (t : TypeId) (o : Operand) (x y : EV) (H : Heap) (K : EV → Prop) : Prop :=
  cz (Nat.beq (nilK o) 1) (evPN E op t x H K) (cz (Nat.beq (nilK o) 2) (evIN E op t x K) (evBinQ E op t x y K))
theorem evCmpQ_eq (E : Env) (op : BinOp) (t : TypeId) (o : Operand) (x y : EV) (H : Heap) (K : EV → Prop) : evCmpQ E op t o x y H K = evCmp E op t o x y H K := by
  unfold evCmpQ evCmp; rw [cz_eq, cz_eq, evBinQ_eq]
noncomputable def evLoadQ (E : Env) (t : TypeId) (v : EV) (H : Heap) (K : EV → Prop) : Prop :=
  match v with
  | .rref u => gz (conf E t u) (K u)
  | .ptr b p => match H[b]? with
    | some (some c) => match EV.get p c with
      | some u => gz (conf E t u) (K u)
      | none => False
    | _ => False
  | _ => False
noncomputable def evConvQ (E : Env) (src dst : TypeId) (x : EV) (H : Heap) (K : EV → Prop) : Prop :=
  match E.ty src, E.ty dst with
  | some si, some di => match di.td, x with
    | .int k, .int _ n => K (.int k (cvI k n))
    | .str, .str s => K (.str s)
    | .str, x => match si.td with
      | .slice e => cz (isIntTy E e .u8) (match evWin H x with
        | some (.u8, n, g) => K (.str (bytesOf n g))
        | _ => match x with
          | .nilSlice => K (.str [])
          | _ => False) False
      | _ => False
    | _, _ => False
  | _, _ => False
noncomputable def evBuildSliceQ (E : Env) (t : TypeId) (n : Nat) (ps : List (Nat × EV)) (H : Heap) (K : EV → Heap → Prop) : Prop :=
  match E.ty t with
  | some ti => match ti.td with
    | .slice e => match E.ty e with
      | some ei => gz (Nat.ble (n * ei.size) 16777216) (match ei.zero with
        | .int k z => gz (Nat.beq ei.size 1) (match evParts (fun i => some (i * 1, 1)) ps (.arr k n (fun _ => z)) with
          | some v => K (.slice H.length 0 n (some n) 1) (H ++ [some v])
          | none => False)
        | z => gz (Nat.blt 0 ei.size && Nat.beq z.shape.size ei.size) (match evParts (fun i => some (i * ei.size, ei.size)) ps (.agg (List.replicate n z)) with
          | some v => K (.slice H.length 0 n (some n) ei.size) (H ++ [some v])
          | none => False))
      | none => False
    | _ => False
  | none => False
noncomputable def evCallLQ (en : Entry) (args : List EV) (dead idx : List Nat) (H : Heap) (K : EV → Heap → Prop) : Prop :=
  gz (dfdL args && (EV.inIL idx args && (inIH idx H idx && (allLt H.length idx && noneIn idx dead))))
    (en.spec (EV.renL (pos idx) args) (subH H idx) fun v H' =>
      gz (v.inI (upTo H'.length) && (inIH (upTo H'.length) H' (upTo H'.length) && Nat.ble idx.length H'.length))
        (K (v.ren (backN idx H.length)) (killN (cond (v.noRS && noRSH H') [] dead) (putB idx (renH (backN idx H.length) H') H))))
noncomputable def evCallFQ (E : Env) (f : FuncId) (args : List EV) (H : Heap) (K : EV → Heap → Prop) : Prop :=
  match E.fn f with
  | some en => cz en.lend
      (cz (newRo en.ro) (gz (EV.freeL args) (evCallLQ en args [] [] H fun v H2 => gz (oneNew H H2) (K v H2))) (cz (keepRo en.ro) (evCallLQ en args [] (canI 0 args H) H fun v H2 => keepH H2 H ∧ gz (v.inI []) (K v H)) (cz (setRo en.ro) (match setArg args H with
        | some b => evCallLQ en args [] [b] H fun v H2 => gz (v.inI [] && setNew H H2 b) (K v H2)
        | none => False) (evCallLQ en (roArgs H en.ro args) (roDead en.ro args) (canI 0 (roArgs H en.ro args) H) H K))))
      (gz (EV.freeL (roArgs H en.ro args)) (en.spec (roArgs H en.ro args) [] fun v H' =>
        gz (Nat.beq H'.length 0 && v.inI []) (cz v.noRS (K v H) (K v (killArgs args H)))))
  | none => False
noncomputable def evCallQ (E : Env) (f : EV) (args : List EV) (H : Heap) (K : EV → Heap → Prop) : Prop :=
  match f with
  | .func f cap => evCallFQ E f (args ++ cap) H K
  | .bnd f l => evCallFQ E f (l ++ args) H K
  | _ => False
noncomputable def evVQ (E : Env) (o : Op) (r : Operand → EV) (H : Heap) (K : EV → Prop) : Prop :=
  match o with
  | .move x => K (r x)
  | .assign x => K (r x)
  | .pick c a b => match r c with
    | .bool t => br t (K (r a)) (K (r b))
    | _ => False
  | .build t ps => gz (dfdL (ps.toList.map fun p => r p.2)) (evBuild E t (ps.toList.map fun p => (p.1, r p.2)) K)
  | .load t a => evLoadQ E t (r a) H K
  | .binOp op t x y _ => gz ((r x).dfd && (r y).dfd) (evCmpQ E op t y (r x) (r y) H fun v => spl (splO E op) v K)
  | .unOp op _ x => evUn op (r x) K
  | .convert src dst x => gz (r x).dfd (evConvQ E src dst (r x) H K)
  | .fieldAddr t x f => gz (r x).dfd (evFieldAddr E t (r x) f H K)
  | .field t x f => gz (r x).dfd (evField E t (r x) f K)
  | .indexAddr t x i => gz ((r x).dfd && (r i).dfd) (evIndexAddr E t (r x) (r i) H K)
  | .index t x i => gz ((r x).dfd && (r i).dfd) (evIndex E t (r x) (r i) K)
  | .extract x i => evExtract (r x) i K
  | .makeFunc (.func f) ⟨[]⟩ cs => gz (dfdL (cs.toList.map r)) (K (.func f (cs.toList.map r)))
  | .slice t x lo hi mx => gz ((r x).dfd && (dfdO (lo.map r) && (dfdO (hi.map r) && dfdO (mx.map r)))) (evSliceA E t (r x) (lo.map r) (hi.map r) (mx.map r) H K)
  | .call { callee := .builtin .len, args := ⟨[x]⟩, argTypes := ⟨[t]⟩ } => gz (r x).dfd (evLen E t (r x) K)
  | .call { callee := .builtin .max, args := xs, argTypes := _ } => gz (dfdL (xs.toList.map r)) (evMM maxI (xs.toList.map r) K)
  | .call { callee := .builtin .min, args := xs, argTypes := _ } => gz (dfdL (xs.toList.map r)) (evMM minI (xs.toList.map r) K)
  | .nilCheck x => gz (r x).dfd (evNil (r x) H K)
  | .makeFunc (.func f) fs ⟨[]⟩ => gz (dfdL (fs.toList.map r)) (K (.bnd f (fs.toList.map r)))
  | _ => False
noncomputable def evOpQ (E : Env) (o : Op) (r : Operand → EV) (H : Heap) (K : EV → Heap → Prop) : Prop :=
  match o with
  | .alloc t => match E.ty t with
    | some ti => evNew H ti.zero K
    | none => False
  | .box t x => match r x with
    | .undef => False
    | v => evNew H v K
  | .buildSlice t n ps => gz (dfdL (ps.toList.map fun p => r p.2)) (evBuildSliceQ E t n (ps.toList.map fun p => (p.1, r p.2)) H K)
  | .store t a x => evStore E t (r a) (r x) H (fun H2 => K .undef H2)
  | .makeSlice t ln cp => gz ((r ln).dfd && (r cp).dfd) (evMakeSliceA E t (r ln) (r cp) H K)
  | .call { callee := .value f, args := xs, argTypes := _ } => evCallQ E (r f) (xs.toList.map r) H K
  | .call { callee := .builtin .append, args := ⟨[x, y]⟩, argTypes := ⟨[t, u]⟩ } => gz ((r x).dfd && (r y).dfd) (evAppendA E t u (r x) (r y) H K)
  | .call { callee := .builtin .copy, args := ⟨[x, y]⟩, argTypes := ⟨[t, _]⟩ } => gz ((r x).dfd && (r y).dfd) (evCopy E t (r x) (r y) H K)
  | o => evVQ E o r H (fun v => K v H)
theorem evConvQ_eq (E : Env) (src dst : TypeId) (x : EV) (H : Heap) (K : EV → Prop) : evConvQ E src dst x H K = evConv E src dst x H K := by
  unfold evConvQ evConv; simp only [cz_eq]; rfl
theorem evBuildSliceQ_eq (E : Env) (t : TypeId) (n : Nat) (ps : List (Nat × EV)) (H : Heap) (K : EV → Heap → Prop) : evBuildSliceQ E t n ps H K = evBuildSlice E t n ps H K := by
  unfold evBuildSliceQ evBuildSlice; simp only [gz_eq]; rfl
theorem evLoadQ_eq (E : Env) (t : TypeId) (v : EV) (H : Heap) (K : EV → Prop) : evLoadQ E t v H K = evLoad E t v H K := by
  unfold evLoadQ evLoad; simp only [gz_eq]; rfl
theorem evCallQ_eq (E : Env) (f : EV) (args : List EV) (H : Heap) (K : EV → Heap → Prop) : evCallQ E f args H K = evCall E f args H K := by
  have h : ∀ f args, evCallFQ E f args H K = evCallF E f args H K := by
    intro f args
    unfold evCallFQ evCallF evCallLQ evCallL; simp only [gz_eq, cz_eq]; rfl
  unfold evCallQ evCall; simp only [h]; rfl
theorem evVQ_eq (E : Env) (o : Op) (s : St) (K : EV → Prop) : evVQ E o (St.opd E s) s.heap K = evV E o s K := by
  unfold evVQ evV; simp only [gz_eq, evCmpQ_eq, evLoadQ_eq, evConvQ_eq]; rfl
theorem evOpQ_eq (E : Env) (o : Op) (s : St) (K : EV → Heap → Prop) : evOpQ E o (St.opd E s) s.heap K = evOp E o s K := by
  unfold evOpQ evOp; simp only [gz_eq, evCallQ_eq, evVQ_eq, evBuildSliceQ_eq]; rfl
noncomputable def evOneQ (E : Env) (ops : List Oper) (o : Oper) (q : Q) (K : Q → Prop) : Prop :=
  match o.guard with
  | none => evOpQ E o.op (q.opd E) q.heap fun v H => v.top2 fun v => K (q.put o.dst v H)
  | some (j, want) => match ops[j]? with
    | some oj => match oj.dst with
      | some d => match q.slot d with
        | .bool b => br b
            (cond (beqB true want) (evOpQ E o.op ((q.put (some d) (.bool true) q.heap).opd E) q.heap fun v H => v.top2 fun v => K ((q.put (some d) (.bool true) q.heap).put o.dst v H)) (K ((q.put (some d) (.bool true) q.heap).put o.dst (.tuple []) q.heap)))
            (cond (beqB false want) (evOpQ E o.op ((q.put (some d) (.bool false) q.heap).opd E) q.heap fun v H => v.top2 fun v => K ((q.put (some d) (.bool false) q.heap).put o.dst v H)) (K ((q.put (some d) (.bool false) q.heap).put o.dst (.tuple []) q.heap)))
        | .tuple [] => K (q.put o.dst (.tuple []) q.heap)
        | _ => False
      | none => False
    | none => False
noncomputable def evOpsQ (E : Env) (ops : List Oper) : List Oper → Q → (Q → Prop) → Prop
  | [], q, K => K q
  | o :: r, q, K => evOneQ E ops o q fun q' => evOpsQ E ops r q' K
def chkBQ (E : Env) (ops : List Oper) (q : Q) : Bool := chkFrom E (fun x y => apartV (q.opd E x) (q.opd E y)) ops 0 ops
noncomputable def evDrawQ (E : Env) (ops : List Oper) (q : Q) (K : Q → Prop) : Prop :=
  gz (commB E ops) (cz (chkFrom E (fun _ _ => false) ops 0 ops) (evOpsQ E ops ops q K) (evOpsQ E ops ops q fun q' => gz (chkBQ E ops q') (K q')))
theorem evOneQ_eq (E : Env) (ops : List Oper) (o : Oper) (q : Q) (K : St → Prop) : (evOneQ E ops o q fun q => K q.to) = evOne E ops o q.to K := by
  have run : ∀ q1 : Q, q1.heap = q.heap → (evOpQ E o.op (q1.opd E) q.heap fun v H => v.top2 fun v => K (q1.put o.dst v H).to) = evOp E o.op q1.to fun v H => K (q1.to.put o.dst v H) := by
    intro q1 hh
    rw [← evOpQ_eq, Q.opd_to, show q1.to.heap = q.heap from hh]
    simp only [EV.top2_eq, Q.put_to]
  unfold evOneQ evOne
  cases o.guard with
  | none => exact run q rfl
  | some p =>
    obtain ⟨j, want⟩ := p
    simp only
    cases ops[j]? with
    | none => rfl
    | some oj =>
      simp only
      cases oj.dst with
      | none => rfl
      | some d =>
        simp only [Q.slot_to]
        have r1 := run (q.put (some d) (.bool true) q.heap) rfl
        have r2 := run (q.put (some d) (.bool false) q.heap) rfl
        rw [Q.put_to] at r1 r2
        cases q.slot d <;> try rfl
        · rename_i b
          simp only
          rw [r1, r2, Q.put_to, Q.put_to, Q.put_to, Q.put_to]; rfl
        · rename_i l
          cases l with
          | nil => simp only; rw [Q.put_to]; rfl
          | cons _ _ => rfl
theorem evOpsQ_eq (E : Env) (ops : List Oper) : ∀ (r : List Oper) (q : Q) (K : St → Prop), (evOpsQ E ops r q fun q => K q.to) = evOps E ops r q.to K
  | [], q, K => rfl
  | o :: r, q, K => by
    simp only [evOpsQ, evOps]
    rw [← evOneQ_eq]
    simp only [evOpsQ_eq E ops r]
theorem evDrawQ_eq (E : Env) (ops : List Oper) (q : Q) (K : St → Prop) : (evDrawQ E ops q fun q => K q.to) = evDraw E ops q.to K := by
  unfold evDrawQ evDraw
  rw [evOpsQ_eq E ops ops q K, ← evOpsQ_eq E ops ops q fun s' => gd (chkB E ops s') (K s')]
  have : ∀ q' : Q, chkBQ E ops q' = chkB E ops q'.to := fun q' => by unfold chkBQ chkB; rw [Q.opd_to]
  simp only [this, gz_eq, cz_eq]; rfl
noncomputable def loopStepQ (step : Q → (Ex → Q → Prop) → Prop) (head : Nat) (lv : LV) (m N : Nat) (R : List EV → Heap → Prop) (vs : List EV) (H : Heap) (K : Ex → List EV → Heap → Prop) : Prop :=
  step (Q.of (expandM head N 0 vs) H) fun ex q => match ex with
    | .normal => outK lv.fg head m N q.to R
    | .exit id => outK lv.fg (lookL lv.ex id) m N q.to (K (.exit id))
    | .ret => outK lv.fg lv.rt m N q.to (K .ret)
noncomputable def loopVQ (step : Q → (Ex → Q → Prop) → Prop) (head : Nat) (lv : LV) (m N : Nat) (K : Ex → List EV → Heap → Prop) : Nat → List EV → Heap → Prop
  | 0, _, _ => False
  | n + 1, vs, H => loopStepQ step head lv m N (loopVQ step head lv m N K n) vs H K
noncomputable def loopUQ (step : Q → (Ex → Q → Prop) → Prop) (head : Nat) (lv : LV) (m N : Nat) (K : Ex → List EV → Heap → Prop) : Nat → List EV → Heap → Prop
  | 0, _, _ => False
  | n + 1, vs, H => loopStepQ step head lv m N (loopUQ step head lv m N K n) vs H K
def Q.force (q : Q) (k : Q → Prop) : Prop := topH q.heap fun h => k ⟨q.n, q.t, h⟩
theorem Q.force_eq (q : Q) (k : Q → Prop) : q.force k = k q := by simp only [Q.force, topH_eq]
noncomputable def evCodeQ (E : Env) : Code → LV → Q → (Ex → Q → Prop) → Prop
  | .skip, _, q, K => K .normal q
  | .region _ ops draw, _, q, K => q.force fun q => cond draw (evDrawQ E ops.toList q (K .normal)) (evOpsQ E ops.toList ops.toList q (K .normal))
  | .seq a b, lv, q, K => evCodeQ E a { lv with nx := live b lv } q fun ex q' => match ex with
    | .normal => evCodeQ E b lv q' K
    | .exit id => K (.exit id) q'
    | .ret => K .ret q'
  | .cond c a b, lv, q, K => match (q.opd E) c with
    | .bool t => br t (evCodeQ E a lv q K) (evCodeQ E b lv q K)
    | _ => False
  | .block id c, lv, q, K => evCodeQ E c { lv with ex := (id, lv.nx) :: lv.ex } q fun ex q' => match ex with
    | .normal => K .normal q'
    | .exit id' => cond (Nat.beq id' id) (K .normal q') (K (.exit id') q')
    | .ret => K .ret q'
  | .loop c, lv, q, K => outK lv.fg (live (.loop c) lv) lv.nl q.n q.to fun vs H => match E.un (firstRegion c) with
    | 0 => match E.lp (firstRegion c) with
      | some L => gd (lv.beq L.lv && (Nat.beq lv.nl L.m && Nat.beq q.n L.N)) (L.spec vs H fun ex vs H => K ex (Q.of (expandM (maskOf lv ex) q.n 0 vs) H))
      | none => ∃ n, loopVQ (evCodeQ E c { lv with nx := live (.loop c) lv }) (live (.loop c) lv) lv lv.nl q.n (fun ex vs H => K ex (Q.of (expandM (maskOf lv ex) q.n 0 vs) H)) n vs H
    | n + 1 => loopUQ (evCodeQ E c { lv with nx := live (.loop c) lv }) (live (.loop c) lv) lv lv.nl q.n (fun ex vs H => K ex (Q.of (expandM (maskOf lv ex) q.n 0 vs) H)) (n + 1) vs H
  | .exit id, _, q, K => K (.exit id) q
  | .ret, _, q, K => K .ret q
  | .scope c, lv, q, K => evCodeQ E c lv q K
  | _, _, _, _ => False
noncomputable def evResultsQ (E : Env) : List ResultVar → Q → (List EV → Prop) → Prop
  | [], q, K => K []
  | .tmp t :: rs, q, K => gd (q.slot t).dfd (evResultsQ E rs q fun vs => K (q.slot t :: vs))
  | .cell a t :: rs, q, K => gd (q.slot a).dfd (evLoad E t (q.slot a) q.heap fun v => evResultsQ E rs q fun vs => K (v :: vs))
noncomputable def evFnQ (E : Env) (fn : Func) (own : Bool) (args : List EV) (H : Heap) (K : EV → Heap → Prop) : Prop :=
  match fn.body with
  | some c => evCodeQ E c { nx := rtMask fn.results.toList, ex := [], rt := rtMask fn.results.toList, nl := H.length, fg := E.fg } (Q.of (args ++ List.replicate (fn.ntmps - args.length) .undef) H) fun ex q => match ex with
    | .exit _ => False
    | _ => evResultsQ E fn.results.toList q fun vs => retK H.length (cond own [] (fn.resultTypes.toList.map (roTy E))) vs q.heap K
  | none => False
theorem Q.len (q : Q) : q.to.tmps.length = q.n := by show q.slots.length = _; simp [Q.slots]
theorem loopStepQ_eq {stepQ : Q → (Ex → Q → Prop) → Prop} {step : St → (Ex → St → Prop) → Prop} (h : ∀ q K, (stepQ q fun ex q => K ex q.to) = step q.to K) (head : Nat) (lv : LV) (m N : Nat) (R : List EV → Heap → Prop) (vs : List EV) (H : Heap) (K : Ex → List EV → Heap → Prop) :
    loopStepQ stepQ head lv m N R vs H K = loopStep step head lv m N R vs H K := by
  unfold loopStepQ loopStep
  rw [← Q.of_to, ← h]
  all_goals congr 1
theorem loopVQ_eq {stepQ : Q → (Ex → Q → Prop) → Prop} {step : St → (Ex → St → Prop) → Prop} (h : ∀ q K, (stepQ q fun ex q => K ex q.to) = step q.to K) (head : Nat) (lv : LV) (m N : Nat) (K : Ex → List EV → Heap → Prop) :
    ∀ n, loopVQ stepQ head lv m N K n = loopV step head lv m N K n
  | 0 => by funext vs H; rfl
  | n + 1 => by funext vs H; simp only [loopVQ, loopV]; rw [loopVQ_eq h, loopStepQ_eq h]
theorem loopUQ_eq {stepQ : Q → (Ex → Q → Prop) → Prop} {step : St → (Ex → St → Prop) → Prop} (h : ∀ q K, (stepQ q fun ex q => K ex q.to) = step q.to K) (head : Nat) (lv : LV) (m N : Nat) (K : Ex → List EV → Heap → Prop) :
    ∀ n, loopUQ stepQ head lv m N K n = loopU step head lv m N K n
  | 0 => by funext vs H; rfl
  | n + 1 => by funext vs H; simp only [loopUQ, loopU]; rw [loopUQ_eq h, loopStepQ_eq h]
theorem evCodeQ_eq (E : Env) : ∀ (c : Code) (lv : LV) (q : Q) (K : Ex → St → Prop), (evCodeQ E c lv q fun ex q => K ex q.to) = evCode E c lv q.to K := by
  intro c
  induction c with
  | skip => intro lv q K; rfl
  | region id ops draw =>
    intro lv q K
    simp only [evCodeQ, evCode, Q.force_eq]
    rw [evDrawQ_eq, evOpsQ_eq]
  | seq a b iha ihb =>
    intro lv q K
    simp only [evCodeQ, evCode]
    rw [← iha]
    congr 1
    funext ex q'
    cases ex with
    | normal => exact ihb lv q' K
    | exit id => rfl
    | ret => rfl
  | cond c a b iha ihb =>
    intro lv q K
    simp only [evCodeQ, evCode, Q.opd_to]
    cases q.opd E c <;> try rfl
    simp only
    rw [iha, ihb]
  | block id c ih =>
    intro lv q K
    simp only [evCodeQ, evCode]
    rw [← ih]
    all_goals congr 1
  | loop c ih =>
    intro lv q K
    simp only [evCodeQ, evCode, Q.len]
    congr 1
    funext vs H
    have e1 : ∀ ex vs H, K ex (Q.of (expandM (maskOf lv ex) q.n 0 vs) H).to = K ex { tmps := expandM (maskOf lv ex) q.n 0 vs, heap := H } := fun ex vs H => by rw [Q.of_to]
    simp only [e1, loopVQ_eq (ih _), loopUQ_eq (ih _)]
    all_goals (cases E.un (firstRegion c) <;> first | rfl | (cases E.lp (firstRegion c) <;> rfl))
  | exit id => intro lv q K; rfl
  | ret => intro lv q K; rfl
  | scope c ih => intro lv q K; simp only [evCodeQ, evCode]; exact ih lv q K
  | rangeFunc f ps x y _ _ => intro lv q K; rfl
  | label l => intro lv q K; rfl
  | goto l => intro lv q K; rfl
  | refuse l => intro lv q K; rfl
theorem evResultsQ_eq (E : Env) : ∀ (rs : List ResultVar) (q : Q) (K : List EV → Prop), evResultsQ E rs q K = evResults E rs q.to K
  | [], q, K => rfl
  | .tmp t :: rs, q, K => by simp only [evResultsQ, evResults, Q.slot_to, evResultsQ_eq E rs]
  | .cell a t :: rs, q, K => by simp only [evResultsQ, evResults, Q.slot_to, evResultsQ_eq E rs]; rfl
theorem evFnQ_eq (E : Env) (fn : Func) (own : Bool) (args : List EV) (H : Heap) (K : EV → Heap → Prop) : evFnQ E fn own args H K = evFn E fn own args H K := by
  unfold evFnQ evFn
  cases fn.body with
  | none => rfl
  | some c =>
    simp only
    rw [← Q.of_to, ← evCodeQ_eq]
    congr 1
    funext ex q
    cases ex <;> simp only [evResultsQ_eq] <;> rfl
theorem stepQ_eq (E : Env) (c : Code) (lv' : LV) (head : Nat) (lv : LV) (m N : Nat) (R : List EV → Heap → Prop) (vs : List EV) (H : Heap) (K : Ex → List EV → Heap → Prop) :
    loopStepQ (evCodeQ E c lv') head lv m N R vs H K = loopStep (evCode E c lv') head lv m N R vs H K := loopStepQ_eq (fun q K => evCodeQ_eq E c lv' q K) head lv m N R vs H K
end Go.Ev

/- Patterns as data: what an entry asks of its arguments, where they are many. -/
set_option linter.unusedVariables false
set_option linter.unusedSimpArgs false
namespace Go.Ev
open Go
def kb : IntKind → IntKind → Bool
  | .i8, .i8 => true
  | .i16, .i16 => true
  | .i32, .i32 => true
  | .i64, .i64 => true
  | .u8, .u8 => true
  | .u16, .u16 => true
  | .u32, .u32 => true
  | .u64, .u64 => true
  | _, _ => false
end Go.Ev

/- Whole numbers of a kind, as the evaluator's operations have them. -/
set_option linter.unusedVariables false
set_option linter.unusedSimpArgs false
namespace Go.Ev
open Go
theorem wrap_u64 (n : Int) : IntKind.wrap .u64 n = n % 18446744073709551616 := by simp [IntKind.wrap, IntKind.bits, IntKind.signed]
theorem wrap_i64 (n : Int) : IntKind.wrap .i64 n = if 9223372036854775808 ≤ n % 18446744073709551616 then n % 18446744073709551616 - 18446744073709551616 else n % 18446744073709551616 := by
  simp [IntKind.wrap, IntKind.bits, IntKind.signed]
theorem u64_id {n : Int} (h : 0 ≤ n) (h2 : n < 18446744073709551616) : IntKind.wrap .u64 n = n := by rw [wrap_u64]; omega
theorem i64_id {n : Int} (h : -9223372036854775808 ≤ n) (h2 : n < 9223372036854775808) : IntKind.wrap .i64 n = n := by rw [wrap_i64]; split <;> omega
theorem cv_u64 {n : Int} (h : 0 ≤ n) (h2 : n < 18446744073709551616) : cvI .u64 n = n := u64_id h h2
theorem cv_i64 {n : Int} (h : -9223372036854775808 ≤ n) (h2 : n < 9223372036854775808) : cvI .i64 n = n := i64_id h h2
theorem add_i64 {a b : Int} (h : -9223372036854775808 ≤ a + b) (h2 : a + b < 9223372036854775808) : addI .i64 a b = a + b := i64_id h h2
theorem sub_i64 {a b : Int} (h : -9223372036854775808 ≤ a - b) (h2 : a - b < 9223372036854775808) : subI .i64 a b = a - b := i64_id h h2
theorem mul_i64 {a b : Int} (h : -9223372036854775808 ≤ a * b) (h2 : a * b < 9223372036854775808) : mulI .i64 a b = a * b := i64_id h h2
theorem range_u64 {n : Int} (h : (Lit.int .u64 n).wf = true) : 0 ≤ n ∧ n < 18446744073709551616 := by
  have := (Lit.wf_int_iff _ _).1 h
  simp [IntKind.min, IntKind.max, IntKind.bits, IntKind.signed] at this
  omega
theorem range_u8 {n : Int} (h : (Lit.int .u8 n).wf = true) : 0 ≤ n ∧ n < 256 := by
  have := (Lit.wf_int_iff _ _).1 h
  simp [IntKind.min, IntKind.max, IntKind.bits, IntKind.signed] at this
  omega
theorem br_t {c : Bool} {p q : Prop} (h : c = true) : br c p q = p := by subst h; rfl
theorem br_f {c : Bool} {p q : Prop} (h : c = false) : br c p q = q := by subst h; rfl
theorem gd_t {c : Bool} {p : Prop} (h : c = true) : gd c p = p := by subst h; rfl
theorem lt_t {a b : Int} (h : a < b) : ltI a b = true := by simp [ltI, h]
theorem lt_f {a b : Int} (h : b ≤ a) : ltI a b = false := by simp [ltI]; omega
theorem le_t {a b : Int} (h : a ≤ b) : leI a b = true := by simp [leI, h]
theorem le_f {a b : Int} (h : b < a) : leI a b = false := by simp [leI]; omega
theorem eq_t {a b : Int} (h : a = b) : eqI a b = true := by simp [eqI, h]
theorem eq_f {a b : Int} (h : a ≠ b) : eqI a b = false := by simp [eqI, h]
theorem and_nat (a b : Nat) (ha : a < 18446744073709551616) (hb : b < 18446744073709551616) : andI .u64 a b = ((a &&& b : Nat) : Int) := by
  have h1 : (BitVec.ofInt 64 (a : Int)) = BitVec.ofNat 64 a := by simp
  have h2 : (BitVec.ofInt 64 (b : Int)) = BitVec.ofNat 64 b := by simp
  have h3 : a &&& b < 18446744073709551616 := Nat.lt_of_le_of_lt Nat.and_le_left ha
  show IntKind.wrap .u64 (((BitVec.ofInt 64 (a : Int) &&& BitVec.ofInt 64 (b : Int) : BitVec 64).toNat : Nat) : Int) = _
  rw [h1, h2]
  rw [BitVec.toNat_and, BitVec.toNat_ofNat, BitVec.toNat_ofNat, Nat.mod_eq_of_lt ha, Nat.mod_eq_of_lt hb]
  exact u64_id (by omega) (by omega)
theorem or_nat (a b : Nat) (ha : a < 18446744073709551616) (hb : b < 18446744073709551616) : orI .u64 a b = ((a ||| b : Nat) : Int) := by
  have h1 : (BitVec.ofInt 64 (a : Int)) = BitVec.ofNat 64 a := by simp
  have h2 : (BitVec.ofInt 64 (b : Int)) = BitVec.ofNat 64 b := by simp
  have h3 : a ||| b < 18446744073709551616 := Nat.or_lt_two_pow (n := 64) ha hb
  show IntKind.wrap .u64 (((BitVec.ofInt 64 (a : Int) ||| BitVec.ofInt 64 (b : Int) : BitVec 64).toNat : Nat) : Int) = _
  rw [h1, h2]
  rw [BitVec.toNat_or, BitVec.toNat_ofNat, BitVec.toNat_ofNat, Nat.mod_eq_of_lt ha, Nat.mod_eq_of_lt hb]
  exact u64_id (by omega) (by omega)
theorem xor_nat (a b : Nat) (ha : a < 18446744073709551616) (hb : b < 18446744073709551616) : xorI .u64 a b = ((a ^^^ b : Nat) : Int) := by
  have h1 : (BitVec.ofInt 64 (a : Int)) = BitVec.ofNat 64 a := by simp
  have h2 : (BitVec.ofInt 64 (b : Int)) = BitVec.ofNat 64 b := by simp
  have h3 : a ^^^ b < 18446744073709551616 := Nat.xor_lt_two_pow (n := 64) ha hb
  show IntKind.wrap .u64 (((BitVec.ofInt 64 (a : Int) ^^^ BitVec.ofInt 64 (b : Int) : BitVec 64).toNat : Nat) : Int) = _
  rw [h1, h2]
  rw [BitVec.toNat_xor, BitVec.toNat_ofNat, BitVec.toNat_ofNat, Nat.mod_eq_of_lt ha, Nat.mod_eq_of_lt hb]
  exact u64_id (by omega) (by omega)
theorem shr_nat (a i : Nat) (hi : i < 64) : shrI .u64 a i = ((a >>> i : Nat) : Int) := by
  have h1 : min (Int.toNat i) (IntKind.bits .u64) = i := by simp [IntKind.bits]; omega
  simp only [shrI, h1]
  rw [Nat.shiftRight_eq_div_pow, Int.natCast_ediv]
  rw [Int.fdiv_eq_ediv_of_nonneg _ (Int.le_of_lt (Int.pow_pos (by omega)))]
  simp
theorem shl_nat (a i : Nat) (hi : i < 64) : shlI .u64 a i = ((a <<< i % 18446744073709551616 : Nat) : Int) := by
  have h1 : min (Int.toNat i) (IntKind.bits .u64) = i := by simp [IntKind.bits]; omega
  simp only [shlI, h1]
  rw [wrap_u64, Nat.shiftLeft_eq]
  simp
theorem test_nat (a i : Nat) (ha : a < 18446744073709551616) (hi : i < 64) : eqI (andI .u64 (shrI .u64 a i) 1) 1 = a.testBit i := by
  have h2 : a >>> i < 18446744073709551616 := Nat.lt_of_le_of_lt (Nat.shiftRight_le a i) ha
  rw [shr_nat a i hi]
  have := and_nat (a >>> i) 1 h2 (by omega)
  rw [show (1 : Int) = ((1 : Nat) : Int) from rfl, this, Nat.testBit, Nat.and_comm]
  have h3 : 1 &&& a >>> i = (a >>> i) % 2 := by rw [Nat.and_comm]; exact Nat.and_one_is_mod _
  rw [h3]
  rcases Nat.mod_two_eq_zero_or_one (a >>> i) with h | h <;> rw [h] <;> rfl
end Go.Ev

/- The table of math/bits, as the evaluator has it. -/
set_option linter.unusedVariables false
set_option linter.unusedSimpArgs false
namespace Go.Ev.S
open Go Go.Ev
def tabL : List Int := [0, 1, 56, 2, 57, 49, 28, 3, 61, 58, 42, 50, 38, 29, 17, 4, 62, 47, 59, 36, 45, 43, 51, 22, 53, 39, 33, 30, 24, 18, 12, 5, 63, 55, 48, 27, 60, 41, 37, 16, 46, 35, 44, 21, 52, 32, 23, 11, 54, 26, 40, 15, 34, 20, 31, 10, 25, 14, 19, 9, 13, 8, 7, 6]
def tabD : Nat → Int := fun i => tabL.getD i 0
noncomputable def tab_deBruijn64tab : Nat → Int := Classical.choose (⟨tabD, rfl⟩ : ∃ f, f = tabD)
theorem tab_is : tab_deBruijn64tab = tabD := Classical.choose_spec (⟨tabD, rfl⟩ : ∃ f, f = tabD)
theorem tab_gen {P : Program} {W : World} {nm : String} {t e n fuel g : Nat} {k : IntKind} {cs : Array Value} {p : List MemPlace} {spare} {held} {base : Nat} {l : List (DataW Unit)} {zs : List Int} {T : Nat → Int} (hT : T = fun i => zs.getD i 0) (hn : zs.length = n)
    (hu : P.underlying t = some (.array n e)) (hc : P.cellsOf e = 1) (hct : P.cellsOf t = n) (hue : P.underlying e = some (.int k)) (hg : P.globalNamed nm = some g) (hv : W.var? P nm = some cs)
    (hl : l = zs.map fun n => .lit (.int k n)) (hd : DataW.trod (fun _ => ()) P W base spare held fuel t cs.toList = some (.agg l, p)) :
    Rel ⟨[], []⟩ W (.rref (.arr k n T)) (.pointer (some ⟨g, 0, none⟩)) ∧ ∀ k' n' f', EV.arr k n T = .arr k' n' f' → ∃ cs t fz, W.heap[g]? = some (.cells cs t fz) ∧ cs.size = n' := by
  subst hl
  have hcs := Go.Lib.cells_of_tab hu hue hc hct hd
  have hsz : g < W.heap.size ∧ ∃ t fz, W.heap[g]? = some (.cells cs t fz) := by
    unfold World.var? at hv
    simp only [hg, Option.bind_some] at hv
    cases h : W.heap[g]? with
    | none => rw [h] at hv; cases hv
    | some c =>
      refine ⟨(Array.getElem?_eq_some_iff.1 h).1, ?_⟩
      rw [h] at hv
      cases c with
      | cells cs0 t fz => simp only [Option.some.injEq] at hv; subst hv; exact ⟨t, fz, rfl⟩
      | _ => simp at hv
  have hint : ints k n T = cs.toList := by
    rw [hcs]
    apply List.ext_getElem?
    intro i
    by_cases hi : i < n
    · rw [ints_get _ _ _ _ hi, List.getElem?_map, List.getElem?_eq_getElem (by omega), hT]
      simp [List.getD, List.getElem?_eq_getElem (show i < zs.length by omega)]
    · rw [List.getElem?_eq_none (by rw [ints_length]; omega), List.getElem?_eq_none (by simp; omega)]
  obtain ⟨h1, t', fz, h2⟩ := hsz
  refine ⟨⟨g, 0, .agg (ints k n T).toArray, rfl, rfl, h1, by simp [Ren.mbs, Ren.own], ?_⟩, ?_⟩
  · intro i hi
    rw [World.var?_cell hg hv]
    show cs[0 + i]? = (Value.cells (.agg (ints k n T).toArray)).toList[i]?
    rw [Nat.zero_add]
    simp [Value.cells, hint]
  · rintro k' n' f' hh
    cases hh
    refine ⟨cs, t', fz, h2, ?_⟩
    have := congrArg List.length hcs
    simpa [hn] using this
theorem tab_ok {P : Program} {W : World} {nm : String} {t e fuel g : Nat} {cs : Array Value} {p : List MemPlace} {spare} {held} {base : Nat} {l : List (DataW Unit)}
    (hu : P.underlying t = some (.array 64 e)) (hc : P.cellsOf e = 1) (hct : P.cellsOf t = 64) (hue : P.underlying e = some (.int .u8)) (hg : P.globalNamed nm = some g) (hv : W.var? P nm = some cs)
    (hl : l = tabL.map fun n => .lit (.int .u8 n)) (hd : DataW.trod (fun _ => ()) P W base spare held fuel t cs.toList = some (.agg l, p)) :
    Rel ⟨[], []⟩ W (.rref (.arr .u8 64 tab_deBruijn64tab)) (.pointer (some ⟨g, 0, none⟩)) ∧ ∀ k' n' f', EV.arr .u8 64 tab_deBruijn64tab = .arr k' n' f' → ∃ cs t fz, W.heap[g]? = some (.cells cs t fz) ∧ cs.size = n' :=
  tab_gen (zs := tabL) tab_is rfl hu hc hct hue hg hv hl hd
end Go.Ev.S
