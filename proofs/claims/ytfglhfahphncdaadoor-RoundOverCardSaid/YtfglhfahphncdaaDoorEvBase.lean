/- An evaluator of the model's code over abstract values: values, shapes, places, and what they say of the machine's memory. -/
import Derived.Orders
import Derived.Below
set_option linter.unusedVariables false
set_option linter.unusedSimpArgs false
namespace Go.Ev
open Go

/-- Abstract values. -/
inductive EV where
  | undef
  | bool (b : Bool)
  | int (k : IntKind) (n : Int)
  | str (s : List UInt8)
  | nilPtr
  | ptr (b : Nat) (path : List Nat)
  | rref (v : EV)
  | nilSlice
  | slice (b off len : Nat) (cap : Option Nat) (e : Nat)
  | rsI (k : IntKind) (n : Nat) (g : Nat → Int)
  | nilFunc
  | func (f : FuncId) (cap : List EV)
  | agg (l : List EV)
  | arr (k : IntKind) (n : Nat) (g : Nat → Int)
  | tuple (l : List EV)
  | nilIface
  | iface (t : TypeId) (v : EV)
  deriving Inhabited

inductive Shape where
  | leaf
  | row (n : Nat)
  | node (l : List Shape)
  deriving Inhabited

mutual
def Shape.size : Shape → Nat
  | .leaf => 1
  | .row n => n
  | .node l => Shape.sizeL l
def Shape.sizeL : List Shape → Nat
  | [] => 0
  | s :: l => s.size + Shape.sizeL l
end

mutual
def EV.shape : EV → Shape
  | .agg l => .node (EV.shapeL l)
  | .arr _ n _ => .row n
  | .undef => .leaf | .bool _ => .leaf | .int _ _ => .leaf | .str _ => .leaf | .nilPtr => .leaf | .ptr _ _ => .leaf | .rref _ => .leaf
  | .nilSlice => .leaf | .slice _ _ _ _ _ => .leaf | .rsI _ _ _ => .leaf | .nilFunc => .leaf | .func _ _ => .leaf | .tuple _ => .leaf
  | .nilIface => .leaf | .iface _ _ => .leaf
def EV.shapeL : List EV → List Shape
  | [] => []
  | v :: l => v.shape :: EV.shapeL l
end

mutual
def Shape.beq : Shape → Shape → Bool
  | .leaf, .leaf => true
  | .row n, .row m => Nat.beq n m
  | .node l, .node r => Shape.beqL l r
  | _, _ => false
def Shape.beqL : List Shape → List Shape → Bool
  | [], [] => true
  | s :: l, t :: r => s.beq t && Shape.beqL l r
  | _, _ => false
end

mutual
theorem Shape.eq_of_beq : ∀ (s t : Shape), s.beq t = true → s = t
  | .leaf, .leaf, _ => rfl
  | .row n, .row m, h => by simp only [Shape.beq] at h; rw [Nat.eq_of_beq_eq_true h]
  | .node l, .node r, h => by simp only [Shape.beq] at h; rw [Shape.eq_of_beqL l r h]
  | .leaf, .row _, h => by simp [Shape.beq] at h
  | .leaf, .node _, h => by simp [Shape.beq] at h
  | .row _, .leaf, h => by simp [Shape.beq] at h
  | .row _, .node _, h => by simp [Shape.beq] at h
  | .node _, .leaf, h => by simp [Shape.beq] at h
  | .node _, .row _, h => by simp [Shape.beq] at h
theorem Shape.eq_of_beqL : ∀ (l r : List Shape), Shape.beqL l r = true → l = r
  | [], [], _ => rfl
  | s :: l, t :: r, h => by
    simp only [Shape.beqL, Bool.and_eq_true] at h
    rw [Shape.eq_of_beq s t h.1, Shape.eq_of_beqL l r h.2]
  | [], _ :: _, h => by simp [Shape.beqL] at h
  | _ :: _, [], h => by simp [Shape.beqL] at h
end

/-- Where a path leads inside a value of that shape: how many cells from its begin. -/
def Shape.off : List Nat → Shape → Option Nat
  | [], _ => some 0
  | i :: p, .node l => match l[i]? with
    | some s => (Shape.off p s).map (Shape.sizeL (l.take i) + ·)
    | none => none
  | [i], .row n => if i < n then some i else none
  | _ :: _, _ => none

/-- The part of a shape at a path. -/
def Shape.at : List Nat → Shape → Option Shape
  | [], s => some s
  | i :: p, .node l => match l[i]? with
    | some s => Shape.at p s
    | none => none
  | [_], .row _ => some .leaf
  | _ :: _, _ => none

def upd (g : Nat → Int) (i : Nat) (x : Int) : Nat → Int := fun j => cond (Nat.beq j i) x (g j)

def EV.get : List Nat → EV → Option EV
  | [], v => some v
  | i :: p, .agg l => match l[i]? with
    | some u => EV.get p u
    | none => none
  | [i], .arr k _ g => some (.int k (g i))
  | _ :: _, _ => none

def EV.set : List Nat → EV → EV → Option EV
  | [], v, u => cond (v.shape.beq u.shape) (some u) none
  | i :: p, .agg l, u => match l[i]? with
    | some x => match EV.set p x u with
      | some y => some (.agg (l.set i y))
      | none => none
    | none => none
  | [i], .arr k n g, .int k' x => cond (decide (k = k')) (some (.arr k n (upd g i x))) none
  | _ :: _, _, _ => none

/-- What stands for a block of the evaluator's heap: the machine's block, where in it, its shape. -/
structure BI where
  mb : Nat
  base : Nat
  sh : Shape

/-- F: the machine's blocks that are another's; bs: for each of ours, where it is (none: it is given up). -/
structure Ren where
  F : List Nat
  bs : List (Option BI)

def Ren.own (ρ : Ren) : List Nat := ρ.bs.filterMap fun r => r.map (·.mb)
def Ren.mbs (ρ : Ren) : List Nat := ρ.F ++ ρ.own

/-- n elements of e cells. -/
def Shape.rows (s : Shape) (n e : Nat) : Prop := (s = .row n ∧ e = 1) ∨ ∃ l, s = .node l ∧ l.length = n ∧ ∀ t ∈ l, t.size = e

/-- Cells that the machine has from an address on. -/
def CellsAt (w : World) (b o : Nat) (cs : List Value) : Prop := ∀ i, i < cs.length → w.cell? ⟨b, o + i, none⟩ = cs[i]?

def ints (k : IntKind) (n : Nat) (g : Nat → Int) : List Value := (List.range n).map fun i => .int k (g i)

mutual
/-- What an abstract value says of a machine's one. -/
def Rel (ρ : Ren) (w : World) : EV → Value → Prop
  | .undef, _ => False
  | .bool b, x => x = .bool b
  | .int k n, x => x = .int k n
  | .str s, x => x = .string ⟨s.toArray⟩
  | .nilPtr, x => x = .pointer none
  | .ptr b p, x => ∃ a, x = .pointer a ∧ ∃ r, ρ.bs[b]? = some r ∧ ∀ i, r = some i → ∃ o, i.sh.off p = some o ∧ a = some ⟨i.mb, i.base + o, none⟩
  | .rref v, x => ∃ b o y, x = .pointer (some ⟨b, o, none⟩) ∧ Rel ρ w v y ∧ b < w.heap.size ∧ b ∉ ρ.mbs ∧ CellsAt w b o y.cells.toList
  | .nilSlice, x => x = .slice none 0 0
  | .slice b off len cap e, x => ∃ a c, x = .slice a len c ∧ ∃ r, ρ.bs[b]? = some r ∧ ∀ i, r = some i → ∃ n, i.sh.rows n e ∧ off + len ≤ n ∧ len ≤ c ∧
      (∀ c0, cap = some c0 → c = c0 ∧ off + c ≤ n) ∧
      ((a = some ⟨i.mb, i.base + off * e, none⟩ ∧ ∃ t cs fz, w.heap[i.mb]? = some (.cells cs t fz) ∧ i.base + (off + c) * e ≤ cs.size) ∨ (len = 0 ∧ c = 0))
  | .rsI k n g, x => ∃ a c, x = .slice a n c ∧ n ≤ c ∧ (n = 0 ∨ ∃ b o, a = some ⟨b, o, none⟩ ∧ b < w.heap.size ∧ b ∉ ρ.mbs ∧ CellsAt w b o (ints k n g))
  | .nilFunc, x => x = .nilFunc
  | .func f cap, x => ∃ vs, x = .func (.func f) #[] vs ∧ RelL ρ w cap vs.toList
  | .agg l, x => ∃ cs, x = .agg cs ∧ RelF ρ w l cs.toList
  | .arr k n g, x => x = .agg (ints k n g).toArray
  | .tuple l, x => ∃ vs, x = .tuple vs ∧ RelL ρ w l vs.toList
  | .nilIface, x => x = .nilIface
  | .iface t v, x => ∃ y, x = .iface t y ∧ Rel ρ w v y
def RelL (ρ : Ren) (w : World) : List EV → List Value → Prop
  | [], xs => xs = []
  | v :: l, xs => ∃ x ys, xs = x :: ys ∧ Rel ρ w v x ∧ RelL ρ w l ys
def RelF (ρ : Ren) (w : World) : List EV → List Value → Prop
  | [], xs => xs = []
  | v :: l, xs => ∃ x ys, xs = x.cells.toList ++ ys ∧ Rel ρ w v x ∧ RelF ρ w l ys
end

/-- The cells that an abstract value takes. -/
def RelC (ρ : Ren) (w : World) (v : EV) (cs : List Value) : Prop := ∃ x, Rel ρ w v x ∧ x.cells.toList = cs

/-- From one world to a later one: what is not ours is as it was. -/
structure Ext (ρ : Ren) (w : World) (ρ' : Ren) (w' : World) : Prop where
  os : w'.os = w.os
  tape : w'.tape = w.tape
  output : w'.output = w.output
  size : w.heap.size ≤ w'.heap.size
  out : ∀ b, b < w.heap.size → b ∉ ρ.own → w'.heap[b]? = w.heap[b]?
  new : ∀ b, b < w.heap.size → b ∉ ρ.mbs → b ∉ ρ'.mbs
  newOwn : ∀ b, b < w.heap.size → b ∉ ρ.own → b ∉ ρ'.own
  keep : ∀ (b : Nat) r, ρ.bs[b]? = some r → ρ'.bs[b]? = some r ∨ ρ'.bs[b]? = some none
  row : ∀ (b : Nat) (cs : Array Value) (e : TypeId) (fz : Nat × Nat), w.heap[b]? = some (.cells cs e fz) → ∃ cs' e' fz', w'.heap[b]? = some (.cells cs' e' fz') ∧ cs'.size = cs.size

theorem Ext.refl (ρ : Ren) (w : World) : Ext ρ w ρ w :=
  ⟨rfl, rfl, rfl, Nat.le_refl _, fun _ _ _ => rfl, fun _ _ h => h, fun _ _ h => h, fun _ _ h => .inl h, fun _ cs e fz h => ⟨cs, e, fz, h, rfl⟩⟩

theorem mem_own {ρ : Ren} {b : Nat} {r : BI} (h : ρ.bs[b]? = some (some r)) : r.mb ∈ ρ.own :=
  List.mem_filterMap.2 ⟨some r, List.mem_of_getElem? h, rfl⟩

theorem own_mem {ρ : Ren} {m : Nat} (h : m ∈ ρ.own) : ∃ (b : Nat) (r : BI), ρ.bs[b]? = some (some r) ∧ r.mb = m := by
  obtain ⟨r, hr, hm⟩ := List.mem_filterMap.1 h
  cases r with
  | none => simp at hm
  | some r =>
    simp at hm
    obtain ⟨i, hi⟩ := List.mem_iff_getElem?.1 hr
    exact ⟨i, r, hi, hm⟩

theorem own_mbs {ρ : Ren} {m : Nat} (h : m ∈ ρ.own) : m ∈ ρ.mbs := List.mem_append.2 (.inr h)

theorem Ext.trans {ρ ρ' ρ'' : Ren} {w w' w'' : World} (h : Ext ρ w ρ' w') (k : Ext ρ' w' ρ'' w'') : Ext ρ w ρ'' w'' := by
  refine ⟨k.os.trans h.os, k.tape.trans h.tape, k.output.trans h.output, Nat.le_trans h.size k.size, ?_, ?_, ?_, ?_, ?_⟩
  · intro b hb hn
    exact (k.out b (Nat.lt_of_lt_of_le hb h.size) (h.newOwn b hb hn)).trans (h.out b hb hn)
  · intro b hb hn
    exact k.new b (Nat.lt_of_lt_of_le hb h.size) (h.new b hb hn)
  · intro b hb hn
    exact k.newOwn b (Nat.lt_of_lt_of_le hb h.size) (h.newOwn b hb hn)
  · intro b r hb
    rcases h.keep b r hb with h1 | h1
    · exact k.keep b r h1
    · rcases k.keep b none h1 with h2 | h2 <;> exact .inr h2
  · intro b cs e fz hc
    obtain ⟨cs', e', fz', hc', hs⟩ := h.row b cs e fz hc
    obtain ⟨cs'', e'', fz'', hc'', hs'⟩ := k.row b cs' e' fz' hc'
    exact ⟨cs'', e'', fz'', hc'', hs'.trans hs⟩

theorem cell_of_heap {w w' : World} {b : Nat} (h : w'.heap[b]? = w.heap[b]?) (o : Nat) : w'.cell? ⟨b, o, none⟩ = w.cell? ⟨b, o, none⟩ := by
  simp only [World.cell?, h]

theorem CellsAt.keep {w w' : World} {b o : Nat} {cs : List Value} (h : CellsAt w b o cs) (hb : w'.heap[b]? = w.heap[b]?) : CellsAt w' b o cs :=
  fun i hi => (cell_of_heap hb _).trans (h i hi)

mutual
theorem Rel.ext {ρ ρ' : Ren} {w w' : World} (h : Ext ρ w ρ' w') : ∀ (v : EV) (x : Value), Rel ρ w v x → Rel ρ' w' v x
  | .undef, _, hr => hr.elim
  | .bool _, _, hr => hr
  | .int _ _, _, hr => hr
  | .str _, _, hr => hr
  | .nilPtr, _, hr => hr
  | .ptr b p, x, hr => by
    simp only [Rel] at hr ⊢
    obtain ⟨a, h0, r, h1, h2⟩ := hr
    rcases h.keep b r h1 with h3 | h3
    · exact ⟨a, h0, r, h3, h2⟩
    · exact ⟨a, h0, none, h3, fun i hi => by cases hi⟩
  | .rref v, x, hr => by
    simp only [Rel] at hr ⊢
    obtain ⟨b, o, y, h1, h2, h3, h4, h5⟩ := hr
    exact ⟨b, o, y, h1, Rel.ext h v y h2, Nat.lt_of_lt_of_le h3 h.size, h.new b h3 h4, h5.keep (h.out b h3 fun e => h4 (own_mbs e))⟩
  | .nilSlice, _, hr => hr
  | .slice b off len cap e, x, hr => by
    simp only [Rel] at hr ⊢
    obtain ⟨a, c, h0, r, h1, h2⟩ := hr
    rcases h.keep b r h1 with h3 | h3
    · refine ⟨a, c, h0, r, h3, fun i hi => ?_⟩
      obtain ⟨n, h4, h5, h6, h7, h8⟩ := h2 i hi
      refine ⟨n, h4, h5, h6, h7, h8.imp ?_ id⟩
      rintro ⟨h9, t, cs, fz, h10, h11⟩
      obtain ⟨cs', t', fz', h12, h13⟩ := h.row i.mb cs t fz h10
      exact ⟨h9, t', cs', fz', h12, by omega⟩
    · exact ⟨a, c, h0, none, h3, fun i hi => by cases hi⟩
  | .rsI k n g, x, hr => by
    simp only [Rel] at hr ⊢
    obtain ⟨a, c, h1, h2, h3⟩ := hr
    refine ⟨a, c, h1, h2, h3.imp id ?_⟩
    rintro ⟨b, o, h4, h5, h6, h7⟩
    exact ⟨b, o, h4, Nat.lt_of_lt_of_le h5 h.size, h.new b h5 h6, h7.keep (h.out b h5 fun e => h6 (own_mbs e))⟩
  | .nilFunc, _, hr => hr
  | .func f cap, x, hr => by
    simp only [Rel] at hr ⊢
    obtain ⟨vs, h1, h2⟩ := hr
    exact ⟨vs, h1, RelL.ext h cap _ h2⟩
  | .agg l, x, hr => by
    simp only [Rel] at hr ⊢
    obtain ⟨cs, h1, h2⟩ := hr
    exact ⟨cs, h1, RelF.ext h l _ h2⟩
  | .arr _ _ _, _, hr => hr
  | .tuple l, x, hr => by
    simp only [Rel] at hr ⊢
    obtain ⟨vs, h1, h2⟩ := hr
    exact ⟨vs, h1, RelL.ext h l _ h2⟩
  | .nilIface, _, hr => hr
  | .iface t v, x, hr => by
    simp only [Rel] at hr ⊢
    obtain ⟨y, h1, h2⟩ := hr
    exact ⟨y, h1, Rel.ext h v y h2⟩
theorem RelL.ext {ρ ρ' : Ren} {w w' : World} (h : Ext ρ w ρ' w') : ∀ (l : List EV) (xs : List Value), RelL ρ w l xs → RelL ρ' w' l xs
  | [], _, hr => hr
  | v :: l, xs, hr => by
    simp only [RelL] at hr ⊢
    obtain ⟨x, ys, h1, h2, h3⟩ := hr
    exact ⟨x, ys, h1, Rel.ext h v x h2, RelL.ext h l ys h3⟩
theorem RelF.ext {ρ ρ' : Ren} {w w' : World} (h : Ext ρ w ρ' w') : ∀ (l : List EV) (xs : List Value), RelF ρ w l xs → RelF ρ' w' l xs
  | [], _, hr => hr
  | v :: l, xs, hr => by
    simp only [RelF] at hr ⊢
    obtain ⟨x, ys, h1, h2, h3⟩ := hr
    exact ⟨x, ys, h1, Rel.ext h v x h2, RelF.ext h l ys h3⟩
end

end Go.Ev
