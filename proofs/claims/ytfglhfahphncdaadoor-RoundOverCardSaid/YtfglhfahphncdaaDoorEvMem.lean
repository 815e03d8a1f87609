/- The evaluator: memory. What a place of an abstract value is in the machine's cells; loading, storing, new blocks. -/
import Derived.Test.YtfglhfahphncdaaDoorEvBase
set_option linter.unusedVariables false
set_option linter.unusedSimpArgs false
namespace Go.Ev
open Go

theorem cells_agg (cs : Array Value) : (Value.agg cs).cells = cs := rfl

theorem ints_length (k : IntKind) (n : Nat) (g : Nat → Int) : (ints k n g).length = n := by simp [ints]

theorem Shape.sizeL_append (l r : List Shape) : Shape.sizeL (l ++ r) = Shape.sizeL l + Shape.sizeL r := by
  induction l with
  | nil => simp [Shape.sizeL]
  | cons s l ih => simp only [List.cons_append, Shape.sizeL, ih]; omega

theorem EV.shapeL_length (l : List EV) : (EV.shapeL l).length = l.length := by
  induction l with
  | nil => simp [EV.shapeL]
  | cons v l ih => simp [EV.shapeL, ih]

theorem EV.shapeL_get (l : List EV) (i : Nat) : (EV.shapeL l)[i]? = (l[i]?).map EV.shape := by
  induction l generalizing i with
  | nil => simp [EV.shapeL]
  | cons v l ih => cases i <;> simp [EV.shapeL, ih]

theorem EV.shapeL_take (l : List EV) (i : Nat) : (EV.shapeL l).take i = EV.shapeL (l.take i) := by
  induction l generalizing i with
  | nil => simp [EV.shapeL]
  | cons v l ih => cases i <;> simp [EV.shapeL, ih]

theorem EV.shapeL_set (l : List EV) (i : Nat) (y x : EV) (hx : l[i]? = some x) (h : y.shape = x.shape) : EV.shapeL (l.set i y) = EV.shapeL l := by
  induction l generalizing i with
  | nil => simp [EV.shapeL]
  | cons v l ih =>
    cases i with
    | zero => simp at hx; subst hx; simp [EV.shapeL, h]
    | succ i => simp at hx; simp [EV.shapeL, ih i hx]

mutual
theorem Rel.size {ρ : Ren} {w : World} : ∀ (v : EV) (x : Value), Rel ρ w v x → x.cells.toList.length = v.shape.size
  | .undef, _, hr => hr.elim
  | .bool _, _, hr => by simp only [Rel] at hr; subst hr; simp [Value.cells, EV.shape, Shape.size]
  | .int _ _, _, hr => by simp only [Rel] at hr; subst hr; simp [Value.cells, EV.shape, Shape.size]
  | .str _, _, hr => by simp only [Rel] at hr; subst hr; simp [Value.cells, EV.shape, Shape.size]
  | .nilPtr, _, hr => by simp only [Rel] at hr; subst hr; simp [Value.cells, EV.shape, Shape.size]
  | .ptr _ _, _, hr => by simp only [Rel] at hr; obtain ⟨_, rfl, _⟩ := hr; simp [Value.cells, EV.shape, Shape.size]
  | .rref _, _, hr => by simp only [Rel] at hr; obtain ⟨_, _, _, rfl, _⟩ := hr; simp [Value.cells, EV.shape, Shape.size]
  | .nilSlice, _, hr => by simp only [Rel] at hr; subst hr; simp [Value.cells, EV.shape, Shape.size]
  | .slice _ _ _ _ _, _, hr => by simp only [Rel] at hr; obtain ⟨_, _, rfl, _⟩ := hr; simp [Value.cells, EV.shape, Shape.size]
  | .rsI _ _ _, _, hr => by simp only [Rel] at hr; obtain ⟨_, _, rfl, _⟩ := hr; simp [Value.cells, EV.shape, Shape.size]
  | .nilFunc, _, hr => by simp only [Rel] at hr; subst hr; simp [Value.cells, EV.shape, Shape.size]
  | .func _ _, _, hr => by simp only [Rel] at hr; obtain ⟨_, rfl, _⟩ := hr; simp [Value.cells, EV.shape, Shape.size]
  | .agg l, x, hr => by
    simp only [Rel] at hr
    obtain ⟨cs, rfl, h⟩ := hr
    simp only [Value.cells, EV.shape, Shape.size]
    exact RelF.size l _ h
  | .arr k n g, _, hr => by simp only [Rel] at hr; subst hr; simp [Value.cells, EV.shape, Shape.size, ints]
  | .tuple _, _, hr => by simp only [Rel] at hr; obtain ⟨_, rfl, _⟩ := hr; simp [Value.cells, EV.shape, Shape.size]
  | .nilIface, _, hr => by simp only [Rel] at hr; subst hr; simp [Value.cells, EV.shape, Shape.size]
  | .iface _ _, _, hr => by simp only [Rel] at hr; obtain ⟨_, rfl, _⟩ := hr; simp [Value.cells, EV.shape, Shape.size]
theorem RelF.size {ρ : Ren} {w : World} : ∀ (l : List EV) (xs : List Value), RelF ρ w l xs → xs.length = Shape.sizeL (EV.shapeL l)
  | [], _, hr => by simp only [RelF] at hr; subst hr; simp [EV.shapeL, Shape.sizeL]
  | v :: l, xs, hr => by
    simp only [RelF] at hr
    obtain ⟨x, ys, rfl, h1, h2⟩ := hr
    have := Rel.size v x h1
    have := RelF.size l ys h2
    simp only [List.length_append, EV.shapeL, Shape.sizeL]; omega
end

/-- An aggregate's parts lie one behind the other. -/
theorem RelF.part {ρ : Ren} {w : World} : ∀ (l : List EV) (xs : List Value) (i : Nat) (u : EV), RelF ρ w l xs → l[i]? = some u →
    ∃ x, Rel ρ w u x ∧ x.cells.toList = (xs.drop (Shape.sizeL (EV.shapeL (l.take i)))).take u.shape.size ∧ Shape.sizeL (EV.shapeL (l.take i)) + u.shape.size ≤ xs.length
  | [], _, i, u, _, h => by simp at h
  | v :: l, xs, 0, u, hr, h => by
    simp at h; subst h
    simp only [RelF] at hr
    obtain ⟨x, ys, rfl, h1, h2⟩ := hr
    have hs := Rel.size v x h1
    refine ⟨x, h1, ?_, ?_⟩
    · simp [EV.shapeL, Shape.sizeL, ← hs]
    · simp only [List.take_zero, EV.shapeL, Shape.sizeL, List.length_append]; omega
  | v :: l, xs, i + 1, u, hr, h => by
    simp only [List.getElem?_cons_succ] at h
    simp only [RelF] at hr
    obtain ⟨x, ys, rfl, h1, h2⟩ := hr
    have hs := Rel.size v x h1
    obtain ⟨z, h3, h4, h5⟩ := RelF.part l ys i u h2 h
    refine ⟨z, h3, ?_, ?_⟩
    · simp only [List.take_succ_cons, EV.shapeL, Shape.sizeL, ← hs, h4]
      rw [← List.drop_drop, List.drop_left]
    · simp only [List.take_succ_cons, EV.shapeL, Shape.sizeL, List.length_append]; omega

theorem RelF.put {ρ : Ren} {w : World} : ∀ (l : List EV) (xs : List Value) (i : Nat) (u v : EV) (y : Value), RelF ρ w l xs → l[i]? = some u →
    Rel ρ w v y → v.shape = u.shape →
    RelF ρ w (l.set i v) (xs.take (Shape.sizeL (EV.shapeL (l.take i))) ++ y.cells.toList ++ xs.drop (Shape.sizeL (EV.shapeL (l.take i)) + u.shape.size))
  | [], _, i, u, _, _, _, h, _, _ => by simp at h
  | z :: l, xs, 0, u, v, y, hr, h, hv, hs => by
    simp at h; subst h
    simp only [RelF] at hr
    obtain ⟨x, ys, rfl, h1, h2⟩ := hr
    have hsz := Rel.size z x h1
    simp only [List.set_cons_zero, RelF, List.take_zero, EV.shapeL, Shape.sizeL, Nat.zero_add, List.nil_append, ← hsz, List.drop_left]
    exact ⟨y, ys, rfl, hv, h2⟩
  | z :: l, xs, i + 1, u, v, y, hr, h, hv, hs => by
    simp only [List.getElem?_cons_succ] at h
    simp only [RelF] at hr
    obtain ⟨x, ys, rfl, h1, h2⟩ := hr
    have hsz := Rel.size z x h1
    have := RelF.put l ys i u v y h2 h hv hs
    simp only [List.set_cons_succ, RelF, List.take_succ_cons, EV.shapeL, Shape.sizeL, ← hsz]
    refine ⟨x, _, ?_, h1, this⟩
    rw [List.take_append, List.drop_append, Nat.add_assoc]
    simp only [List.append_assoc]
    rw [List.take_of_length_le (by omega), List.drop_of_length_le (by omega)]
    simp

theorem ints_get (k : IntKind) (n : Nat) (g : Nat → Int) (i : Nat) (h : i < n) : (ints k n g)[i]? = some (.int k (g i)) := by
  simp [ints, h]

/-- What stands at a path of a value, in the machine's cells. -/
theorem get_rel {ρ : Ren} {w : World} : ∀ (p : List Nat) (v : EV) (x : Value) (o : Nat) (u : EV), Rel ρ w v x → v.shape.off p = some o → v.get p = some u →
    ∃ y, Rel ρ w u y ∧ y.cells.toList = (x.cells.toList.drop o).take u.shape.size ∧ o + u.shape.size ≤ x.cells.toList.length
  | [], v, x, o, u, hr, ho, hg => by
    simp only [Shape.off, Option.some.injEq] at ho; subst ho
    simp only [EV.get, Option.some.injEq] at hg; subst hg
    have := Rel.size v x hr
    exact ⟨x, hr, by rw [← this, List.drop_zero, List.take_length], by omega⟩
  | i :: p, .agg l, x, o, u, hr, ho, hg => by
    simp only [EV.get] at hg
    simp only [EV.shape, Shape.off, EV.shapeL_get] at ho
    cases hl : l[i]? with
    | none => simp [hl] at hg
    | some z =>
      simp only [hl, Option.map_some] at hg ho
      cases hz : z.shape.off p with
      | none => simp [hz] at ho
      | some o' =>
        simp only [hz, Option.map_some, Option.some.injEq, EV.shapeL_take] at ho
        simp only [Rel] at hr
        obtain ⟨cs, rfl, hF⟩ := hr
        obtain ⟨y, h1, h2, h3⟩ := RelF.part l cs.toList i z hF hl
        obtain ⟨y', h4, h5, h6⟩ := get_rel p z y o' u h1 hz hg
        have hsz := Rel.size z y h1
        refine ⟨y', h4, ?_, ?_⟩
        · rw [cells_agg]
          rw [h5, h2, ← ho, ← List.drop_drop, List.drop_take, List.take_take]
          congr 1; omega
        · rw [cells_agg, ← ho]; omega
  | [i], .arr k n g, x, o, u, hr, ho, hg => by
    simp only [EV.get, Option.some.injEq] at hg; subst hg
    simp only [EV.shape, Shape.off] at ho
    split at ho <;> simp at ho
    subst ho
    rename_i hlt
    simp only [Rel] at hr; subst hr
    refine ⟨_, rfl, ?_, ?_⟩
    · simp only [Value.cells, EV.shape, Shape.size]
      rw [List.take_one, List.head?_drop, ints_get _ _ _ _ hlt]; rfl
    · simp only [Value.cells, EV.shape, Shape.size, ints_length]; omega
  | i :: j :: p, .arr k n g, x, o, u, hr, ho, hg => by simp [EV.get] at hg
  | i :: p, .undef, x, o, u, hr, ho, hg => by simp [EV.get] at hg
  | i :: p, .bool _, x, o, u, hr, ho, hg => by simp [EV.get] at hg
  | i :: p, .int _ _, x, o, u, hr, ho, hg => by simp [EV.get] at hg
  | i :: p, .str _, x, o, u, hr, ho, hg => by simp [EV.get] at hg
  | i :: p, .nilPtr, x, o, u, hr, ho, hg => by simp [EV.get] at hg
  | i :: p, .ptr _ _, x, o, u, hr, ho, hg => by simp [EV.get] at hg
  | i :: p, .rref _, x, o, u, hr, ho, hg => by simp [EV.get] at hg
  | i :: p, .nilSlice, x, o, u, hr, ho, hg => by simp [EV.get] at hg
  | i :: p, .slice _ _ _ _ _, x, o, u, hr, ho, hg => by simp [EV.get] at hg
  | i :: p, .rsI _ _ _, x, o, u, hr, ho, hg => by simp [EV.get] at hg
  | i :: p, .nilFunc, x, o, u, hr, ho, hg => by simp [EV.get] at hg
  | i :: p, .func _ _, x, o, u, hr, ho, hg => by simp [EV.get] at hg
  | i :: p, .tuple _, x, o, u, hr, ho, hg => by simp [EV.get] at hg
  | i :: p, .nilIface, x, o, u, hr, ho, hg => by simp [EV.get] at hg
  | i :: p, .iface _ _, x, o, u, hr, ho, hg => by simp [EV.get] at hg

theorem upd_same (g : Nat → Int) (i : Nat) (x : Int) : upd g i x i = x := by
  have : Nat.beq i i = true := Nat.beq_refl i
  simp only [upd, this, cond_true]
theorem upd_ne (g : Nat → Int) (i : Nat) (x : Int) (j : Nat) (h : j ≠ i) : upd g i x j = g j := by
  have : Nat.beq j i = false := by
    cases hb : Nat.beq j i with
    | false => rfl
    | true => exact absurd (Nat.eq_of_beq_eq_true hb) h
  simp only [upd, this, cond_false]

theorem ints_upd (k : IntKind) (n : Nat) (g : Nat → Int) (i : Nat) (x : Int) (h : i < n) :
    ints k n (upd g i x) = (ints k n g).take i ++ [.int k x] ++ (ints k n g).drop (i + 1) := by
  apply List.ext_getElem?
  intro j
  simp only [List.append_assoc, List.singleton_append]
  have hlen := ints_length k n g
  have htk : ((ints k n g).take i).length = i := by simp [hlen]; omega
  rw [List.getElem?_append, htk]
  by_cases hj : j < i
  · rw [if_pos hj, List.getElem?_take_of_lt hj, ints_get _ _ _ _ (by omega), ints_get _ _ _ _ (by omega)]
    rw [upd_ne _ _ _ _ (by omega)]
  · rw [if_neg hj]
    by_cases he : j = i
    · subst he
      rw [ints_get _ _ _ _ h, Nat.sub_self]
      rw [upd_same]; rfl
    · have hgt : j - i = (j - i - 1) + 1 := by omega
      rw [hgt, List.getElem?_cons_succ, List.getElem?_drop]
      have : i + 1 + (j - i - 1) = j := by omega
      rw [this]
      by_cases hjn : j < n
      · rw [ints_get _ _ _ _ hjn, ints_get _ _ _ _ hjn]
        rw [upd_ne _ _ _ _ (by omega)]
      · rw [List.getElem?_eq_none (by rw [ints_length]; omega), List.getElem?_eq_none (by rw [ints_length]; omega)]

/-- A value with another part at a path. -/
theorem set_rel {ρ : Ren} {w : World} : ∀ (p : List Nat) (v u v' : EV) (x y : Value) (o : Nat), Rel ρ w v x → Rel ρ w u y → v.shape.off p = some o → EV.set p v u = some v' →
    v'.shape = v.shape ∧ o + u.shape.size ≤ x.cells.toList.length ∧
    ∃ z, Rel ρ w v' z ∧ z.cells.toList = x.cells.toList.take o ++ y.cells.toList ++ x.cells.toList.drop (o + u.shape.size)
  | [], v, u, v', x, y, o, hr, hu, ho, hg => by
    simp only [Shape.off, Option.some.injEq] at ho; subst ho
    simp only [EV.set] at hg
    cases hb : v.shape.beq u.shape with
    | false => simp [hb] at hg
    | true =>
      simp [hb] at hg; subst hg
      have he := Shape.eq_of_beq _ _ hb
      have h1 := Rel.size v x hr
      have h2 := Rel.size u y hu
      refine ⟨he.symm, by rw [h1, he]; omega, y, hu, ?_⟩
      rw [List.drop_of_length_le (by rw [h1, he]; omega)]
      simp
  | i :: p, .agg l, u, v', x, y, o, hr, hu, ho, hg => by
    simp only [EV.set] at hg
    simp only [EV.shape, Shape.off, EV.shapeL_get] at ho
    cases hl : l[i]? with
    | none => simp [hl] at hg
    | some z =>
      simp only [hl, Option.map_some] at hg ho
      cases hz : z.shape.off p with
      | none => simp [hz] at ho
      | some o' =>
        simp only [hz, Option.map_some, Option.some.injEq, EV.shapeL_take] at ho
        cases hs : EV.set p z u with
        | none => simp [hs] at hg
        | some z' =>
          simp only [hs, Option.some.injEq] at hg; subst hg
          simp only [Rel] at hr
          obtain ⟨cs, rfl, hF⟩ := hr
          obtain ⟨x1, h1, h2, h3⟩ := RelF.part l cs.toList i z hF hl
          obtain ⟨h4, h5, z1, h6, h7⟩ := set_rel p z u z' x1 y o' h1 hu hz hs
          have hp := RelF.put l cs.toList i z z' z1 hF hl h6 h4
          have hsz := Rel.size z x1 h1
          refine ⟨?_, ?_, .agg _, ⟨_, rfl, by rw [List.toList_toArray]; exact hp⟩, ?_⟩
          · simp only [EV.shape, EV.shapeL_set l i z' z hl h4]
          · rw [cells_agg, ← ho]; omega
          · rw [cells_agg, cells_agg]
            rw [h7, h2, ← ho]
            generalize Shape.sizeL (EV.shapeL (l.take i)) = A at *
            generalize cs.toList = c at *
            rw [List.take_take, List.drop_take, List.drop_drop]
            have e1 : min o' z.shape.size = o' := by omega
            rw [e1, List.take_add]
            simp only [List.append_assoc, List.append_cancel_left_eq]
            have : z.shape.size - (o' + u.shape.size) + (A + (o' + u.shape.size)) = A + z.shape.size := by omega
            rw [show A + o' + u.shape.size = A + (o' + u.shape.size) from by omega]
            have hq := List.take_append_drop (z.shape.size - (o' + u.shape.size)) (c.drop (A + (o' + u.shape.size)))
            rw [List.drop_drop, show A + (o' + u.shape.size) + (z.shape.size - (o' + u.shape.size)) = A + z.shape.size from by omega] at hq
            exact hq
  | [i], .arr k n g, u, v', x, y, o, hr, hu, ho, hg => by
    cases u with
    | int k' m =>
      simp only [EV.set] at hg
      by_cases hk : k = k'
      · subst hk
        simp at hg; subst hg
        simp only [EV.shape, Shape.off] at ho
        split at ho <;> simp at ho
        subst ho
        rename_i hlt
        simp only [Rel] at hr hu; subst hr; subst hu
        refine ⟨rfl, ?_, .agg _, rfl, ?_⟩
        · simp only [Value.cells, EV.shape, Shape.size, ints_length]; omega
        · simp only [Value.cells, EV.shape, Shape.size]
          exact ints_upd k n g i m hlt
      · simp [hk] at hg
    | _ => simp [EV.set] at hg
  | i :: j :: p, .arr k n g, u, v', x, y, o, hr, hu, ho, hg => by simp [EV.set] at hg
  | i :: p, .undef, u, v', x, y, o, hr, hu, ho, hg => by simp [EV.set] at hg
  | i :: p, .bool _, u, v', x, y, o, hr, hu, ho, hg => by simp [EV.set] at hg
  | i :: p, .int _ _, u, v', x, y, o, hr, hu, ho, hg => by simp [EV.set] at hg
  | i :: p, .str _, u, v', x, y, o, hr, hu, ho, hg => by simp [EV.set] at hg
  | i :: p, .nilPtr, u, v', x, y, o, hr, hu, ho, hg => by simp [EV.set] at hg
  | i :: p, .ptr _ _, u, v', x, y, o, hr, hu, ho, hg => by simp [EV.set] at hg
  | i :: p, .rref _, u, v', x, y, o, hr, hu, ho, hg => by simp [EV.set] at hg
  | i :: p, .nilSlice, u, v', x, y, o, hr, hu, ho, hg => by simp [EV.set] at hg
  | i :: p, .slice _ _ _ _ _, u, v', x, y, o, hr, hu, ho, hg => by simp [EV.set] at hg
  | i :: p, .rsI _ _ _, u, v', x, y, o, hr, hu, ho, hg => by simp [EV.set] at hg
  | i :: p, .nilFunc, u, v', x, y, o, hr, hu, ho, hg => by simp [EV.set] at hg
  | i :: p, .func _ _, u, v', x, y, o, hr, hu, ho, hg => by simp [EV.set] at hg
  | i :: p, .tuple _, u, v', x, y, o, hr, hu, ho, hg => by simp [EV.set] at hg
  | i :: p, .nilIface, u, v', x, y, o, hr, hu, ho, hg => by simp [EV.set] at hg
  | i :: p, .iface _ _, u, v', x, y, o, hr, hu, ho, hg => by simp [EV.set] at hg

end Go.Ev
