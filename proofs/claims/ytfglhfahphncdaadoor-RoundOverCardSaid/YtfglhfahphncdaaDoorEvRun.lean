/- The evaluator: runs of the model's loads, stores and new blocks. -/
import Derived.Test.YtfglhfahphncdaaDoorEvMem
set_option linter.unusedVariables false
set_option linter.unusedSimpArgs false
namespace Go.Ev
open Go

section
variable {P : Program}

theorem run_bind {α β : Type} (s : Sem α) (f : α → Sem β) (w : World) :
    (s >>= f).run P w = match s.run P w with | .ok a w' => (f a).run P w' | .halt h w' => .halt h w' := by
  show (Sem.bind s f).run P w = _
  induction s generalizing w with
  | pure a => rfl
  | load m a k ih =>
    simp only [Sem.bind, Sem.run]
    cases w.cell? a with
    | some v => exact ih v w
    | none =>
      simp only
      cases w.farLoad P a (m == .atomic) with
      | ok r => exact ih r.1 w
      | error h => rfl
  | store m a v k ih =>
    cases v <;> simp only [Sem.bind, Sem.run] <;>
    first
      | rfl
      | (cases w.cell? a with
        | some x =>
          simp only
          split
          · rfl
          · exact ih _
        | none =>
          simp only
          split
          · exact ih _
          · rfl)
  | new o k ih => exact ih _ _
  | shape r k ih => exact ih _ _
  | freeze a n k ih => exact ih _
  | frozen a k ih => exact ih _ _
  | getObj r k ih =>
    simp only [Sem.bind, Sem.run]
    split <;> first | rfl | exact ih _ _
  | setObj r o k ih =>
    simp only [Sem.bind, Sem.run]
    split <;> first | rfl | exact ih _
  | choose q k ih =>
    simp only [Sem.bind, Sem.run]
    split <;> exact ih _ _
  | sys c k ih => exact ih _ _
  | program k ih => exact ih _ _
  | mark m k ih => exact ih _
  | halt h => rfl

theorem run_pure {α : Type} (a : α) (w : World) : (pure a : Sem α).run P w = .ok a w := rfl
theorem run_program (w : World) : (program : Sem Program).run P w = .ok P w := rfl

theorem run_typeInfo {t : TypeId} {i : TypeInfo} (h : P.info? t = some i) (w : World) : (typeInfo t).run P w = .ok i w := by
  simp [typeInfo, run_bind, run_program, h, run_pure]
theorem run_underlying {t : TypeId} {d : TypeDesc} (h : P.underlying t = some d) (w : World) : (underlying t).run P w = .ok d w := by
  simp [underlying, run_bind, run_program, h, run_pure]
theorem run_sizeOf {t : TypeId} {i : TypeInfo} (h : P.info? t = some i) (w : World) : (sizeOf t).run P w = .ok i.size w := by
  simp [sizeOf, run_bind, run_typeInfo h, run_pure]
theorem run_zeroValue {t : TypeId} {i : TypeInfo} {z : Value} (h : P.info? t = some i) (hz : i.zero = some z) (w : World) : (zeroValue t).run P w = .ok z w := by
  simp [zeroValue, run_bind, run_typeInfo h, hz, run_pure]

def TypeDescAgg : TypeDesc → Bool
  | .struct _ => true
  | .array _ _ => true
  | _ => false

theorem run_isAgg {t : TypeId} {d : TypeDesc} (h : P.underlying t = some d) (w : World) : (isAgg t).run P w = .ok (TypeDescAgg d) w := by
  simp only [isAgg, run_bind, run_underlying h]
  cases d <;> rfl

theorem add_addr (b o n : Nat) : (⟨b, o, none⟩ : Addr).add n = ⟨b, o + n, none⟩ := by
  unfold Addr.add
  split
  · rename_i h; subst h; rfl
  · rfl

theorem run_load {w : World} {b o : Nat} {v : Value} (h : w.cell? ⟨b, o, none⟩ = some v) : (load ⟨b, o, none⟩).run P w = .ok v w := by
  simp [load, Sem.run, h]

theorem run_loadCellsFrom {w : World} {b o : Nat} (cs : List Value) (h : CellsAt w b o cs) : ∀ (n i : Nat) (acc : Array Value), i + n = cs.length →
    (loadCellsFrom ⟨b, o, none⟩ i n acc).run P w = .ok (acc ++ (cs.drop i).toArray) w
  | 0, i, acc, hl => by
    simp only [loadCellsFrom, run_pure]
    rw [List.drop_of_length_le (by omega)]; simp
  | n + 1, i, acc, hl => by
    simp only [loadCellsFrom, run_bind, add_addr]
    have hi : i < cs.length := by omega
    have hc := h i hi
    rw [List.getElem?_eq_getElem hi] at hc
    rw [run_load hc]
    simp only
    rw [run_loadCellsFrom cs h n (i + 1) _ (by omega)]
    congr 1
    rw [List.drop_eq_getElem_cons hi]
    apply Array.ext'
    simp

theorem run_loadCells {w : World} {b o : Nat} (cs : List Value) (h : CellsAt w b o cs) :
    (loadCells ⟨b, o, none⟩ cs.length).run P w = .ok cs.toArray w := by
  simp only [loadCells]
  rw [run_loadCellsFrom cs h cs.length 0 #[] (by omega)]
  simp

/-- A value's cells, and how a load makes a value of cells. -/
theorem run_loadVar {w : World} {b o : Nat} {t : TypeId} {d : TypeDesc} {i : TypeInfo} (x : Value) (hu : P.underlying t = some d) (hi : P.info? t = some i)
    (ha : TypeDescAgg d = true → ∃ cs, x = .agg cs) (hn : TypeDescAgg d = false → ∀ cs, x ≠ .agg cs)
    (hs : i.size = x.cells.size) (h : CellsAt w b o x.cells.toList) :
    (loadVar t ⟨b, o, none⟩).run P w = .ok x w := by
  simp only [loadVar, run_bind, run_isAgg hu]
  cases hd : TypeDescAgg d with
  | true =>
    obtain ⟨cs, rfl⟩ := ha hd
    simp only [if_true, run_bind, run_sizeOf hi]
    have := run_loadCells (P := P) _ h
    rw [cells_agg] at hs this
    rw [hs, ← Array.length_toList, this]
    simp [run_pure]
  | false =>
    simp only [Bool.false_eq_true, if_false]
    have hc : x.cells = #[x] := by
      unfold Value.cells
      split
      · rename_i cs; exact absurd rfl (hn hd cs)
      · rfl
    have := h 0 (by rw [hc]; simp)
    rw [hc] at this
    exact run_load (by simpa using this)

/-- Cells written one behind the other. -/
def putL (w : World) (b : Nat) : Nat → List Value → World
  | _, [] => w
  | o, v :: vs => putL (w.setCell ⟨b, o, none⟩ v) b (o + 1) vs

theorem setCell_heap (w : World) (b o : Nat) (v : Value) (k : Nat) : (w.setCell ⟨b, o, none⟩ v).heap[k]? =
    if k = b then (w.heap[b]?).map (fun | .cells c e fz => .cells (c.setIfInBounds o v) e fz | x => x) else w.heap[k]? := by
  simp only [World.setCell, Array.getElem?_modify]
  by_cases h : b = k
  · subst h; simp
    congr 1
  · rw [if_neg h, if_neg (fun e => h e.symm)]

theorem putL_out (b : Nat) : ∀ (vs : List Value) (w : World) (o : Nat) (k : Nat), k ≠ b → (putL w b o vs).heap[k]? = w.heap[k]?
  | [], w, o, k, h => rfl
  | v :: vs, w, o, k, h => by rw [putL, putL_out b vs _ _ k h, setCell_heap, if_neg h]

theorem putL_meta (b : Nat) : ∀ (vs : List Value) (w : World) (o : Nat), (putL w b o vs).os = w.os ∧ (putL w b o vs).tape = w.tape ∧ (putL w b o vs).output = w.output ∧ (putL w b o vs).heap.size = w.heap.size
  | [], w, o => ⟨rfl, rfl, rfl, rfl⟩
  | v :: vs, w, o => by
    rw [putL]
    obtain ⟨h1, h2, h3, h4⟩ := putL_meta b vs (w.setCell ⟨b, o, none⟩ v) (o + 1)
    exact ⟨h1, h2, h3, by rw [h4]; simp [World.setCell]⟩

/-- The cells of a row, others from a place on. -/
def putA (cs : Array Value) : Nat → List Value → Array Value
  | _, [] => cs
  | o, v :: vs => putA (cs.setIfInBounds o v) (o + 1) vs

theorem putA_size : ∀ (vs : List Value) (cs : Array Value) (o : Nat), (putA cs o vs).size = cs.size
  | [], cs, o => rfl
  | v :: vs, cs, o => by rw [putA, putA_size vs]; simp

theorem putA_get : ∀ (vs : List Value) (cs : Array Value) (o j : Nat), o + vs.length ≤ cs.size →
    (putA cs o vs)[j]? = if o ≤ j ∧ j < o + vs.length then vs[j - o]? else cs[j]?
  | [], cs, o, j, h => by simp [putA]; omega
  | v :: vs, cs, o, j, h => by
    simp only [List.length_cons] at h ⊢
    rw [putA, putA_get vs _ _ _ (by simp; omega), Array.getElem?_setIfInBounds]
    by_cases h1 : o = j
    · subst h1
      rw [if_neg (by omega), if_pos rfl, if_pos (by omega), if_pos ⟨Nat.le_refl _, by omega⟩]; simp
    · by_cases h2 : o + 1 ≤ j ∧ j < o + 1 + vs.length
      · rw [if_pos h2, if_pos (by omega)]
        rw [show j - o = (j - (o + 1)) + 1 from by omega, List.getElem?_cons_succ]
      · rw [if_neg h2, if_neg h1, if_neg (by omega)]

theorem putL_row (b : Nat) : ∀ (vs : List Value) (w : World) (o : Nat) (cs : Array Value) (e : TypeId) (fz : Nat × Nat), w.heap[b]? = some (.cells cs e fz) →
    (putL w b o vs).heap[b]? = some (.cells (putA cs o vs) e fz)
  | [], w, o, cs, e, fz, h => h
  | v :: vs, w, o, cs, e, fz, h => by
    rw [putL, putA]
    exact putL_row b vs _ _ _ e fz (by rw [setCell_heap, if_pos rfl, h]; rfl)

def scal : Value → Bool
  | .agg _ => false
  | .tuple _ => false
  | _ => true

theorem run_store {w : World} {b o : Nat} {v : Value} (hs : scal v = true) (hc : (w.cell? ⟨b, o, none⟩).isSome = true) (hf : w.frozen? ⟨b, o, none⟩ = false) :
    (store ⟨b, o, none⟩ v).run P w = .ok () (w.setCell ⟨b, o, none⟩ v) := by
  obtain ⟨x, hx⟩ := Option.isSome_iff_exists.1 hc
  cases v <;> simp_all [store, Sem.run, scal]

theorem run_storeCells {b : Nat} : ∀ (vs : List Value) (w : World) (o i : Nat) (cs : Array Value) (e : TypeId) (fz : Nat × Nat), w.heap[b]? = some (.cells cs e fz) →
    (∀ o, o < cs.size → ¬ (fz.1 ≤ o ∧ o < fz.2)) → o + i + vs.length ≤ cs.size → vs.all scal = true →
    (storeCells ⟨b, o, none⟩ vs i).run P w = .ok () (putL w b (o + i) vs)
  | [], w, o, i, cs, e, fz, h, hz, hl, hs => rfl
  | v :: vs, w, o, i, cs, e, fz, h, hz, hl, hs => by
    simp only [List.all_cons, Bool.and_eq_true] at hs
    simp only [List.length_cons] at hl
    simp only [storeCells, run_bind, add_addr]
    rw [run_store hs.1 (by simp only [World.cell?, h]; simp; omega) (by
      have := hz (o + i) (by omega)
      simp only [World.frozen?, h]
      cases hd : (decide (fz.1 ≤ o + i) && decide (o + i < fz.2)) with
      | false => rfl
      | true => simp at hd; exact absurd hd this)]
    simp only
    rw [run_storeCells vs _ o (i + 1) (cs.setIfInBounds (o + i) v) e fz (by rw [setCell_heap, if_pos rfl, h]; rfl) (by simpa using hz) (by simp; omega) hs.2]
    rfl
end
end Go.Ev
