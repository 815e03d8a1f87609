/- The evaluator: its heap against the machine's; a load, a store, a new block. -/
import Derived.Test.YtfglhfahphncdaaDoorEvRun
set_option linter.unusedVariables false
set_option linter.unusedSimpArgs false
namespace Go.Ev
open Go

abbrev Heap := List (Option EV)

structure Sim (ρ : Ren) (H : Heap) (w : World) : Prop where
  len : ρ.bs.length = H.length
  fl : ∀ b, b ∈ ρ.F → b < w.heap.size
  lt : ∀ (b : Nat) r, ρ.bs[b]? = some (some r) → r.mb < w.heap.size
  sep : ∀ (b : Nat) r, ρ.bs[b]? = some (some r) → r.mb ∉ ρ.F
  nodup : ∀ (b c : Nat) r s, ρ.bs[b]? = some (some r) → ρ.bs[c]? = some (some s) → r.mb = s.mb → b = c
  live : ∀ (b : Nat) v, H[b]? = some (some v) → ∃ r, ρ.bs[b]? = some (some r) ∧ v.shape = r.sh ∧ ∃ cs e fz x, w.heap[r.mb]? = some (.cells cs e fz) ∧
    (∀ o, o < cs.size → ¬ (fz.1 ≤ o ∧ o < fz.2)) ∧ Rel ρ w v x ∧ r.base + x.cells.toList.length ≤ cs.size ∧ CellsAt w r.mb r.base x.cells.toList

theorem cellsAt_row {w : World} {b o : Nat} {cs : Array Value} {e : TypeId} {fz : Nat × Nat} {l : List Value} (h : w.heap[b]? = some (.cells cs e fz)) :
    CellsAt w b o l ↔ ∀ i, i < l.length → cs[o + i]? = l[i]? := by
  unfold CellsAt
  simp only [World.cell?, h]
  rfl

theorem CellsAt.sub {w : World} {b o : Nat} {l : List Value} (h : CellsAt w b o l) (p n : Nat) : CellsAt w b (o + p) ((l.drop p).take n) := by
  intro i hi
  simp only [List.length_take, List.length_drop] at hi
  have := h (p + i) (by omega)
  rw [Nat.add_assoc, this, List.getElem?_take_of_lt (by omega), List.getElem?_drop]

theorem Sim.get {ρ : Ren} {H : Heap} {w : World} (h : Sim ρ H w) {b : Nat} {v u : EV} {p : List Nat} {a : Option Addr} (hb : H[b]? = some (some v)) (hg : v.get p = some u)
    (hp : Rel ρ w (.ptr b p) (.pointer a)) : ∃ m o x, a = some ⟨m, o, none⟩ ∧ Rel ρ w u x ∧ CellsAt w m o x.cells.toList := by
  obtain ⟨r, hr, hs, cs, e, fz, x, h1, h2, h3, h4, h5⟩ := h.live b v hb
  simp only [Rel] at hp
  obtain ⟨a', ha, r', hr', hi⟩ := hp
  cases ha
  rw [hr] at hr'; cases hr'
  obtain ⟨o, ho, rfl⟩ := hi r rfl
  rw [← hs] at ho
  obtain ⟨y, h6, h7, h8⟩ := get_rel p v x o u h3 ho hg
  exact ⟨_, _, y, rfl, h6, by rw [h7]; exact h5.sub o _⟩

theorem map_some_ne {α : Type} (l : List α) (i : Nat) (x : α) (j : Nat) (h : j ≠ i) : (l.set i x)[j]? = l[j]? := by
  rw [List.getElem?_set_ne (fun e => h e.symm)]

/-- A store into a part of a block. -/
theorem Sim.put {ρ : Ren} {H : Heap} {w : World} (h : Sim ρ H w) {b : Nat} {v u v' : EV} {p : List Nat} {a : Option Addr} {y : Value} (hb : H[b]? = some (some v))
    (hg : EV.set p v u = some v') (hp : Rel ρ w (.ptr b p) (.pointer a)) (hu : Rel ρ w u y) :
    ∃ m o cs e fz, a = some ⟨m, o, none⟩ ∧ w.heap[m]? = some (.cells cs e fz) ∧ (∀ o, o < cs.size → ¬ (fz.1 ≤ o ∧ o < fz.2)) ∧ o + y.cells.toList.length ≤ cs.size ∧
      Sim ρ (H.set b (some v')) (putL w m o y.cells.toList) ∧ Ext ρ w ρ (putL w m o y.cells.toList) := by
  obtain ⟨r, hr, hs, cs, e, fz, x, h1, h2, h3, h4, h5⟩ := h.live b v hb
  have hp0 := hp
  simp only [Rel] at hp
  obtain ⟨a', ha, r', hr', hi⟩ := hp
  cases ha
  rw [hr] at hr'; cases hr'
  obtain ⟨o, ho, rfl⟩ := hi r rfl
  rw [← hs] at ho
  obtain ⟨h6, h7, z, h8, h9⟩ := set_rel p v u v' x y o h3 hu ho hg
  have hys := Rel.size u y hu
  obtain ⟨m1, m2, m3, m4⟩ := putL_meta r.mb y.cells.toList w (r.base + o)
  have hrow := putL_row r.mb y.cells.toList w (r.base + o) cs e fz h1
  have hE : Ext ρ w ρ (putL w r.mb (r.base + o) y.cells.toList) := by
    refine ⟨m1, m2, m3, by omega, ?_, fun _ _ h => h, fun _ _ h => h, fun _ _ h => .inl h, ?_⟩
    · intro k hk hn
      exact putL_out _ _ _ _ _ (fun e => hn (e ▸ mem_own hr))
    · intro k cs' e' fz' hk
      by_cases hkb : k = r.mb
      · subst hkb
        rw [h1] at hk; cases hk
        exact ⟨_, _, _, hrow, putA_size _ _ _⟩
      · exact ⟨cs', e', fz', (putL_out _ _ _ _ _ hkb).trans hk, rfl⟩
  refine ⟨r.mb, r.base + o, cs, e, fz, rfl, h1, h2, by omega, ?_, hE⟩
  refine ⟨by simpa using h.len, fun k hk => by rw [m4]; exact h.fl k hk, fun c s hc => by rw [m4]; exact h.lt c s hc, h.sep, h.nodup, ?_⟩
  intro c v₁ hc
  by_cases hcb : c = b
  · subst hcb
    have hlt : c < H.length := by
      rcases Nat.lt_or_ge c H.length with hh | hh
      · exact hh
      · rw [List.getElem?_eq_none hh] at hb; cases hb
    rw [List.getElem?_set_self hlt] at hc
    cases hc
    refine ⟨r, hr, h6.trans hs, putA cs (r.base + o) y.cells.toList, e, fz, z, hrow, by rw [putA_size]; exact h2, Rel.ext hE _ _ h8, ?_, ?_⟩
    · rw [putA_size, h9]
      simp only [List.length_append, List.length_take, List.length_drop]
      omega
    · rw [cellsAt_row hrow]
      rw [cellsAt_row h1] at h5
      intro i hi
      rw [putA_get _ _ _ _ (by omega), h9]
      rw [h9] at hi
      simp only [List.length_append, List.length_take, List.length_drop] at hi
      rw [List.append_assoc, List.getElem?_append, List.length_take, Nat.min_eq_left (by omega)]
      by_cases h10 : i < o
      · rw [if_neg (by omega), if_pos h10, List.getElem?_take_of_lt h10]
        exact h5 i (by omega)
      · rw [if_neg h10, List.getElem?_append]
        by_cases h11 : i < o + y.cells.toList.length
        · rw [if_pos (by omega), if_pos (by omega)]
          congr 1; omega
        · rw [if_neg (by omega), if_neg (by omega), List.getElem?_drop]
          rw [h5 i (by omega)]
          congr 1; omega
  · rw [map_some_ne _ _ _ _ hcb] at hc
    obtain ⟨s, hs1, hs2, cs', e', fz', x', h10, h11, h12, h13, h14⟩ := h.live c v₁ hc
    have hne : s.mb ≠ r.mb := fun e => hcb (h.nodup c b s r hs1 hr e)
    have heq := putL_out r.mb y.cells.toList w (r.base + o) s.mb hne
    exact ⟨s, hs1, hs2, cs', e', fz', x', heq.trans h10, h11, Rel.ext hE _ _ h12, h13, h14.keep heq⟩

/-- The world with one block more. -/
theorem alloc_heap (w : World) (o : Obj) (k : Nat) : (w.alloc o).heap[k]? = if k = w.heap.size then some o else w.heap[k]? := by
  show (w.heap.push o)[k]? = _
  rw [Array.getElem?_push]

theorem Sim.new {ρ : Ren} {H : Heap} {w : World} (h : Sim ρ H w) (v : EV) (x : Value) (e : TypeId) (hv : Rel ρ w v x) :
    ∃ ρ', ρ' = { ρ with bs := ρ.bs ++ [some { mb := w.heap.size, base := 0, sh := v.shape }] } ∧ Sim ρ' (H ++ [some v]) (w.alloc (.cells x.cells e)) ∧
      Ext ρ w ρ' (w.alloc (.cells x.cells e)) := by
  refine ⟨_, rfl, ?_⟩
  have hown : ∀ b, b ∈ (({ ρ with bs := ρ.bs ++ [some { mb := w.heap.size, base := 0, sh := v.shape }] } : Ren)).own → b ∈ ρ.own ∨ b = w.heap.size := by
    intro b hb
    simp only [Ren.own, List.filterMap_append, List.mem_append] at hb
    rcases hb with hb | hb
    · exact .inl hb
    · simp at hb; exact .inr hb
  have hsz : (w.alloc (.cells x.cells e)).heap.size = w.heap.size + 1 := by simp
  have hE : Ext ρ w { ρ with bs := ρ.bs ++ [some { mb := w.heap.size, base := 0, sh := v.shape }] } (w.alloc (.cells x.cells e)) := by
    refine ⟨rfl, rfl, rfl, by omega, ?_, ?_, ?_, ?_, ?_⟩
    · intro b hb _; rw [alloc_heap, if_neg (by omega)]
    · intro b hb hn hm
      rcases List.mem_append.1 hm with hm | hm
      · exact hn (List.mem_append.2 (.inl hm))
      · rcases hown b hm with h' | h'
        · exact hn (own_mbs h')
        · omega
    · intro b hb hn hm
      rcases hown b hm with h' | h'
      · exact hn h'
      · omega
    · intro b r hb
      have hlt : b < ρ.bs.length := by
        rcases Nat.lt_or_ge b ρ.bs.length with hh | hh
        · exact hh
        · rw [List.getElem?_eq_none hh] at hb; cases hb
      exact .inl (by simp only; rw [List.getElem?_append_left hlt]; exact hb)
    · intro b cs e' fz hb
      have hlt : b < w.heap.size := by
        rcases Nat.lt_or_ge b w.heap.size with hh | hh
        · exact hh
        · rw [Array.getElem?_eq_none hh] at hb; cases hb
      exact ⟨cs, e', fz, by rw [alloc_heap, if_neg (by omega)]; exact hb, rfl⟩
  refine ⟨⟨by simp [h.len], fun b hb => by have := h.fl b hb; omega, ?_, ?_, ?_, ?_⟩, hE⟩
  · intro b r hb
    simp only [List.getElem?_append] at hb
    split at hb
    · have := h.lt b r hb; omega
    · rw [List.getElem?_cons] at hb
      split at hb
      · cases hb; simp
      · simp at hb
  · intro b r hb hF
    simp only [List.getElem?_append] at hb
    have hlt := h.fl r.mb hF
    split at hb
    · exact h.sep b r hb hF
    · rw [List.getElem?_cons] at hb
      split at hb
      · cases hb; simp at hlt
      · simp at hb
  · intro b c r s hb hc hm
    simp only [List.getElem?_append] at hb hc
    split at hb <;> split at hc
    · exact h.nodup b c r s hb hc hm
    · rw [List.getElem?_cons] at hc
      split at hc
      · cases hc; have := h.lt b r hb; simp at hm; omega
      · simp at hc
    · rw [List.getElem?_cons] at hb
      split at hb
      · cases hb; have := h.lt c s hc; simp at hm; omega
      · simp at hb
    · rename_i h1 h2
      rw [List.getElem?_cons] at hb hc
      split at hb
      · split at hc
        · omega
        · simp at hc
      · simp at hb
  · intro b u hb
    simp only [List.getElem?_append] at hb
    split at hb
    · rename_i hlt
      obtain ⟨r, h1, h2, cs, e', fz, y, h3, h4, h5, h6, h7⟩ := h.live b u hb
      have heq : (w.alloc (.cells x.cells e)).heap[r.mb]? = w.heap[r.mb]? := by rw [alloc_heap, if_neg (by have := h.lt b r h1; omega)]
      refine ⟨r, ?_, h2, cs, e', fz, y, heq.trans h3, h4, Rel.ext hE _ _ h5, h6, h7.keep heq⟩
      simp only; rw [List.getElem?_append_left (by rw [h.len]; exact hlt)]; exact h1
    · rename_i hge
      rw [List.getElem?_cons] at hb
      split at hb
      · rename_i hz
        cases hb
        have hbl : b = ρ.bs.length := by rw [h.len]; omega
        have hn : (w.alloc (.cells x.cells e)).heap[w.heap.size]? = some (.cells x.cells e (0, 0)) := by rw [alloc_heap, if_pos rfl]
        refine ⟨_, by simp only; rw [hbl, List.getElem?_append_right (Nat.le_refl _), Nat.sub_self]; rfl, rfl, x.cells, e, (0, 0), x, hn, by simp, Rel.ext hE _ _ hv, by simp, ?_⟩
        rw [cellsAt_row hn]
        intro i hi
        simp
      · simp at hb

end Go.Ev
