/- The table of math/bits, as the evaluator has it. -/
import Derived.Test.YtfglhfahphncdaaDoorEvNum
import Derived.OpenShut
import Derived.ChangeArms
import Derived.FnData
set_option linter.unusedVariables false
set_option linter.unusedSimpArgs false
namespace Go.Ev.S
open Go Go.Ev
def tabL : List Int := [0, 1, 56, 2, 57, 49, 28, 3, 61, 58, 42, 50, 38, 29, 17, 4, 62, 47, 59, 36, 45, 43, 51, 22, 53, 39, 33, 30, 24, 18, 12, 5, 63, 55, 48, 27, 60, 41, 37, 16, 46, 35, 44, 21, 52, 32, 23, 11, 54, 26, 40, 15, 34, 20, 31, 10, 25, 14, 19, 9, 13, 8, 7, 6]
def tabD : Nat → Int := fun i => tabL.getD i 0
noncomputable def tab_deBruijn64tab : Nat → Int := Classical.choose (⟨tabD, rfl⟩ : ∃ f, f = tabD)
theorem tab_is : tab_deBruijn64tab = tabD := Classical.choose_spec (⟨tabD, rfl⟩ : ∃ f, f = tabD)

/-- What the laid condition of the table gives the evaluator. -/
theorem tab_ok {P : Program} {W : World} {nm : String} {t e fuel g : Nat} {cs : Array Value} {p : List MemPlace} {spare} {held} {base : Nat} {l : List (DataW Unit)}
    (hu : P.underlying t = some (.array 64 e)) (hc : P.cellsOf e = 1) (hue : P.underlying e = some (.int .u8)) (hg : P.globalNamed nm = some g) (hv : W.var? P nm = some cs)
    (hl : l = tabL.map fun n => .lit (.int .u8 n)) (hd : DataW.trod (fun _ => ()) P W base spare held fuel t cs.toList = some (.agg l, p)) :
    Rel ⟨[], []⟩ W (.rref (.arr .u8 64 tab_deBruijn64tab)) (.pointer (some ⟨g, 0, none⟩)) := by
  subst hl
  obtain ⟨xs, m, _, ex, hlen0, hl, hel⟩ := DataW.trod_array hu hd
  have hsz : g < W.heap.size := by
    unfold World.var? at hv
    simp only [hg, Option.bind_some] at hv
    cases h : W.heap[g]? with
    | none => rw [h] at hv; cases hv
    | some c => exact (Array.getElem?_eq_some_iff.1 h).1
  have hcell : ∀ i, i < 64 → W.cell? ⟨g, i, none⟩ = some (.int .u8 (tab_deBruijn64tab i)) := by
    intro r hr
    have hE := hel r hr
    rw [hc, Nat.mul_one, List.getElem?_eq_getElem (by omega)] at hE
    obtain ⟨z, e1, e2, _⟩ := DataW.trod_int hue hE
    have hlen : tabL.length = 64 := rfl
    have e3 : (xs.map (·.1)) = tabL.map fun n => .lit (.int .u8 n) := (DataW.agg.inj (Prod.mk.inj ex).1).symm
    have e4 : (xs.map (·.1))[r]? = (tabL.map fun n => (DataW.lit (.int .u8 n) : DataW Unit))[r]? := by rw [e3]
    rw [List.getElem?_map, List.getElem?_map, List.getElem?_eq_getElem (by omega : r < xs.length), List.getElem?_eq_getElem (by omega : r < tabL.length), e2] at e4
    have hz : z = tabL.getD r 0 := by
      simp only [Option.map_some, Option.some.injEq, DataW.lit.injEq, Lit.int.injEq, true_and] at e4
      rw [e4, List.getD, List.getElem?_eq_getElem (by omega : r < tabL.length)]; rfl
    rw [World.var?_cell hg hv r]
    rw [tab_is]
    show _ = some (Value.int .u8 (tabL.getD r 0))
    rw [← hz]
    have : cs.toList[r]? = some (.int .u8 z) := by
      have h0 : ((cs.toList.drop r).take 1)[0]? = some (.int .u8 z) := by rw [e1]; rfl
      simpa using h0
    simpa using this
  refine ⟨g, 0, .agg (ints .u8 64 tab_deBruijn64tab).toArray, rfl, rfl, hsz, by simp [Ren.mbs, Ren.own], ?_⟩
  intro i hi
  have hi' : i < 64 := by simpa [Value.cells, ints_length] using hi
  rw [Nat.zero_add, hcell i hi']
  show _ = (Value.cells (.agg (ints .u8 64 tab_deBruijn64tab).toArray)).toList[i]?
  simp [Value.cells, ints_get _ _ _ _ hi']
end Go.Ev.S
