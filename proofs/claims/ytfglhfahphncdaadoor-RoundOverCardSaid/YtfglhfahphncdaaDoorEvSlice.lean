/- The evaluator: slices made of literals, lengths, the lesser and the greater. -/
import Derived.Test.YtfglhfahphncdaaDoorEvMake
set_option linter.unusedVariables false
set_option linter.unusedSimpArgs false
namespace Go.Ev
open Go

def maxI (a b : Int) : Int := cond (ltI a b) b a
def minI (a b : Int) : Int := cond (ltI b a) b a

def evBuildSlice (E : Env) (t : TypeId) (n : Nat) (ps : List (Nat × EV)) (H : Heap) (K : EV → Heap → Prop) : Prop :=
  match E.ty t with
  | some ti => match ti.td with
    | .slice e => match E.ty e with
      | some ei => gd (Nat.ble (n * ei.size) 16777216) (match ei.zero with
        | .int k z => gd (Nat.beq ei.size 1) (match evParts (fun i => some (i * 1, 1)) ps (.arr k n (fun _ => z)) with
          | some v => K (.slice H.length 0 n (some n) 1) (H ++ [some v])
          | none => False)
        | z => gd (Nat.blt 0 ei.size && Nat.beq z.shape.size ei.size) (match evParts (fun i => some (i * ei.size, ei.size)) ps (.agg (List.replicate n z)) with
          | some v => K (.slice H.length 0 n (some n) ei.size) (H ++ [some v])
          | none => False))
      | none => False
    | _ => False
  | none => False

def evLen (E : Env) (t : TypeId) (x : EV) (K : EV → Prop) : Prop :=
  match E.ty t with
  | some ti => match ti.td, x with
    | .str, .str s => K (.int .i64 s.length)
    | .slice _, .slice _ _ n _ _ => K (.int .i64 n)
    | .slice _, .rsI _ n _ => K (.int .i64 n)
    | .slice _, .nilSlice => K (.int .i64 0)
    | .array n _, .arr _ _ _ => K (.int .i64 n)
    | .array n _, .agg _ => K (.int .i64 n)
    | _, _ => False
  | none => False

def foldMM (f : Int → Int → Int) : EV → List EV → Option EV
  | x, [] => some x
  | .int k a, .int k' b :: r => foldMM f (.int k (f a b)) r
  | _, _ => none

def evMM (f : Int → Int → Int) (xs : List EV) (K : EV → Prop) : Prop :=
  match xs with
  | [] => False
  | x :: r => match foldMM f x r with
    | some v => K v
    | none => False

section sound
variable {P : Program} {E : Env}

theorem row_replicate {ρ : Ren} {w : World} {z : EV} {x : Value} {sz : Nat} (hz : Rel ρ w z x) (hs : z.shape.size = sz) (h0 : 0 < sz) : ∀ (n : Nat),
    RelF ρ w (List.replicate n z) ((List.range (n * sz)).map fun i => x.cells[i % sz]!)
  | 0 => by simp [RelF]
  | n + 1 => by
    have hx := Rel.size z x hz
    rw [List.replicate_succ]
    simp only [RelF]
    refine ⟨x, _, ?_, hz, row_replicate hz hs h0 n⟩
    rw [show (n + 1) * sz = sz + n * sz from by rw [Nat.add_mul]; omega, List.range_add, List.map_append, List.map_map]
    congr 1
    · apply List.ext_getElem?
      intro j
      rw [List.getElem?_map]
      by_cases hj : j < sz
      · rw [List.getElem?_range hj]
        simp only [Option.map_some, Nat.mod_eq_of_lt hj]
        have hlt : j < x.cells.size := by rw [← Array.length_toList, hx, hs]; exact hj
        rw [Array.getElem?_toList, Array.getElem?_eq_getElem hlt, getElem!_pos x.cells j hlt]
      · rw [List.getElem?_eq_none (by simp; omega), List.getElem?_eq_none (by rw [hx, hs]; omega)]; rfl
    · apply List.map_congr_left
      intro i _
      simp [Nat.add_mod_left]

theorem row_ints (k : IntKind) (z : Int) (n : Nat) : (List.range n).map (fun i => (#[Value.int k z])[i % 1]!) = ints k n fun _ => z := by
  simp only [ints]
  apply List.map_congr_left
  intro i _
  simp [Nat.mod_one]

theorem shape_evParts {place : Nat → Option (Nat × Nat)} {ρ : Ren} {w : World} : ∀ (ps : List (Nat × EV)) (z v : EV), evParts place ps z = some v → v.shape = z.shape
  | [], z, v, h => by simp only [evParts, Option.some.injEq] at h; subst h; rfl
  | (i, x) :: ps, z, v, h => by
    simp only [evParts] at h
    split at h
    · rename_i o sz o' z' h1 h2 h3
      cases hc : (Nat.beq o o' && Nat.beq sz x.shape.size) with
      | false => simp [hc] at h
      | true =>
        simp only [hc, cond_true] at h
        rw [shape_evParts (ρ := ρ) (w := w) ps z' v h]
        cases z
        case agg l =>
          simp only [EV.set] at h3
          split at h3
          · rename_i u hu
            split at h3
            · rename_i y hy
              simp only [Option.some.injEq] at h3; subst h3
              simp only [EV.shape]
              have : y.shape = u.shape := by
                cases hb : u.shape.beq x.shape with
                | false => simp [hb] at hy
                | true => simp [hb] at hy; subst hy; exact (Shape.eq_of_beq _ _ hb).symm
              rw [EV.shapeL_set l i y u hu this]
            · cases h3
          · cases h3
        case arr k n g =>
          cases x <;> simp [EV.set] at h3
          rename_i k' m
          by_cases hk : k = k'
          · simp [hk] at h3; subst h3; rfl
          · simp [hk] at h3
        all_goals simp [EV.set] at h3
    · cases h

theorem evBuildSlice_sound {ρ : Ren} {w : World} {t : TypeId} {n : Nat} {ps : List (Nat × EV)} {qs : List (Nat × Value)} {H : Heap} {K : EV → Heap → Prop}
    (hE : ∀ t ti, E.ty t = some ti → OkTI P t ti) (hS : Sim ρ H w)
    (hm : ps.map (·.1) = qs.map (·.1)) (hr : ∀ (i : Nat) (u : Nat × EV) (y : Nat × Value), ps[i]? = some u → qs[i]? = some y → Rel ρ w u.2 y.2) (h : evBuildSlice E t n ps H K) :
    ∃ v H' ρ' w' z, K v H' ∧ Sim ρ' H' w' ∧ Ext ρ w ρ' w' ∧ ρ'.F = ρ.F ∧ Rel ρ' w' v z ∧ (Instr.buildSlice t n qs.toArray).run P w = .ok z w' := by
  unfold evBuildSlice at h
  split at h
  · rename_i ti ht
    obtain ⟨d, it, zt, h1, h2, h3, h4, h5, h6, h7⟩ := hE t ti ht
    split at h
    · rename_i e htd
      rw [htd] at h3; cases d <;> simp only [tdOk] at h3
      subst h3
      rename_i e
      split at h
      · rename_i ei he
        obtain ⟨de, ie, ze, e1, e2, e3, e4, e5, e6, e7⟩ := hE e ei he
        rw [gd_iff] at h
        obtain ⟨hle, h⟩ := h
        have hle' := Nat.le_of_ble_eq_true hle
        have hze : Rel ρ w ei.zero ze := encV_rel _ _ e7
        -- what both ways come to
        have fin : ∀ (v z0 : EV) (es : Nat) (place : Nat → Option (Nat × Nat)) (c0 : List Value), place = (fun i => some (i * es, es)) → es = ei.size → evParts place ps z0 = some v → aggLike z0 = true →
            Rel ρ w z0 (.agg c0.toArray) → v.shape.rows n es → c0.toArray = (Array.range (n * ei.size)).map (fun i => ze.cells[i % ze.cells.size]!) →
            ∃ ρ' w' z, Sim ρ' (H ++ [some v]) w' ∧ Ext ρ w ρ' w' ∧ ρ'.F = ρ.F ∧ Rel ρ' w' (.slice H.length 0 n (some n) es) z ∧ (Instr.buildSlice t n qs.toArray).run P w = .ok z w' := by
          intro v z0 es place c0 hpl hes hv hagg hz0 hrows hc0
          obtain ⟨cs', f1, f2⟩ := fill_sound (fun _ _ h => h) ps qs z0 v _ hv hz0 hagg hm hr
          obtain ⟨ρ', rfl, hS', hE'⟩ := hS.new v (.agg cs') e f2
          rw [cells_agg] at hS' hE'
          have hsz : cs'.size = n * es := by
            have := Rel.size v _ f2
            rw [cells_agg, Array.length_toList] at this
            rw [this]
            rcases hrows with ⟨hr1, hr2⟩ | ⟨l, hr1, hr2, hr3⟩
            · rw [hr1, hr2]; simp [Shape.size]
            · rw [hr1]
              simp only [Shape.size]
              rw [← hr2]
              clear hr1 hr2 f1 this
              induction l with
              | nil => simp [Shape.sizeL]
              | cons s l ih =>
                simp only [Shape.sizeL, List.length_cons]
                rw [ih (fun t ht => hr3 t (List.mem_cons_of_mem _ ht)), hr3 s List.mem_cons_self, Nat.add_mul]; omega
          refine ⟨_, _, .slice (some ⟨w.heap.size, 0, none⟩) n n, hS', hE', rfl, ?_, ?_⟩
          · simp only [Rel]
            refine ⟨_, _, rfl, _, by rw [List.getElem?_append_right (by rw [hS.len]; exact Nat.le_refl _), hS.len, Nat.sub_self]; rfl, fun i hi => ?_⟩
            cases hi
            refine ⟨n, hrows, by omega, Nat.le_refl _, fun c0 hc => by cases hc; exact ⟨rfl, by omega⟩, .inl ⟨by simp, e, cs', (0, 0), by rw [alloc_heap, if_pos rfl], by simp [hsz]⟩⟩
          · simp only [Instr.buildSlice, run_bind, run_underlying h1, run_sizeOf e2, e4]
            rw [if_neg (by omega)]
            subst hpl; subst hes
            by_cases hz : n * ei.size = 0
            · rw [if_pos hz]
              have hrow : (Array.range (n * ei.size)).map (fun i => (#[] : Array Value)[i % (#[] : Array Value).size]!) = c0.toArray := by
                rw [hc0, hz]; simp
              simp only [run_bind, run_pure]
              rw [hrow, f1]
              rfl
            · rw [if_neg hz]
              simp only [run_bind, run_zeroValue e2 e6, run_pure]
              rw [← hc0, f1]
              rfl
        split at h
        · rename_i k z hzk
          rw [gd_iff] at h
          obtain ⟨hsz, h⟩ := h
          have hsz' := Nat.eq_of_beq_eq_true hsz
          split at h
          · rename_i v hv
            rw [hzk] at hze
            simp only [Rel] at hze; subst hze
            obtain ⟨ρ', w', z', g1, g2, g3, g4, g5⟩ := fin v _ 1 _ (ints k n fun _ => z) rfl hsz'.symm hv rfl rfl (.inl ⟨by rw [shape_evParts (ρ := ρ) (w := w) _ _ _ hv]; rfl, rfl⟩) (by
              rw [hsz', Nat.mul_one]
              apply Array.ext'
              rw [← row_ints]
              simp [Value.cells])
            exact ⟨_, _, ρ', w', z', h, g1, g2, g3, g4, g5⟩
          · exact h.elim
        · rename_i z hzn
          rw [gd_iff, Bool.and_eq_true] at h
          obtain ⟨⟨hpos, hss'⟩, h⟩ := h
          have hpos' : 0 < ei.size := Nat.le_of_ble_eq_true hpos
          split at h
          · rename_i v hv
            have hzs := Rel.size _ _ hze
            have hss : ei.zero.shape.size = ei.size := Nat.eq_of_beq_eq_true hss'
            obtain ⟨ρ', w', z', g1, g2, g3, g4, g5⟩ := fin v _ ei.size _ ((List.range (n * ei.size)).map fun i => ze.cells[i % ei.size]!) rfl rfl hv rfl
              (by simp only [Rel]; exact ⟨_, rfl, by rw [List.toList_toArray]; exact row_replicate hze hss hpos' n⟩)
              (.inr ⟨EV.shapeL (List.replicate n ei.zero), by rw [shape_evParts (ρ := ρ) (w := w) _ _ _ hv]; rfl, by rw [EV.shapeL_length, List.length_replicate], by
                intro s hs
                obtain ⟨i, hi⟩ := List.mem_iff_getElem?.1 hs
                rw [EV.shapeL_get] at hi
                cases hq : (List.replicate n ei.zero)[i]? with
                | none => simp [hq] at hi
                | some u =>
                  simp only [hq, Option.map_some, Option.some.injEq] at hi
                  have := List.eq_of_mem_replicate (List.mem_of_getElem? hq)
                  rw [← hi, this]; exact hss⟩) (by
                apply Array.ext'
                have : ze.cells.size = ei.size := by rw [← Array.length_toList, hzs, hss]
                simp [this])
            exact ⟨_, _, ρ', w', z', h, g1, g2, g3, g4, g5⟩
          · exact h.elim
      · exact h.elim
    · exact h.elim
  · exact h.elim

theorem evLen_sound {ρ : Ren} {w : World} {t : TypeId} {x : EV} {X : Value} {K : EV → Prop} {ty : TypeId} (hE : ∀ t ti, E.ty t = some ti → OkTI P t ti)
    (hx : Rel ρ w x X) (h : evLen E t x K) : ∃ v z, K v ∧ (∀ ρ w, Rel ρ w v z) ∧ (Builtin.len_ #[t] ty #[X]).run P w = .ok z w := by
  unfold evLen at h
  split at h
  · rename_i ti ht
    obtain ⟨d, it, zt, h1, h2, h3, h4, h5, h6, h7⟩ := hE t ti ht
    split at h
    · rename_i s htd
      rw [htd] at h3; cases d <;> simp only [tdOk] at h3
      simp only [Rel] at hx; subst hx
      refine ⟨_, _, h, fun _ _ => rfl, ?_⟩
      show ((underlying t) >>= fun _ => _).run P w = _
      rw [run_bind, run_underlying h1]
      simp only [size_mk, run_pure]
      rfl
    · rename_i htd
      rw [htd] at h3; cases d <;> simp only [tdOk] at h3
      simp only [Rel] at hx; obtain ⟨a, c, rfl, _⟩ := hx
      refine ⟨_, _, h, fun _ _ => rfl, ?_⟩
      show ((underlying t) >>= fun _ => _).run P w = _
      rw [run_bind, run_underlying h1]
      rfl
    · rename_i htd
      rw [htd] at h3; cases d <;> simp only [tdOk] at h3
      simp only [Rel] at hx; obtain ⟨a, c, rfl, _⟩ := hx
      refine ⟨_, _, h, fun _ _ => rfl, ?_⟩
      show ((underlying t) >>= fun _ => _).run P w = _
      rw [run_bind, run_underlying h1]
      rfl
    · rename_i htd
      rw [htd] at h3; cases d <;> simp only [tdOk] at h3
      simp only [Rel] at hx; subst hx
      refine ⟨_, _, h, fun _ _ => rfl, ?_⟩
      show ((underlying t) >>= fun _ => _).run P w = _
      rw [run_bind, run_underlying h1]
      rfl
    · rename_i htd
      rw [htd] at h3; cases d <;> simp only [tdOk] at h3
      obtain ⟨e3, e4, _⟩ := h3
      subst e3; subst e4
      refine ⟨_, _, h, fun _ _ => rfl, ?_⟩
      show ((underlying t) >>= fun _ => _).run P w = _
      rw [run_bind, run_underlying h1]
      rfl
    · rename_i htd
      rw [htd] at h3; cases d <;> simp only [tdOk] at h3
      obtain ⟨e3, e4, _⟩ := h3
      subst e3; subst e4
      refine ⟨_, _, h, fun _ _ => rfl, ?_⟩
      show ((underlying t) >>= fun _ => _).run P w = _
      rw [run_bind, run_underlying h1]
      rfl
    · exact h.elim
  · exact h.elim

theorem foldMM_sound {ρ : Ren} {w : World} {f : Int → Int → Int} {f2 : Value → Value → Sem Value} (hf : ∀ k k' a b w, (f2 (.int k a) (.int k' b)).run P w = .ok (.int k (f a b)) w) :
    ∀ (r : List EV) (ys : List Value) (x v : EV) (X : Value), foldMM f x r = some v → Rel ρ w x X → RelL ρ w r ys → ∃ z, Rel ρ w v z ∧ (ys.foldlM f2 X).run P w = .ok z w
  | [], ys, x, v, X, h, hx, hr => by
    simp only [foldMM, Option.some.injEq] at h; subst h
    simp only [RelL] at hr; subst hr
    exact ⟨X, hx, rfl⟩
  | b :: r, ys, x, v, X, h, hx, hr => by
    simp only [RelL] at hr
    obtain ⟨y, ys', rfl, h1, h2⟩ := hr
    cases x <;> cases b <;> simp only [foldMM] at h <;> try (cases h)
    simp only [Rel] at hx h1; subst hx; subst h1
    rw [List.foldlM_cons, run_bind, hf]
    exact foldMM_sound hf r ys' _ v _ h rfl h2

theorem evMM_sound {ρ : Ren} {w : World} {f : Int → Int → Int} {f2 : Value → Value → Sem Value} (hf : ∀ k k' a b w, (f2 (.int k a) (.int k' b)).run P w = .ok (.int k (f a b)) w)
    {xs : List EV} {ys : List Value} {K : EV → Prop} (hr : RelL ρ w xs ys) (h : evMM f xs K) :
    ∃ v z y ys', K v ∧ Rel ρ w v z ∧ ys = y :: ys' ∧ (ys'.foldlM f2 y).run P w = .ok z w := by
  unfold evMM at h
  split at h
  · exact h.elim
  · rename_i x r
    split at h
    · rename_i v hv
      simp only [RelL] at hr
      obtain ⟨y, ys', rfl, h1, h2⟩ := hr
      obtain ⟨z, h3, h4⟩ := foldMM_sound hf r ys' x v y hv h1 h2
      exact ⟨v, z, y, ys', h, h3, rfl, h4⟩
    · exact h.elim

theorem max2_run (k k' : IntKind) (a b : Int) (w : World) : (Builtin.max2 (.int k a) (.int k' b)).run P w = .ok (.int k (maxI a b)) w := by
  simp only [Builtin.max2, run_pure, maxI, ltI]
  by_cases h : a < b <;> simp [h]
theorem min2_run (k k' : IntKind) (a b : Int) (w : World) : (Builtin.min2 (.int k a) (.int k' b)).run P w = .ok (.int k (minI a b)) w := by
  simp only [Builtin.min2, run_pure, minI, ltI]
  by_cases h : b < a <;> simp [h]
end sound
end Go.Ev
