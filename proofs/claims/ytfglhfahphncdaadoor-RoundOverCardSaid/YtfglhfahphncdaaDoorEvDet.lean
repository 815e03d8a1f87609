/- The evaluator: what it comes to is one thing alone. -/
import Derived.Test.YtfglhfahphncdaaDoorEvFlow
set_option linter.unusedVariables false
set_option linter.unusedSimpArgs false
namespace Go.Ev
open Go

def Det {α : Type} (T : (α → Prop) → Prop) : Prop := ∀ K, T K → ∃ v, K v ∧ ∀ K', K' v → T K'
def Det2 {α β : Type} (T : (α → β → Prop) → Prop) : Prop := ∀ K, T K → ∃ v u, K v u ∧ ∀ K', K' v u → T K'

theorem Det.mono {α : Type} {T : (α → Prop) → Prop} (h : Det T) {K K' : α → Prop} (hT : T K) (hK : ∀ v, K v → K' v) : T K' := by
  obtain ⟨v, h1, h2⟩ := h K hT
  exact h2 K' (hK v h1)
theorem det_false {α : Type} : Det (fun _ : α → Prop => False) := fun _ h => h.elim
theorem det_pure {α : Type} (v : α) : Det (fun K => K v) := fun K h => ⟨v, h, fun _ h => h⟩
theorem det_gd {α : Type} {c : Bool} {T : (α → Prop) → Prop} (h : Det T) : Det (fun K => gd c (T K)) := by
  cases c
  · exact det_false
  · exact h
theorem det_and {α : Type} {c : Bool} {T : (α → Prop) → Prop} (h : Det T) : Det (fun K => c = true ∧ T K) := by
  intro K hK
  obtain ⟨v, h1, h2⟩ := h K hK.2
  exact ⟨v, h1, fun K' h' => ⟨hK.1, h2 K' h'⟩⟩
theorem det_br {α : Type} {c : Bool} {T U : (α → Prop) → Prop} (h : Det T) (k : Det U) : Det (fun K => br c (T K) (U K)) := by
  cases c
  · exact k
  · exact h
theorem det_cond {α : Type} {c : Bool} {T U : (α → Prop) → Prop} (h : Det T) (k : Det U) : Det (fun K => cond c (T K) (U K)) := by
  cases c
  · exact k
  · exact h
theorem det_bind {α β : Type} {T : (α → Prop) → Prop} {U : α → (β → Prop) → Prop} (h : Det T) (k : ∀ v, Det (U v)) : Det (fun K => T fun v => U v K) := by
  intro K hT
  obtain ⟨v, h1, h2⟩ := h _ hT
  obtain ⟨u, h3, h4⟩ := k v K h1
  exact ⟨u, h3, fun K' hk => h2 _ (h4 K' hk)⟩
theorem det_map {α β : Type} {T : (α → Prop) → Prop} (f : α → β) (h : Det T) : Det (fun K : β → Prop => T fun v => K (f v)) :=
  det_bind h fun v => det_pure (f v)

variable {E : Env}

theorem det_evLoad {t : TypeId} {v : EV} {H : Heap} : Det (evLoad E t v H) := by
  intro K h
  unfold evLoad at h
  split at h
  · rw [gd_iff] at h
    exact ⟨_, h.2, fun K' hk => by simp only [evLoad, gd_iff]; exact ⟨h.1, hk⟩⟩
  · split at h
    · split at h
      · rename_i h1 _ _ h2
        rw [gd_iff] at h
        exact ⟨_, h.2, fun K' hk => by simp only [evLoad, h1, h2, gd_iff]; exact ⟨h.1, hk⟩⟩
      · exact h.elim
    · exact h.elim
  · exact h.elim

theorem det_intBin {op : BinOp} {k : IntKind} {a b : Int} : Det (intBin op k a b) := by
  cases op
  all_goals first
    | exact det_pure _
    | exact det_gd (det_pure _)

theorem det_strBin {op : BinOp} {a b : List UInt8} : Det (strBin op a b) := by
  cases op
  all_goals first
    | exact det_pure _
    | exact det_gd (det_pure _)
    | exact det_false

theorem det_opt {α β : Type} (o : Option β) (f : β → α) : Det (fun K : α → Prop => match o with | some b => K (f b) | none => False) := by
  cases o
  · exact det_false
  · exact det_pure _

theorem det_evBin {op : BinOp} {t : TypeId} {x y : EV} : Det (evBin E op t x y) := by
  have hd : Det (fun K : EV → Prop => match op with
    | .eql => match eqT E 100 t x y with
      | some b => K (.bool b)
      | none => False
    | .neq => match eqT E 100 t x y with
      | some b => K (.bool (!b))
      | none => False
    | _ => False) := by
    generalize eqT E 100 t x y = o
    cases op <;> cases o
    all_goals first
      | exact det_false
      | exact det_pure _
  cases x <;> cases y
  case int.int k a k' b =>
    cases op
    all_goals first
      | exact det_gd (det_pure _)
      | exact det_cond det_intBin det_false
  case str.str => exact det_strBin
  all_goals exact hd

theorem det_evUn {op : UnOp} {x : EV} : Det (evUn op x) := by
  cases op <;> cases x
  all_goals first
    | exact det_false
    | exact det_pure _

theorem det_evConv {src dst : TypeId} {x : EV} {H : Heap} : Det (evConv E src dst x H) := by
  unfold evConv
  cases E.ty src with
  | none => exact det_false
  | some si =>
    cases E.ty dst with
    | none => exact det_false
    | some di =>
      obtain ⟨td, _, _, _⟩ := di
      obtain ⟨sd, _, _, _⟩ := si
      cases td
      case int k => cases x <;> first | exact det_false | exact det_pure _
      case str =>
        cases x
        case str => exact det_pure _
        all_goals
          dsimp only
          cases sd
          case slice e =>
            refine det_cond ?_ det_false
            generalize evWin H _ = o
            rcases o with _ | ⟨k, n, g⟩
            · first | exact det_false | exact det_pure _
            · cases k <;> first | exact det_pure _ | exact det_false
          all_goals exact det_false
      all_goals exact det_false

theorem det_pickL {f : Nat → EV → (EV → Prop) → Prop} (hf : ∀ j u, Det (f j u)) : ∀ (l : List EV) (j : Nat) (i : Int), Det (fun K => pickL (fun j u => f j u K) l j i)
  | [], _, _ => det_false
  | u :: l, j, i => det_br (hf j u) (det_pickL hf l (j + 1) i)

theorem det_evIndex {t : TypeId} {x i : EV} : Det (evIndex E t x i) := by
  unfold evIndex
  cases E.ty t with
  | none => exact det_false
  | some ti =>
    cases i
    case int k i =>
      obtain ⟨td, _, _, _⟩ := ti
      cases td <;> cases x
      case array.arr => exact det_cond (det_gd (det_pure _)) det_false
      case array.agg => exact det_cond (det_pickL (fun _ u => det_gd (det_pure u)) _ _ _) det_false
      case str.str => exact det_gd (det_pure _)
      all_goals exact det_false
    all_goals exact det_false

theorem det_evField {t : TypeId} {x : EV} {f : Nat} : Det (evField E t x f) := by
  unfold evField
  cases E.ty t with
  | none => exact det_false
  | some ti =>
    obtain ⟨td, _, _, _⟩ := ti
    cases td <;> cases x
    case struct.agg fs l =>
      dsimp only
      cases fs[f]? with
      | none => exact det_false
      | some p =>
        obtain ⟨o, ft⟩ := p
        cases l[f]? with
        | none => exact det_false
        | some u => exact det_gd (det_pure _)
    all_goals exact det_false

theorem det_evFieldAddr {t : TypeId} {x : EV} {f : Nat} {H : Heap} : Det (evFieldAddr E t x f H) := by
  unfold evFieldAddr
  cases E.ty t with
  | none => exact det_false
  | some ti =>
    obtain ⟨td, _, _, _⟩ := ti
    cases td
    case struct fs =>
      dsimp only
      cases fs[f]? with
      | none => exact det_false
      | some p =>
        obtain ⟨o, ft⟩ := p
        dsimp only
        cases E.ty ft with
        | none => exact det_false
        | some fi =>
          cases x
          case ptr b p =>
            dsimp only
            rcases H[b]? with _ | _ | c
            · exact det_false
            · exact det_false
            · dsimp only
              cases EV.get p c with
              | none => exact det_false
              | some u => exact det_gd (det_pure _)
          case rref v =>
            cases v
            case agg l =>
              dsimp only
              cases l[f]? with
              | none => exact det_false
              | some u => exact det_gd (det_pure _)
            all_goals exact det_false
          all_goals exact det_false
    all_goals exact det_false

theorem det_evIndexAddr {t : TypeId} {x i : EV} {H : Heap} : Det (evIndexAddr E t x i H) := by
  unfold evIndexAddr
  cases E.ty t with
  | none => exact det_false
  | some ti =>
    cases i
    case int k i =>
      obtain ⟨td, _, _, _⟩ := ti
      cases td
      case array n e =>
        dsimp only
        cases E.ty e with
        | none => exact det_false
        | some ei =>
          cases x
          case ptr b p =>
            dsimp only
            rcases H[b]? with _ | _ | c
            · exact det_false
            · exact det_false
            · dsimp only
              rcases EV.get p c with _ | u
              · exact det_false
              · cases u
                case arr => exact det_cond (det_gd (det_pure _)) det_false
                case agg => exact det_cond (det_pickL (fun j _ => det_pure (EV.ptr b (p ++ [j]))) _ _ _) det_false
                all_goals exact det_false
          case rref u =>
            cases u
            case arr => exact det_cond (det_and (det_pure _)) det_false
            all_goals exact det_false
          all_goals exact det_false
      case slice e =>
        dsimp only
        cases E.ty e with
        | none => exact det_false
        | some ei =>
          cases x
          case slice b off len cap es =>
            dsimp only
            rcases H[b]? with _ | _ | c
            · exact det_false
            · exact det_false
            · refine det_gd ?_
              cases c
              case agg => exact det_pickL (fun j _ => det_pure (EV.ptr b [off + j])) _ _ _
              all_goals exact det_pure _
          case rsI => exact det_gd (det_pure _)
          all_goals exact det_false
      all_goals exact det_false
    all_goals exact det_false

theorem det_evExtract {x : EV} {i : Nat} : Det (evExtract x i) := by
  cases x
  case tuple l =>
    unfold evExtract
    dsimp only
    cases l[i]? with
    | none => exact det_false
    | some v => exact det_pure _
  all_goals exact det_false

theorem det_evBuild {t : TypeId} {ps : List (Nat × EV)} : Det (evBuild E t ps) := by
  unfold evBuild
  cases E.ty t with
  | none => exact det_false
  | some ti =>
    obtain ⟨td, _, _, z⟩ := ti
    refine det_gd ?_
    cases td
    case struct fs =>
      dsimp only
      generalize evParts _ ps z = o
      cases o with
      | none => exact det_false
      | some v => exact det_gd (det_pure _)
    case array n e =>
      dsimp only
      cases szOf E e with
      | none => exact det_false
      | some n =>
        dsimp only
        generalize evParts _ ps z = o
        cases o with
        | none => exact det_false
        | some v => exact det_pure _
    all_goals exact det_false

theorem det_evLen {t : TypeId} {x : EV} : Det (evLen E t x) := by
  unfold evLen
  cases E.ty t with
  | none => exact det_false
  | some ti =>
    obtain ⟨td, _, _, _⟩ := ti
    cases td <;> cases x
    all_goals first
      | exact det_false
      | exact det_pure _

theorem det_evMM {f : Int → Int → Int} {xs : List EV} : Det (evMM f xs) := by
  unfold evMM
  cases xs with
  | nil => exact det_false
  | cons x r =>
    dsimp only
    cases foldMM f x r with
    | none => exact det_false
    | some v => exact det_pure _

theorem det_evSlice {t : TypeId} {x : EV} {lo hi mx : Option EV} {H : Heap} : Det (evSlice E t x lo hi mx H) := by
  unfold evSlice
  split
  case h_2 => exact det_false
  split
  · split
    · exact det_gd (det_pure _)
    · exact det_false
  · split
    · exact det_gd (det_pure _)
    · exact det_false
  · split
    · exact det_gd (det_pure _)
    · exact det_false
  · split
    · exact det_gd (det_pure _)
    · exact det_false
  · split
    · exact det_gd (det_pure _)
    · exact det_false
  · exact det_false

theorem det_evV {o : Op} {s : St} : Det (evV E o s) := by
  unfold evV
  split
  case h_1 => exact det_pure _
  case h_2 => exact det_pure _
  case h_3 c a b =>
    cases (St.opd E s) c
    case bool t => exact det_br (det_pure _) (det_pure _)
    all_goals exact det_false
  case h_4 => exact det_gd det_evBuild
  case h_5 => exact det_evLoad
  case h_6 => exact det_gd det_evBin
  case h_7 => exact det_evUn
  case h_8 => exact det_gd det_evConv
  case h_9 => exact det_gd det_evFieldAddr
  case h_10 => exact det_gd det_evField
  case h_11 => exact det_gd det_evIndexAddr
  case h_12 => exact det_gd det_evIndex
  case h_13 => exact det_evExtract
  case h_14 => exact det_gd (det_pure _)
  case h_15 => exact det_gd det_evSlice
  case h_16 => exact det_gd det_evLen
  case h_17 => exact det_gd det_evMM
  case h_18 => exact det_gd det_evMM
  case h_19 => exact det_false

theorem Det2.of {α β : Type} {T : (α → β → Prop) → Prop} (h : Det (fun K : α × β → Prop => T fun a b => K (a, b))) : Det2 T := by
  intro K hT
  obtain ⟨⟨v, u⟩, h1, h2⟩ := h (fun p => K p.1 p.2) hT
  exact ⟨v, u, h1, fun K' hk => h2 (fun p => K' p.1 p.2) hk⟩
theorem Det2.to {α β : Type} {T : (α → β → Prop) → Prop} (h : Det2 T) : Det (fun K : α × β → Prop => T fun a b => K (a, b)) := by
  intro K hT
  obtain ⟨v, u, h1, h2⟩ := h _ hT
  exact ⟨(v, u), h1, fun K' hk => h2 _ hk⟩
theorem Det2.mono {α β : Type} {T : (α → β → Prop) → Prop} (h : Det2 T) {K K' : α → β → Prop} (hT : T K) (hK : ∀ v u, K v u → K' v u) : T K' := by
  obtain ⟨v, u, h1, h2⟩ := h K hT
  exact h2 K' (hK v u h1)

theorem det_evBuildSlice {t : TypeId} {n : Nat} {ps : List (Nat × EV)} {H : Heap} : Det2 (evBuildSlice E t n ps H) := by
  refine Det2.of ?_
  unfold evBuildSlice
  cases E.ty t with
  | none => exact det_false
  | some ti =>
    obtain ⟨td, _, _, _⟩ := ti
    cases td
    case slice e =>
      dsimp only
      cases E.ty e with
      | none => exact det_false
      | some ei =>
        obtain ⟨_, sz, _, z⟩ := ei
        refine det_gd ?_
        cases z
        all_goals
          refine det_gd ?_
          generalize evParts _ ps _ = o
          cases o with
          | none => exact det_false
          | some v => exact det_pure (_, _)
    all_goals exact det_false

theorem det_evStore {t : TypeId} {a v : EV} {H : Heap} : Det (evStore E t a v H) := by
  unfold evStore
  cases a
  case ptr b p =>
    dsimp only
    rcases H[b]? with _ | _ | c
    · exact det_false
    · exact det_false
    · dsimp only
      cases EV.set p c v with
      | none => exact det_false
      | some c' => exact det_gd (det_pure _)
  all_goals exact det_false

theorem det_evMakeSlice {t : TypeId} {l c : EV} {H : Heap} : Det2 (evMakeSlice E t l c H) := by
  refine Det2.of ?_
  unfold evMakeSlice
  split
  case h_2 => exact det_false
  split
  case h_2 => exact det_false
  split
  case h_2 => exact det_false
  split
  case h_2 => exact det_false
  exact det_gd (det_pure (_, _))

theorem det_evCopy {t : TypeId} {d x : EV} {H : Heap} : Det2 (evCopy E t d x H) := by
  refine Det2.of ?_
  unfold evCopy
  split
  case h_2 => exact det_false
  split
  case h_2 => exact det_false
  exact det_gd (det_pure (_, _))

theorem det_evAppend {t t' : TypeId} {s x : EV} {H : Heap} : Det2 (evAppend E t t' s x H) := by
  refine Det2.of ?_
  unfold evAppend
  split
  case h_2 => exact det_false
  split
  case h_2 => exact det_false
  split
  case h_2 => exact det_false
  split
  case h_2 => exact det_false
  refine det_gd ?_
  split
  · exact det_gd (det_br (det_pure (_, _)) (det_pure (_, _)))
  · split
    · exact det_gd (det_pure (_, _))
    · exact det_false
  · exact det_false

/-- Of each callee, too, one thing alone comes. -/
def DetFn (E : Env) : Prop := ∀ f en, E.fn f = some en → ∀ args H, Det2 (en.spec args H)

theorem det_evCall (hD : DetFn E) {f : EV} {args : List EV} {H : Heap} : Det2 (evCall E f args H) := by
  refine Det2.of ?_
  unfold evCall
  cases f
  case func f cap =>
    dsimp only
    cases he : E.fn f with
    | none => exact det_false
    | some en =>
      refine det_cond ?_ ?_
      · unfold evCallL
        refine det_gd ?_
        intro K hK
        obtain ⟨v, u, h1, h2⟩ := hD f en he _ _ _ hK
        rw [gd_iff] at h1
        refine ⟨_, h1.2, fun K' hk => h2 _ ?_⟩
        rw [gd_iff]
        exact ⟨h1.1, hk⟩
      · refine det_gd ?_
        intro K hK
        obtain ⟨v, u, h1, h2⟩ := hD f en he _ _ _ hK
        rw [gd_iff] at h1
        cases hv : v.noRS with
        | true =>
          rw [hv] at h1
          refine ⟨_, h1.2, fun K' hk => h2 _ ?_⟩
          rw [gd_iff, hv]
          exact ⟨h1.1, hk⟩
        | false =>
          rw [hv] at h1
          refine ⟨_, h1.2, fun K' hk => h2 _ ?_⟩
          rw [gd_iff, hv]
          exact ⟨h1.1, hk⟩
  all_goals exact det_false

theorem det_evOp (hD : DetFn E) {o : Op} {s : St} : Det2 (evOp E o s) := by
  refine Det2.of ?_
  unfold evOp
  split
  · cases E.ty _ with
    | none => exact det_false
    | some ti => exact det_pure (_, _)
  · cases (St.opd E s) _
    case undef => exact det_false
    all_goals exact det_pure (_, _)
  · exact det_gd det_evBuildSlice.to
  · exact det_map (fun H => (EV.undef, H)) det_evStore
  · exact det_gd det_evMakeSlice.to
  · exact (det_evCall hD).to
  · exact det_gd det_evAppend.to
  · exact det_gd det_evCopy.to
  · exact det_map (fun v => (v, s.heap)) det_evV

theorem det_evOne (hD : DetFn E) {ops : List Oper} {o : Oper} {s : St} : Det (evOne E ops o s) := by
  unfold evOne
  cases o.guard with
  | none => exact det_map (fun p : EV × Heap => s.put o.dst p.1 p.2) (det_evOp hD).to
  | some g =>
    obtain ⟨j, want⟩ := g
    dsimp only
    cases ops[j]? with
    | none => exact det_false
    | some oj =>
      dsimp only
      cases oj.dst with
      | none => exact det_false
      | some d =>
        dsimp only
        cases s.slot d
        case bool b =>
          exact det_br (det_cond (det_map (fun p : EV × Heap => (s.put (some d) (.bool true) s.heap).put o.dst p.1 p.2) (det_evOp hD).to) (det_pure _))
            (det_cond (det_map (fun p : EV × Heap => (s.put (some d) (.bool false) s.heap).put o.dst p.1 p.2) (det_evOp hD).to) (det_pure _))
        case tuple l =>
          cases l with
          | nil => exact det_pure _
          | cons _ _ => exact det_false
        all_goals exact det_false

theorem det_evOps (hD : DetFn E) {ops : List Oper} : ∀ (r : List Oper) (s : St), Det (evOps E ops r s)
  | [], s => det_pure s
  | o :: r, s => by
    show Det (fun K => evOne E ops o s fun s' => evOps E ops r s' K)
    exact det_bind (det_evOne hD) fun s' => det_evOps hD r s'
end Go.Ev
