/- The evaluator: operators. -/
import Derived.Test.YtfglhfahphncdaaDoorEvOps
import Derived.Laws.StructEq
set_option linter.unusedVariables false
set_option linter.unusedSimpArgs false
namespace Go.Ev
open Go

def shlI (k : IntKind) (a b : Int) : Int := k.wrap (a * 2 ^ min b.toNat k.bits)
def shrI (k : IntKind) (a b : Int) : Int := a.fdiv (2 ^ min b.toNat k.bits)
def andI (k : IntKind) (a b : Int) : Int := k.wrap (BitVec.ofInt k.bits a &&& BitVec.ofInt k.bits b).toNat
def orI (k : IntKind) (a b : Int) : Int := k.wrap (BitVec.ofInt k.bits a ||| BitVec.ofInt k.bits b).toNat
def xorI (k : IntKind) (a b : Int) : Int := k.wrap (BitVec.ofInt k.bits a ^^^ BitVec.ofInt k.bits b).toNat
def andNotI (k : IntKind) (a b : Int) : Int := k.wrap (BitVec.ofInt k.bits a &&& ~~~BitVec.ofInt k.bits b).toNat
def addI (k : IntKind) (a b : Int) : Int := k.wrap (a + b)
def subI (k : IntKind) (a b : Int) : Int := k.wrap (a - b)
def mulI (k : IntKind) (a b : Int) : Int := k.wrap (a * b)
def quoI (k : IntKind) (a b : Int) : Int := k.wrap (a.tdiv b)
def remI (k : IntKind) (a b : Int) : Int := a.tmod b
def eqI (a b : Int) : Bool := a == b
def ltI (a b : Int) : Bool := decide (a < b)
def leI (a b : Int) : Bool := decide (a ≤ b)
def ltS (a b : List UInt8) : Bool := Op.bytesLess a b
def eqS (a b : List UInt8) : Bool := a == b

def intBin (op : BinOp) (k : IntKind) (a b : Int) (K : EV → Prop) : Prop :=
  match op with
  | .add => K (.int k (addI k a b))
  | .sub => K (.int k (subI k a b))
  | .mul => K (.int k (mulI k a b))
  | .quo => gd (!eqI b 0) (K (.int k (quoI k a b)))
  | .rem => gd (!eqI b 0) (K (.int k (remI k a b)))
  | .and => K (.int k (andI k a b))
  | .or => K (.int k (orI k a b))
  | .xor => K (.int k (xorI k a b))
  | .andNot => K (.int k (andNotI k a b))
  | .eql => K (.bool (eqI a b))
  | .neq => K (.bool (!eqI a b))
  | .lss => K (.bool (ltI a b))
  | .leq => K (.bool (leI a b))
  | .gtr => K (.bool (ltI b a))
  | .geq => K (.bool (leI b a))
  | .shl => gd (!ltI b 0) (K (.int k (shlI k a b)))
  | .shr => gd (!ltI b 0) (K (.int k (shrI k a b)))

def strBin (op : BinOp) (a b : List UInt8) (K : EV → Prop) : Prop :=
  match op with
  | .add => gd (leI ((a.length : Int) + b.length) 9223372036854775807) (K (.str (a ++ b)))
  | .eql => K (.bool (eqS a b))
  | .neq => K (.bool (!eqS a b))
  | .lss => K (.bool (ltS a b))
  | .leq => K (.bool (ltS a b || eqS a b))
  | .gtr => K (.bool (!(ltS a b || eqS a b)))
  | .geq => K (.bool (!ltS a b))
  | _ => False

/-- Rows of integers, the same up to n. -/
def eqN : Nat → (Nat → Int) → (Nat → Int) → Bool
  | 0, _, _ => true
  | n + 1, g, h => eqN n g h && eqI (g n) (h n)

theorem eqN_iff (n : Nat) (g h : Nat → Int) : eqN n g h = true ↔ ∀ i, i < n → g i = h i := by
  induction n with
  | zero => simp [eqN]
  | succ n ih =>
    simp only [eqN, Bool.and_eq_true, ih, eqI, beq_iff_eq]
    constructor
    · rintro ⟨h1, h2⟩ i hi
      by_cases hn : i = n
      · subst hn; exact h2
      · exact h1 i (by omega)
    · intro h1
      exact ⟨fun i hi => h1 i (by omega), h1 n (by omega)⟩

def eqL (E : Env) (eq : TypeId → EV → EV → Option Bool) : List (Nat × TypeId) → Nat → List EV → List EV → Option Bool
  | [], _, [], [] => some true
  | (o, t) :: fs, off, x :: xs, y :: ys =>
    cond (Nat.beq o off && (x.shape.beq y.shape && (conf E t x && conf E t y)))
      (match eq t x y, eqL E eq fs (off + x.shape.size) xs ys with
       | some a, some b => some (match fs with | [] => a | _ => a && b)
       | _, _ => none)
      none
  | _, _, _, _ => none

def isIntTy (E : Env) (e : TypeId) (k : IntKind) : Bool :=
  match E.ty e with
  | some ti => match ti.td with
    | .int k' => decide (k = k') && Nat.beq ti.size 1
    | _ => false
  | none => false

def eqT (E : Env) : Nat → TypeId → EV → EV → Option Bool
  | 0, _, _, _ => none
  | d + 1, t, x, y => match E.ty t with
    | none => none
    | some ti => match ti.td, x, y with
      | .bool, .bool a, .bool b => some (beqB a b)
      | .int _, .int k a, .int k' b => cond (decide (k = k')) (some (eqI a b)) none
      | .str, .str a, .str b => some (eqS a b)
      | .ptr, .nilPtr, .nilPtr => some true
      | .func, .nilFunc, .nilFunc => some true
      | .func, .nilFunc, .func _ _ => some false
      | .func, .func _ _, .nilFunc => some false
      | .slice _, .nilSlice, .nilSlice => some true
      | .struct fs, .agg xs, .agg ys => eqL E (eqT E d) fs 0 xs ys
      | .array n e, .arr k n1 g, .arr k' n2 h => cond (Nat.beq n1 n && (Nat.beq n2 n && (decide (k = k') && isIntTy E e k))) (some (eqN n g h)) none
      | _, _, _ => none

def evBin (E : Env) (op : BinOp) (t : TypeId) (x y : EV) (K : EV → Prop) : Prop :=
  match x, y with
  | .int k a, .int k' b =>
    match op with
    | .shl => gd (!ltI b 0) (K (.int k (shlI k a b)))
    | .shr => gd (!ltI b 0) (K (.int k (shrI k a b)))
    | op => cond (decide (k = k')) (intBin op k a b K) False
  | .str a, .str b => strBin op a b K
  | x, y => match op with
    | .eql => match eqT E 100 t x y with
      | some b => K (.bool b)
      | none => False
    | .neq => match eqT E 100 t x y with
      | some b => K (.bool (!b))
      | none => False
    | _ => False

section sound
variable {P : Program} {E : Env}

theorem run_intBin {w : World} {op : BinOp} {k : IntKind} {a b : Int} {t : TypeId} {K : EV → Prop} (hop : op ≠ .shl ∧ op ≠ .shr) (h : intBin op k a b K) :
    ∃ v x, K v ∧ (∀ ρ w, Rel ρ w v x) ∧ (binOp op t (.int k a) (.int k b)).run P w = .ok x w := by
  cases op <;> simp only [intBin] at h
  case shl => exact absurd rfl hop.1
  case shr => exact absurd rfl hop.2
  case quo =>
    rw [gd_iff] at h
    refine ⟨_, _, h.2, fun ρ w => rfl, ?_⟩
    have : b ≠ 0 := by simpa [eqI] using h.1
    simp [binOp, Op.intDiv, this, run_pure, quoI]
  case rem =>
    rw [gd_iff] at h
    refine ⟨_, _, h.2, fun ρ w => rfl, ?_⟩
    have : b ≠ 0 := by simpa [eqI] using h.1
    simp [binOp, Op.intDiv, this, run_pure, remI]
  all_goals
    refine ⟨_, _, h, fun ρ w => rfl, ?_⟩
    simp [binOp, Op.intArith, Op.intBits, Op.intCmp, run_pure, addI, subI, mulI, andI, orI, xorI, andNotI, eqI, ltI, leI]
  rfl

theorem run_shift {w : World} {op : BinOp} {k k' : IntKind} {a b : Int} {t : TypeId} {K : EV → Prop} (hop : op = .shl ∨ op = .shr)
    (h : gd (!ltI b 0) (K (.int k (match op with | .shl => shlI k a b | _ => shrI k a b)))) :
    ∃ v x, K v ∧ (∀ ρ w, Rel ρ w v x) ∧ (binOp op t (.int k a) (.int k' b)).run P w = .ok x w := by
  rw [gd_iff] at h
  have hb : ¬ b < 0 := by simpa [ltI] using h.1
  refine ⟨_, _, h.2, fun ρ w => rfl, ?_⟩
  rcases hop with rfl | rfl <;> simp [binOp, Op.shift, hb, run_pure, shlI, shrI]

theorem size_mk (s : List UInt8) : (⟨s.toArray⟩ : ByteArray).size = s.length := by show s.toArray.size = _; simp
theorem toList_mk (s : List UInt8) : (⟨s.toArray⟩ : ByteArray).toList = s := by rw [ByteArray.toList_eq]

theorem run_strBin {w : World} {op : BinOp} {a b : List UInt8} {t : TypeId} {K : EV → Prop} (h : strBin op a b K) :
    ∃ v x, K v ∧ (∀ ρ w, Rel ρ w v x) ∧ (binOp op t (.string ⟨a.toArray⟩) (.string ⟨b.toArray⟩)).run P w = .ok x w := by
  cases op <;> simp only [strBin] at h
  case add =>
    rw [gd_iff] at h
    refine ⟨_, _, h.2, fun ρ w => rfl, ?_⟩
    have h1 : (a.length : Int) + b.length ≤ 9223372036854775807 := by simpa [leI] using h.1
    have h2 : ¬ ((a.length + b.length : Nat) : Int) > IntKind.i64.max := by simp [IntKind.max, IntKind.signed, IntKind.bits]; omega
    simp only [binOp, Op.stringOp, size_mk]
    rw [if_neg h2]
    have : (⟨a.toArray⟩ : ByteArray) ++ ⟨b.toArray⟩ = ⟨(a ++ b).toArray⟩ := by
      apply ByteArray.ext
      rw [ByteArray.data_append]
      simp
    rw [this]; rfl
  all_goals first
    | exact h.elim
    | (refine ⟨_, _, h, fun ρ w => rfl, ?_⟩
       simp only [binOp, Op.stringOp, toList_mk, eqS, ltS, run_pure])

theorem conf_part {ρ : Ren} {w : World} {t : TypeId} {u : EV} {x : Value} {xs : Array Value} {o : Nat} (hE : ∀ t ti, E.ty t = some ti → OkTI P t ti) (h : conf E t u = true)
    (hr : Rel ρ w u x) (hx : x.cells.toList = (xs.toList.drop o).take u.shape.size) (hl : o + u.shape.size ≤ xs.size) : (part t xs o).run P w = .ok x w := by
  obtain ⟨d, i, h1, h2, h3, h4⟩ := conf_spec hE h
  simp only [part, run_bind, run_isAgg h1]
  cases hd : TypeDescAgg d with
  | true =>
    obtain ⟨cs, rfl⟩ := (hr.aggLike).1 (h3 ▸ hd)
    simp only [if_true, run_bind, run_sizeOf h2, run_pure]
    congr 2
    apply Array.ext'
    rw [cells_agg] at hx
    rw [hx, Array.toList_extract, h4, List.extract_eq_take_drop]
    congr 1; omega
  | false =>
    simp only [Bool.false_eq_true, if_false]
    have hc : x.cells = #[x] := by
      unfold Value.cells
      split
      · rename_i cs; exact absurd rfl ((hr.aggLike).2 (h3 ▸ hd) cs)
      · rfl
    have hs := Rel.size u x hr
    rw [hc] at hs hx
    simp at hs
    rw [← hs] at hx hl
    have : xs[o]? = some x := by
      rw [Array.getElem?_eq_getElem (by omega)]
      have h6 : [x] = List.take 1 (List.drop o xs.toList) := by simpa using hx
      rw [List.take_one, List.head?_drop] at h6
      have h7 : xs.toList[o]? = some xs[o] := by simp [List.getElem?_eq_getElem, show o < xs.size from by omega]
      rw [h7] at h6
      simp at h6
      rw [h6]
    rw [this]; rfl

theorem RelF.cons_part {ρ : Ren} {w : World} {v : EV} {l : List EV} {cs : List Value} {off : Nat} (h : RelF ρ w (v :: l) (cs.drop off)) :
    ∃ x, Rel ρ w v x ∧ x.cells.toList = (cs.drop off).take v.shape.size ∧ (off + v.shape.size ≤ cs.length ∨ v.shape.size = 0) ∧ RelF ρ w l (cs.drop (off + v.shape.size)) := by
  simp only [RelF] at h
  obtain ⟨x, ys, h1, h2, h3⟩ := h
  have hs := Rel.size v x h2
  refine ⟨x, h2, ?_, ?_, ?_⟩
  · rw [h1, ← hs, List.take_left']; rfl
  · have := congrArg List.length h1
    simp only [List.length_drop, List.length_append] at this
    omega
  · rw [← List.drop_drop, h1, ← hs, List.drop_left']
    · exact h3
    · rfl

theorem run_eqL {ρ : Ren} {w : World} {d : Nat} (hE : ∀ t ti, E.ty t = some ti → OkTI P t ti)
    (ih : ∀ (t : TypeId) (x y : EV) (X Y : Value) (b : Bool), eqT E d t x y = some b → Rel ρ w x X → Rel ρ w y Y → (Op.equalIn (d + 9900) t X Y).run P w = .ok b w) :
    ∀ (fs : List (Nat × TypeId)) (off : Nat) (xs ys : List EV) (gs : List Field) (cx cy : Array Value) (b : Bool), gs.map (fun f => (f.offset, f.type)) = fs →
      gs.all (fun f => f.name != "_") = true → eqL E (eqT E d) fs off xs ys = some b → RelF ρ w xs (cx.toList.drop off) → RelF ρ w ys (cy.toList.drop off) →
      off ≤ cx.size → off ≤ cy.size →
      (Op.eqFields (d + 9900) cx cy gs).run P w = .ok b w
  | [], off, xs, ys, gs, cx, cy, b, hg, hn, h, hx, hy, hox, hoy => by
    cases gs with
    | cons g gs => simp at hg
    | nil =>
      cases xs <;> cases ys <;> simp [eqL] at h
      subst h
      rfl
  | (o, t) :: fs, off, [], ys, gs, cx, cy, b, hg, hn, h, hx, hy, hox, hoy => by simp [eqL] at h
  | (o, t) :: fs, off, x :: xs, [], gs, cx, cy, b, hg, hn, h, hx, hy, hox, hoy => by simp [eqL] at h
  | (o, t) :: fs, off, x :: xs, y :: ys, gs, cx, cy, b, hg, hn, h, hx, hy, hox, hoy => by
    cases gs with
    | nil => simp at hg
    | cons g gs =>
      simp only [List.map_cons, List.cons.injEq, Prod.mk.injEq] at hg
      obtain ⟨⟨ho, ht⟩, hg⟩ := hg
      simp only [List.all_cons, Bool.and_eq_true] at hn
      simp only [eqL] at h
      cases hc : (Nat.beq o off && (x.shape.beq y.shape && (conf E t x && conf E t y))) with
      | false => simp [hc] at h
      | true =>
        simp only [hc, cond_true] at h
        simp only [Bool.and_eq_true] at hc
        obtain ⟨hc1, hc2, hc3, hc4⟩ := hc
        have hoo := Nat.eq_of_beq_eq_true hc1
        have hsh := Shape.eq_of_beq _ _ hc2
        cases he : eqT E d t x y with
        | none => simp [he] at h
        | some a =>
          cases hl : eqL E (eqT E d) fs (off + x.shape.size) xs ys with
          | none => simp [he, hl] at h
          | some c =>
            simp only [he, hl, Option.some.injEq] at h
            obtain ⟨X, h1, h2, h3, h4⟩ := hx.cons_part
            obtain ⟨Y, h5, h6, h7, h8⟩ := hy.cons_part
            have hlx : off + x.shape.size ≤ cx.size := by have := Array.length_toList (xs := cx); omega
            have hly : off + y.shape.size ≤ cy.size := by have := Array.length_toList (xs := cy); omega
            have hbv : (if a = true then c else false) = b := by
              rw [← h]
              cases fs with
              | nil =>
                cases xs <;> cases ys <;> simp [eqL] at hl
                subst hl
                cases a <;> rfl
              | cons f fs => cases a <;> simp
            subst ht
            have ho' : g.offset = off := ho.trans hoo
            simp only [Op.eqFields]
            rw [if_pos (by simpa using hn.1), run_bind, ho', conf_part hE hc3 h1 h2 hlx]
            simp only [run_bind]
            rw [conf_part hE hc4 h5 h6 hly]
            simp only [run_bind]
            rw [ih g.type x y X Y a he h1 h5]
            simp only
            cases a with
            | false => simp at hbv; subst hbv; rfl
            | true =>
              simp at hbv; subst hbv
              simp only [Bool.not_true, Bool.false_eq_true, if_false]
              exact run_eqL hE ih fs _ xs ys gs cx cy c hg hn.2 hl h4 (hsh ▸ h8) hlx (hsh ▸ hly)

theorem run_eqArr {ρ : Ren} {w : World} {k : IntKind} {t e : TypeId} {n : Nat} {ti : TI} (hE : ∀ t ti, E.ty t = some ti → OkTI P t ti) (hi : isIntTy E e k = true)
    (ht : P.underlying t = some (.array n e)) (d : Nat) (g h : Nat → Int) :
    (Op.equalIn (d + 2) t (.agg (ints k n g).toArray) (.agg (ints k n h).toArray)).run P w = .ok (eqN n g h) w := by
  unfold isIntTy at hi
  cases he : E.ty e with
  | none => simp [he] at hi
  | some ti =>
    simp only [he] at hi
    obtain ⟨de, ie, z, h1, h2, h3, h4, _⟩ := hE e ti he
    cases htd : ti.td <;> simp only [htd, Bool.and_eq_true, decide_eq_true_eq] at hi <;> first | (exact absurd hi Bool.false_ne_true) | skip
    rename_i k'
    obtain ⟨rfl, hsz⟩ := hi
    have hs1 : ie.size = 1 := h4.trans (Nat.eq_of_beq_eq_true hsz)
    rw [htd] at h3
    cases de <;> simp [tdOk] at h3
    subst h3
    rename_i k'
    have hpart : ∀ (q : Nat → Int) (i : Nat) (w : World), i < n → (part e (ints k' n q).toArray (i * 1)).run P w = .ok (.int k' (q i)) w := by
      intro q i w hi
      simp only [part, run_bind, run_isAgg h1, TypeDescAgg, Bool.false_eq_true, if_false, Nat.mul_one]
      rw [List.getElem?_toArray, ints_get _ _ _ _ hi]
      rfl
    have key : ∀ (m i : Nat) (w : World), i + m = n → eqN i g h = true →
        (forIn (m := Sem) (List.range' i m) ((none, ()) : Option Bool × Unit) fun i r => do
          let a ← part e (ints k' n g).toArray (i * 1)
          let b ← part e (ints k' n h).toArray (i * 1)
          let r ← Op.equalIn (d + 1) e a b
          if (!r) = true then pure (ForInStep.done (some false, ())) else pure (ForInStep.yield (none, ()))).run P w = .ok (if eqN n g h = true then (none, ()) else (some false, ())) w := by
      intro m
      induction m with
      | zero =>
        intro i w hi hq
        have : i = n := by omega
        subst this
        simp [hq, run_pure]
      | succ m ih =>
        intro i w hi hq
        rw [List.range'_succ, List.forIn_cons]
        simp only [run_bind, hpart g i w (by omega), hpart h i w (by omega), run_equalIn_int w d e k' k' (g i) (h i) h1]
        by_cases hgh : g i = h i
        · have : (g i == h i) = true := by simp [hgh]
          simp only [this, Bool.not_true, Bool.false_eq_true, if_false, run_pure]
          exact ih (i + 1) w (by omega) (by simp [eqN, hq, eqI, hgh])
        · have : (g i == h i) = false := by simp [hgh]
          simp only [this, Bool.not_false, if_true, run_pure]
          have hn : ¬ eqN n g h = true := by
            rw [eqN_iff]; exact fun hh => hgh (hh i (by omega))
          rw [if_neg hn]
    rw [Op.equalIn]
    simp only [run_bind, run_underlying ht, run_sizeOf h2, hs1]
    simp
    have := key n 0 w (by omega) rfl
    simp at this
    rw [this]
    cases eqN n g h <;> rfl

theorem run_eqT {ρ : Ren} {w : World} (hE : ∀ t ti, E.ty t = some ti → OkTI P t ti) : ∀ (d : Nat) (t : TypeId) (x y : EV) (X Y : Value) (b : Bool),
    eqT E d t x y = some b → Rel ρ w x X → Rel ρ w y Y → (Op.equalIn (d + 9900) t X Y).run P w = .ok b w
  | 0, t, x, y, X, Y, b, h, hx, hy => by simp [eqT] at h
  | d + 1, t, x, y, X, Y, b, h, hx, hy => by
    simp only [eqT] at h
    cases ht : E.ty t with
    | none => simp [ht] at h
    | some ti =>
      simp only [ht] at h
      obtain ⟨de, ie, z, h1, h2, h3, h4, _⟩ := hE t ti ht
      rw [show d + 1 + 9900 = (d + 9900) + 1 from by omega]
      have ihd := run_eqT (ρ := ρ) (w := w) hE d
      have hm9 : 9900 ≤ d + 9900 := by omega
      have run_eqL' := @run_eqL P E ρ w d hE ihd
      have run_eqArr' : ∀ (k : IntKind) (t e : TypeId) (n : Nat), isIntTy E e k = true → P.underlying t = some (.array n e) → ∀ (g h : Nat → Int),
          (Op.equalIn (d + 9900 + 1) t (.agg (ints k n g).toArray) (.agg (ints k n h).toArray)).run P w = .ok (eqN n g h) w := by
        intro k t e n hi ht g h
        have := run_eqArr (w := w) (ρ := ρ) (ti := default) hE hi ht (d + 9899) g h
        rw [show d + 9899 + 2 = d + 9900 + 1 from by omega] at this
        exact this
      generalize d + 9900 = m at *
      split at h
      · rename_i htd; rw [htd] at h3; cases de <;> simp [tdOk] at h3
        simp only [Rel] at hx hy; subst hx; subst hy
        simp only [Option.some.injEq] at h; subst h
        rw [run_equalIn_bool' w _ t _ _ h1]
        rename_i a b; cases a <;> cases b <;> rfl
      · rename_i htd; rw [htd] at h3; cases de <;> simp [tdOk] at h3
        rename_i k a k' b _
        simp only [Rel] at hx hy; subst hx; subst hy
        by_cases hk : k = k'
        · subst hk
          simp at h; subst h
          rw [run_equalIn_int w _ t _ _ _ _ h1]; rfl
        · simp [hk] at h
      · rename_i htd; rw [htd] at h3; cases de <;> simp [tdOk] at h3
        simp only [Rel] at hx hy; subst hx; subst hy
        simp only [Option.some.injEq] at h; subst h
        rw [run_equalIn_string w _ t _ _ h1, toList_mk, toList_mk]; rfl
      · rename_i htd; rw [htd] at h3; cases de <;> simp [tdOk] at h3
        simp only [Rel] at hx hy; subst hx; subst hy
        simp only [Option.some.injEq] at h; subst h
        rw [Op.equalIn]; simp only [run_bind, run_underlying h1]; rfl
      · rename_i htd; rw [htd] at h3; cases de <;> simp [tdOk] at h3
        simp only [Rel] at hx hy; subst hx; subst hy
        simp only [Option.some.injEq] at h; subst h
        rw [Op.equalIn]; simp only [run_bind, run_underlying h1]; rfl
      · rename_i htd; rw [htd] at h3; cases de <;> simp [tdOk] at h3
        simp only [Rel] at hx hy; subst hx; obtain ⟨_, rfl, _⟩ := hy
        simp only [Option.some.injEq] at h; subst h
        rw [Op.equalIn]; simp only [run_bind, run_underlying h1]; rfl
      · rename_i htd; rw [htd] at h3; cases de <;> simp [tdOk] at h3
        simp only [Rel] at hx hy; subst hy; obtain ⟨_, rfl, _⟩ := hx
        simp only [Option.some.injEq] at h; subst h
        rw [Op.equalIn]; simp only [run_bind, run_underlying h1]; rfl
      · rename_i htd; rw [htd] at h3; cases de <;> simp [tdOk] at h3
        simp only [Rel] at hx hy; subst hx; subst hy
        simp only [Option.some.injEq] at h; subst h
        rw [Op.equalIn]; simp only [run_bind, run_underlying h1]; rfl
      · rename_i fs xs ys htd; rw [htd] at h3; cases de <;> simp only [tdOk] at h3
        rename_i flds
        simp only [Rel] at hx hy; obtain ⟨cx, rfl, hx⟩ := hx; obtain ⟨cy, rfl, hy⟩ := hy
        have hf : P.fieldsOf t = flds := by simp [Program.fieldsOf, h1]
        rw [run_equalIn_struct w _ t cx cy (by rw [hf]; exact h1) h3.2.2.1, hf]
        exact run_eqL' fs 0 xs ys flds.toList cx cy b h3.1 h3.2.1 h (by simpa using hx) (by simpa using hy) (by omega) (by omega)
      · rename_i n e k n1 g k' n2 q htd; rw [htd] at h3; cases de <;> simp only [tdOk] at h3
        rename_i na ea
        obtain ⟨e3, e4, _⟩ := h3
        subst e3; subst e4
        cases hc : (Nat.beq n1 na && (Nat.beq n2 na && (decide (k = k') && isIntTy E ea k))) with
        | false => simp [hc] at h
        | true =>
          simp only [hc, cond_true, Option.some.injEq] at h; subst h
          simp only [Bool.and_eq_true, decide_eq_true_eq] at hc
          obtain ⟨c1, c2, rfl, c4⟩ := hc
          have e1 := Nat.eq_of_beq_eq_true c1
          have e2 := Nat.eq_of_beq_eq_true c2
          subst e1; subst e2
          simp only [Rel] at hx hy; subst hx; subst hy
          exact run_eqArr' _ _ _ _ c4 h1 g q
      · cases h

theorem run_eqGuard_of {w : World} {op : BinOp} {t : TypeId} {x y : Operand} {X Y : Value} (h : (∀ cs, X ≠ .agg cs) ∧ X ≠ .nilIface) :
    (eqGuard op t x y X Y).run P w = .ok () w := by
  cases op <;> cases X <;> first | rfl | exact absurd rfl h.2 | exact absurd rfl (h.1 _)

theorem run_eqGuard_arith {w : World} {op : BinOp} {t : TypeId} {x y : Operand} {X Y : Value} (h : op ≠ .eql ∧ op ≠ .neq) :
    (eqGuard op t x y X Y).run P w = .ok () w := by
  cases op <;> first | exact absurd rfl h.1 | exact absurd rfl h.2 | rfl

theorem eqT_agg {t : TypeId} {ti : TI} {d : Nat} {x y : EV} {b : Bool} {ρ : Ren} {w : World} {X Y : Value} {op : BinOp} {ox oy : Operand} (hE : ∀ t ti, E.ty t = some ti → OkTI P t ti)
    (h : eqT E d t x y = some b) (hx : Rel ρ w x X) (hy : Rel ρ w y Y) : (eqGuard op t ox oy X Y).run P w = .ok () w := by
  cases d with
  | zero => simp [eqT] at h
  | succ d =>
    simp only [eqT] at h
    cases ht : E.ty t with
    | none => simp [ht] at h
    | some ti =>
      simp only [ht] at h
      obtain ⟨de, ie, z, h1, h2, h3, h4, _⟩ := hE t ti ht
      split at h
      · simp only [Rel] at hx; subst hx; exact run_eqGuard_of (by simp)
      · simp only [Rel] at hx; subst hx; exact run_eqGuard_of (by simp)
      · simp only [Rel] at hx; subst hx; exact run_eqGuard_of (by simp)
      · simp only [Rel] at hx; subst hx; exact run_eqGuard_of (by simp)
      · simp only [Rel] at hx; subst hx; exact run_eqGuard_of (by simp)
      · simp only [Rel] at hx; subst hx; exact run_eqGuard_of (by simp)
      · simp only [Rel] at hx; obtain ⟨_, rfl, _⟩ := hx; exact run_eqGuard_of (by simp)
      · simp only [Rel] at hx; subst hx; exact run_eqGuard_of (by simp)
      · rename_i htd; rw [htd] at h3; cases de <;> simp only [tdOk] at h3
        simp only [Rel] at hx hy; obtain ⟨cx, rfl, _⟩ := hx; obtain ⟨cy, rfl, _⟩ := hy
        exact run_eqGuard_agg w op t ox oy cx cy h3.2.2.2
      · rename_i htd; rw [htd] at h3; cases de <;> simp only [tdOk] at h3
        simp only [Rel] at hx hy; subst hx; subst hy
        exact run_eqGuard_agg w op t ox oy _ _ h3.2.2
      · cases h

theorem run_binOp_eql {w : World} {t : TypeId} {X Y : Value} {b : Bool} (h1 : ∀ k n, X ≠ .int k n) (h2 : ∀ s, X ≠ .string s) (h3 : ∀ k n, X ≠ .float k n) (h4 : ∀ k n m, X ≠ .complex k n m)
    (h : (Op.equalIn 10000 t X Y).run P w = .ok b w) : (binOp .eql t X Y).run P w = .ok (.bool b) w := by
  have : binOp .eql t X Y = (do pure (.bool (← Op.equal t X Y))) := by
    cases X <;> first | rfl | exact absurd rfl (h1 _ _) | exact absurd rfl (h2 _) | exact absurd rfl (h3 _ _) | exact absurd rfl (h4 _ _ _)
  rw [this]
  simp only [Op.equal, Op.maxDepth, run_bind, h, run_pure]

theorem run_binOp_neq {w : World} {t : TypeId} {X Y : Value} {b : Bool} (h1 : ∀ k n, X ≠ .int k n) (h2 : ∀ s, X ≠ .string s) (h3 : ∀ k n, X ≠ .float k n) (h4 : ∀ k n m, X ≠ .complex k n m)
    (h : (Op.equalIn 10000 t X Y).run P w = .ok b w) : (binOp .neq t X Y).run P w = .ok (.bool (!b)) w := by
  have : binOp .neq t X Y = (do pure (.bool (!(← Op.equal t X Y)))) := by
    cases X <;> first | rfl | exact absurd rfl (h1 _ _) | exact absurd rfl (h2 _) | exact absurd rfl (h3 _ _) | exact absurd rfl (h4 _ _ _)
  rw [this]
  simp only [Op.equal, Op.maxDepth, run_bind, h, run_pure]

def tag : Value → Nat
  | .bool _ => 0 | .int _ _ => 1 | .float _ _ => 2 | .complex _ _ _ => 3 | .string _ => 4 | .pointer _ => 5 | .slice _ _ _ => 6 | .map _ => 7
  | .chan _ => 8 | .func _ _ _ => 9 | .nilFunc => 10 | .iface _ _ => 11 | .nilIface => 12 | .agg _ => 13 | .tuple _ => 14
def etag : EV → Nat
  | .undef => 99 | .bool _ => 0 | .int _ _ => 1 | .str _ => 4 | .nilPtr => 5 | .ptr _ _ => 5 | .rref _ => 5 | .nilSlice => 6 | .slice _ _ _ _ _ => 6
  | .rsI _ _ _ => 6 | .nilFunc => 10 | .func _ _ => 9 | .agg _ => 13 | .arr _ _ _ => 13 | .tuple _ => 14 | .nilIface => 12 | .iface _ _ => 11

theorem Rel.tag {ρ : Ren} {w : World} : ∀ {v : EV} {x : Value}, Rel ρ w v x → tag x = etag v
  | .undef, _, hr => hr.elim
  | .bool _, _, hr => by simp only [Rel] at hr; subst hr; rfl
  | .int _ _, _, hr => by simp only [Rel] at hr; subst hr; rfl
  | .str _, _, hr => by simp only [Rel] at hr; subst hr; rfl
  | .nilPtr, _, hr => by simp only [Rel] at hr; subst hr; rfl
  | .ptr _ _, _, hr => by simp only [Rel] at hr; obtain ⟨_, rfl, _⟩ := hr; rfl
  | .rref _, _, hr => by simp only [Rel] at hr; obtain ⟨_, _, _, rfl, _⟩ := hr; rfl
  | .nilSlice, _, hr => by simp only [Rel] at hr; subst hr; rfl
  | .slice _ _ _ _ _, _, hr => by simp only [Rel] at hr; obtain ⟨_, _, rfl, _⟩ := hr; rfl
  | .rsI _ _ _, _, hr => by simp only [Rel] at hr; obtain ⟨_, _, rfl, _⟩ := hr; rfl
  | .nilFunc, _, hr => by simp only [Rel] at hr; subst hr; rfl
  | .func _ _, _, hr => by simp only [Rel] at hr; obtain ⟨_, rfl, _⟩ := hr; rfl
  | .agg _, _, hr => by simp only [Rel] at hr; obtain ⟨_, rfl, _⟩ := hr; rfl
  | .arr _ _ _, _, hr => by simp only [Rel] at hr; subst hr; rfl
  | .tuple _, _, hr => by simp only [Rel] at hr; obtain ⟨_, rfl, _⟩ := hr; rfl
  | .nilIface, _, hr => by simp only [Rel] at hr; subst hr; rfl
  | .iface _ _, _, hr => by simp only [Rel] at hr; obtain ⟨_, rfl, _⟩ := hr; rfl

theorem rel_not_float {ρ : Ren} {w : World} {v : EV} {x : Value} (h : Rel ρ w v x) : (∀ k n, x ≠ .float k n) ∧ (∀ k n m, x ≠ .complex k n m) := by
  have ht := h.tag
  refine ⟨fun k n e => ?_, fun k n m e => ?_⟩ <;> subst e <;> cases v <;> simp [Ev.tag, etag] at ht

theorem rel_not_int {ρ : Ren} {w : World} {v : EV} {x : Value} (h : Rel ρ w v x) (hv : ∀ k n, v ≠ .int k n) : ∀ k n, x ≠ .int k n := by
  have ht := h.tag
  intro k n e
  subst e
  cases v <;> simp [Ev.tag, etag] at ht
  exact hv _ _ rfl

theorem rel_not_str {ρ : Ren} {w : World} {v : EV} {x : Value} (h : Rel ρ w v x) (hv : ∀ s, v ≠ .str s) : ∀ s, x ≠ .string s := by
  have ht := h.tag
  intro s e
  subst e
  cases v <;> simp [Ev.tag, etag] at ht
  exact hv _ rfl

theorem eqT_kinds {d : Nat} {t : TypeId} {x y : EV} {b : Bool} (h : eqT E d t x y = some b) :
    ((∃ k n, x = .int k n) → ∃ k n, y = .int k n) ∧ ((∃ s, x = .str s) → ∃ s, y = .str s) := by
  cases d with
  | zero => simp [eqT] at h
  | succ d =>
    simp only [eqT] at h
    cases ht : E.ty t with
    | none => simp [ht] at h
    | some ti =>
      simp only [ht] at h
      split at h <;> simp at h ⊢

theorem evBin_sound {ρ : Ren} {w : World} {op : BinOp} {t : TypeId} {x y : EV} {X Y : Value} {K : EV → Prop} {ox oy : Operand} (hE : ∀ t ti, E.ty t = some ti → OkTI P t ti)
    (hx : Rel ρ w x X) (hy : Rel ρ w y Y) (h : evBin E op t x y K) :
    ∃ v z, K v ∧ (∀ ρ w, Rel ρ w v z) ∧ (do eqGuard op t ox oy X Y; binOp op t X Y : Sem Value).run P w = .ok z w := by
  unfold evBin at h
  split at h
  · rename_i k a k' b
    simp only [Rel] at hx hy; subst hx; subst hy
    have hg : (eqGuard op t ox oy (.int k a) (.int k' b)).run P w = .ok () w := run_eqGuard_of (by simp)
    simp only [run_bind, hg]
    split at h
    · exact run_shift (.inl rfl) h
    · exact run_shift (.inr rfl) h
    · rename_i h1 h2
      by_cases hk : k = k'
      · subst hk
        simp at h
        exact run_intBin ⟨h1, h2⟩ h
      · simp [hk] at h
  · rename_i a b
    simp only [Rel] at hx hy; subst hx; subst hy
    have hg : (eqGuard op t ox oy (.string ⟨a.toArray⟩) (.string ⟨b.toArray⟩)).run P w = .ok () w := run_eqGuard_of (by simp)
    simp only [run_bind, hg]
    exact run_strBin h
  · rename_i hni hns
    split at h
    · split at h
      · rename_i b he
        have hg := eqT_agg (op := .eql) (ox := ox) (oy := oy) (ti := default) hE he hx hy
        have hk := eqT_kinds he
        simp only [run_bind, hg]
        refine ⟨_, _, h, fun ρ w => rfl, ?_⟩
        refine run_binOp_eql (rel_not_int hx ?_) (rel_not_str hx ?_) (rel_not_float hx).1 (rel_not_float hx).2 (run_eqT hE 100 t x y X Y b he hx hy)
        · rintro k n rfl
          obtain ⟨k', n', rfl⟩ := hk.1 ⟨k, n, rfl⟩
          exact hni _ _ _ _ rfl rfl
        · rintro s rfl
          obtain ⟨s', rfl⟩ := hk.2 ⟨s, rfl⟩
          exact hns _ _ rfl rfl
      · exact h.elim
    · split at h
      · rename_i b he
        have hg := eqT_agg (op := .neq) (ox := ox) (oy := oy) (ti := default) hE he hx hy
        have hk := eqT_kinds he
        simp only [run_bind, hg]
        refine ⟨_, _, h, fun ρ w => rfl, ?_⟩
        refine run_binOp_neq (rel_not_int hx ?_) (rel_not_str hx ?_) (rel_not_float hx).1 (rel_not_float hx).2 (run_eqT hE 100 t x y X Y b he hx hy)
        · rintro k n rfl
          obtain ⟨k', n', rfl⟩ := hk.1 ⟨k, n, rfl⟩
          exact hni _ _ _ _ rfl rfl
        · rintro s rfl
          obtain ⟨s', rfl⟩ := hk.2 ⟨s, rfl⟩
          exact hns _ _ rfl rfl
      · exact h.elim
    · exact h.elim
end sound
end Go.Ev
