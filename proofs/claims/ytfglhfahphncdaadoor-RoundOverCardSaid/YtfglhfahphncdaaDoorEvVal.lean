/- The evaluator: parts of values, places, slices, conversions. -/
import Derived.Test.YtfglhfahphncdaaDoorEvBin
import Derived.Laws.MakeOwn
import Derived.Laws.BytesString
set_option linter.unusedVariables false
set_option linter.unusedSimpArgs false
namespace Go.Ev
open Go

def cvI (k : IntKind) (n : Int) : Int := k.wrap n
def negI (k : IntKind) (n : Int) : Int := k.wrap (0 - n)
def notI (k : IntKind) (n : Int) : Int := xorI k (if k.signed then -1 else k.max) n
def byteAt (s : List UInt8) (j : Nat) : Int := (((s[j]?).getD 0).toNat : Int)
def subS (s : List UInt8) (l h : Nat) : List UInt8 := (s.take h).drop l
def shift : Nat → (Nat → Int) → (Nat → Int)
  | 0, g => g
  | o + 1, g => fun i => g (o + 1 + i)
def addOff : Nat → Nat → Nat
  | 0, i => i
  | o + 1, i => o + 1 + i
def bytesOf (n : Nat) (g : Nat → Int) : List UInt8 := (List.range n).map fun i => UInt8.ofNat (g i).toNat

theorem shift_apply (o : Nat) (g : Nat → Int) (i : Nat) : shift o g i = g (o + i) := by
  cases o <;> simp [shift]
theorem addOff_eq (o i : Nat) : addOff o i = o + i := by cases o <;> simp [addOff]

/-- The elements of a slice of integers. -/
def evWin (H : Heap) (x : EV) : Option (IntKind × Nat × (Nat → Int)) :=
  match x with
  | .rsI k n g => some (k, n, g)
  | .slice b off len _ _ => match H[b]? with
    | some (some (.arr k _ g)) => some (k, len, shift off g)
    | _ => none
  | _ => none

def evUn (op : UnOp) (x : EV) (K : EV → Prop) : Prop :=
  match op, x with
  | .neg, .int k n => K (.int k (negI k n))
  | .xor, .int k n => K (.int k (notI k n))
  | .not, .bool b => K (.bool (!b))
  | _, _ => False

def evConv (E : Env) (src dst : TypeId) (x : EV) (H : Heap) (K : EV → Prop) : Prop :=
  match E.ty src, E.ty dst with
  | some si, some di => match di.td, x with
    | .int k, .int _ n => K (.int k (cvI k n))
    | .str, .str s => K (.str s)
    | .str, x => match si.td with
      | .slice e => cond (isIntTy E e .u8) (match evWin H x with
        | some (.u8, n, g) => K (.str (bytesOf n g))
        | _ => match x with
          | .nilSlice => K (.str [])
          | _ => False) False
      | _ => False
    | _, _ => False
  | _, _ => False

def pickL (f : Nat → EV → Prop) : List EV → Nat → Int → Prop
  | [], _, _ => False
  | u :: l, j, i => br (eqI i j) (f j u) (pickL f l (j + 1) i)

def sizeIs (E : Env) (t : TypeId) (n : Nat) : Bool :=
  match E.ty t with
  | some ti => Nat.beq ti.size n
  | none => false

def allSize (n : Nat) : List EV → Bool
  | [] => true
  | v :: l => Nat.beq v.shape.size n && allSize n l

def evIndex (E : Env) (t : TypeId) (x i : EV) (K : EV → Prop) : Prop :=
  match E.ty t, i with
  | some ti, .int _ i => match ti.td, x with
    | .array n e, .arr k m g => cond (Nat.beq n m && isIntTy E e k) (gd (leI 0 i && ltI i n) (K (.int k (g i.toNat)))) False
    | .array n e, .agg l => cond (Nat.beq n l.length && (match E.ty e with | some ei => allSize ei.size l | none => false)) (pickL (fun _ u => gd (conf E e u) (K u)) l 0 i) False
    | .str, .str s => gd (leI 0 i && ltI i s.length) (K (.int .u8 (byteAt s i.toNat)))
    | _, _ => False
  | _, _ => False

def evField (E : Env) (t : TypeId) (x : EV) (f : Nat) (K : EV → Prop) : Prop :=
  match E.ty t with
  | some ti => match ti.td, x with
    | .struct fs, .agg l => match fs[f]?, l[f]? with
      | some (o, ft), some u => gd (Nat.beq o (Shape.sizeL (EV.shapeL (l.take f))) && conf E ft u) (K u)
      | _, _ => False
    | _, _ => False
  | none => False

def beqO : Option Nat → Option Nat → Bool
  | some a, some b => Nat.beq a b
  | none, none => true
  | _, _ => false

def evFieldAddr (E : Env) (t : TypeId) (x : EV) (f : Nat) (H : Heap) (K : EV → Prop) : Prop :=
  match E.ty t with
  | some ti => match ti.td with
    | .struct fs => match fs[f]? with
      | some (o, ft) => match E.ty ft with
        | some fi => match x with
          | .ptr b p => match H[b]? with
            | some (some c) => match EV.get p c with
              | some u => gd (beqO (Shape.off [f] u.shape) (some o) && !Nat.beq fi.size 0) (K (.ptr b (p ++ [f])))
              | none => False
            | _ => False
          | .rref (.agg l) => match l[f]? with
            | some u => gd (Nat.beq o (Shape.sizeL (EV.shapeL (l.take f))) && !Nat.beq fi.size 0) (K (.rref u))
            | none => False
          | _ => False
        | none => False
      | none => False
    | _ => False
  | none => False

def evIndexAddr (E : Env) (t : TypeId) (x i : EV) (H : Heap) (K : EV → Prop) : Prop :=
  match E.ty t, i with
  | some ti, .int _ i => match ti.td with
    | .array n e => match E.ty e with
      | some ei => match x with
        | .ptr b p => match H[b]? with
          | some (some c) => match EV.get p c with
            | some (.arr k m g) => cond (Nat.beq n m && Nat.beq ei.size 1) (gd (leI 0 i && ltI i n) (K (.ptr b (p ++ [i.toNat])))) False
            | some (.agg l) => cond (Nat.beq n l.length && allSize ei.size l) (pickL (fun j _ => K (.ptr b (p ++ [j]))) l 0 i) False
            | _ => False
          | _ => False
        | .rref (.arr k m g) => cond (Nat.beq n m && Nat.beq ei.size 1) ((leI 0 i && ltI i n) = true ∧ K (.rref (.int k (g i.toNat)))) False
        | _ => False
      | none => False
    | .slice e => match E.ty e with
      | some ei => match x with
        | .slice b off len cap es => match H[b]? with
          | some (some c) => gd (Nat.beq ei.size es && (leI 0 i && ltI i len)) (match c with
            | .agg l => pickL (fun j _ => K (.ptr b [off + j])) (l.drop off) 0 i
            | _ => K (.ptr b [addOff off i.toNat]))
          | _ => False
        | .rsI k n g => gd (Nat.beq ei.size 1 && (leI 0 i && ltI i n)) (K (.rref (.int k (g i.toNat))))
        | _ => False
      | none => False
    | _ => False
  | _, _ => False

def evExtract (x : EV) (i : Nat) (K : EV → Prop) : Prop :=
  match x with
  | .tuple l => match l[i]? with
    | some v => K v
    | none => False
  | _ => False

section sound
variable {P : Program} {E : Env}

theorem evUn_sound {w : World} {ρ : Ren} {op : UnOp} {x : EV} {X : Value} {K : EV → Prop} (hx : Rel ρ w x X) (h : evUn op x K) :
    ∃ v z, K v ∧ (∀ ρ w, Rel ρ w v z) ∧ (Op.unary op X).run P w = .ok z w := by
  unfold evUn at h
  split at h
  · simp only [Rel] at hx; subst hx; exact ⟨_, _, h, fun _ _ => rfl, rfl⟩
  · simp only [Rel] at hx; subst hx; exact ⟨_, _, h, fun _ _ => rfl, rfl⟩
  · simp only [Rel] at hx; subst hx; exact ⟨_, _, h, fun _ _ => rfl, rfl⟩
  · exact h.elim

theorem Sim.win {ρ : Ren} {H : Heap} {w : World} {x : EV} {X : Value} {k : IntKind} {n : Nat} {g : Nat → Int} (hS : Sim ρ H w) (hx : Rel ρ w x X) (h : evWin H x = some (k, n, g)) :
    ∃ a c, X = .slice a n c ∧ n ≤ c ∧ (n = 0 ∨ ∃ b o, a = some ⟨b, o, none⟩ ∧ CellsAt w b o (ints k n g)) := by
  unfold evWin at h
  split at h
  · simp at h
    obtain ⟨rfl, rfl, rfl⟩ := h
    simp only [Rel] at hx
    obtain ⟨a, c, rfl, hc, h1⟩ := hx
    refine ⟨a, c, rfl, hc, h1.imp id ?_⟩
    rintro ⟨b, o, h2, _, _, h3⟩
    exact ⟨b, o, h2, h3⟩
  · rename_i b off len cap e
    split at h
    · rename_i k' m g' hb
      simp at h
      obtain ⟨rfl, rfl, rfl⟩ := h
      simp only [Rel] at hx
      obtain ⟨a, c, rfl, r, hr, hi⟩ := hx
      obtain ⟨r', h1, h2, cs, e', fz, x, h3, h4, h5, h6, h7⟩ := hS.live b _ hb
      rw [h1] at hr; cases hr
      obtain ⟨n, h8, h9, h10, h11, h12⟩ := hi r' rfl
      refine ⟨a, c, rfl, h10, ?_⟩
      rcases h12 with ⟨h12, _⟩ | ⟨h12, _⟩
      · refine .inr ⟨_, _, h12, ?_⟩
        have hsh : r'.sh = .row m := by rw [← h2]; rfl
        have he : e = 1 ∧ n = m := by
          rcases h8 with ⟨h8, h13⟩ | ⟨l, h8, _⟩
          · rw [hsh] at h8; cases h8; exact ⟨h13, rfl⟩
          · rw [hsh] at h8; cases h8
        obtain ⟨rfl, rfl⟩ := he
        simp only [Rel] at h5; subst h5
        have := h7.sub off len
        simp only [cells_agg] at this
        intro i hi
        simp only [ints_length] at hi
        have h14 := this i (by simp [ints_length]; omega)
        rw [Nat.mul_one, h14, List.getElem?_take_of_lt hi, List.getElem?_drop, ints_get _ _ _ _ (by omega), ints_get _ _ _ _ hi, shift_apply]
      · exact .inl h12
    · cases h
  · cases h

theorem isIntTy_spec {e : TypeId} {k : IntKind} (hE : ∀ t ti, E.ty t = some ti → OkTI P t ti) (h : isIntTy E e k = true) :
    P.underlying e = some (.int k) ∧ ∃ i z, P.info? e = some i ∧ i.size = 1 ∧ i.zero = some z := by
  unfold isIntTy at h
  cases he : E.ty e with
  | none => simp [he] at h
  | some ti =>
    simp only [he] at h
    obtain ⟨d, i, z, h1, h2, h3, h4, h5, h6, h7⟩ := hE e ti he
    split at h
    · rename_i k' htd
      simp only [Bool.and_eq_true, decide_eq_true_eq] at h
      obtain ⟨rfl, hs⟩ := h
      rw [htd] at h3
      cases d <;> simp [tdOk] at h3
      subst h3
      exact ⟨h1, i, z, h2, h4.trans (Nat.eq_of_beq_eq_true hs), h6⟩
    · cases h

theorem foldl_push (ns : List Int) (s : ByteArray) : ns.foldl (fun r n => r.push (UInt8.ofNat n.toNat)) s = ⟨(s.data.toList ++ ns.map fun n => UInt8.ofNat n.toNat).toArray⟩ := by
  induction ns generalizing s with
  | nil => apply ByteArray.ext; simp
  | cons n ns ih =>
    rw [List.foldl_cons, ih]
    apply ByteArray.ext
    simp

theorem evConv_sound {w : World} {ρ : Ren} {H : Heap} {src dst : TypeId} {x : EV} {X : Value} {K : EV → Prop} (hE : ∀ t ti, E.ty t = some ti → OkTI P t ti) (hS : Sim ρ H w)
    (hx : Rel ρ w x X) (h : evConv E src dst x H K) : ∃ v z, K v ∧ (∀ ρ w, Rel ρ w v z) ∧ (convert src dst X).run P w = .ok z w := by
  unfold evConv at h
  split at h
  · rename_i si di hs hd
    obtain ⟨ds, is, zs, s1, s2, s3, s4, _⟩ := hE src si hs
    obtain ⟨dd, id, zd, d1, d2, d3, d4, _⟩ := hE dst di hd
    split at h
    · rename_i k k' n htd
      rw [htd] at d3; cases dd <;> simp [tdOk] at d3
      subst d3
      simp only [Rel] at hx; subst hx
      refine ⟨_, _, h, fun _ _ => rfl, ?_⟩
      simp only [convert, run_bind, run_underlying s1, run_underlying d1]
      rfl
    · rename_i s htd
      rw [htd] at d3; cases dd <;> simp [tdOk] at d3
      simp only [Rel] at hx; subst hx
      refine ⟨_, _, h, fun _ _ => rfl, ?_⟩
      simp only [convert, run_bind, run_underlying s1, run_underlying d1]
      rfl
    · rename_i x htd hns
      rw [htd] at d3; cases dd <;> simp [tdOk] at d3
      split at h
      · rename_i e hts
        rw [hts] at s3; cases ds <;> simp [tdOk] at s3
        subst s3
        rename_i e
        cases hi : isIntTy E e .u8 with
        | false => simp [hi] at h
        | true =>
          simp only [hi, cond_true] at h
          obtain ⟨e1, _⟩ := isIntTy_spec hE hi
          split at h
          · rename_i n g hw
            obtain ⟨a, c, rfl, _, h1⟩ := hS.win hx hw
            refine ⟨_, _, h, fun _ _ => rfl, ?_⟩
            rw [run_convert_bytes_string w src dst e a n c s1 e1 d1]
            rcases h1 with rfl | ⟨b, o, rfl, h1⟩
            · cases a with
              | none => rfl
              | some a =>
                have := run_bytesToString (P := P) w a 0 c [] rfl
                exact this
            · have hl : (loadCells ⟨b, o, none⟩ n).run P w = .ok (((List.range n).map g).map (Value.int .u8)).toArray w := by
                have := run_loadCells (P := P) _ h1
                rw [ints_length] at this
                rw [this]
                simp [ints, Function.comp_def]
              rw [run_bytesToString w _ n c _ hl, foldl_push]
              simp [bytesOf, Function.comp_def]
          · split at h
            · simp only [Rel] at hx; subst hx
              refine ⟨_, _, h, fun _ _ => rfl, ?_⟩
              rw [run_convert_bytes_string w src dst e none 0 0 s1 e1 d1]
              rfl
            · exact h.elim
      · exact h.elim
    · exact h.elim
  · exact h.elim

theorem evExtract_sound {w : World} {ρ : Ren} {x : EV} {X : Value} {i : Nat} {K : EV → Prop} (hx : Rel ρ w x X) (h : evExtract x i K) :
    ∃ v z, K v ∧ Rel ρ w v z ∧ (Instr.extract X i).run P w = .ok z w := by
  unfold evExtract at h
  split at h
  · rename_i l
    split at h
    · rename_i v hv
      simp only [Rel] at hx
      obtain ⟨vs, rfl, hl⟩ := hx
      have : ∀ (l : List EV) (xs : List Value) (i : Nat) (v : EV), RelL ρ w l xs → l[i]? = some v → ∃ z, xs[i]? = some z ∧ Rel ρ w v z := by
        intro l
        induction l with
        | nil => intro xs i v _ h; simp at h
        | cons u l ih =>
          intro xs i v hr hv
          simp only [RelL] at hr
          obtain ⟨y, ys, rfl, h1, h2⟩ := hr
          cases i with
          | zero => simp at hv; subst hv; exact ⟨y, rfl, h1⟩
          | succ i => simp at hv; simpa using ih ys i v h2 hv
      obtain ⟨z, h1, h2⟩ := this l vs.toList i v hl hv
      refine ⟨v, z, h, h2, ?_⟩
      have h3 : vs[i]? = some z := by simpa using h1
      simp only [Instr.extract, h3]
      rfl
    · exact h.elim
  · exact h.elim

theorem pickL_spec {f : Nat → EV → Prop} : ∀ (l : List EV) (j : Nat) (i : Int), pickL f l j i → ∃ k u, l[k]? = some u ∧ i = ((j + k : Nat) : Int) ∧ f (j + k) u
  | [], j, i, h => h.elim
  | u :: l, j, i, h => by
    unfold pickL at h
    rw [br_iff] at h
    cases he : eqI i j with
    | true => exact ⟨0, u, rfl, by simpa [eqI] using he, h.1 he⟩
    | false =>
      obtain ⟨k, v, h1, h2, h3⟩ := pickL_spec l (j + 1) i (h.2 he)
      refine ⟨k + 1, v, by simpa using h1, by rw [h2]; congr 1; omega, ?_⟩
      rw [show j + (k + 1) = j + 1 + k from by omega]; exact h3

theorem allSize_spec {n : Nat} : ∀ (l : List EV), allSize n l = true → ∀ v ∈ l, v.shape.size = n
  | [], _, v, hv => by cases hv
  | u :: l, h, v, hv => by
    simp only [allSize, Bool.and_eq_true] at h
    cases hv with
    | head => exact Nat.eq_of_beq_eq_true h.1
    | tail _ hv => exact allSize_spec l h.2 v hv

theorem sizeL_same {n : Nat} : ∀ (l : List EV), (∀ v ∈ l, v.shape.size = n) → Shape.sizeL (EV.shapeL l) = l.length * n
  | [], _ => by simp [EV.shapeL, Shape.sizeL]
  | u :: l, h => by
    simp only [EV.shapeL, Shape.sizeL, List.length_cons]
    rw [sizeL_same l (fun v hv => h v (List.mem_cons_of_mem _ hv)), h u List.mem_cons_self, Nat.add_mul]; omega

theorem sizeL_take {n : Nat} (l : List EV) (h : ∀ v ∈ l, v.shape.size = n) (k : Nat) (hk : k ≤ l.length) : Shape.sizeL (EV.shapeL (l.take k)) = k * n := by
  rw [sizeL_same (l.take k) (fun v hv => h v (List.mem_of_mem_take hv)), List.length_take, Nat.min_eq_left hk]

theorem evIndex_sound {w : World} {ρ : Ren} {t : TypeId} {x i : EV} {X I : Value} {K : EV → Prop} (hE : ∀ t ti, E.ty t = some ti → OkTI P t ti)
    (hx : Rel ρ w x X) (hi : Rel ρ w i I) (h : evIndex E t x i K) : ∃ v z, K v ∧ Rel ρ w v z ∧ (Instr.index t X I).run P w = .ok z w := by
  unfold evIndex at h
  split at h
  · rename_i ti ki iv ht
    obtain ⟨d, it, z, h1, h2, h3, h4, _⟩ := hE t ti ht
    simp only [Rel] at hi; subst hi
    split at h
    · rename_i n e k m g htd
      rw [htd] at h3; cases d <;> simp only [tdOk] at h3
      rename_i na ea
      obtain ⟨e3, e4, _⟩ := h3
      subst e3; subst e4
      cases hc : (Nat.beq na m && isIntTy E ea k) with
      | false => simp [hc] at h
      | true =>
        simp only [hc, cond_true, gd_iff, Bool.and_eq_true] at h
        simp only [Bool.and_eq_true] at hc
        obtain ⟨he, ie, ze, i1, i2, i3⟩ := isIntTy_spec hE hc.2
        have hm := Nat.eq_of_beq_eq_true hc.1
        subst hm
        have hb1 : 0 ≤ iv := by simpa [leI] using h.1.1
        have hb2 : iv < na := by simpa [ltI] using h.1.2
        simp only [Rel] at hx; subst hx
        refine ⟨_, _, h.2, rfl, ?_⟩
        simp only [Instr.index, run_bind, asIntOf, run_pure, run_underlying h1]
        rw [if_pos ⟨hb1, hb2⟩]
        simp only [run_bind, run_sizeOf i1, i2, part, run_isAgg he, TypeDescAgg, Bool.false_eq_true, if_false, Nat.mul_one]
        rw [List.getElem?_toArray, ints_get _ _ _ _ (by omega)]
        rfl
    · rename_i n e l htd
      rw [htd] at h3; cases d <;> simp only [tdOk] at h3
      rename_i na ea
      obtain ⟨e3, e4, _⟩ := h3
      subst e3; subst e4
      cases he : E.ty ea with
      | none => simp [he] at h
      | some ei =>
        simp only [he] at h
        cases hc : (Nat.beq na l.length && allSize ei.size l) with
        | false => simp [hc] at h
        | true =>
          simp only [hc, cond_true] at h
          simp only [Bool.and_eq_true] at hc
          obtain ⟨k, u, p1, p2, p3⟩ := pickL_spec _ _ _ h
          rw [gd_iff] at p3
          simp only [Nat.zero_add] at p2 p3
          subst p2
          have hlen := Nat.eq_of_beq_eq_true hc.1
          have hall := allSize_spec l hc.2
          have hkl : k < l.length := by
            rcases Nat.lt_or_ge k l.length with hh | hh
            · exact hh
            · rw [List.getElem?_eq_none hh] at p1; cases p1
          simp only [Rel] at hx
          obtain ⟨cs, rfl, hF⟩ := hx
          obtain ⟨y, q1, q2, q3⟩ := RelF.part l cs.toList k u hF p1
          rw [sizeL_take l hall k (by omega)] at q2 q3
          obtain ⟨de, ie, ze, e1, e2, e3', e4', _⟩ := hE ea ei he
          refine ⟨u, y, p3.2, q1, ?_⟩
          simp only [Instr.index, run_bind, asIntOf, run_pure, run_underlying h1]
          rw [if_pos ⟨by omega, by omega⟩]
          simp only [run_bind, run_sizeOf e2, Int.toNat_natCast, e4']
          exact conf_part hE p3.1 q1 q2 (by simpa using q3)
    · rename_i s htd
      rw [htd] at h3; cases d <;> simp [tdOk] at h3
      rw [gd_iff, Bool.and_eq_true] at h
      have hb1 : 0 ≤ iv := by simpa [leI] using h.1.1
      have hb2 : iv < s.length := by simpa [ltI] using h.1.2
      simp only [Rel] at hx; subst hx
      refine ⟨_, _, h.2, rfl, ?_⟩
      simp only [Instr.index, run_bind, asIntOf, run_pure, run_underlying h1]
      rw [if_pos hb1]
      have hlt : iv.toNat < s.length := by omega
      have : (⟨s.toArray⟩ : ByteArray)[iv.toNat]? = some s[iv.toNat] := by
        rw [getElem?_pos _ _ (by show iv.toNat < s.toArray.size; simpa using hlt)]
        rfl
      rw [this]
      simp only [run_pure, byteAt, List.getElem?_eq_getElem hlt, Option.getD_some]
    · exact h.elim
  · exact h.elim

theorem evField_sound {w : World} {ρ : Ren} {t : TypeId} {x : EV} {f : Nat} {X : Value} {K : EV → Prop} (hE : ∀ t ti, E.ty t = some ti → OkTI P t ti)
    (hx : Rel ρ w x X) (h : evField E t x f K) : ∃ v z, K v ∧ Rel ρ w v z ∧ (Instr.field t X f).run P w = .ok z w := by
  unfold evField at h
  split at h
  · rename_i ti ht
    obtain ⟨d, it, z, h1, h2, h3, h4, _⟩ := hE t ti ht
    split at h
    · rename_i fs l htd
      rw [htd] at h3; cases d <;> simp only [tdOk] at h3
      rename_i flds
      split at h
      · rename_i o ft u hf hu
        rw [gd_iff, Bool.and_eq_true] at h
        simp only [Rel] at hx
        obtain ⟨cs, rfl, hF⟩ := hx
        obtain ⟨y, q1, q2, q3⟩ := RelF.part l cs.toList f u hF hu
        have ho := Nat.eq_of_beq_eq_true h.1.1
        rw [← ho] at q2 q3
        have hfd : ∃ fd, flds[f]? = some fd ∧ fd.offset = o ∧ fd.type = ft := by
          have := h3.1
          rw [← this, List.getElem?_map] at hf
          cases hfl : flds.toList[f]? with
          | none => simp [hfl] at hf
          | some fd =>
            simp [hfl] at hf
            exact ⟨fd, by simpa using hfl, hf.1, hf.2⟩
        obtain ⟨fd, g1, g2, g3⟩ := hfd
        refine ⟨u, y, h.2, q1, ?_⟩
        simp only [Instr.field, run_bind, run_underlying h1, g1, asAgg, run_pure, g2, g3]
        exact conf_part hE h.1.2 q1 q2 (by simpa using q3)
      · exact h.elim
    · exact h.elim
  · exact h.elim
end sound
end Go.Ev
