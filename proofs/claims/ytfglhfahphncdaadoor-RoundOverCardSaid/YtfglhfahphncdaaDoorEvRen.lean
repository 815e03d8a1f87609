/- The evaluator: its blocks, numbered anew. -/
import Derived.Test.YtfglhfahphncdaaDoorEvSim
set_option linter.unusedVariables false
set_option linter.unusedSimpArgs false
namespace Go.Ev
open Go

def memN (a : Nat) : List Nat → Bool
  | [] => false
  | b :: l => Nat.beq a b || memN a l

theorem memN_iff (a : Nat) : ∀ (l : List Nat), memN a l = true ↔ a ∈ l
  | [] => by simp [memN]
  | b :: l => by simp [memN, memN_iff a l]
theorem memN_not (a : Nat) (l : List Nat) : memN a l = false ↔ a ∉ l := by
  rw [← memN_iff]; cases memN a l <;> simp

/-- Where a number stands in a list. -/
def pos : List Nat → Nat → Nat
  | [], _ => 0
  | c :: l, b => cond (Nat.beq c b) 0 (Nat.succ (pos l b))

theorem pos_get : ∀ {l : List Nat} {b : Nat}, b ∈ l → l[pos l b]? = some b
  | c :: l, b, h => by
    cases hb : Nat.beq c b with
    | true => simp [pos, hb, Nat.eq_of_beq_eq_true hb]
    | false =>
      have hne : c ≠ b := by intro e; subst e; rw [Nat.beq_refl] at hb; cases hb
      rcases List.mem_cons.1 h with h | h
      · exact absurd h.symm hne
      · simp [pos, hb, pos_get h]

mutual
/-- The blocks' numbers, others. -/
def EV.ren (f : Nat → Nat) : EV → EV
  | .ptr b p => .ptr (f b) p
  | .slice b o l c e => .slice (f b) o l c e
  | .rref v => .rref (v.ren f)
  | .agg l => .agg (EV.renL f l)
  | .tuple l => .tuple (EV.renL f l)
  | .func g l => .func g (EV.renL f l)
  | .iface t v => .iface t (v.ren f)
  | .undef => .undef | .bool b => .bool b | .int k n => .int k n | .str s => .str s | .nilPtr => .nilPtr | .nilSlice => .nilSlice
  | .rsI k n g => .rsI k n g | .nilFunc => .nilFunc | .arr k n g => .arr k n g | .nilIface => .nilIface
def EV.renL (f : Nat → Nat) : List EV → List EV
  | [] => []
  | v :: l => v.ren f :: EV.renL f l
end

mutual
/-- All blocks that it names are listed. -/
def EV.inI (idx : List Nat) : EV → Bool
  | .ptr b _ => memN b idx
  | .slice b _ _ _ _ => memN b idx
  | .rref v => v.inI idx
  | .agg l => EV.inIL idx l
  | .tuple l => EV.inIL idx l
  | .func _ l => EV.inIL idx l
  | .iface _ v => v.inI idx
  | .rsI _ _ _ => true | .undef => true
  | .bool _ => true | .int _ _ => true | .str _ => true | .nilPtr => true | .nilSlice => true | .nilFunc => true | .arr _ _ _ => true | .nilIface => true
def EV.inIL (idx : List Nat) : List EV → Bool
  | [] => true
  | v :: l => v.inI idx && EV.inIL idx l
end

mutual
/-- The blocks that a value names, in order. -/
def EV.blkL : EV → List Nat
  | .ptr b _ => [b]
  | .slice b _ _ _ _ => [b]
  | .rref v => v.blkL
  | .agg l => EV.blkLL l
  | .tuple l => EV.blkLL l
  | .func _ l => EV.blkLL l
  | .iface _ v => v.blkL
  | .rsI _ _ _ => [] | .undef => []
  | .bool _ => [] | .int _ _ => [] | .str _ => [] | .nilPtr => [] | .nilSlice => [] | .nilFunc => [] | .arr _ _ _ => [] | .nilIface => []
def EV.blkLL : List EV → List Nat
  | [] => []
  | v :: l => v.blkL ++ EV.blkLL l
end

mutual
/-- No row that is read only in it. -/
def EV.noRS : EV → Bool
  | .rref _ => false
  | .rsI _ _ _ => false
  | .ptr _ _ => true | .slice _ _ _ _ _ => true | .undef => true
  | .bool _ => true | .int _ _ => true | .str _ => true | .nilPtr => true | .nilSlice => true | .nilFunc => true | .arr _ _ _ => true | .nilIface => true
  | .agg l => EV.noRSL l
  | .tuple l => EV.noRSL l
  | .func _ l => EV.noRSL l
  | .iface _ v => v.noRS
def EV.noRSL : List EV → Bool
  | [] => true
  | v :: l => v.noRS && EV.noRSL l
end

mutual
theorem shape_ren (f : Nat → Nat) : ∀ (v : EV), (v.ren f).shape = v.shape
  | .agg l => by simp only [EV.ren, EV.shape, shapeL_ren f l]
  | .ptr _ _ => rfl | .slice _ _ _ _ _ => rfl | .rref _ => rfl | .tuple _ => rfl | .func _ _ => rfl | .iface _ _ => rfl
  | .undef => rfl | .bool _ => rfl | .int _ _ => rfl | .str _ => rfl | .nilPtr => rfl | .nilSlice => rfl | .rsI _ _ _ => rfl | .nilFunc => rfl | .arr _ _ _ => rfl | .nilIface => rfl
theorem shapeL_ren (f : Nat → Nat) : ∀ (l : List EV), EV.shapeL (EV.renL f l) = EV.shapeL l
  | [] => rfl
  | v :: l => by simp only [EV.renL, EV.shapeL, shape_ren f v, shapeL_ren f l]
end

mutual
/-- What is said of a value, said with the other numbers. -/
theorem Rel.ren {ρ ρ' : Ren} {w : World} {f : Nat → Nat} {idx : List Nat} (hb : ∀ (b : Nat) r, b ∈ idx → ρ.bs[b]? = some r → ρ'.bs[f b]? = some r ∨ ρ'.bs[f b]? = some none) :
    ∀ (v : EV) (x : Value), v.inI idx = true → (v.noRS = true ∨ ∀ b, b < w.heap.size → b ∉ ρ.mbs → b ∉ ρ'.mbs) → Rel ρ w v x → Rel ρ' w (v.ren f) x
  | .undef, _, _, _, hr => hr.elim
  | .bool _, _, _, _, hr => hr
  | .int _ _, _, _, _, hr => hr
  | .str _, _, _, _, hr => hr
  | .nilPtr, _, _, _, hr => hr
  | .nilSlice, _, _, _, hr => hr
  | .nilFunc, _, _, _, hr => hr
  | .arr _ _ _, _, _, _, hr => hr
  | .nilIface, _, _, _, hr => hr
  | .ptr b p, x, hi, _, hr => by
    simp only [EV.ren, Rel, EV.inI, memN_iff] at hr hi ⊢
    obtain ⟨a, h0, r, h1, h2⟩ := hr
    rcases hb b r hi h1 with h3 | h3
    · exact ⟨a, h0, r, h3, h2⟩
    · exact ⟨a, h0, none, h3, fun i hi => by cases hi⟩
  | .slice b off len cap e, x, hi, _, hr => by
    simp only [EV.ren, Rel, EV.inI, memN_iff] at hr hi ⊢
    obtain ⟨a, c, h0, r, h1, h2⟩ := hr
    rcases hb b r hi h1 with h3 | h3
    · exact ⟨a, c, h0, r, h3, h2⟩
    · exact ⟨a, c, h0, none, h3, fun i hi => by cases hi⟩
  | .rref v, x, hi, hn, hr => by
    simp only [EV.ren, Rel, EV.inI, EV.noRS] at hr hi hn ⊢
    obtain ⟨b, o, y, h1, h2, h3, h4, h5⟩ := hr
    rcases hn with hn | hn
    · cases hn
    · exact ⟨b, o, y, h1, Rel.ren hb v y hi (.inr hn) h2, h3, hn b h3 h4, h5⟩
  | .rsI k n g, x, hi, hn, hr => by
    simp only [EV.ren, Rel, EV.noRS] at hr hn ⊢
    obtain ⟨a, c, h1, h2, h3⟩ := hr
    rcases hn with hn | hn
    · cases hn
    · refine ⟨a, c, h1, h2, h3.imp id ?_⟩
      rintro ⟨b, o, h4, h5, h6, h7⟩
      exact ⟨b, o, h4, h5, hn b h5 h6, h7⟩
  | .func g cap, x, hi, hn, hr => by
    simp only [EV.ren, Rel, EV.inI, EV.noRS] at hr hi hn ⊢
    obtain ⟨vs, h1, h2⟩ := hr
    exact ⟨vs, h1, RelL.ren hb cap _ hi hn h2⟩
  | .agg l, x, hi, hn, hr => by
    simp only [EV.ren, Rel, EV.inI, EV.noRS] at hr hi hn ⊢
    obtain ⟨cs, h1, h2⟩ := hr
    exact ⟨cs, h1, RelF.ren hb l _ hi hn h2⟩
  | .tuple l, x, hi, hn, hr => by
    simp only [EV.ren, Rel, EV.inI, EV.noRS] at hr hi hn ⊢
    obtain ⟨vs, h1, h2⟩ := hr
    exact ⟨vs, h1, RelL.ren hb l _ hi hn h2⟩
  | .iface t v, x, hi, hn, hr => by
    simp only [EV.ren, Rel, EV.inI, EV.noRS] at hr hi hn ⊢
    obtain ⟨y, h1, h2⟩ := hr
    exact ⟨y, h1, Rel.ren hb v y hi hn h2⟩
theorem RelL.ren {ρ ρ' : Ren} {w : World} {f : Nat → Nat} {idx : List Nat} (hb : ∀ (b : Nat) r, b ∈ idx → ρ.bs[b]? = some r → ρ'.bs[f b]? = some r ∨ ρ'.bs[f b]? = some none) :
    ∀ (l : List EV) (xs : List Value), EV.inIL idx l = true → (EV.noRSL l = true ∨ ∀ b, b < w.heap.size → b ∉ ρ.mbs → b ∉ ρ'.mbs) → RelL ρ w l xs → RelL ρ' w (EV.renL f l) xs
  | [], _, _, _, hr => hr
  | v :: l, xs, hi, hn, hr => by
    simp only [EV.inIL, Bool.and_eq_true, EV.noRSL] at hi hn
    simp only [EV.renL, RelL] at hr ⊢
    obtain ⟨x, ys, h1, h2, h3⟩ := hr
    exact ⟨x, ys, h1, Rel.ren hb v x hi.1 (hn.imp (·.1) id) h2, RelL.ren hb l ys hi.2 (hn.imp (·.2) id) h3⟩
theorem RelF.ren {ρ ρ' : Ren} {w : World} {f : Nat → Nat} {idx : List Nat} (hb : ∀ (b : Nat) r, b ∈ idx → ρ.bs[b]? = some r → ρ'.bs[f b]? = some r ∨ ρ'.bs[f b]? = some none) :
    ∀ (l : List EV) (xs : List Value), EV.inIL idx l = true → (EV.noRSL l = true ∨ ∀ b, b < w.heap.size → b ∉ ρ.mbs → b ∉ ρ'.mbs) → RelF ρ w l xs → RelF ρ' w (EV.renL f l) xs
  | [], _, _, _, hr => hr
  | v :: l, xs, hi, hn, hr => by
    simp only [EV.inIL, Bool.and_eq_true, EV.noRSL] at hi hn
    simp only [EV.renL, RelF] at hr ⊢
    obtain ⟨x, ys, h1, h2, h3⟩ := hr
    exact ⟨x, ys, h1, Rel.ren hb v x hi.1 (hn.imp (·.1) id) h2, RelF.ren hb l ys hi.2 (hn.imp (·.2) id) h3⟩
end

/-- The blocks that are listed, in that order. -/
def subBs (bs : List (Option BI)) (idx : List Nat) : List (Option BI) := idx.map fun b => match bs[b]? with | some (some r) => some r | _ => none
def renO (f : Nat → Nat) : Option EV → Option EV
  | some v => some (v.ren f)
  | none => none
def subHI (H : Heap) (f : Nat → Nat) : List Nat → Heap
  | [] => []
  | b :: l => (match H[b]? with | some (some v) => some (v.ren f) | _ => none) :: subHI H f l
def subH (H : Heap) (idx : List Nat) : Heap := subHI H (pos idx) idx
/-- What the listed blocks have names listed blocks alone. -/
def inIH (idx : List Nat) (H : Heap) : List Nat → Bool
  | [] => true
  | b :: l => (match H[b]? with | some (some v) => v.inI idx | _ => true) && inIH idx H l

theorem inIH_spec {idx : List Nat} {H : Heap} : ∀ {l : List Nat}, inIH idx H l = true → ∀ b ∈ l, ∀ v, H[b]? = some (some v) → v.inI idx = true
  | c :: l, h, b, hb, v, hv => by
    simp only [inIH, Bool.and_eq_true] at h
    rcases List.mem_cons.1 hb with rfl | hb
    · have := h.1; rw [hv] at this; exact this
    · exact inIH_spec h.2 b hb v hv

theorem subBs_get {bs : List (Option BI)} {idx : List Nat} {j : Nat} {r : BI} : (subBs bs idx)[j]? = some (some r) ↔ ∃ b, idx[j]? = some b ∧ bs[b]? = some (some r) := by
  simp only [subBs, List.getElem?_map]
  constructor
  · intro h
    cases hb : idx[j]? with
    | none => simp [hb] at h
    | some b =>
      simp only [hb, Option.map_some, Option.some.injEq] at h
      refine ⟨b, rfl, ?_⟩
      split at h
      · rename_i r' hr; rw [hr, h]
      · cases h
  · rintro ⟨b, h1, h2⟩
    simp [h1, h2]
theorem subBs_pos {bs : List (Option BI)} {idx : List Nat} {b : Nat} {r : Option BI} (h : b ∈ idx) (hr : bs[b]? = some r) : (subBs bs idx)[pos idx b]? = some r := by
  simp only [subBs, List.getElem?_map, pos_get h, Option.map_some, hr]
  cases r <;> rfl
theorem subBs_length (bs : List (Option BI)) (idx : List Nat) : (subBs bs idx).length = idx.length := by simp [subBs]
theorem subHI_length (H : Heap) (f : Nat → Nat) : ∀ (l : List Nat), (subHI H f l).length = l.length
  | [] => rfl
  | _ :: l => by simp [subHI, subHI_length H f l]
theorem subHI_get {H : Heap} {f : Nat → Nat} : ∀ {l : List Nat} {j : Nat} {v : EV}, (subHI H f l)[j]? = some (some v) → ∃ b u, l[j]? = some b ∧ H[b]? = some (some u) ∧ v = u.ren f
  | [], _, _, h => by simp [subHI] at h
  | b :: l, 0, v, h => by
    simp only [subHI, List.getElem?_cons_zero, Option.some.injEq] at h
    split at h
    · rename_i u hu
      cases h
      exact ⟨b, u, rfl, hu, rfl⟩
    · cases h
  | b :: l, j + 1, v, h => by
    simp only [subHI, List.getElem?_cons_succ] at h ⊢
    exact subHI_get h

theorem subBs_own {ρ : Ren} {F : List Nat} {idx : List Nat} {m : Nat} (h : m ∈ (⟨F, subBs ρ.bs idx⟩ : Ren).own) : ∃ b r, b ∈ idx ∧ ρ.bs[b]? = some (some r) ∧ r.mb = m := by
  obtain ⟨j, r, h1, h2⟩ := own_mem h
  obtain ⟨b, h3, h4⟩ := subBs_get.1 h1
  exact ⟨b, r, List.mem_of_getElem? h3, h4, h2⟩
theorem own_subBs {ρ : Ren} {F : List Nat} {idx : List Nat} {b : Nat} {r : BI} (h : b ∈ idx) (hr : ρ.bs[b]? = some (some r)) : r.mb ∈ (⟨F, subBs ρ.bs idx⟩ : Ren).own :=
  mem_own (b := pos idx b) (subBs_pos h hr)

theorem nodup_get {l : List Nat} (hn : l.Nodup) {i j b : Nat} (hi : l[i]? = some b) (hj : l[j]? = some b) : i = j := by
  have hlt : i < l.length := by
    rcases Nat.lt_or_ge i l.length with hh | hh
    · exact hh
    · rw [List.getElem?_eq_none hh] at hi; cases hi
  exact (List.getElem?_inj hlt hn).1 (hi.trans hj.symm)

theorem Sim.sub {ρ : Ren} {H : Heap} {w : World} (hS : Sim ρ H w) {idx : List Nat} (hn : idx.Nodup) {F : List Nat} (hF : ∀ b, b ∈ F → b < w.heap.size)
    (hsep : ∀ (b : Nat) r, b ∈ idx → ρ.bs[b]? = some (some r) → r.mb ∉ F) (hcl : inIH idx H idx = true)
    (hm : ∀ b, b < w.heap.size → b ∉ ρ.mbs → b ∉ (⟨F, subBs ρ.bs idx⟩ : Ren).mbs) : Sim ⟨F, subBs ρ.bs idx⟩ (subH H idx) w := by
  refine ⟨by rw [subBs_length, subH, subHI_length], hF, ?_, ?_, ?_, ?_⟩
  · intro j r h
    obtain ⟨b, _, h2⟩ := subBs_get.1 h
    exact hS.lt b r h2
  · intro j r h
    obtain ⟨b, h1, h2⟩ := subBs_get.1 h
    exact hsep b r (List.mem_of_getElem? h1) h2
  · intro j k r s hj hk he
    obtain ⟨b, h1, h2⟩ := subBs_get.1 hj
    obtain ⟨c, h3, h4⟩ := subBs_get.1 hk
    have := hS.nodup b c r s h2 h4 he
    subst this
    exact nodup_get hn h1 h3
  · intro j v h
    obtain ⟨b, u, h1, h2, rfl⟩ := subHI_get h
    obtain ⟨r, k1, k2, cs, e, fz, x, k3, k4, k5, k6, k7⟩ := hS.live b u h2
    have hb := List.mem_of_getElem? h1
    exact ⟨r, subBs_get.2 ⟨b, h1, k1⟩, (shape_ren _ _).trans k2, cs, e, fz, x, k3, k4,
      Rel.ren (fun c s hc hs => .inl (subBs_pos hc hs)) u x (inIH_spec hcl b hb u h2) (.inr hm) k5, k6, k7⟩

def upTo : Nat → List Nat
  | 0 => []
  | n + 1 => upTo n ++ [n]
def addN : List Nat → List Nat → List Nat
  | idx, [] => idx
  | idx, b :: l => cond (memN b idx) (addN idx l) (addN (idx ++ [b]) l)
def heapL (H : Heap) : List Nat → List Nat
  | [] => []
  | b :: l => match H[b]? with
    | some (some v) => v.blkL ++ heapL H l
    | _ => heapL H l
def closeI (H : Heap) : Nat → List Nat → List Nat
  | 0, idx => idx
  | n + 1, idx => closeI H n (addN idx (heapL H idx))
/-- The blocks in order: the first nl, then those that the values name. -/
def canI (nl : Nat) (vs : List EV) (H : Heap) : List Nat := closeI H 3 (addN (upTo nl) (EV.blkLL vs))

theorem upTo_length : ∀ n, (upTo n).length = n
  | 0 => rfl
  | n + 1 => by simp [upTo, upTo_length n]
theorem upTo_get : ∀ n j, j < n → (upTo n)[j]? = some j
  | n + 1, j, h => by
    rw [upTo, List.getElem?_append, upTo_length]
    by_cases hj : j < n
    · rw [if_pos hj]; exact upTo_get n j hj
    · rw [if_neg hj]
      have : j = n := by omega
      subst this
      simp
theorem mem_upTo : ∀ n j, j ∈ upTo n ↔ j < n
  | 0, j => by simp [upTo]
  | n + 1, j => by simp [upTo, mem_upTo n j]; omega
theorem upTo_nodup : ∀ n, (upTo n).Nodup
  | 0 => List.nodup_nil
  | n + 1 => by
    rw [upTo, List.nodup_append]
    refine ⟨upTo_nodup n, by simp, fun a ha b hb => ?_⟩
    have := (mem_upTo n a).1 ha
    simp at hb; omega
theorem addN_spec : ∀ (l idx : List Nat), idx.Nodup → (addN idx l).Nodup ∧ ∃ t, addN idx l = idx ++ t
  | [], idx, h => ⟨h, [], by simp [addN]⟩
  | b :: l, idx, h => by
    cases hb : memN b idx with
    | true => simp only [addN, hb, cond_true]; exact addN_spec l idx h
    | false =>
      simp only [addN, hb, cond_false]
      have hn : (idx ++ [b]).Nodup := by
        rw [List.nodup_append]
        refine ⟨h, by simp, fun a ha c hc => ?_⟩
        simp at hc; subst hc
        intro e; subst e
        exact (memN_not _ _).1 hb ha
      obtain ⟨h1, t, h2⟩ := addN_spec l (idx ++ [b]) hn
      exact ⟨h1, b :: t, by rw [h2]; simp⟩
theorem closeI_spec (H : Heap) : ∀ (n : Nat) (idx : List Nat), idx.Nodup → (closeI H n idx).Nodup ∧ ∃ t, closeI H n idx = idx ++ t
  | 0, idx, h => ⟨h, [], by simp [closeI]⟩
  | n + 1, idx, h => by
    obtain ⟨h1, t, h2⟩ := addN_spec (heapL H idx) idx h
    obtain ⟨h3, u, h4⟩ := closeI_spec H n _ h1
    exact ⟨h3, t ++ u, by rw [closeI, h4, h2]; simp⟩
theorem canI_spec (nl : Nat) (vs : List EV) (H : Heap) : (canI nl vs H).Nodup ∧ ∀ j, j < nl → (canI nl vs H)[j]? = some j := by
  obtain ⟨h1, t, h2⟩ := addN_spec (EV.blkLL vs) (upTo nl) (upTo_nodup nl)
  obtain ⟨h3, u, h4⟩ := closeI_spec H 3 _ h1
  refine ⟨h3, fun j hj => ?_⟩
  rw [canI, h4, h2, List.append_assoc, List.getElem?_append_left (by rw [upTo_length]; exact hj)]
  exact upTo_get nl j hj

theorem subBs_mbs {ρ : Ren} {idx : List Nat} {m : Nat} (h : m ∈ (⟨ρ.F, subBs ρ.bs idx⟩ : Ren).mbs) : m ∈ ρ.mbs := by
  rcases List.mem_append.1 h with h | h
  · exact List.mem_append.2 (.inl h)
  · obtain ⟨b, r, _, h2, h3⟩ := subBs_own h
    exact h3 ▸ own_mbs (mem_own h2)

/-- Against the world in which all began, of which the first blocks are ours still. -/
theorem Ext.sub {ρ0 ρ : Ren} {w0 w : World} (h : Ext ρ0 w0 ρ w) {idx : List Nat} (hi : ∀ j, j < ρ0.bs.length → idx[j]? = some j) : Ext ρ0 w0 ⟨ρ.F, subBs ρ.bs idx⟩ w := by
  refine ⟨h.os, h.tape, h.output, h.size, h.out, fun b hb hn hm => h.new b hb hn (subBs_mbs hm), ?_, ?_, h.row⟩
  · intro b hb hn hm
    obtain ⟨c, r, _, h2, h3⟩ := subBs_own hm
    exact h.newOwn b hb hn (h3 ▸ mem_own h2)
  · intro b r hb
    have hlt : b < ρ0.bs.length := by
      rcases Nat.lt_or_ge b ρ0.bs.length with hh | hh
      · exact hh
      · rw [List.getElem?_eq_none hh] at hb; cases hb
    simp only [subBs, List.getElem?_map, hi b hlt, Option.map_some]
    rcases h.keep b r hb with h1 | h1
    · rw [h1]; left; cases r <;> rfl
    · rw [h1]; exact .inr rfl

/-- The listed blocks, as they have become, in their places; what is new, behind. -/
def putB {α : Type} : List Nat → List α → List α → List α
  | [], r, H => H ++ r
  | b :: l, v :: r, H => putB l r (H.set b v)
  | _ :: _, [], H => H
/-- Where a block comes back to. -/
def backN (idx : List Nat) (n : Nat) (j : Nat) : Nat :=
  match idx[j]? with
  | some b => b
  | none => n + (j - idx.length)

theorem putB_length {α : Type} : ∀ (idx : List Nat) (r H : List α), idx.length ≤ r.length → (putB idx r H).length = H.length + (r.length - idx.length)
  | [], r, H, _ => by simp [putB]
  | b :: l, v :: r, H, h => by
    simp only [List.length_cons] at h ⊢
    rw [putB, putB_length l r _ (by omega), List.length_set]
    omega
  | b :: l, [], H, h => by simp at h
theorem putB_out {α : Type} : ∀ (idx : List Nat) (r H : List α) (c : Nat), c ∉ idx → c < H.length → (putB idx r H)[c]? = H[c]?
  | [], r, H, c, _, hc => by rw [putB, List.getElem?_append_left hc]
  | b :: l, v :: r, H, c, hn, hc => by
    simp only [List.mem_cons, not_or] at hn
    rw [putB, putB_out l r _ c hn.2 (by simpa using hc), map_some_ne _ _ _ _ hn.1]
  | b :: l, [], H, c, _, _ => rfl
theorem putB_at {α : Type} : ∀ (idx : List Nat) (r H : List α) (j : Nat), idx.Nodup → (∀ b ∈ idx, b < H.length) → idx.length ≤ r.length → j < r.length → (putB idx r H)[backN idx H.length j]? = r[j]?
  | [], r, H, j, _, _, _, hj => by
    rw [putB, backN]
    simp only [List.getElem?_nil, List.length_nil, Nat.sub_zero]
    rw [List.getElem?_append_right (by omega)]
    congr 1; omega
  | b :: l, v :: r, H, 0, hn, hl, hle, hj => by
    rw [List.nodup_cons] at hn
    have hb := hl b List.mem_cons_self
    simp only [backN, List.getElem?_cons_zero, putB]
    rw [putB_out l r _ b hn.1 (by simpa using hb), List.getElem?_set_self hb]
  | b :: l, v :: r, H, j + 1, hn, hl, hle, hj => by
    rw [List.nodup_cons] at hn
    simp only [List.length_cons] at hle hj
    have ih := putB_at l r (H.set b v) j hn.2 (fun c hc => by simpa using hl c (List.mem_cons_of_mem _ hc)) (by omega) (by omega)
    have e : backN (b :: l) H.length (j + 1) = backN l (H.set b v).length j := by
      simp only [backN, List.getElem?_cons_succ, List.length_cons, List.length_set]
      cases l[j]? with
      | some c => rfl
      | none => simp only; omega
    rw [e, putB, ih, List.getElem?_cons_succ]
  | b :: l, [], H, j, _, _, hle, _ => by simp at hle
theorem putB_inv {α : Type} {idx : List Nat} {r H : List α} {c : Nat} {x : α} (hn : idx.Nodup) (hl : ∀ b ∈ idx, b < H.length) (hle : idx.length ≤ r.length) (h : (putB idx r H)[c]? = some x) :
    (∃ j, r[j]? = some x ∧ backN idx H.length j = c) ∨ (c ∉ idx ∧ H[c]? = some x) := by
  have hlt : c < (putB idx r H).length := by
    rcases Nat.lt_or_ge c (putB idx r H).length with hh | hh
    · exact hh
    · rw [List.getElem?_eq_none hh] at h; cases h
  rw [putB_length idx r H hle] at hlt
  have lt_of : ∀ {j : Nat} {x : α}, r[j]? = some x → j < r.length := by
    intro j x hj
    rcases Nat.lt_or_ge j r.length with hh | hh
    · exact hh
    · rw [List.getElem?_eq_none hh] at hj; cases hj
  by_cases hc : c ∈ idx
  · left
    have hj := pos_get hc
    have hjl : pos idx c < idx.length := by
      rcases Nat.lt_or_ge (pos idx c) idx.length with hh | hh
      · exact hh
      · rw [List.getElem?_eq_none hh] at hj; cases hj
    have hb : backN idx H.length (pos idx c) = c := by simp [backN, hj]
    have := putB_at idx r H (pos idx c) hn hl hle (by omega)
    rw [hb, h] at this
    exact ⟨_, this.symm, hb⟩
  · by_cases hcl : c < H.length
    · right
      rw [putB_out idx r H c hc hcl] at h
      exact ⟨hc, h⟩
    · left
      have hge : idx.length ≤ idx.length + (c - H.length) := by omega
      have hb : backN idx H.length (idx.length + (c - H.length)) = c := by
        simp only [backN, List.getElem?_eq_none hge]
        omega
      have := putB_at idx r H (idx.length + (c - H.length)) hn hl hle (by omega)
      rw [hb, h] at this
      exact ⟨_, this.symm, hb⟩

def renH (f : Nat → Nat) : Heap → Heap
  | [] => []
  | o :: H => renO f o :: renH f H
theorem renH_length (f : Nat → Nat) : ∀ H : Heap, (renH f H).length = H.length
  | [] => rfl
  | _ :: H => by simp [renH, renH_length f H]
theorem renH_get (f : Nat → Nat) : ∀ (H : Heap) (j : Nat), (renH f H)[j]? = (H[j]?).map (renO f)
  | [], j => by simp [renH]
  | o :: H, 0 => by simp [renH]
  | o :: H, j + 1 => by simp [renH, renH_get f H j]
def allLt (n : Nat) : List Nat → Bool
  | [] => true
  | b :: l => Nat.blt b n && allLt n l
theorem allLt_spec {n : Nat} : ∀ {l : List Nat}, allLt n l = true → ∀ b ∈ l, b < n
  | c :: l, h, b, hb => by
    simp only [allLt, Bool.and_eq_true] at h
    rcases List.mem_cons.1 hb with rfl | hb
    · exact Nat.le_of_ble_eq_true h.1
    · exact allLt_spec h.2 b hb
def noRSH : Heap → Bool
  | [] => true
  | some v :: H => v.noRS && noRSH H
  | none :: H => noRSH H
theorem noRSH_spec : ∀ {H : Heap}, noRSH H = true → ∀ (j : Nat) v, H[j]? = some (some v) → v.noRS = true
  | some u :: H, h, 0, v, hv => by
    simp only [noRSH, Bool.and_eq_true] at h
    simp at hv; subst hv; exact h.1
  | some u :: H, h, j + 1, v, hv => by
    simp only [noRSH, Bool.and_eq_true] at h
    exact noRSH_spec h.2 j v (by simpa using hv)
  | none :: H, h, 0, v, hv => by simp at hv
  | none :: H, h, j + 1, v, hv => noRSH_spec (by simpa [noRSH] using h) j v (by simpa using hv)
  | [], _, j, v, hv => by simp at hv
/-- The listed blocks are given up. -/
def killN {α : Type} : List Nat → List (Option α) → List (Option α)
  | [], H => H
  | b :: l, H => killN l (H.set b none)
theorem killN_length {α : Type} : ∀ (l : List Nat) (H : List (Option α)), (killN l H).length = H.length
  | [], _ => rfl
  | b :: l, H => by rw [killN, killN_length l]; simp
theorem killN_out {α : Type} : ∀ (l : List Nat) (H : List (Option α)) (c : Nat), c ∉ l → (killN l H)[c]? = H[c]?
  | [], _, _, _ => rfl
  | b :: l, H, c, h => by
    simp only [List.mem_cons, not_or] at h
    rw [killN, killN_out l _ c h.2, map_some_ne _ _ _ _ h.1]
theorem killN_in {α : Type} : ∀ (l : List Nat) (H : List (Option α)) (c : Nat), (c ∈ l ∨ H[c]? = some none) → c < H.length → (killN l H)[c]? = some none
  | [], H, c, h, hc => by
    rcases h with h | h
    · cases h
    · exact h
  | b :: l, H, c, h, hc => by
    rw [killN]
    refine killN_in l _ c ?_ (by simpa using hc)
    by_cases hcb : c = b
    · subst hcb
      exact .inr (by rw [List.getElem?_set_self hc])
    · rcases h with h | h
      · rcases List.mem_cons.1 h with h | h
        · exact absurd h hcb
        · exact .inl h
      · exact .inr (by rw [map_some_ne _ _ _ _ hcb]; exact h)
theorem killN_some {α : Type} {l : List Nat} {H : List (Option α)} {c : Nat} {x : α} (h : (killN l H)[c]? = some (some x)) : c ∉ l ∧ H[c]? = some (some x) := by
  by_cases hc : c ∈ l
  · have hlt : c < (killN l H).length := by
      rcases Nat.lt_or_ge c (killN l H).length with hh | hh
      · exact hh
      · rw [List.getElem?_eq_none hh] at h; cases h
    rw [killN_length] at hlt
    rw [killN_in l H c (.inl hc) hlt] at h
    cases h
  · exact ⟨hc, by rw [killN_out l H c hc] at h; exact h⟩
def noneIn (idx : List Nat) : List Nat → Bool
  | [] => true
  | b :: l => !memN b idx && noneIn idx l
theorem noneIn_spec {idx : List Nat} : ∀ {l : List Nat}, noneIn idx l = true → ∀ b ∈ l, b ∉ idx
  | c :: l, h, b, hb => by
    simp only [noneIn, Bool.and_eq_true, Bool.not_eq_true', memN_not] at h
    rcases List.mem_cons.1 hb with rfl | hb
    · exact h.1
    · exact noneIn_spec h.2 b hb
end Go.Ev
