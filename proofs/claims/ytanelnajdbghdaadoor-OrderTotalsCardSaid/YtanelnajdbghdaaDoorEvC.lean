/- The evaluator: the blocks' numbers, others: what it comes to is the same, with the other numbers. -/
import Derived.Test.YtanelnajdbghdaaDoorEvB
set_option linter.unusedVariables false
set_option linter.unusedSimpArgs false
namespace Go.Ev
open Go
structure Shf (n m : Nat) (f : Nat → Nat) : Prop where
  inj : ∀ a b, f a = f b → a = b
  low : ∀ b, b < n → f b = b
  high : ∀ b, m ≤ b → f b = b
theorem Shf.lt {n m : Nat} {f : Nat → Nat} (h : Shf n m f) {b : Nat} (hb : b < m) : f b < m := by
  rcases Nat.lt_or_ge (f b) m with h1 | h1
  · exact h1
  · have := h.inj _ _ (h.high (f b) h1)
    omega
theorem Shf.lt' {n m : Nat} {f : Nat → Nat} (h : Shf n m f) {b : Nat} (hb : f b < m) : b < m := by
  rcases Nat.lt_or_ge b m with h1 | h1
  · exact h1
  · rw [h.high b h1] at hb; exact hb
theorem Shf.mono {n m m' : Nat} {f : Nat → Nat} (h : Shf n m f) (hm : m ≤ m') : Shf n m' f := ⟨h.inj, h.low, fun b hb => h.high b (by omega)⟩
theorem Shf.comp {n m : Nat} {f g : Nat → Nat} (h : Shf n m f) (k : Shf n m g) : Shf n m (fun b => g (f b)) :=
  ⟨fun a b e => h.inj _ _ (k.inj _ _ e), fun b hb => by rw [h.low b hb, k.low b hb], fun b hb => by rw [h.high b hb, k.high b hb]⟩
theorem Shf.id (n m : Nat) : Shf n m (fun b => b) := ⟨fun _ _ h => h, fun _ _ => rfl, fun _ _ => rfl⟩
theorem pigeon : ∀ (m : Nat) (f : Nat → Nat), (∀ a b, a < m → b < m → f a = f b → a = b) → (∀ b, b < m → f b < m) → ∀ c, c < m → ∃ b, b < m ∧ f b = c
  | 0, _, _, _, c, hc => by omega
  | m + 1, f, hi, hl, c, hc => by
    have ih := pigeon m (fun b => if f b = m then f m else f b) (by
      intro a b ha hb h
      have h : (if f a = m then f m else f a) = (if f b = m then f m else f b) := h
      by_cases h1 : f a = m
      · by_cases h2 : f b = m
        · exact hi a b (by omega) (by omega) (by omega)
        · rw [if_pos h1, if_neg h2] at h
          have := hi m b (by omega) (by omega) h
          omega
      · by_cases h2 : f b = m
        · rw [if_neg h1, if_pos h2] at h
          have := hi a m (by omega) (by omega) h
          omega
        · rw [if_neg h1, if_neg h2] at h
          exact hi a b (by omega) (by omega) h) (by
      intro b hb
      show (if f b = m then f m else f b) < m
      by_cases h1 : f b = m
      · rw [if_pos h1]
        have h2 := hl m (by omega)
        by_cases h3 : f m = m
        · have := hi b m (by omega) (by omega) (by omega); omega
        · omega
      · rw [if_neg h1]
        have := hl b (by omega); omega)
    by_cases h0 : f m = c
    · exact ⟨m, by omega, h0⟩
    by_cases h1 : c = m
    · have h2 := hl m (by omega)
      obtain ⟨b, h3, h4⟩ := ih (f m) (by omega)
      have h4 : (if f b = m then f m else f b) = f m := h4
      by_cases h5 : f b = m
      · exact ⟨b, by omega, by omega⟩
      · rw [if_neg h5] at h4
        have := hi b m (by omega) (by omega) h4
        omega
    · obtain ⟨b, h3, h4⟩ := ih c (by omega)
      have h4 : (if f b = m then f m else f b) = c := h4
      by_cases h5 : f b = m
      · rw [if_pos h5] at h4; exact absurd h4 h0
      · rw [if_neg h5] at h4; exact ⟨b, by omega, h4⟩
theorem Shf.surj {n m : Nat} {f : Nat → Nat} (h : Shf n m f) {c : Nat} (hc : c < m) : ∃ b, b < m ∧ f b = c :=
  pigeon m f (fun a b _ _ e => h.inj a b e) (fun b hb => h.lt hb) c hc
def swp (n b : Nat) : Nat := if b = n then n + 1 else if b = n + 1 then n else b
theorem Shf.swp (k n m : Nat) (hk : k ≤ n) (hm : n + 2 ≤ m) : Shf k m (swp n) := by
  refine ⟨fun a b h => ?_, fun b hb => ?_, fun b hb => ?_⟩
  · unfold Ev.swp at h; split at h <;> split at h <;> (try split at h) <;> (try split at h) <;> omega
  · unfold Ev.swp; rw [if_neg (by omega), if_neg (by omega)]
  · unfold Ev.swp; rw [if_neg (by omega), if_neg (by omega)]
theorem renL_map (f : Nat → Nat) : ∀ (l : List EV), EV.renL f l = l.map (EV.ren f)
  | [] => rfl
  | v :: l => by simp only [EV.renL, List.map_cons, renL_map f l]
mutual
theorem ren_ren (f g : Nat → Nat) : ∀ (v : EV), (v.ren f).ren g = v.ren (fun b => g (f b))
  | .ptr _ _ => rfl
  | .slice _ _ _ _ _ => rfl
  | .rref v => by simp only [EV.ren, ren_ren f g v]
  | .agg l => by simp only [EV.ren, renL_renL f g l]
  | .tuple l => by simp only [EV.ren, renL_renL f g l]
  | .func _ l => by simp only [EV.ren, renL_renL f g l]
  | .bnd _ l => by simp only [EV.ren, renL_renL f g l]
  | .iface _ v => by simp only [EV.ren, ren_ren f g v]
  | .rsI _ _ _ => rfl | .undef => rfl
  | .bool _ => rfl | .int _ _ => rfl | .str _ => rfl | .nilPtr => rfl | .nilSlice => rfl | .nilFunc => rfl | .arr _ _ _ => rfl | .nilIface => rfl
  | .rsT _ _ _ => rfl | .arrT _ _ _ => rfl
theorem renL_renL (f g : Nat → Nat) : ∀ (l : List EV), EV.renL g (EV.renL f l) = EV.renL (fun b => g (f b)) l
  | [] => rfl
  | v :: l => by simp only [EV.renL, ren_ren f g v, renL_renL f g l]
end
mutual
theorem ren_id : ∀ (v : EV), v.ren (fun b => b) = v
  | .ptr _ _ => rfl
  | .slice _ _ _ _ _ => rfl
  | .rref v => by simp only [EV.ren, ren_id v]
  | .agg l => by simp only [EV.ren, renL_id l]
  | .tuple l => by simp only [EV.ren, renL_id l]
  | .func _ l => by simp only [EV.ren, renL_id l]
  | .bnd _ l => by simp only [EV.ren, renL_id l]
  | .iface _ v => by simp only [EV.ren, ren_id v]
  | .rsI _ _ _ => rfl | .undef => rfl
  | .bool _ => rfl | .int _ _ => rfl | .str _ => rfl | .nilPtr => rfl | .nilSlice => rfl | .nilFunc => rfl | .arr _ _ _ => rfl | .nilIface => rfl
  | .rsT _ _ _ => rfl | .arrT _ _ _ => rfl
theorem renL_id : ∀ (l : List EV), EV.renL (fun b => b) l = l
  | [] => rfl
  | v :: l => by simp only [EV.renL, ren_id v, renL_id l]
end
structure HR (f : Nat → Nat) (H H' : Heap) : Prop where
  len : H'.length = H.length
  get : ∀ (b : Nat), H'[f b]? = (H[b]?).map (renO f)
theorem HR.id (H : Heap) : HR (fun b => b) H H := ⟨rfl, fun b => by
  cases H[b]? with
  | none => rfl
  | some o => cases o <;> simp [renO, ren_id]⟩
theorem renO_renO (f g : Nat → Nat) (o : Option EV) : renO g (renO f o) = renO (fun b => g (f b)) o := by
  cases o <;> simp [renO, ren_ren]
theorem HR.uniq {k : Nat} {f : Nat → Nat} {H A B : Heap} (hs : Shf k H.length f) (h1 : HR f H A) (h2 : HR f H B) : A = B := by
  apply List.ext_getElem?
  intro c
  rcases Nat.lt_or_ge c H.length with hc | hc
  · obtain ⟨b, _, rfl⟩ := hs.surj hc
    rw [h1.get, h2.get]
  · rw [List.getElem?_eq_none (by rw [h1.len]; exact hc), List.getElem?_eq_none (by rw [h2.len]; exact hc)]
theorem HR.comp {f g : Nat → Nat} {H H' H'' : Heap} (h : HR f H H') (k : HR g H' H'') : HR (fun b => g (f b)) H H'' := by
  refine ⟨k.len.trans h.len, fun b => ?_⟩
  rw [k.get, h.get]
  cases H[b]? with
  | none => rfl
  | some o => simp [renO_renO]
theorem HR.live {f : Nat → Nat} {H H' : Heap} (h : HR f H H') {b : Nat} {c : EV} (hb : H[b]? = some (some c)) : H'[f b]? = some (some (c.ren f)) := by
  rw [h.get, hb]; rfl
theorem HR.set {f : Nat → Nat} {H H' : Heap} (h : HR f H H') (hi : ∀ a b, f a = f b → a = b) (b : Nat) (o : Option EV) : HR f (H.set b o) (H'.set (f b) (renO f o)) := by
  refine ⟨by simp [h.len], fun c => ?_⟩
  by_cases hc : c = b
  · subst hc
    have := h.get c
    rw [List.getElem?_set, List.getElem?_set]
    simp only [if_true]
    by_cases hl : c < H.length
    · have h2 : f c < H'.length := by
        rcases Nat.lt_or_ge (f c) H'.length with h3 | h3
        · exact h3
        · rw [List.getElem?_eq_none h3, List.getElem?_eq_getElem hl] at this; cases this
      simp [hl, h2]
    · have h2 : ¬ f c < H'.length := by
        intro h3
        rw [List.getElem?_eq_getElem h3, List.getElem?_eq_none (by omega)] at this; cases this
      simp [hl, h2]
  · rw [List.getElem?_set_ne (fun e => hc e.symm), List.getElem?_set_ne (fun e => hc (hi _ _ e.symm)), h.get]
theorem HR.push {n : Nat} {f : Nat → Nat} {H H' : Heap} (h : HR f H H') (hs : Shf n H.length f) (o : Option EV) : HR f (H ++ [o]) (H' ++ [renO f o]) := by
  refine ⟨by simp [h.len], fun b => ?_⟩
  rcases Nat.lt_or_ge b H.length with hb | hb
  · rw [List.getElem?_append_left hb, List.getElem?_append_left (by rw [h.len]; exact hs.lt hb), h.get]
  · rw [hs.high b hb, List.getElem?_append_right hb, List.getElem?_append_right (by rw [h.len]; exact hb), h.len]
    cases hq : b - H.length with
    | zero => simp
    | succ k => simp
def KV (f : Nat → Nat) (K : EV → Prop) : EV → Prop := fun v' => ∃ v, v' = v.ren f ∧ K v
def KR (f : Nat → Nat) (n : Nat) (K : EV → Heap → Prop) : EV → Heap → Prop := fun v' H' => ∃ v H, v' = v.ren f ∧ HR f H H' ∧ n ≤ H.length ∧ K v H
def KH (f : Nat → Nat) (n : Nat) (K : Heap → Prop) : Heap → Prop := fun H' => ∃ H, HR f H H' ∧ n ≤ H.length ∧ K H
theorem renL_get (f : Nat → Nat) (l : List EV) (i : Nat) : (EV.renL f l)[i]? = (l[i]?).map (EV.ren f) := by rw [renL_map, List.getElem?_map]
theorem renL_length (f : Nat → Nat) (l : List EV) : (EV.renL f l).length = l.length := by rw [renL_map, List.length_map]
theorem renL_set (f : Nat → Nat) (l : List EV) (i : Nat) (y : EV) : (EV.renL f l).set i (y.ren f) = EV.renL f (l.set i y) := by rw [renL_map, renL_map, List.map_set]
theorem renL_append (f : Nat → Nat) (l r : List EV) : EV.renL f (l ++ r) = EV.renL f l ++ EV.renL f r := by simp [renL_map]
theorem aggLike_ren (f : Nat → Nat) (v : EV) : aggLike (v.ren f) = aggLike v := by cases v <;> rfl
theorem dfd_ren (f : Nat → Nat) (v : EV) : (v.ren f).dfd = v.dfd := by cases v <;> rfl
theorem dfdL_ren (f : Nat → Nat) : ∀ (l : List EV), dfdL (l.map (EV.ren f)) = dfdL l
  | [] => rfl
  | v :: l => by simp only [List.map_cons, dfdL, dfd_ren, dfdL_ren f l]
mutual
theorem storable_ren (f : Nat → Nat) : ∀ (v : EV), (v.ren f).storable = v.storable
  | .agg l => by simp only [EV.ren, EV.storable, storableL_ren f l]
  | .ptr _ _ => rfl | .slice _ _ _ _ _ => rfl | .rref _ => rfl | .tuple _ => rfl | .func _ _ => rfl | .bnd _ _ => rfl | .iface _ _ => rfl
  | .rsI _ _ _ => rfl | .undef => rfl
  | .bool _ => rfl | .int _ _ => rfl | .str _ => rfl | .nilPtr => rfl | .nilSlice => rfl | .nilFunc => rfl | .arr _ _ _ => rfl | .nilIface => rfl
  | .rsT _ _ _ => rfl | .arrT _ _ _ => rfl
theorem storableL_ren (f : Nat → Nat) : ∀ (l : List EV), EV.storableL (EV.renL f l) = EV.storableL l
  | [] => rfl
  | v :: l => by simp only [EV.renL, EV.storableL, storable_ren f v, storableL_ren f l]
end
mutual
theorem free_ren (f : Nat → Nat) : ∀ (v : EV), (v.ren f).free = v.free
  | .agg l => by simp only [EV.ren, EV.free, freeL_ren f l]
  | .tuple l => by simp only [EV.ren, EV.free, freeL_ren f l]
  | .func _ l => by simp only [EV.ren, EV.free, freeL_ren f l]
  | .bnd _ l => by simp only [EV.ren, EV.free, freeL_ren f l]
  | .iface _ v => by simp only [EV.ren, EV.free, free_ren f v]
  | .ptr _ _ => rfl | .slice _ _ _ _ _ => rfl | .rref _ => rfl
  | .rsI _ _ _ => rfl | .undef => rfl
  | .bool _ => rfl | .int _ _ => rfl | .str _ => rfl | .nilPtr => rfl | .nilSlice => rfl | .nilFunc => rfl | .arr _ _ _ => rfl | .nilIface => rfl
  | .rsT _ _ _ => rfl | .arrT _ _ _ => rfl
theorem freeL_ren (f : Nat → Nat) : ∀ (l : List EV), EV.freeL (EV.renL f l) = EV.freeL l
  | [] => rfl
  | v :: l => by simp only [EV.renL, EV.freeL, free_ren f v, freeL_ren f l]
end
mutual
theorem val_ren (f : Nat → Nat) : ∀ (s : Sk) (c : Nat) (r : Nat → Lf), (s.val c r).ren f = s.val c r
  | .int _, _, _ => rfl
  | .bool, _, _ => rfl
  | .sl _, _, _ => rfl
  | .agg l, c, r => by simp only [Sk.val, EV.ren, val_renL f l c r]
theorem val_renL (f : Nat → Nat) : ∀ (l : List Sk) (c : Nat) (r : Nat → Lf), EV.renL f (Sk.valL l c r) = Sk.valL l c r
  | [], _, _ => rfl
  | s :: l, c, r => by simp only [Sk.valL, EV.renL, val_ren f s c r, val_renL f l _ r]
end
mutual
theorem un_ren (f : Nat → Nat) : ∀ (s : Sk) (v : EV), s.un (v.ren f) = s.un v
  | .int k, v => by cases v <;> rfl
  | .bool, v => by cases v <;> rfl
  | .sl s, v => by cases v <;> rfl
  | .agg l, v => by
    cases v <;> try rfl
    simp only [EV.ren, Sk.un, un_renL f l]
theorem un_renL (f : Nat → Nat) : ∀ (l : List Sk) (vs : List EV), Sk.unL l (EV.renL f vs) = Sk.unL l vs
  | [], [] => rfl
  | [], _ :: _ => rfl
  | _ :: _, [] => rfl
  | s :: l, v :: vs => by simp only [EV.renL, Sk.unL, un_ren f s v, un_renL f l vs]
end
theorem get_ren (f : Nat → Nat) : ∀ (p : List Nat) (v : EV), EV.get p (v.ren f) = (EV.get p v).map (EV.ren f)
  | [], v => by simp [EV.get]
  | i :: p, .agg l => by
    simp only [EV.ren, EV.get, renL_get]
    cases l[i]? with
    | none => rfl
    | some u => simp only [Option.map_some]; exact get_ren f p u
  | [i], .arr k n g => rfl
  | i :: j :: p, .arr k n g => rfl
  | i :: p, .arrT n s g => by
    have := get_ren f p (s.val 0 (g i))
    rw [val_ren] at this
    simp only [EV.ren, EV.get]; exact this
  | i :: p, .rsT _ _ _ => rfl
  | i :: p, .undef => rfl
  | i :: p, .bool _ => rfl
  | i :: p, .int _ _ => rfl
  | i :: p, .str _ => rfl
  | i :: p, .nilPtr => rfl
  | i :: p, .ptr _ _ => rfl
  | i :: p, .rref _ => rfl
  | i :: p, .nilSlice => rfl
  | i :: p, .slice _ _ _ _ _ => rfl
  | i :: p, .rsI _ _ _ => rfl
  | i :: p, .nilFunc => rfl
  | i :: p, .func _ _ => rfl
  | i :: p, .bnd _ _ => rfl
  | i :: p, .tuple _ => rfl
  | i :: p, .nilIface => rfl
  | i :: p, .iface _ _ => rfl
theorem set_ren (f : Nat → Nat) : ∀ (p : List Nat) (v u : EV), EV.set p (v.ren f) (u.ren f) = (EV.set p v u).map (EV.ren f)
  | [], v, u => by
    simp only [EV.set, shape_ren]
    cases v.shape.beq u.shape <;> rfl
  | i :: p, .agg l, u => by
    simp only [EV.ren, EV.set, renL_get]
    cases l[i]? with
    | none => rfl
    | some x =>
      simp only [Option.map_some, set_ren f p x u]
      cases EV.set p x u with
      | none => rfl
      | some y => simp only [Option.map_some, renL_set, EV.ren]
  | [i], .arr k n g, u => by
    cases u <;> try rfl
    rename_i k' x
    simp only [EV.ren, EV.set]
    cases decide (k = k') <;> rfl
  | i :: j :: p, .arr k n g, u => rfl
  | i :: p, .arrT n s g, u => by
    have := set_ren f p (s.val 0 (g i)) u
    rw [val_ren] at this
    simp only [EV.ren, EV.set, this]
    cases EV.set p (s.val 0 (g i)) u with
    | none => rfl
    | some y =>
      simp only [Option.map_some, un_ren]
      cases s.un y <;> rfl
  | i :: p, .rsT _ _ _, u => rfl
  | i :: p, .undef, u => rfl
  | i :: p, .bool _, u => rfl
  | i :: p, .int _ _, u => rfl
  | i :: p, .str _, u => rfl
  | i :: p, .nilPtr, u => rfl
  | i :: p, .ptr _ _, u => rfl
  | i :: p, .rref _, u => rfl
  | i :: p, .nilSlice, u => rfl
  | i :: p, .slice _ _ _ _ _, u => rfl
  | i :: p, .rsI _ _ _, u => rfl
  | i :: p, .nilFunc, u => rfl
  | i :: p, .func _ _, u => rfl
  | i :: p, .bnd _ _, u => rfl
  | i :: p, .tuple _, u => rfl
  | i :: p, .nilIface, u => rfl
  | i :: p, .iface _ _, u => rfl
section eqv
variable {E : Env} {f : Nat → Nat}
theorem conf_ren (t : TypeId) (u : EV) : conf E t (u.ren f) = conf E t u := by simp only [conf, aggLike_ren, shape_ren]
theorem evLoad_eqv {t : TypeId} {v : EV} {H H' : Heap} {K : EV → Prop} (hH : HR f H H') (h : evLoad E t v H K) : evLoad E t (v.ren f) H' (KV f K) := by
  cases v <;> simp only [evLoad, EV.ren] at h ⊢
  case rref u =>
    rw [gd_iff] at h ⊢
    exact ⟨by rw [conf_ren]; exact h.1, _, rfl, h.2⟩
  case ptr b p =>
    split at h
    case h_2 => exact h.elim
    rename_i c hb
    rw [hH.live hb]
    simp only [get_ren]
    split at h
    case h_2 => exact h.elim
    rename_i u hu
    simp only [hu, Option.map_some]
    rw [gd_iff] at h ⊢
    exact ⟨by rw [conf_ren]; exact h.1, _, rfl, h.2⟩
theorem evStore_eqv {n : Nat} {t : TypeId} {a v : EV} {H H' : Heap} {K : Heap → Prop} (hs : Shf n H.length f) (hH : HR f H H') (h : evStore E t a v H K) : evStore E t (a.ren f) (v.ren f) H' (KH f H.length K) := by
  cases a <;> simp only [evStore, EV.ren] at h ⊢
  case ptr b p =>
    split at h
    case h_2 => exact h.elim
    rename_i c hb
    rw [hH.live hb]
    simp only [set_ren]
    split at h
    case h_2 => exact h.elim
    rename_i u hu
    simp only [hu, Option.map_some]
    rw [gd_iff] at h ⊢
    refine ⟨?_, H.set b (some u), hH.set hs.inj b (some u), by simp, h.2⟩
    rw [storable_ren, shape_ren]; exact h.1
theorem evNew_eqv {n : Nat} {v : EV} {H H' : Heap} {K : EV → Heap → Prop} (hs : Shf n H.length f) (hH : HR f H H') (h : evNew H v K) : evNew H' (v.ren f) (KR f H.length K) :=
  ⟨.ptr H.length [], H ++ [some v], by rw [EV.ren, hs.high _ (Nat.le_refl _), hH.len], hH.push hs (some v), by simp, h⟩
theorem eqL_ren {eq : TypeId → EV → EV → Option Bool} (he : ∀ t x y, eq t (x.ren f) (y.ren f) = eq t x y) : ∀ (fs : List (Nat × TypeId)) (o : Nat) (xs ys : List EV),
    eqL E eq fs o (EV.renL f xs) (EV.renL f ys) = eqL E eq fs o xs ys
  | [], _, [], [] => rfl
  | [], _, [], _ :: _ => rfl
  | [], _, _ :: _, [] => rfl
  | [], _, _ :: _, _ :: _ => rfl
  | _ :: _, _, [], [] => rfl
  | _ :: _, _, [], _ :: _ => rfl
  | _ :: _, _, _ :: _, [] => rfl
  | (o, t) :: fs, off, x :: xs, y :: ys => by
    simp only [EV.renL, eqL, shape_ren, conf_ren, he, eqL_ren he fs]
theorem renL_len : ∀ l : List EV, (EV.renL f l).length = l.length
  | [] => rfl
  | v :: l => by simp only [EV.renL, List.length_cons, renL_len l]
theorem eqA_ren {eq : TypeId → EV → EV → Option Bool} (he : ∀ t x y, eq t (x.ren f) (y.ren f) = eq t x y) (e : TypeId) (sz : Nat) : ∀ (xs ys : List EV),
    eqA E eq e sz (EV.renL f xs) (EV.renL f ys) = eqA E eq e sz xs ys
  | [], [] => rfl
  | [], _ :: _ => rfl
  | _ :: _, [] => rfl
  | x :: xs, y :: ys => by
    simp only [EV.renL, eqA, shape_ren, conf_ren, he, eqA_ren he e sz xs]
    cases xs <;> rfl
theorem eqT_ren : ∀ (d : Nat) (t : TypeId) (x y : EV), eqT E d t (x.ren f) (y.ren f) = eqT E d t x y
  | 0, _, _, _ => rfl
  | d + 1, t, x, y => by
    simp only [eqT]
    cases E.ty t with
    | none => rfl
    | some ti =>
      simp only
      cases ti.td
      case struct fs =>
        cases x <;> cases y <;> simp only [EV.ren]
        exact eqL_ren (eqT_ren d) fs 0 _ _
      case array n e =>
        cases x <;> cases y <;> simp only [EV.ren]
        cases E.ty e with
        | none => rfl
        | some ei => simp only [renL_len, eqA_ren (eqT_ren d)]
      all_goals (cases x <;> cases y <;> rfl)
theorem intBin_eqv {op : BinOp} {k : IntKind} {a b : Int} {K : EV → Prop} (h : intBin op k a b K) : intBin op k a b (KV f K) := by
  cases op <;> simp only [intBin, gd_iff] at h ⊢ <;> first | exact ⟨_, rfl, h⟩ | exact ⟨h.1, _, rfl, h.2⟩
theorem strBin_eqv {op : BinOp} {a b : List UInt8} {K : EV → Prop} (h : strBin op a b K) : strBin op a b (KV f K) := by
  cases op <;> simp only [strBin, gd_iff] at h ⊢ <;> first | exact h.elim | exact ⟨_, rfl, h⟩ | exact ⟨h.1, _, rfl, h.2⟩
theorem ren_int {x : EV} {k : IntKind} {a : Int} (h : x.ren f = .int k a) : x = .int k a := by cases x <;> simp [EV.ren] at h ⊢ <;> exact h
theorem ren_str {x : EV} {s : List UInt8} (h : x.ren f = .str s) : x = .str s := by cases x <;> simp [EV.ren] at h ⊢ <;> exact h
def eqRest (E : Env) (op : BinOp) (t : TypeId) (x y : EV) (K : EV → Prop) : Prop :=
  match op with
  | .eql => match eqT E 100 t x y with
    | some b => K (.bool b)
    | none => False
  | .neq => match eqT E 100 t x y with
    | some b => K (.bool (!b))
    | none => False
  | _ => False
theorem evBin_rest {op : BinOp} {t : TypeId} {x y : EV} {K : EV → Prop} (h1 : ∀ k a k' b, x = .int k a → y = .int k' b → False) (h2 : ∀ a b, x = .str a → y = .str b → False) :
    evBin E op t x y K = eqRest E op t x y K := by
  unfold evBin eqRest
  split
  · exact (h1 _ _ _ _ rfl rfl).elim
  · exact (h2 _ _ rfl rfl).elim
  · rfl
theorem eqRest_eqv {op : BinOp} {t : TypeId} {x y : EV} {K : EV → Prop} (h : eqRest E op t x y K) : eqRest E op t (x.ren f) (y.ren f) (KV f K) := by
  cases op <;> simp only [eqRest, eqT_ren] at h ⊢ <;> try exact h
  · cases hb : eqT E 100 t x y with
    | none => rw [hb] at h; exact h.elim
    | some b => rw [hb] at h; exact ⟨_, rfl, h⟩
  · cases hb : eqT E 100 t x y with
    | none => rw [hb] at h; exact h.elim
    | some b => rw [hb] at h; exact ⟨_, rfl, h⟩
theorem evBin_eqv {op : BinOp} {t : TypeId} {x y : EV} {K : EV → Prop} (h : evBin E op t x y K) : evBin E op t (x.ren f) (y.ren f) (KV f K) := by
  by_cases h1 : ∃ k a k' b, x = .int k a ∧ y = .int k' b
  · obtain ⟨k, a, k', b, rfl, rfl⟩ := h1
    cases op <;> simp only [evBin, EV.ren] at h ⊢
    all_goals first
      | (rw [gd_iff] at h ⊢; exact ⟨h.1, _, rfl, h.2⟩)
      | (rw [cd_iff] at h ⊢; exact ⟨fun e => intBin_eqv (h.1 e), h.2⟩)
  · by_cases h2 : ∃ a b, x = .str a ∧ y = .str b
    · obtain ⟨a, b, rfl, rfl⟩ := h2
      exact strBin_eqv h
    · rw [evBin_rest (fun k a k' b e1 e2 => h1 ⟨k, a, k', b, e1, e2⟩) (fun a b e1 e2 => h2 ⟨a, b, e1, e2⟩)] at h
      rw [evBin_rest (fun k a k' b e1 e2 => h1 ⟨k, a, k', b, ren_int e1, ren_int e2⟩) (fun a b e1 e2 => h2 ⟨a, b, ren_str e1, ren_str e2⟩)]
      exact eqRest_eqv h
theorem evUn_eqv {op : UnOp} {x : EV} {K : EV → Prop} (h : evUn op x K) : evUn op (x.ren f) (KV f K) := by
  cases op <;> cases x <;> simp only [evUn, EV.ren] at h ⊢ <;> first | exact h.elim | exact ⟨_, rfl, h⟩
theorem evWin_ren {H H' : Heap} (hH : HR f H H') (x : EV) : evWin H' (x.ren f) = evWin H x := by
  cases x <;> simp only [EV.ren, evWin]
  rename_i b off len cap e
  rw [hH.get]
  cases H[b]? with
  | none => rfl
  | some o =>
    cases o with
    | none => rfl
    | some c => cases c <;> rfl
def convRest (E : Env) (si : TI) (x : EV) (H : Heap) (K : EV → Prop) : Prop :=
  match si.td with
  | .slice e => cond (isIntTy E e .u8) (match evWin H x with
    | some (.u8, n, g) => K (.str (bytesOf n g))
    | _ => match x with
      | .nilSlice => K (.str [])
      | _ => False) False
  | _ => False
theorem convRest_eqv {si : TI} {x : EV} {H H' : Heap} {K : EV → Prop} (hH : HR f H H') (h : convRest E si x H K) : convRest E si (x.ren f) H' (KV f K) := by
  unfold convRest at h ⊢
  rw [evWin_ren hH]
  split at h
  case h_2 => exact h.elim
  rename_i e he
  rw [cd_iff] at h
  cases hi : isIntTy E e .u8 with
  | false => exact (h.2 hi).elim
  | true =>
    have h' := h.1 hi
    simp only [cond_true]
    split at h'
    · exact ⟨_, rfl, h'⟩
    · rename_i hw
      split at h'
      · exact ⟨_, rfl, h'⟩
      · exact h'.elim
theorem evConv_eqv {src dst : TypeId} {x : EV} {H H' : Heap} {K : EV → Prop} (hH : HR f H H') (h : evConv E src dst x H K) : evConv E src dst (x.ren f) H' (KV f K) := by
  unfold evConv at h ⊢
  cases hs : E.ty src with
  | none => rw [hs] at h; exact h.elim
  | some si =>
    cases hd : E.ty dst with
    | none => rw [hs, hd] at h; exact h.elim
    | some di =>
      rw [hs, hd] at h
      simp only at h ⊢
      cases htd : di.td <;> simp only [htd] at h ⊢ <;> try exact h.elim
      · cases x <;> simp only [EV.ren] at h ⊢ <;> first | exact h.elim | exact ⟨_, rfl, h⟩
      · rcases (show (∃ s, x = .str s ∧ K (.str s)) ∨ ((∀ s, x ≠ .str s) ∧ convRest E si x H K) from by
          cases x <;> first | exact .inl ⟨_, rfl, h⟩ | exact .inr ⟨(fun s e => by cases e), h⟩) with ⟨s, rfl, h⟩ | ⟨hne, h⟩
        · exact ⟨_, rfl, h⟩
        · have := convRest_eqv hH h
          revert this hne
          cases x <;> intro hne this <;> first | exact this | exact absurd rfl (hne _)
theorem pickL_eqv {F G : Nat → EV → Prop} (hF : ∀ j u, F j u → G j (u.ren f)) : ∀ (l : List EV) (j : Nat) (i : Int), pickL F l j i → pickL G (EV.renL f l) j i
  | [], _, _, h => h
  | u :: l, j, i, h => by
    simp only [pickL, EV.renL, br_iff] at h ⊢
    exact ⟨fun e => hF j u (h.1 e), fun e => pickL_eqv hF l (j + 1) i (h.2 e)⟩
theorem allSize_ren (n : Nat) : ∀ (l : List EV), allSize n (EV.renL f l) = allSize n l
  | [] => rfl
  | u :: l => by simp only [EV.renL, allSize, shape_ren, allSize_ren n l]
theorem evIndex_eqv {t : TypeId} {x i : EV} {K : EV → Prop} (h : evIndex E t x i K) : evIndex E t (x.ren f) (i.ren f) (KV f K) := by
  unfold evIndex at h ⊢
  split at h
  case h_2 => exact h.elim
  rename_i ti k i ht
  simp only [ht, EV.ren]
  split at h
  · rename_i n e k m g hq
    simp only [hq, EV.ren]
    rw [cd_iff] at h ⊢
    refine ⟨fun hc => ?_, fun hc => (h.2 hc).elim⟩
    have := h.1 hc
    rw [gd_iff] at this ⊢
    exact ⟨this.1, _, rfl, this.2⟩
  · rename_i n e l hq
    simp only [hq, EV.ren, renL_length]
    cases he : E.ty e <;> simp only [he, allSize_ren] at h ⊢ <;> rw [cd_iff] at h ⊢
    · exact ⟨fun hc => by simp at hc, fun hc => (h.2 hc).elim⟩
    refine ⟨fun hc => ?_, fun hc => (h.2 hc).elim⟩
    refine pickL_eqv (fun j u hu => ?_) l 0 i (h.1 hc)
    rw [gd_iff] at hu ⊢
    exact ⟨by rw [conf_ren]; exact hu.1, _, rfl, hu.2⟩
  · rename_i n e m s g hq
    simp only [hq, EV.ren]
    rw [cd_iff] at h ⊢
    refine ⟨fun hc => ?_, fun hc => (h.2 hc).elim⟩
    have := h.1 hc
    rw [gd_iff] at this ⊢
    exact ⟨this.1, _, (val_ren f s 0 _).symm, this.2⟩
  · rename_i s hq
    simp only [hq, EV.ren]
    rw [gd_iff] at h ⊢
    exact ⟨h.1, _, rfl, h.2⟩
  · exact h.elim
theorem evField_eqv {t : TypeId} {x : EV} {i : Nat} {K : EV → Prop} (h : evField E t x i K) : evField E t (x.ren f) i (KV f K) := by
  unfold evField at h ⊢
  split at h
  case h_2 => exact h.elim
  rename_i ti ht
  split at h
  case h_2 => exact h.elim
  rename_i fs l hq
  simp only [hq, EV.ren, renL_get]
  split at h
  case h_2 => exact h.elim
  rename_i o ft u hf hl
  simp only [hf, hl, Option.map_some]
  rw [gd_iff] at h ⊢
  refine ⟨?_, _, rfl, h.2⟩
  rw [conf_ren]
  have : EV.shapeL ((EV.renL f l).take i) = EV.shapeL (l.take i) := by
    rw [renL_map, ← List.map_take, ← renL_map, shapeL_ren]
  rw [this]; exact h.1
theorem evFieldAddr_eqv {t : TypeId} {x : EV} {i : Nat} {H H' : Heap} {K : EV → Prop} (hH : HR f H H') (h : evFieldAddr E t x i H K) : evFieldAddr E t (x.ren f) i H' (KV f K) := by
  unfold evFieldAddr at h ⊢
  cases ht : E.ty t with
  | none => rw [ht] at h; exact h.elim
  | some ti =>
    rw [ht] at h
    simp only at h ⊢
    cases htd : ti.td <;> simp only [htd] at h ⊢ <;> try exact h.elim
    rename_i fs
    cases hf : fs[i]? with
    | none => rw [hf] at h; exact h.elim
    | some q =>
      obtain ⟨o, ft⟩ := q
      rw [hf] at h
      simp only at h ⊢
      cases hft : E.ty ft with
      | none => rw [hft] at h; exact h.elim
      | some fi =>
        rw [hft] at h
        simp only at h ⊢
        cases x <;> simp only [EV.ren] at h ⊢ <;> try exact h.elim
        case ptr b p =>
          cases hb : H[b]? with
          | none => rw [hb] at h; exact h.elim
          | some oc =>
            cases oc with
            | none => rw [hb] at h; exact h.elim
            | some c =>
              rw [hb] at h
              rw [hH.live hb]
              simp only [get_ren] at h ⊢
              cases hg : EV.get p c with
              | none => rw [hg] at h; exact h.elim
              | some u =>
                rw [hg] at h
                simp only [Option.map_some] at h ⊢
                rw [gd_iff] at h ⊢
                refine ⟨?_, _, rfl, h.2⟩
                rw [shape_ren]; exact h.1
        case rref v =>
          cases v <;> simp only [EV.ren] at h ⊢ <;> try exact h.elim
          rename_i l
          rw [renL_get]
          cases hl : l[i]? with
          | none => rw [hl] at h; exact h.elim
          | some u =>
            rw [hl] at h
            simp only [Option.map_some] at h ⊢
            rw [gd_iff] at h ⊢
            refine ⟨?_, _, rfl, h.2⟩
            have : EV.shapeL ((EV.renL f l).take i) = EV.shapeL (l.take i) := by
              rw [renL_map, ← List.map_take, ← renL_map, shapeL_ren]
            rw [this]; exact h.1
theorem evNil_eqv {x : EV} {H H' : Heap} {K : EV → Prop} (hH : HR f H H') (h : evNil x H K) : evNil (x.ren f) H' (KV f K) := by
  unfold evNil at h ⊢
  cases x <;> simp only [EV.ren] at h ⊢ <;> try exact h.elim
  case ptr b p =>
    cases hb : H[b]? with
    | none => rw [hb] at h; exact h.elim
    | some oc =>
      cases oc with
      | none => rw [hb] at h; exact h.elim
      | some c =>
        rw [hb] at h
        rw [hH.live hb]
        simp only [get_ren] at h ⊢
        cases hg : EV.get p c with
        | none => rw [hg] at h; exact h.elim
        | some u =>
          rw [hg] at h
          exact ⟨.ptr b p, rfl, h⟩
  case rref v => exact ⟨.rref v, rfl, h⟩
  case func g l => exact ⟨.func g l, rfl, h⟩
  case bnd g l => exact ⟨.bnd g l, rfl, h⟩
  case iface t v => exact ⟨.iface t v, rfl, h⟩
theorem nilEq_eqv {op : BinOp} {b : Bool} {K : EV → Prop} (h : nilEq op b K) : nilEq op b (KV f K) := by
  cases op <;> first | exact ⟨_, rfl, h⟩ | exact h.elim
theorem spl_eqv {c : Bool} {v : EV} {K : EV → Prop} (h : spl c v K) : spl c (v.ren f) (KV f K) := by
  cases c
  · exact ⟨v, rfl, h⟩
  · cases v <;> simp only [spl, EV.ren] at h ⊢
    case int k n =>
      simp only [br_iff] at h ⊢
      exact ⟨fun e => ⟨_, rfl, h.1 e⟩, fun e => ⟨fun e2 => ⟨_, rfl, (h.2 e).1 e2⟩, fun e2 => (h.2 e).2 e2⟩⟩
theorem evCmp_eqv {op : BinOp} {t : TypeId} {o : Operand} {x y : EV} {H H' : Heap} {K : EV → Prop} (hH : HR f H H') (h : evCmp E op t o x y H K) : evCmp E op t o (x.ren f) (y.ren f) H' (KV f K) := by
  unfold evCmp at h ⊢
  cases h1 : Nat.beq (nilK o) 1 with
  | true =>
    rw [h1] at h
    simp only [cond_true] at h ⊢
    unfold evPN at h ⊢
    cases x <;> simp only [EV.ren] at h ⊢ <;> try exact h.elim
    · cases h2 : tdIs E t 1 with
      | true => rw [h2] at h; exact nilEq_eqv h
      | false => rw [h2] at h; exact h.elim
    · rename_i b q
      cases h2 : tdIs E t 1 with
      | true =>
        rw [h2] at h
        simp only [cond_true] at h ⊢
        have := evNil_eqv hH h
        simp only [EV.ren] at this
        unfold evNil at this ⊢
        simp only at this ⊢
        split at this
        · split at this
          · obtain ⟨_, _, hk⟩ := this
            exact nilEq_eqv hk
          · exact this.elim
        · exact this.elim
      | false => rw [h2] at h; exact h.elim
  | false =>
    rw [h1] at h
    simp only [cond_false] at h ⊢
    cases h2 : Nat.beq (nilK o) 2 with
    | true =>
      rw [h2] at h
      simp only [cond_true] at h ⊢
      unfold evIN at h ⊢
      cases x <;> simp only [EV.ren] at h ⊢ <;> try exact h.elim
      all_goals
        cases h3 : tdIs E t 0 with
        | true => rw [h3] at h; exact nilEq_eqv h
        | false => rw [h3] at h; exact h.elim
    | false => rw [h2] at h; exact evBin_eqv h
theorem evIndexAddr_eqv {t : TypeId} {x i : EV} {H H' : Heap} {K : EV → Prop} (hH : HR f H H') (h : evIndexAddr E t x i H K) : evIndexAddr E t (x.ren f) (i.ren f) H' (KV f K) := by
  unfold evIndexAddr at h ⊢
  cases ht : E.ty t with
  | none => rw [ht] at h; exact h.elim
  | some ti =>
    rw [ht] at h
    cases i <;> simp only [EV.ren] at h ⊢ <;> try exact h.elim
    rename_i ki i
    cases htd : ti.td <;> simp only [htd] at h ⊢ <;> try exact h.elim
    case slice e =>
      cases he : E.ty e with
      | none => rw [he] at h; exact h.elim
      | some ei =>
        rw [he] at h
        simp only at h ⊢
        cases x <;> simp only [EV.ren] at h ⊢ <;> try exact h.elim
        case slice b off len cap es =>
          cases hb : H[b]? with
          | none => rw [hb] at h; exact h.elim
          | some oc =>
            cases oc with
            | none => rw [hb] at h; exact h.elim
            | some c =>
              rw [hb] at h
              rw [hH.live hb]
              simp only at h ⊢
              rw [gd_iff] at h ⊢
              refine ⟨h.1, ?_⟩
              have h2 := h.2
              cases c <;> simp only [EV.ren] at h2 ⊢ <;> first | exact ⟨_, rfl, h2⟩ | skip
              rw [renL_map, ← List.map_drop, ← renL_map]
              exact pickL_eqv (fun j u hu => ⟨_, rfl, hu⟩) _ 0 i h2
        case rsI k n g =>
          rw [gd_iff] at h ⊢
          exact ⟨h.1, _, rfl, h.2⟩
        case rsT n s g =>
          rw [gd_iff] at h ⊢
          exact ⟨h.1, _, by rw [EV.ren, val_ren], h.2⟩
    case array n e =>
      cases he : E.ty e with
      | none => rw [he] at h; exact h.elim
      | some ei =>
        rw [he] at h
        simp only at h ⊢
        cases x <;> simp only [EV.ren] at h ⊢ <;> try exact h.elim
        case ptr b p =>
          cases hb : H[b]? with
          | none => rw [hb] at h; exact h.elim
          | some oc =>
            cases oc with
            | none => rw [hb] at h; exact h.elim
            | some c =>
              rw [hb] at h
              rw [hH.live hb]
              simp only [get_ren] at h ⊢
              cases hg : EV.get p c with
              | none => rw [hg] at h; exact h.elim
              | some u =>
                rw [hg] at h
                simp only [Option.map_some] at h ⊢
                cases u <;> simp only [EV.ren] at h ⊢ <;> try exact h.elim
                case arr k m g =>
                  rw [cd_iff] at h ⊢
                  refine ⟨fun hc => ?_, h.2⟩
                  have := h.1 hc
                  rw [gd_iff] at this ⊢
                  exact ⟨this.1, _, rfl, this.2⟩
                case agg l =>
                  rw [renL_length, allSize_ren]
                  rw [cd_iff] at h ⊢
                  exact ⟨fun hc => pickL_eqv (fun j u hu => ⟨_, rfl, hu⟩) l 0 i (h.1 hc), h.2⟩
                case arrT m s g =>
                  rw [cd_iff] at h ⊢
                  refine ⟨fun hc => ?_, h.2⟩
                  have := h.1 hc
                  rw [gd_iff] at this ⊢
                  exact ⟨this.1, _, rfl, this.2⟩
        case rref v =>
          cases v <;> simp only [EV.ren] at h ⊢ <;> try exact h.elim
          case arr k m g =>
            rw [cd_iff] at h ⊢
            exact ⟨fun hc => ⟨(h.1 hc).1, _, rfl, (h.1 hc).2⟩, h.2⟩
          case arrT m s g =>
            rw [cd_iff] at h ⊢
            refine ⟨fun hc => ?_, h.2⟩
            have := h.1 hc
            rw [gd_iff] at this ⊢
            exact ⟨this.1, _, by rw [EV.ren, val_ren], this.2⟩
theorem evExtract_eqv {x : EV} {i : Nat} {K : EV → Prop} (h : evExtract x i K) : evExtract (x.ren f) i (KV f K) := by
  cases x <;> simp only [evExtract, EV.ren] at h ⊢ <;> try exact h.elim
  rename_i l
  rw [renL_get]
  cases hl : l[i]? with
  | none => rw [hl] at h; exact h.elim
  | some u => rw [hl] at h; exact ⟨_, rfl, h⟩
def renP (f : Nat → Nat) (ps : List (Nat × EV)) : List (Nat × EV) := ps.map fun p => (p.1, p.2.ren f)
theorem evParts_ren (place : Nat → Option (Nat × Nat)) : ∀ (ps : List (Nat × EV)) (z : EV), evParts place (renP f ps) (z.ren f) = (evParts place ps z).map (EV.ren f)
  | [], z => rfl
  | (i, x) :: r, z => by
    have ih := fun z' => evParts_ren place r z'
    simp only [renP, List.map_cons, evParts, shape_ren, set_ren] at ih ⊢
    cases place i with
    | none => rfl
    | some q =>
      cases Shape.off [i] z.shape with
      | none => rfl
      | some o' =>
        cases EV.set [i] z x with
        | none => rfl
        | some z' =>
          simp only [Option.map_some]
          cases (Nat.beq q.fst o' && Nat.beq q.snd x.shape.size) with
          | false => rfl
          | true => simp only [cond_true, ih]
structure Closed (E : Env) : Prop where
  ty : ∀ t ti, E.ty t = some ti → ti.zero.inI [] = true
  gl : ∀ g v, E.gl g = some v → v.inI [] = true
theorem evBuild_eqv (hC : Closed E) {t : TypeId} {ps : List (Nat × EV)} {K : EV → Prop} (h : evBuild E t ps K) : evBuild E t (renP f ps) (KV f K) := by
  unfold evBuild at h ⊢
  cases ht : E.ty t with
  | none => rw [ht] at h; exact h.elim
  | some ti =>
    rw [ht] at h
    simp only at h ⊢
    have hz := ren_in (f := f) ti.zero (hC.ty t ti ht)
    rw [gd_iff] at h ⊢
    refine ⟨h.1, ?_⟩
    have h := h.2
    have hp : ∀ place, evParts place (renP f ps) ti.zero = (evParts place ps ti.zero).map (EV.ren f) := fun place => by
      have := evParts_ren (f := f) place ps ti.zero
      rwa [hz] at this
    cases htd : ti.td <;> simp only [htd] at h ⊢ <;> try exact h.elim
    case struct fs =>
      rw [hp]
      split at h
      · rename_i v hv
        simp only [hv, Option.map_some]
        rw [gd_iff] at h ⊢
        exact ⟨h.1, _, rfl, h.2⟩
      · exact h.elim
    case array n e =>
      split at h
      case h_2 => exact h.elim
      rename_i n he
      rw [hp]
      split at h
      · rename_i v hv
        simp only [hv, Option.map_some]
        exact ⟨_, rfl, h⟩
      · exact h.elim
theorem evBuildSlice_eqv (hC : Closed E) {k : Nat} {t : TypeId} {n : Nat} {ps : List (Nat × EV)} {H H' : Heap} {K : EV → Heap → Prop} (hs : Shf k H.length f) (hH : HR f H H') (h : evBuildSlice E t n ps H K) :
    evBuildSlice E t n (renP f ps) H' (KR f H.length K) := by
  have push : ∀ (v : EV) (off len : Nat) (cap : Option Nat) (e : Nat), K (.slice H.length off len cap e) (H ++ [some v]) → KR f H.length K (.slice H'.length off len cap e) (H' ++ [some (v.ren f)]) := fun v off len cap e hK =>
    ⟨.slice H.length off len cap e, H ++ [some v], by rw [EV.ren, hs.high _ (Nat.le_refl _), hH.len], hH.push hs (some v), by simp, hK⟩
  unfold evBuildSlice at h ⊢
  cases ht : E.ty t with
  | none => rw [ht] at h; exact h.elim
  | some ti =>
    rw [ht] at h
    simp only at h ⊢
    cases htd : ti.td <;> simp only [htd] at h ⊢ <;> try exact h.elim
    rename_i e
    cases he : E.ty e with
    | none => rw [he] at h; exact h.elim
    | some ei =>
      rw [he] at h
      simp only at h ⊢
      rw [gd_iff] at h ⊢
      refine ⟨h.1, ?_⟩
      have h := h.2
      have hz := ren_in (f := f) ei.zero (hC.ty e ei he)
      by_cases hi : ∃ q z, ei.zero = .int q z
      · obtain ⟨q, z, hi⟩ := hi
        simp only [hi] at h ⊢
        rw [gd_iff] at h ⊢
        refine ⟨h.1, ?_⟩
        have h := h.2
        have hp := evParts_ren (f := f) (fun i => some (i * 1, 1)) ps (.arr q n (fun _ => z))
        simp only [EV.ren] at hp
        rw [hp]
        split at h
        · rename_i v hv
          simp only [hv, Option.map_some]
          exact push v _ _ _ _ h
        · exact h.elim
      · have key : ∀ (X : Prop) (A : EV → Prop), (match ei.zero with | .int k z => X | z => A z) → A ei.zero := by
          intro X A hX
          split at hX
          · rename_i q z hq; exact (hi ⟨q, z, hq⟩).elim
          · exact hX
        have back : ∀ (X : IntKind → Int → Prop) (A : EV → Prop), A ei.zero → (match ei.zero with | .int k z => X k z | z => A z) := by
          intro X A hA
          split
          · rename_i q z hq; exact (hi ⟨q, z, hq⟩).elim
          · exact hA
        have key : ∀ (X : IntKind → Int → Prop) (A : EV → Prop), (match ei.zero with | .int k z => X k z | z => A z) → A ei.zero := by
          intro X A hX
          split at hX
          · rename_i q z hq; exact (hi ⟨q, z, hq⟩).elim
          · exact hX
        have h := key _ _ h
        refine back _ _ ?_
        rw [gd_iff] at h ⊢
        refine ⟨h.1, ?_⟩
        have h := h.2
        have hp := evParts_ren (f := f) (fun i => some (i * ei.size, ei.size)) ps (.agg (List.replicate n ei.zero))
        simp only [EV.ren, renL_map, List.map_replicate, hz] at hp
        rw [hp]
        split at h
        · rename_i v hv
          simp only [hv, Option.map_some]
          exact push v _ _ _ _ h
        · exact h.elim
theorem evLen_eqv {t : TypeId} {x : EV} {K : EV → Prop} (h : evLen E t x K) : evLen E t (x.ren f) (KV f K) := by
  unfold evLen at h ⊢
  cases ht : E.ty t with
  | none => rw [ht] at h; exact h.elim
  | some ti =>
    rw [ht] at h
    simp only at h ⊢
    cases htd : ti.td <;> simp only [htd] at h ⊢ <;> try exact h.elim
    all_goals (cases x <;> simp only [EV.ren] at h ⊢ <;> first | exact h.elim | exact ⟨_, rfl, h⟩)
theorem foldMM_ren (g : Int → Int → Int) : ∀ (l : List EV) (x : EV), foldMM g (x.ren f) (l.map (EV.ren f)) = (foldMM g x l).map (EV.ren f)
  | [], x => by cases x <;> rfl
  | y :: r, x => by
    cases x <;> cases y <;> first | rfl | exact foldMM_ren g r (.int _ (g _ _))
theorem evMM_eqv {g : Int → Int → Int} {xs : List EV} {K : EV → Prop} (h : evMM g xs K) : evMM g (xs.map (EV.ren f)) (KV f K) := by
  cases xs with
  | nil => exact h
  | cons x r =>
    simp only [evMM, List.map_cons, foldMM_ren] at h ⊢
    split at h
    · rename_i v hv
      simp only [hv, Option.map_some]
      exact ⟨_, rfl, h⟩
    · exact h.elim
theorem oInt_ren (d : Nat) (o : Option EV) : oInt d (o.map (EV.ren f)) = oInt d o := by
  cases o with
  | none => rfl
  | some v => cases v <;> rfl
theorem evSlice_eqv {t : TypeId} {x : EV} {lo hi mx : Option EV} {H H' : Heap} {K : EV → Prop} (hH : HR f H H') (h : evSlice E t x lo hi mx H K) :
    evSlice E t (x.ren f) (lo.map (EV.ren f)) (hi.map (EV.ren f)) (mx.map (EV.ren f)) H' (KV f K) := by
  unfold evSlice at h ⊢
  cases mx with
  | some m => exact h.elim
  | none =>
    cases ht : E.ty t with
    | none => rw [ht] at h; exact h.elim
    | some ti =>
      rw [ht] at h
      simp only [Option.map_none, oInt_ren] at h ⊢
      cases htd : ti.td <;> simp only [htd] at h ⊢ <;> try exact h.elim
      case str =>
        cases x <;> simp only [EV.ren] at h ⊢ <;> try exact h.elim
        rename_i s
        cases hl : oInt 0 lo with
        | none => rw [hl] at h; exact h.elim
        | some l =>
          cases hh : oInt s.length hi with
          | none => rw [hl, hh] at h; exact h.elim
          | some q =>
            rw [hl, hh] at h
            simp only at h ⊢
            rw [gd_iff] at h ⊢
            exact ⟨h.1, _, rfl, h.2⟩
      case slice e =>
        cases x <;> simp only [EV.ren] at h ⊢ <;> try exact h.elim
        case slice b off len cap es =>
          cases hl : oInt 0 lo with
          | none => rw [hl] at h; exact h.elim
          | some l =>
            cases hh : oInt len hi with
            | none => rw [hl, hh] at h; exact h.elim
            | some q =>
              cases hb : H[b]? with
              | none => rw [hl, hh, hb] at h; exact h.elim
              | some oc =>
                cases oc with
                | none => rw [hl, hh, hb] at h; exact h.elim
                | some c =>
                  rw [hl, hh, hb] at h
                  rw [hH.live hb]
                  simp only at h ⊢
                  rw [gd_iff] at h ⊢
                  exact ⟨h.1, _, rfl, h.2⟩
        case rsI k n g =>
          cases hl : oInt 0 lo with
          | none => rw [hl] at h; exact h.elim
          | some l =>
            cases hh : oInt n hi with
            | none => rw [hl, hh] at h; exact h.elim
            | some q =>
              rw [hl, hh] at h
              simp only at h ⊢
              rw [gd_iff] at h ⊢
              exact ⟨h.1, _, rfl, h.2⟩
        case nilSlice =>
          cases hl : oInt 0 lo with
          | none => rw [hl] at h; exact h.elim
          | some l =>
            cases hh : oInt 0 hi with
            | none => rw [hl, hh] at h; exact h.elim
            | some q =>
              rw [hl, hh] at h
              simp only at h ⊢
              rw [gd_iff] at h ⊢
              exact ⟨h.1, _, rfl, h.2⟩
      case array na e =>
        cases x <;> simp only [EV.ren] at h ⊢ <;> try exact h.elim
        rename_i b p
        cases p with
        | cons _ _ => exact h.elim
        | nil =>
          simp only at h ⊢
          cases hl : oInt 0 lo with
          | none => rw [hl] at h; exact h.elim
          | some l =>
            cases hh : oInt na hi with
            | none => rw [hl, hh] at h; exact h.elim
            | some q =>
              cases hb : H[b]? with
              | none => rw [hl, hh, hb] at h; exact h.elim
              | some oc =>
                cases oc with
                | none => rw [hl, hh, hb] at h; exact h.elim
                | some c =>
                  rw [hl, hh, hb] at h
                  rw [hH.live hb]
                  cases c <;> simp only [EV.ren] at h ⊢ <;> try exact h.elim
                  rw [gd_iff] at h ⊢
                  exact ⟨h.1, _, rfl, h.2⟩
theorem evSliceA_eqv {t : TypeId} {x : EV} {lo hi mx : Option EV} {H H' : Heap} {K : EV → Prop} (hH : HR f H H') (h : evSliceA E t x lo hi mx H K) :
    evSliceA E t (x.ren f) (lo.map (EV.ren f)) (hi.map (EV.ren f)) (mx.map (EV.ren f)) H' (KV f K) := by
  cases x
  case rsT n s g =>
    simp only [evSliceA, EV.ren] at h ⊢
    unfold evSliceT at h ⊢
    cases mx with
    | some m => exact h.elim
    | none =>
      cases ht : E.ty t with
      | none => rw [ht] at h; exact h.elim
      | some ti =>
        rw [ht] at h
        simp only [Option.map_none, oInt_ren] at h ⊢
        cases htd : ti.td <;> simp only [htd] at h ⊢ <;> try exact h.elim
        cases hl : oInt 0 lo with
        | none => rw [hl] at h; exact h.elim
        | some l =>
          cases hh : oInt n hi with
          | none => rw [hl, hh] at h; exact h.elim
          | some q =>
            rw [hl, hh] at h
            simp only at h ⊢
            rw [gd_iff] at h ⊢
            exact ⟨h.1, _, rfl, h.2⟩
  all_goals exact evSlice_eqv hH h
theorem evWinT_ren {H H' : Heap} (hH : HR f H H') (x : EV) (s : Sk) : evWinT H' (x.ren f) s = evWinT H x s := by
  cases x <;> try rfl
  rename_i b off len cap es
  simp only [EV.ren, evWinT]
  cases hb : H[b]? with
  | none => rw [hH.get, hb]; rfl
  | some o =>
    cases o with
    | none => rw [hH.get, hb]; rfl
    | some c =>
      rw [hH.live hb]
      cases c <;> try rfl
      rename_i l
      cases l with
      | nil => rfl
      | cons v l =>
        cases l with
        | nil => simp only [EV.ren, EV.renL, un_ren]
        | cons _ _ => rfl
theorem evMakeSlice_eqv (hC : Closed E) {k : Nat} {t : TypeId} {ln cp : EV} {H H' : Heap} {K : EV → Heap → Prop} (hs : Shf k H.length f) (hH : HR f H H') (h : evMakeSlice E t ln cp H K) :
    evMakeSlice E t (ln.ren f) (cp.ren f) H' (KR f H.length K) := by
  unfold evMakeSlice at h ⊢
  cases ht : E.ty t with
  | none => rw [ht] at h; exact h.elim
  | some ti =>
    rw [ht] at h
    cases ln <;> simp only [EV.ren] at h ⊢ <;> try exact h.elim
    cases cp <;> simp only [EV.ren] at h ⊢ <;> try exact h.elim
    cases htd : ti.td <;> simp only [htd] at h ⊢ <;> try exact h.elim
    rename_i e
    cases he : E.ty e with
    | none => rw [he] at h; exact h.elim
    | some ei =>
      rw [he] at h
      simp only at h ⊢
      cases hz : ei.zero <;> simp only [hz] at h ⊢ <;> try exact h.elim
      rw [gd_iff] at h ⊢
      exact ⟨h.1, _, _, by rw [EV.ren, hs.high _ (Nat.le_refl _), hH.len], hH.push hs (some _), by simp, h.2⟩
theorem evMakeSliceA_eqv (hC : Closed E) {k : Nat} {t : TypeId} {ln cp : EV} {H H' : Heap} {K : EV → Heap → Prop} (hs : Shf k H.length f) (hH : HR f H H') (h : evMakeSliceA E t ln cp H K) :
    evMakeSliceA E t (ln.ren f) (cp.ren f) H' (KR f H.length K) := by
  unfold evMakeSliceA at h ⊢
  rw [cd_iff] at h ⊢
  refine ⟨fun he => evMakeSlice_eqv hC hs hH (h.1 he), fun he => ?_⟩
  replace h := h.2 he
  unfold evMakeSliceT at h ⊢
  cases ht : E.ty t with
  | none => rw [ht] at h; exact h.elim
  | some ti =>
    rw [ht] at h
    cases ln <;> simp only [EV.ren] at h ⊢ <;> try exact h.elim
    cases cp <;> simp only [EV.ren] at h ⊢ <;> try exact h.elim
    cases htd : ti.td <;> simp only [htd] at h ⊢ <;> try exact h.elim
    rename_i e
    cases he : E.ty e with
    | none => rw [he] at h; exact h.elim
    | some ei =>
      rw [he] at h
      simp only at h ⊢
      cases hz : Sk.of ei.zero with
      | none => rw [hz] at h; exact h.elim
      | some s =>
        rw [hz] at h
        simp only at h ⊢
        rw [gd_iff] at h ⊢
        exact ⟨h.1, _, _, by rw [EV.ren, hs.high _ (Nat.le_refl _), hH.len], hH.push hs (some _), by simp, h.2⟩
theorem evCopy_eqv {k : Nat} {t : TypeId} {d x : EV} {H H' : Heap} {K : EV → Heap → Prop} (hs : Shf k H.length f) (hH : HR f H H') (h : evCopy E t d x H K) :
    evCopy E t (d.ren f) (x.ren f) H' (KR f H.length K) := by
  unfold evCopy at h ⊢
  cases ht : E.ty t with
  | none => rw [ht] at h; exact h.elim
  | some ti =>
    rw [ht] at h
    cases d <;> simp only [EV.ren] at h ⊢ <;> try exact h.elim
    rename_i b off len cap e
    by_cases he : e = 1
    · subst he
      simp only [evWin_ren hH] at h ⊢
      cases htd : ti.td <;> simp only [htd] at h ⊢ <;> try exact h.elim
      cases hb : H[b]? with
      | none => rw [hb] at h; exact h.elim
      | some oc =>
        cases oc with
        | none => rw [hb] at h; exact h.elim
        | some c =>
          rw [hb] at h
          rw [hH.live hb]
          cases c <;> simp only [EV.ren] at h ⊢ <;> try exact h.elim
          cases hw : evWin H x with
          | none => rw [hw] at h; exact h.elim
          | some q =>
            obtain ⟨k', m, g'⟩ := q
            rw [hw] at h
            simp only at h ⊢
            rw [gd_iff] at h ⊢
            exact ⟨h.1, _, _, rfl, hH.set hs.inj b (some _), by simp, h.2⟩
    · split at h
      · rename_i q1 q2 q3; simp at q3; exact absurd q3.2.2.2.2 he
      · exact h.elim
theorem evAppend_eqv {k : Nat} {t t' : TypeId} {s x : EV} {H H' : Heap} {K : EV → Heap → Prop} (hs : Shf k H.length f) (hH : HR f H H') (h : evAppend E t t' s x H K) :
    evAppend E t t' (s.ren f) (x.ren f) H' (KR f H.length K) := by
  unfold evAppend at h ⊢
  cases ht : E.ty t with
  | none => rw [ht] at h; exact h.elim
  | some ti =>
    cases ht' : E.ty t' with
    | none => rw [ht, ht'] at h; exact h.elim
    | some ti' =>
      rw [ht, ht'] at h
      simp only [evWin_ren hH] at h ⊢
      cases htd : ti.td <;> simp only [htd] at h ⊢ <;> try exact h.elim
      rename_i e
      cases htd' : ti'.td <;> simp only [htd'] at h ⊢ <;> try exact h.elim
      cases hw : evWin H x with
      | none => rw [hw] at h; exact h.elim
      | some q =>
        obtain ⟨kk, m, g'⟩ := q
        rw [hw] at h
        simp only at h ⊢
        cases he : E.ty e with
        | none => rw [he] at h; exact h.elim
        | some ei =>
          rw [he] at h
          simp only at h ⊢
          cases hz : ei.zero <;> simp only [hz] at h ⊢ <;> try exact h.elim
          rw [gd_iff] at h ⊢
          refine ⟨h.1, ?_⟩
          replace h := h.2
          have hp : ∀ (o : Option EV) off len cap e, K (.slice H.length off len cap e) (H ++ [o]) → KR f H.length K (.slice H'.length off len cap e) (H' ++ [renO f o]) := fun o off len cap e hK =>
            ⟨_, _, by rw [EV.ren, hs.high _ (Nat.le_refl _), hH.len], hH.push hs o, by simp, hK⟩
          cases s <;> simp only [EV.ren] at h ⊢ <;> try exact h.elim
          case nilSlice =>
            rw [gd_iff] at h ⊢
            refine ⟨h.1, ?_⟩
            replace h := h.2
            rw [br_iff] at h ⊢
            exact ⟨fun e => ⟨_, _, rfl, hH, Nat.le_refl _, h.1 e⟩, fun e => hp _ _ _ _ _ (h.2 e)⟩
          case slice b off len cap es =>
            by_cases hes : es = 1
            · subst hes
              simp only at h ⊢
              cases hb : H[b]? with
              | none => rw [hb] at h; exact h.elim
              | some oc =>
                cases oc with
                | none => rw [hb] at h; exact h.elim
                | some c =>
                  rw [hb] at h
                  rw [hH.live hb]
                  cases c <;> try exact h.elim
                  show gd _ _
                  replace h : gd _ _ := h
                  rw [gd_iff] at h ⊢
                  refine ⟨h.1, _, _, by rw [EV.ren, hs.high _ (Nat.le_refl _), hH.len], (hH.set hs.inj b none).push (n := k) (by rw [List.length_set]; exact hs) (some _), by simp, h.2⟩
            · exfalso
              match es, hes, h with
              | 0, _, h => exact h
              | 1, hes, _ => exact hes rfl
              | n + 2, _, h => exact h
end eqv
section call
variable {E : Env} {f : Nat → Nat}
theorem beq_map (hi : ∀ a b, f a = f b → a = b) (a b : Nat) : Nat.beq (f a) (f b) = Nat.beq a b := by
  by_cases h : a = b
  · subst h; rw [Nat.beq_refl, Nat.beq_refl]
  · have e1 : Nat.beq a b = false := by rw [Bool.eq_false_iff]; intro e; exact h (Nat.eq_of_beq_eq_true e)
    have e2 : Nat.beq (f a) (f b) = false := by rw [Bool.eq_false_iff]; intro e; exact h (hi _ _ (Nat.eq_of_beq_eq_true e))
    rw [e1, e2]
theorem memN_map (hi : ∀ a b, f a = f b → a = b) (b : Nat) : ∀ (l : List Nat), memN (f b) (l.map f) = memN b l
  | [] => rfl
  | c :: l => by
    simp only [List.map_cons, memN, memN_map hi b l]
    congr 1
    exact beq_map hi b c
mutual
theorem inI_ren (hi : ∀ a b, f a = f b → a = b) (idx : List Nat) : ∀ (v : EV), (v.ren f).inI (idx.map f) = v.inI idx
  | .ptr b _ => by simp only [EV.ren, EV.inI, memN_map hi]
  | .slice b _ _ _ _ => by simp only [EV.ren, EV.inI, memN_map hi]
  | .rref v => by simp only [EV.ren, EV.inI, inI_ren hi idx v]
  | .agg l => by simp only [EV.ren, EV.inI, inIL_ren hi idx l]
  | .tuple l => by simp only [EV.ren, EV.inI, inIL_ren hi idx l]
  | .func _ l => by simp only [EV.ren, EV.inI, inIL_ren hi idx l]
  | .bnd _ l => by simp only [EV.ren, EV.inI, inIL_ren hi idx l]
  | .iface _ v => by simp only [EV.ren, EV.inI, inI_ren hi idx v]
  | .rsI _ _ _ => rfl | .undef => rfl
  | .bool _ => rfl | .int _ _ => rfl | .str _ => rfl | .nilPtr => rfl | .nilSlice => rfl | .nilFunc => rfl | .arr _ _ _ => rfl | .nilIface => rfl
  | .rsT _ _ _ => rfl | .arrT _ _ _ => rfl
theorem inIL_ren (hi : ∀ a b, f a = f b → a = b) (idx : List Nat) : ∀ (l : List EV), EV.inIL (idx.map f) (EV.renL f l) = EV.inIL idx l
  | [] => rfl
  | v :: l => by simp only [EV.renL, EV.inIL, inI_ren hi idx v, inIL_ren hi idx l]
end
theorem inIH_ren (hi : ∀ a b, f a = f b → a = b) {H H' : Heap} (hH : HR f H H') (idx : List Nat) : ∀ (l : List Nat), inIH (idx.map f) H' (l.map f) = inIH idx H l
  | [] => rfl
  | b :: l => by
    simp only [List.map_cons, inIH, inIH_ren hi hH idx l, hH.get]
    cases H[b]? with
    | none => rfl
    | some o =>
      cases o with
      | none => rfl
      | some v => simp only [Option.map_some, renO, inI_ren hi]
theorem allLt_ren {k m : Nat} (hs : Shf k m f) : ∀ (l : List Nat), allLt m (l.map f) = allLt m l
  | [] => rfl
  | b :: l => by
    simp only [List.map_cons, allLt, allLt_ren hs l]
    congr 1
    by_cases h : b < m
    · rw [show Nat.blt b m = true from by simpa using h, show Nat.blt (f b) m = true from by simpa using hs.lt h]
    · have h' : ¬ f b < m := fun e => h (hs.lt' e)
      have e1 : Nat.blt b m = false := by rw [Bool.eq_false_iff]; intro e; exact h (by simpa using e)
      have e2 : Nat.blt (f b) m = false := by rw [Bool.eq_false_iff]; intro e; exact h' (by simpa using e)
      rw [e1, e2]
theorem noneIn_ren (hi : ∀ a b, f a = f b → a = b) (idx : List Nat) : ∀ (l : List Nat), noneIn (idx.map f) (l.map f) = noneIn idx l
  | [] => rfl
  | b :: l => by simp only [List.map_cons, noneIn, memN_map hi, noneIn_ren hi idx l]
mutual
theorem blkL_ren : ∀ (v : EV), (v.ren f).blkL = v.blkL.map f
  | .ptr b _ => rfl
  | .slice b _ _ _ _ => rfl
  | .rref v => by simp only [EV.ren, EV.blkL, blkL_ren v]
  | .agg l => by simp only [EV.ren, EV.blkL, blkLL_ren l]
  | .tuple l => by simp only [EV.ren, EV.blkL, blkLL_ren l]
  | .func _ l => by simp only [EV.ren, EV.blkL, blkLL_ren l]
  | .bnd _ l => by simp only [EV.ren, EV.blkL, blkLL_ren l]
  | .iface _ v => by simp only [EV.ren, EV.blkL, blkL_ren v]
  | .rsI _ _ _ => rfl | .undef => rfl
  | .bool _ => rfl | .int _ _ => rfl | .str _ => rfl | .nilPtr => rfl | .nilSlice => rfl | .nilFunc => rfl | .arr _ _ _ => rfl | .nilIface => rfl
  | .rsT _ _ _ => rfl | .arrT _ _ _ => rfl
theorem blkLL_ren : ∀ (l : List EV), EV.blkLL (EV.renL f l) = (EV.blkLL l).map f
  | [] => rfl
  | v :: l => by simp only [EV.renL, EV.blkLL, blkL_ren v, blkLL_ren l, List.map_append]
end
theorem addN_map (hi : ∀ a b, f a = f b → a = b) : ∀ (l idx : List Nat), addN (idx.map f) (l.map f) = (addN idx l).map f
  | [], idx => rfl
  | b :: l, idx => by
    simp only [List.map_cons, addN, memN_map hi]
    cases memN b idx with
    | true => exact addN_map hi l idx
    | false =>
      have := addN_map hi l (idx ++ [b])
      rw [List.map_append] at this
      exact this
theorem heapL_map {H H' : Heap} (hH : HR f H H') : ∀ (l : List Nat), heapL H' (l.map f) = (heapL H l).map f
  | [] => rfl
  | b :: l => by
    simp only [List.map_cons, heapL, heapL_map hH l, hH.get]
    cases H[b]? with
    | none => rfl
    | some o =>
      cases o with
      | none => rfl
      | some v => simp only [Option.map_some, renO, blkL_ren, List.map_append]
theorem closeI_map (hi : ∀ a b, f a = f b → a = b) {H H' : Heap} (hH : HR f H H') : ∀ (n : Nat) (idx : List Nat), closeI H' n (idx.map f) = (closeI H n idx).map f
  | 0, idx => rfl
  | n + 1, idx => by simp only [closeI, heapL_map hH, addN_map hi, closeI_map hi hH n]
theorem canI_map (hi : ∀ a b, f a = f b → a = b) {H H' : Heap} (hH : HR f H H') (vs : List EV) : canI 0 (EV.renL f vs) H' = (canI 0 vs H).map f := by
  unfold canI
  rw [blkLL_ren]
  have := addN_map hi (EV.blkLL vs) (upTo 0)
  rw [show (upTo 0).map f = upTo 0 from rfl] at this
  rw [this, closeI_map hi hH]
theorem pos_map (hi : ∀ a b, f a = f b → a = b) (b : Nat) : ∀ (l : List Nat), pos (l.map f) (f b) = pos l b
  | [] => rfl
  | c :: l => by
    simp only [List.map_cons, pos, pos_map hi b l]
    congr 1
    exact beq_map hi c b
theorem evAppendA_eqv {k : Nat} {t t' : TypeId} {s x : EV} {H H' : Heap} {K : EV → Heap → Prop} (hs : Shf k H.length f) (hH : HR f H H') (h : evAppendA E t t' s x H K) :
    evAppendA E t t' (s.ren f) (x.ren f) H' (KR f H.length K) := by
  unfold evAppendA at h ⊢
  rw [cd_iff] at h ⊢
  refine ⟨fun he => evAppend_eqv hs hH (h.1 he), fun he => ?_⟩
  replace h := h.2 he
  unfold evAppendT at h ⊢
  cases ht : E.ty t with
  | none => rw [ht] at h; exact h.elim
  | some ti =>
    rw [ht] at h
    simp only [evWinT_ren hH] at h ⊢
    cases htd : ti.td <;> simp only [htd] at h ⊢ <;> try exact h.elim
    rename_i e
    cases he : E.ty e with
    | none => rw [he] at h; exact h.elim
    | some ei =>
      rw [he] at h
      simp only at h ⊢
      cases hz : Sk.of ei.zero with
      | none => rw [hz] at h; exact h.elim
      | some sk =>
        rw [hz] at h
        simp only at h ⊢
        cases hw : evWinT H x sk with
        | none => rw [hw] at h; exact h.elim
        | some q =>
          obtain ⟨m, g'⟩ := q
          rw [hw] at h
          simp only at h ⊢
          rw [gd_iff] at h ⊢
          refine ⟨h.1, ?_⟩
          replace h := h.2
          have hp : ∀ (o : Option EV) off len cap e, K (.slice H.length off len cap e) (H ++ [o]) → KR f H.length K (.slice H'.length off len cap e) (H' ++ [renO f o]) := fun o off len cap e hK =>
            ⟨_, _, by rw [EV.ren, hs.high _ (Nat.le_refl _), hH.len], hH.push hs o, by simp, hK⟩
          cases s <;> simp only [EV.ren] at h ⊢ <;> try exact h.elim
          case nilSlice =>
            rw [gd_iff] at h ⊢
            refine ⟨h.1, ?_⟩
            replace h := h.2
            rw [br_iff] at h ⊢
            exact ⟨fun e => ⟨_, _, rfl, hH, Nat.le_refl _, h.1 e⟩, fun e => hp _ _ _ _ _ (h.2 e)⟩
          case slice b off len cap es =>
            cases hb : H[b]? with
            | none => rw [hb] at h; exact h.elim
            | some oc =>
              cases oc with
              | none => rw [hb] at h; exact h.elim
              | some c =>
                rw [hb] at h
                rw [hH.live hb]
                cases c <;> simp only [EV.ren] at h ⊢ <;> try exact h.elim
                rw [gd_iff] at h ⊢
                refine ⟨h.1, ?_⟩
                exact ⟨_, _, by rw [EV.ren, hs.high _ (Nat.le_refl _), hH.len], (hH.set hs.inj b none).push (n := k) (by rw [List.length_set]; exact hs) (some _), by simp, h.2⟩
theorem roArg_ren {H H' : Heap} (hH : HR f H H') (m : Option RK) (v : EV) : roArg H' m (v.ren f) = (roArg H m v).ren f := by
  cases m with
  | none => cases v <;> rfl
  | some k =>
    cases k with
    | int k =>
      cases v <;> try rfl
      rename_i b off len cap e
      simp only [EV.ren, roArg, hH.get]
      cases H[b]? with
      | none => rfl
      | some o =>
        cases o with
        | none => rfl
        | some c =>
          cases c <;> try rfl
          rename_i k' n g
          simp only [Option.map_some, renO, EV.ren]
          cases decide (k = k') <;> rfl
    | sk s =>
      cases v <;> try rfl
      rename_i b off len cap e
      simp only [EV.ren, roArg, hH.get]
      cases H[b]? with
      | none => rfl
      | some o =>
        cases o with
        | none => rfl
        | some c =>
          cases c <;> try rfl
          rename_i n s' g
          simp only [Option.map_some, renO, EV.ren]
          cases (s.beq s' && (Nat.beq e s.shape.size && s.flat)) <;> rfl
theorem roArgs_renL {H H' : Heap} (hH : HR f H H') : ∀ (ms : List (Option RK)) (vs : List EV), roArgs H' ms (EV.renL f vs) = EV.renL f (roArgs H ms vs)
  | [], vs => by cases vs <;> rfl
  | _ :: _, [] => rfl
  | m :: ms, v :: vs => by simp only [EV.renL, roArgs, roArg_ren hH, roArgs_renL hH ms vs]
theorem roDead_ren : ∀ (ms : List (Option RK)) (vs : List EV), roDead ms (EV.renL f vs) = (roDead ms vs).map f
  | [], vs => by cases vs <;> rfl
  | _ :: _, [] => by rename_i m ms; cases m <;> rfl
  | m :: ms, v :: vs => by
    have ih := roDead_ren ms vs
    cases m with
    | none => cases v <;> simp only [EV.renL, EV.ren, roDead] <;> exact ih
    | some k => cases v <;> simp only [EV.renL, EV.ren, roDead, List.map_cons] <;> first | exact ih | rw [ih]
theorem subHI_map {H H' : Heap} (hH : HR f H H') (g : Nat → Nat) : ∀ (l : List Nat), subHI H' g (l.map f) = subHI H (fun b => g (f b)) l
  | [] => rfl
  | b :: l => by
    simp only [List.map_cons, subHI, subHI_map hH g l, hH.get]
    cases H[b]? with
    | none => rfl
    | some o =>
      cases o with
      | none => rfl
      | some v => simp only [Option.map_some, renO, ren_ren]
theorem subH_map (hi : ∀ a b, f a = f b → a = b) {H H' : Heap} (hH : HR f H H') (idx : List Nat) : subH H' (idx.map f) = subH H idx := by
  unfold subH
  rw [subHI_map hH]
  congr 1
  funext b
  exact pos_map hi b idx
theorem backN_map {k m : Nat} (hs : Shf k m f) (idx : List Nat) (j : Nat) : backN (idx.map f) m j = f (backN idx m j) := by
  unfold backN
  rw [List.getElem?_map]
  cases idx[j]? with
  | none => simp only [Option.map_none, List.length_map]; rw [hs.high _ (by omega)]
  | some b => rfl
theorem HR.append {k : Nat} {H H' : Heap} (hH : HR f H H') (hs : Shf k H.length f) : ∀ (r : Heap), HR f (H ++ r) (H' ++ r.map (renO f)) := by
  intro r
  induction r generalizing H H' with
  | nil => simpa using hH
  | cons o r ih =>
    have := ih (hH.push hs o) (hs.mono (by simp))
    simpa using this
theorem HR.putB {k : Nat} : ∀ (idx : List Nat) (r : Heap) {H H' : Heap}, HR f H H' → Shf k H.length f → HR f (putB idx r H) (Ev.putB (idx.map f) (r.map (renO f)) H')
  | [], r, H, H', hH, hs => hH.append hs r
  | b :: l, [], H, H', hH, hs => hH
  | b :: l, o :: r, H, H', hH, hs => by
    simp only [List.map_cons, Ev.putB]
    exact HR.putB l r (hH.set hs.inj b o) (by rw [List.length_set]; exact hs)
theorem HR.killN (hi : ∀ a b, f a = f b → a = b) : ∀ (l : List Nat) {H H' : Heap}, HR f H H' → HR f (killN l H) (Ev.killN (l.map f) H')
  | [], H, H', hH => hH
  | b :: l, H, H', hH => HR.killN hi l (hH.set hi b Option.none)
theorem putB_ge {α : Type} : ∀ (idx : List Nat) (r H : List α), H.length ≤ (putB idx r H).length
  | [], r, H => by simp [putB]
  | _ :: _, [], H => Nat.le_refl _
  | b :: l, v :: r, H => by
    have := putB_ge l r (H.set b v)
    rw [List.length_set] at this
    exact this
theorem renH_map (g : Nat → Nat) : ∀ (H : Heap), renH g H = H.map (renO g)
  | [] => rfl
  | o :: H => by simp only [renH, List.map_cons, renH_map g H]
theorem evCallL_eqv {k : Nat} {en : Entry} {args : List EV} {dead idx : List Nat} {H H' : Heap} {K : EV → Heap → Prop} (hD : Det2 (en.spec (EV.renL (pos idx) args) (subH H idx))) (hs : Shf k H.length f) (hH : HR f H H')
    (h : evCallL en args dead idx H K) : evCallL en (EV.renL f args) (dead.map f) (idx.map f) H' (KR f H.length K) := by
  unfold evCallL at h ⊢
  rw [gd_iff] at h ⊢
  have e1 : EV.renL (pos (idx.map f)) (EV.renL f args) = EV.renL (pos idx) args := by
    rw [renL_renL]
    congr 1
    funext b
    exact pos_map hs.inj b idx
  rw [e1, subH_map hs.inj hH, inIL_ren hs.inj, inIH_ren hs.inj hH, hH.len, allLt_ren hs, noneIn_ren hs.inj, renL_map, dfdL_ren]
  refine ⟨h.1, hD.mono h.2 ?_⟩
  intro v H2 hK
  rw [gd_iff] at hK ⊢
  rw [List.length_map]
  refine ⟨hK.1, v.ren (backN idx H.length), _, ?_, ?_, ?_, hK.2⟩
  · rw [ren_ren]
    congr 1
    funext j
    exact backN_map hs idx j
  · have e2 : cond (v.noRS && noRSH H2) [] (dead.map f) = (cond (v.noRS && noRSH H2) [] dead).map f := by cases (v.noRS && noRSH H2) <;> rfl
    rw [e2]
    refine HR.killN hs.inj _ ?_
    have e3 : renH (backN (idx.map f) H.length) H2 = (renH (backN idx H.length) H2).map (renO f) := by
      rw [renH_map, renH_map, List.map_map]
      refine List.map_congr_left fun o _ => ?_
      simp only [Function.comp, renO_renO]
      congr 1
      funext j
      exact backN_map hs idx j
    rw [e3]
    exact HR.putB idx _ hH hs
  · rw [killN_length]; exact putB_ge _ _ _
theorem killArgs_eqv (hi : ∀ a b, f a = f b → a = b) : ∀ (vs : List EV) {H H' : Heap}, HR f H H' → HR f (killArgs vs H) (killArgs (EV.renL f vs) H')
  | [], H, H', hH => hH
  | v :: vs, H, H', hH => by
    cases v
    case slice b off len cap e => exact killArgs_eqv hi vs (hH.set hi b none)
    all_goals exact killArgs_eqv hi vs hH
theorem killArgs_length : ∀ (vs : List EV) (H : Heap), (killArgs vs H).length = H.length
  | [], H => rfl
  | v :: vs, H => by
    cases v
    case slice b off len cap e => rw [killArgs, killArgs_length vs, List.length_set]
    all_goals exact killArgs_length vs H
theorem freeL_ren_id : ∀ (l : List EV), EV.freeL l = true → EV.renL f l = l := by
  have one : ∀ (v : EV), v.free = true → v.inI [] = true := by
    intro v
    exact (go v)
  intro l h
  refine renL_in l ?_
  induction l with
  | nil => rfl
  | cons v l ih =>
    simp only [EV.freeL, Bool.and_eq_true] at h
    simp only [EV.inIL, Bool.and_eq_true]
    exact ⟨one v h.1, ih h.2⟩
where
  go : ∀ (v : EV), v.free = true → v.inI [] = true := fun v => (goBoth v)
  goBoth : ∀ (v : EV), v.free = true → v.inI [] = true
    | .ptr _ _, h => by simp [EV.free] at h
    | .slice _ _ _ _ _, h => by simp [EV.free] at h
    | .rref _, h => by simp [EV.free] at h
    | .agg l, h => by simp only [EV.free] at h; simp only [EV.inI]; exact goL l h
    | .tuple l, h => by simp only [EV.free] at h; simp only [EV.inI]; exact goL l h
    | .func _ l, h => by simp only [EV.free] at h; simp only [EV.inI]; exact goL l h
    | .bnd _ l, h => by simp only [EV.free] at h; simp only [EV.inI]; exact goL l h
    | .iface _ v, h => by simp only [EV.free] at h; simp only [EV.inI]; exact goBoth v h
    | .rsI _ _ _, _ => rfl | .undef, h => by simp [EV.free] at h
    | .bool _, _ => rfl | .int _ _, _ => rfl | .str _, _ => rfl | .nilPtr, _ => rfl | .nilSlice, _ => rfl | .nilFunc, _ => rfl | .arr _ _ _, _ => rfl | .nilIface, _ => rfl
    | .rsT _ _ _, _ => rfl | .arrT _ _ _, _ => rfl
  goL : ∀ (l : List EV), EV.freeL l = true → EV.inIL [] l = true
    | [], _ => rfl
    | v :: l, h => by
      simp only [EV.freeL, Bool.and_eq_true] at h
      simp only [EV.inIL, Bool.and_eq_true]
      exact ⟨goBoth v h.1, goL l h.2⟩
theorem setArg_ren (hi : ∀ a b, f a = f b → a = b) {H H' : Heap} (hH : HR f H H') (args : List EV) : setArg (EV.renL f args) H' = (setArg args H).map f := by
  cases args with
  | nil => rfl
  | cons v l =>
    cases v <;> simp only [EV.renL, EV.ren, setArg] <;> try rfl
    rename_i b p
    rw [freeL_ren, hH.get]
    have e : noNames ((H[b]?).map (renO f)) = noNames H[b]? := by
      cases H[b]? with
      | none => rfl
      | some oc =>
        cases oc with
        | none => rfl
        | some c => exact inI_ren hi [] c
    rw [e]
    cases (EV.freeL l && noNames H[b]?) <;> rfl
theorem setNew_eqv {H H' H2 H2' : Heap} {b : Nat} (hH : HR f H H') (h2 : HR f H2 H2') (h : setNew H H2 b = true) : setNew H' H2' (f b) = true := by
  unfold setNew at h ⊢
  rw [Bool.and_eq_true] at h ⊢
  rw [hH.len, h2.len, h2.get]
  refine ⟨h.1, ?_⟩
  have h := h.2
  cases hq : H2[b]? with
  | none => rw [hq] at h; cases h
  | some oc =>
    rw [hq] at h
    cases oc with
    | none => cases h
    | some c =>
      simp only at h
      simp only [Option.map_some, renO]
      rw [ren_in c h]; exact h
theorem oneNew_eqv {k : Nat} {H H' H2 H2' : Heap} (hs : Shf k H.length f) (hH : HR f H H') (h2 : HR f H2 H2') (h : oneNew H H2 = true) : oneNew H' H2' = true := by
  unfold oneNew at h ⊢
  rw [Bool.and_eq_true] at h ⊢
  rw [hH.len, h2.len]
  refine ⟨h.1, ?_⟩
  have h := h.2
  have e := h2.get H.length
  rw [hs.high _ (Nat.le_refl _)] at e
  rw [e]
  cases hq : H2[H.length]? with
  | none => rw [hq] at h; cases h
  | some oc =>
    rw [hq] at h
    cases oc with
    | none => cases h
    | some c =>
      simp only at h
      simp only [Option.map_some, renO]
      rw [ren_in c h]; exact h
theorem evCallF_eqv (hD : DetFn E) {k : Nat} {g : FuncId} {args : List EV} {H H' : Heap} {K : EV → Heap → Prop} (hs : Shf k H.length f) (hH : HR f H H')
    (h : evCallF E g args H K) : evCallF E g (EV.renL f args) H' (KR f H.length K) := by
  simp only [evCallF] at h ⊢
  cases he : E.fn g with
  | none => rw [he] at h; exact h.elim
  | some en =>
    rw [he] at h
    simp only at h ⊢
    rw [roArgs_renL hH, roDead_ren, canI_map hs.inj hH, canI_map hs.inj hH, freeL_ren, freeL_ren]
    cases hl : en.lend with
    | true =>
      rw [hl] at h
      simp only [cond_true] at h ⊢
      cases hw : newRo en.ro with
      | true =>
        rw [hw] at h
        simp only [cond_true] at h ⊢
        rw [gd_iff] at h ⊢
        refine ⟨h.1, (det_evCallL (hD g en he)).mono (evCallL_eqv (dead := []) (idx := []) (hD g en he _ _) hs hH h.2) ?_⟩
        rintro v' H2' ⟨v, H2, rfl, k1, k2, k3⟩
        rw [gd_iff] at k3 ⊢
        exact ⟨oneNew_eqv hs hH k1 k3.1, v, H2, rfl, k1, k2, k3.2⟩
      | false =>
      rw [hw] at h
      simp only [cond_false] at h ⊢
      cases hw2 : keepRo en.ro with
      | true =>
        rw [hw2] at h
        simp only [cond_true] at h ⊢
        refine (det_evCallL (hD g en he)).mono (evCallL_eqv (dead := []) (hD g en he _ _) hs hH h) ?_
        rintro v' H2 ⟨v, H1, rfl, k1, k2, k3, k4⟩
        unfold keepH at k3
        subst k3
        rw [gd_iff] at k4 ⊢
        have hv := ren_in (f := f) v k4.1
        refine ⟨HR.uniq hs k1 hH, by rw [hv]; exact k4.1, v, H1, rfl, hH, Nat.le_refl _, k4.2⟩
      | false =>
      rw [hw2] at h
      simp only [cond_false] at h ⊢
      cases hw3 : setRo en.ro with
      | true =>
        rw [hw3] at h
        simp only [cond_true] at h ⊢
        rw [setArg_ren hs.inj hH]
        cases hsa : setArg args H with
        | none => rw [hsa] at h; exact h.elim
        | some b =>
          rw [hsa] at h
          simp only [Option.map_some] at h ⊢
          refine (det_evCallL (hD g en he)).mono (evCallL_eqv (dead := []) (idx := [b]) (hD g en he _ _) hs hH h) ?_
          rintro v' H2' ⟨v, H2, rfl, k1, k2, k3⟩
          rw [gd_iff, Bool.and_eq_true] at k3 ⊢
          exact ⟨⟨by rw [ren_in v k3.1.1]; exact k3.1.1, setNew_eqv hH k1 k3.1.2⟩, v, H2, rfl, k1, k2, k3.2⟩
      | false =>
      rw [hw3] at h
      simp only [cond_false] at h ⊢
      exact evCallL_eqv (hD g en he _ _) hs hH h
    | false =>
      rw [hl] at h
      simp only [cond_false] at h ⊢
      rw [gd_iff] at h ⊢
      refine ⟨h.1, ?_⟩
      rw [freeL_ren_id _ h.1]
      refine (hD g en he _ _).mono h.2 ?_
      intro v H2 hK
      rw [gd_iff] at hK ⊢
      refine ⟨hK.1, ?_⟩
      have hv := ren_in (f := f) v (Bool.and_eq_true _ _ ▸ hK.1 : _ ∧ _).2
      have hK := hK.2
      rw [cd_iff] at hK ⊢
      exact ⟨fun e => ⟨v, H, hv.symm, hH, Nat.le_refl _, hK.1 e⟩, fun e => ⟨v, _, hv.symm, killArgs_eqv hs.inj _ hH, by rw [killArgs_length]; exact Nat.le_refl _, hK.2 e⟩⟩
theorem evCall_eqv (hD : DetFn E) {k : Nat} {fv : EV} {args : List EV} {H H' : Heap} {K : EV → Heap → Prop} (hs : Shf k H.length f) (hH : HR f H H')
    (h : evCall E fv args H K) : evCall E (fv.ren f) (EV.renL f args) H' (KR f H.length K) := by
  cases fv <;> simp only [evCall, EV.ren] at h ⊢ <;> try exact h.elim
  · rw [← renL_append]; exact evCallF_eqv hD hs hH h
  · rw [← renL_append]; exact evCallF_eqv hD hs hH h
end call
section op
variable {E : Env} {f : Nat → Nat}
structure StR (f : Nat → Nat) (s s' : St) : Prop where
  tmps : s'.tmps = s.tmps.map (EV.ren f)
  heap : HR f s.heap s'.heap
theorem StR.slot {s s' : St} (h : StR f s s') (t : Nat) : s'.slot t = (s.slot t).ren f := by
  unfold St.slot
  rw [h.tmps, List.getElem?_map]
  cases s.tmps[t]? <;> rfl
theorem constV_ren (v : Value) : (constV v).ren f = constV v := by
  unfold constV
  split <;> rfl
theorem opd_eqv (hC : Closed E) {s s' : St} (h : StR f s s') (x : Operand) : St.opd E s' x = (St.opd E s x).ren f := by
  cases x with
  | tmp t => exact h.slot t
  | const v => exact (constV_ren v).symm
  | global g =>
    simp only [St.opd]
    cases hg : E.gl g with
    | none => rfl
    | some v => simp only [EV.ren, ren_in v (hC.gl g v hg)]
  | func g => rfl
theorem opdL_eqv (hC : Closed E) {s s' : St} (h : StR f s s') (l : List Operand) : l.map (St.opd E s') = (l.map (St.opd E s)).map (EV.ren f) := by
  rw [List.map_map]
  exact List.map_congr_left fun x _ => opd_eqv hC h x
theorem opdP_eqv (hC : Closed E) {s s' : St} (h : StR f s s') (l : List (Nat × Operand)) : (l.map fun p => (p.1, St.opd E s' p.2)) = renP f (l.map fun p => (p.1, St.opd E s p.2)) := by
  unfold renP
  rw [List.map_map]
  exact List.map_congr_left fun x _ => by simp only [Function.comp, opd_eqv hC h x.2]
theorem opdP2_eqv (hC : Closed E) {s s' : St} (h : StR f s s') (l : List (Nat × Operand)) : (l.map fun p => St.opd E s' p.2) = (l.map fun p => St.opd E s p.2).map (EV.ren f) := by
  rw [List.map_map]
  exact List.map_congr_left fun x _ => opd_eqv hC h x.2
theorem opdO_eqv (hC : Closed E) {s s' : St} (h : StR f s s') (o : Option Operand) : o.map (St.opd E s') = (o.map (St.opd E s)).map (EV.ren f) := by
  cases o with
  | none => rfl
  | some x => simp only [Option.map_some, opd_eqv hC h x]
theorem dfdO_ren (o : Option EV) : dfdO (o.map (EV.ren f)) = dfdO o := by
  cases o with
  | none => rfl
  | some v => exact dfd_ren f v
theorem evV_eqv (hC : Closed E) {o : Op} {s s' : St} {K : EV → Prop} (h : StR f s s') (hk : evV E o s K) : evV E o s' (KV f K) := by
  have ho := opd_eqv hC h
  unfold evV at hk ⊢
  split at hk
  · rename_i x; simp only [ho]; exact ⟨_, rfl, hk⟩
  · rename_i x; simp only [ho]; exact ⟨_, rfl, hk⟩
  · rename_i c a b
    simp only [ho]
    cases hc : St.opd E s c <;> rw [hc] at hk <;> try exact hk.elim
    simp only [EV.ren] at hk ⊢
    rw [br_iff] at hk ⊢
    exact ⟨fun e => ⟨_, rfl, hk.1 e⟩, fun e => ⟨_, rfl, hk.2 e⟩⟩
  · rename_i t ps
    simp only [opdP_eqv hC h, opdP2_eqv hC h, dfdL_ren]
    rw [gd_iff] at hk ⊢
    exact ⟨hk.1, evBuild_eqv hC hk.2⟩
  · rename_i t a; simp only [ho]; exact evLoad_eqv h.heap hk
  · rename_i op t x y z
    simp only [ho, dfd_ren]
    rw [gd_iff] at hk ⊢
    refine ⟨hk.1, det_evCmp.mono (evCmp_eqv h.heap hk.2) ?_⟩
    rintro v' ⟨v, rfl, hs⟩
    exact spl_eqv hs
  · rename_i op z x; simp only [ho]; exact evUn_eqv hk
  · rename_i src dst x
    simp only [ho, dfd_ren]
    rw [gd_iff] at hk ⊢
    exact ⟨hk.1, evConv_eqv h.heap hk.2⟩
  · rename_i t x i
    simp only [ho, dfd_ren]
    rw [gd_iff] at hk ⊢
    exact ⟨hk.1, evFieldAddr_eqv h.heap hk.2⟩
  · rename_i t x i
    simp only [ho, dfd_ren]
    rw [gd_iff] at hk ⊢
    exact ⟨hk.1, evField_eqv hk.2⟩
  · rename_i t x i
    simp only [ho, dfd_ren]
    rw [gd_iff] at hk ⊢
    exact ⟨hk.1, evIndexAddr_eqv h.heap hk.2⟩
  · rename_i t x i
    simp only [ho, dfd_ren]
    rw [gd_iff] at hk ⊢
    exact ⟨hk.1, evIndex_eqv hk.2⟩
  · rename_i x i; simp only [ho]; exact evExtract_eqv hk
  · rename_i g cs
    simp only [opdL_eqv hC h, dfdL_ren]
    rw [gd_iff] at hk ⊢
    exact ⟨hk.1, _, by rw [EV.ren, renL_map], hk.2⟩
  · rename_i t x lo hi mx
    simp only [ho, dfd_ren, opdO_eqv hC h, dfdO_ren]
    rw [gd_iff] at hk ⊢
    exact ⟨hk.1, evSliceA_eqv h.heap hk.2⟩
  · rename_i x t
    simp only [ho, dfd_ren]
    rw [gd_iff] at hk ⊢
    exact ⟨hk.1, evLen_eqv hk.2⟩
  · rename_i xs t
    simp only [opdL_eqv hC h, dfdL_ren]
    rw [gd_iff] at hk ⊢
    exact ⟨hk.1, evMM_eqv hk.2⟩
  · rename_i xs t
    simp only [opdL_eqv hC h, dfdL_ren]
    rw [gd_iff] at hk ⊢
    exact ⟨hk.1, evMM_eqv hk.2⟩
  · rename_i x
    simp only [ho, dfd_ren]
    rw [gd_iff] at hk ⊢
    exact ⟨hk.1, evNil_eqv h.heap hk.2⟩
  · rename_i g fs _
    simp only [opdL_eqv hC h, dfdL_ren]
    rw [gd_iff] at hk ⊢
    exact ⟨hk.1, _, by rw [EV.ren, renL_map], hk.2⟩
  · exact hk.elim
theorem evOp_eqv (hC : Closed E) (hD : DetFn E) {k : Nat} {o : Op} {s s' : St} {K : EV → Heap → Prop} (hs : Shf k s.heap.length f) (h : StR f s s') (hk : evOp E o s K) : evOp E o s' (KR f s.heap.length K) := by
  have ho := opd_eqv hC h
  unfold evOp at hk ⊢
  split at hk
  · rename_i t
    cases ht : E.ty t with
    | none => rw [ht] at hk; exact hk.elim
    | some ti =>
      rw [ht] at hk
      have := evNew_eqv hs h.heap hk
      rw [ren_in _ (hC.ty t ti ht)] at this
      exact this
  · rename_i t x
    simp only [ho]
    have hu : St.opd E s x ≠ .undef := by intro e; rw [e] at hk; exact hk.elim
    have h1 : evNew s.heap (St.opd E s x) K := by
      revert hk
      cases hq : St.opd E s x <;> intro hk <;> first | exact absurd hq hu | exact hk
    have h2 := evNew_eqv hs h.heap h1
    revert h2
    cases hq : St.opd E s x <;> intro h2 <;> first | exact absurd hq hu | exact h2
  · rename_i t n ps
    simp only [opdP_eqv hC h, opdP2_eqv hC h, dfdL_ren]
    rw [gd_iff] at hk ⊢
    exact ⟨hk.1, evBuildSlice_eqv hC hs h.heap hk.2⟩
  · rename_i t a x
    simp only [ho]
    refine det_evStore.mono (evStore_eqv hs h.heap hk) ?_
    rintro H' ⟨H, h1, h2, h3⟩
    exact ⟨.undef, H, rfl, h1, h2, h3⟩
  · rename_i t ln cp
    simp only [ho, dfd_ren]
    rw [gd_iff] at hk ⊢
    exact ⟨hk.1, evMakeSliceA_eqv hC hs h.heap hk.2⟩
  · rename_i g xs ts
    simp only [ho, opdL_eqv hC h, ← renL_map]
    exact evCall_eqv hD hs h.heap hk
  · rename_i x y t u
    simp only [ho, dfd_ren]
    rw [gd_iff] at hk ⊢
    exact ⟨hk.1, evAppendA_eqv hs h.heap hk.2⟩
  · rename_i x y t u
    simp only [ho, dfd_ren]
    rw [gd_iff] at hk ⊢
    exact ⟨hk.1, evCopy_eqv hs h.heap hk.2⟩
  · refine det_evV.mono (evV_eqv hC h hk) ?_
    rintro v' ⟨v, rfl, hv⟩
    exact ⟨v, s.heap, rfl, h.heap, Nat.le_refl _, hv⟩
theorem StR.put {s s' : St} (h : StR f s s') (d : Option Nat) (v : EV) {H H' : Heap} (hH : HR f H H') : StR f (s.put d v H) (s'.put d (v.ren f) H') := by
  cases d with
  | none => exact ⟨h.tmps, hH⟩
  | some d => exact ⟨by simp only [St.put, h.tmps, List.map_set], hH⟩
def KS (f : Nat → Nat) (n : Nat) (K : St → Prop) : St → Prop := fun s' => ∃ s, StR f s s' ∧ n ≤ s.heap.length ∧ K s
theorem put_heap' {s : St} {d : Option Nat} {v : EV} {H : Heap} : (s.put d v H).heap = H := by cases d <;> rfl
theorem evOne_eqv (hC : Closed E) (hD : DetFn E) {k : Nat} {ops : List Oper} {o : Oper} {s s' : St} {K : St → Prop} (hs : Shf k s.heap.length f) (h : StR f s s') (hk : evOne E ops o s K) :
    evOne E ops o s' (KS f s.heap.length K) := by
  have run : ∀ (s1 s1' : St), s1.heap = s.heap → StR f s1 s1' → (evOp E o.op s1 fun v H => K (s1.put o.dst v H)) → evOp E o.op s1' fun v H => KS f s.heap.length K (s1'.put o.dst v H) := by
    intro s1 s1' he h1 hk
    refine (det_evOp hD).mono (evOp_eqv hC hD (by rw [he]; exact hs) h1 hk) ?_
    rintro v' H' ⟨v, H, rfl, h2, h3, h4⟩
    exact ⟨_, h1.put o.dst v h2, by rw [put_heap', ← he]; exact h3, h4⟩
  have skip : ∀ (s1 s1' : St), StR f s1 s1' → K (s1.put o.dst (.tuple []) s.heap) → KS f s.heap.length K (s1'.put o.dst (.tuple []) s'.heap) := by
    intro s1 s1' h1 hk
    exact ⟨_, h1.put o.dst (.tuple []) h.heap, by rw [put_heap']; exact Nat.le_refl _, hk⟩
  unfold evOne at hk ⊢
  cases hg : o.guard with
  | none => rw [hg] at hk; exact run s s' rfl h hk
  | some g =>
    obtain ⟨j, want⟩ := g
    rw [hg] at hk
    simp only at hk ⊢
    cases hj : ops[j]? with
    | none => rw [hj] at hk; exact hk.elim
    | some oj =>
      rw [hj] at hk
      simp only at hk ⊢
      cases hd : oj.dst with
      | none => rw [hd] at hk; exact hk.elim
      | some d =>
        rw [hd] at hk
        simp only [h.slot] at hk ⊢
        cases hb : s.slot d <;> rw [hb] at hk <;> try exact hk.elim
        case bool b =>
          simp only [EV.ren] at hk ⊢
          rw [br_iff] at hk ⊢
          refine ⟨fun e => ?_, fun e => ?_⟩
          · have hk := hk.1 e
            have hp := h.put (some d) (.bool true) h.heap
            cases hq : beqB true want <;> rw [hq] at hk <;> simp only [cond_true, cond_false] at hk ⊢
            · exact skip _ _ hp hk
            · exact run _ _ (put_heap') hp hk
          · have hk := hk.2 e
            have hp := h.put (some d) (.bool false) h.heap
            cases hq : beqB false want <;> rw [hq] at hk <;> simp only [cond_true, cond_false] at hk ⊢
            · exact skip _ _ hp hk
            · exact run _ _ (put_heap') hp hk
        case tuple l =>
          cases l with
          | nil => exact skip _ _ h hk
          | cons _ _ => exact hk.elim
theorem evOps_eqv (hC : Closed E) (hD : DetFn E) {k : Nat} {ops : List Oper} : ∀ (r : List Oper) {s s' : St} {K : St → Prop}, Shf k s.heap.length f → StR f s s' → evOps E ops r s K →
    evOps E ops r s' (KS f s.heap.length K)
  | [], s, s', K, hs, h, hk => ⟨s, h, Nat.le_refl _, hk⟩
  | o :: r, s, s', K, hs, h, hk => by
    simp only [evOps] at hk ⊢
    refine (det_evOne hD).mono (evOne_eqv hC hD hs h hk) ?_
    rintro s1' ⟨s1, h1, h2, h3⟩
    refine (det_evOps hD r s1').mono (evOps_eqv hC hD r (hs.mono h2) h1 h3) ?_
    rintro s2' ⟨s2, h4, h5, h6⟩
    exact ⟨s2, h4, Nat.le_trans h2 h5, h6⟩
end op
end Go.Ev

/- The evaluator: values that name no block but those that there are. -/
set_option linter.unusedVariables false
set_option linter.unusedSimpArgs false
namespace Go.Ev
open Go
def Cl (n : Nat) (v : EV) : Prop := ∀ f : Nat → Nat, (∀ b, b < n → f b = b) → v.ren f = v
def ClL (n : Nat) (l : List EV) : Prop := ∀ v ∈ l, Cl n v
def ClH (n : Nat) (H : Heap) : Prop := ∀ (b : Nat) c, H[b]? = some (some c) → Cl n c
theorem Cl.mono {n m : Nat} {v : EV} (h : Cl n v) (hm : n ≤ m) : Cl m v := fun f hf => h f fun b hb => hf b (by omega)
theorem Cl.of {n : Nat} {v : EV} (h : v.inI [] = true) : Cl n v := fun f _ => ren_in v h
theorem Cl.get {n : Nat} {p : List Nat} {v u : EV} (h : Cl n v) (hg : EV.get p v = some u) : Cl n u := by
  intro f hf
  have := get_ren f p v
  rw [h f hf, hg] at this
  exact (Option.some.inj this).symm
theorem Cl.part {n : Nat} {l : List EV} {i : Nat} {u : EV} (h : ∀ f : Nat → Nat, (∀ b, b < n → f b = b) → EV.renL f l = l) (hl : l[i]? = some u) : Cl n u := by
  intro f hf
  have := renL_get f l i
  rw [h f hf, hl] at this
  exact (Option.some.inj this).symm
theorem Cl.agg {n : Nat} {l : List EV} (h : Cl n (.agg l)) : ∀ f : Nat → Nat, (∀ b, b < n → f b = b) → EV.renL f l = l := fun f hf => by
  have := h f hf; simpa [EV.ren] using this
theorem Cl.tuple {n : Nat} {l : List EV} (h : Cl n (.tuple l)) : ∀ f : Nat → Nat, (∀ b, b < n → f b = b) → EV.renL f l = l := fun f hf => by
  have := h f hf; simpa [EV.ren] using this
theorem ClL.ren {n : Nat} {l : List EV} (h : ClL n l) (f : Nat → Nat) (hf : ∀ b, b < n → f b = b) : l.map (EV.ren f) = l := by
  induction l with
  | nil => rfl
  | cons v l ih => rw [List.map_cons, h v List.mem_cons_self f hf, ih fun u hu => h u (List.mem_cons_of_mem _ hu)]
theorem Cl.ptr {n b : Nat} {p q : List Nat} (h : Cl n (.ptr b p)) : Cl n (.ptr b q) := fun f hf => by
  have := h f hf; simp only [EV.ren, EV.ptr.injEq] at this ⊢; exact ⟨this.1, trivial⟩
section clo
variable {E : Env} {n : Nat}
theorem evLoad_cl {t : TypeId} {v : EV} {H : Heap} {K : EV → Prop} (hv : Cl n v) (hH : ClH n H) (h : evLoad E t v H K) : evLoad E t v H fun u => K u ∧ Cl n u := by
  cases v <;> simp only [evLoad] at h ⊢ <;> try exact h.elim
  case rref u =>
    rw [gd_iff] at h ⊢
    refine ⟨h.1, h.2, fun f hf => ?_⟩
    have := hv f hf; simpa [EV.ren] using this
  case ptr b p =>
    split at h
    case h_2 => exact h.elim
    rename_i c hb
    split at h
    case h_2 => exact h.elim
    rename_i u hu
    try simp only [hb, hu]
    rw [gd_iff] at h ⊢
    exact ⟨h.1, h.2, (hH b c hb).get hu⟩
theorem intBin_cl {op : BinOp} {k : IntKind} {a b : Int} {K : EV → Prop} (h : intBin op k a b K) : intBin op k a b fun u => K u ∧ Cl n u := by
  cases op <;> simp only [intBin, gd_iff] at h ⊢ <;> first | exact ⟨h, fun _ _ => rfl⟩ | exact ⟨h.1, h.2, fun _ _ => rfl⟩
theorem strBin_cl {op : BinOp} {a b : List UInt8} {K : EV → Prop} (h : strBin op a b K) : strBin op a b fun u => K u ∧ Cl n u := by
  cases op <;> simp only [strBin, gd_iff] at h ⊢ <;> first | exact h.elim | exact ⟨h, fun _ _ => rfl⟩ | exact ⟨h.1, h.2, fun _ _ => rfl⟩
theorem evBin_cl {op : BinOp} {t : TypeId} {x y : EV} {K : EV → Prop} (h : evBin E op t x y K) : evBin E op t x y fun u => K u ∧ Cl n u := by
  by_cases h1 : ∃ k a k' b, x = .int k a ∧ y = .int k' b
  · obtain ⟨k, a, k', b, rfl, rfl⟩ := h1
    cases op <;> simp only [evBin] at h ⊢
    all_goals first
      | (rw [gd_iff] at h ⊢; exact ⟨h.1, h.2, fun _ _ => rfl⟩)
      | (rw [cd_iff] at h ⊢; exact ⟨fun e => intBin_cl (h.1 e), h.2⟩)
  · by_cases h2 : ∃ a b, x = .str a ∧ y = .str b
    · obtain ⟨a, b, rfl, rfl⟩ := h2
      exact strBin_cl h
    · rw [evBin_rest (fun k a k' b e1 e2 => h1 ⟨k, a, k', b, e1, e2⟩) (fun a b e1 e2 => h2 ⟨a, b, e1, e2⟩)] at h ⊢
      cases op <;> simp only [eqRest] at h ⊢ <;> try exact h
      · cases hb : eqT E 100 t x y with
        | none => rw [hb] at h; exact h.elim
        | some b => rw [hb] at h; exact ⟨h, fun _ _ => rfl⟩
      · cases hb : eqT E 100 t x y with
        | none => rw [hb] at h; exact h.elim
        | some b => rw [hb] at h; exact ⟨h, fun _ _ => rfl⟩
theorem evUn_cl {op : UnOp} {x : EV} {K : EV → Prop} (h : evUn op x K) : evUn op x fun u => K u ∧ Cl n u := by
  cases op <;> cases x <;> simp only [evUn] at h ⊢ <;> first | exact h.elim | exact ⟨h, fun _ _ => rfl⟩
theorem convRest_cl {si : TI} {x : EV} {H : Heap} {K : EV → Prop} (h : convRest E si x H K) : convRest E si x H fun u => K u ∧ Cl n u := by
  unfold convRest at h ⊢
  split at h
  case h_2 => exact h.elim
  rename_i e he
  rw [cd_iff] at h
  cases hi : isIntTy E e .u8 with
  | false => exact (h.2 hi).elim
  | true =>
    have h' := h.1 hi
    simp only [cond_true]
    split at h'
    · exact ⟨h', fun _ _ => rfl⟩
    · rename_i hw
      split at h'
      · exact ⟨h', fun _ _ => rfl⟩
      · exact h'.elim
theorem evConv_cl {src dst : TypeId} {x : EV} {H : Heap} {K : EV → Prop} (h : evConv E src dst x H K) : evConv E src dst x H fun u => K u ∧ Cl n u := by
  unfold evConv at h ⊢
  cases hs : E.ty src with
  | none => rw [hs] at h; exact h.elim
  | some si =>
    cases hd : E.ty dst with
    | none => rw [hs, hd] at h; exact h.elim
    | some di =>
      rw [hs, hd] at h
      simp only at h ⊢
      cases htd : di.td <;> simp only [htd] at h ⊢ <;> try exact h.elim
      · cases x <;> simp only at h ⊢ <;> first | exact h.elim | exact ⟨h, fun _ _ => rfl⟩
      · rcases (show (∃ s, x = .str s ∧ K (.str s)) ∨ ((∀ s, x ≠ .str s) ∧ convRest E si x H K) from by
          cases x <;> first | exact .inl ⟨_, rfl, h⟩ | exact .inr ⟨(fun s e => by cases e), h⟩) with ⟨s, rfl, h⟩ | ⟨hne, h⟩
        · exact ⟨h, fun _ _ => rfl⟩
        · have := convRest_cl (n := n) h
          revert this hne
          cases x <;> intro hne this <;> first | exact this | exact absurd rfl (hne _)
theorem pickL_cl {F G : Nat → EV → Prop} : ∀ (l : List EV) (j : Nat) (i : Int), (∀ k u, l[k]? = some u → F (j + k) u → G (j + k) u) → pickL F l j i → pickL G l j i
  | [], _, _, _, h => h
  | u :: l, j, i, hF, h => by
    simp only [pickL, br_iff] at h ⊢
    refine ⟨fun e => hF 0 u rfl (h.1 e), fun e => pickL_cl l (j + 1) i (fun k u hk hf => ?_) (h.2 e)⟩
    rw [show j + 1 + k = j + (k + 1) from by omega] at hf ⊢
    exact hF (k + 1) u (by simpa using hk) hf
theorem evIndex_cl {t : TypeId} {x i : EV} {K : EV → Prop} (hx : Cl n x) (h : evIndex E t x i K) : evIndex E t x i fun u => K u ∧ Cl n u := by
  unfold evIndex at h ⊢
  cases ht : E.ty t with
  | none => rw [ht] at h; exact h.elim
  | some ti =>
    rw [ht] at h
    cases i <;> simp only at h ⊢ <;> try exact h.elim
    cases htd : ti.td <;> simp only [htd] at h ⊢ <;> try exact h.elim
    · cases x <;> simp only at h ⊢ <;> try exact h.elim
      rw [gd_iff] at h ⊢
      exact ⟨h.1, h.2, fun _ _ => rfl⟩
    · cases x <;> simp only at h ⊢ <;> try exact h.elim
      · rw [cd_iff] at h ⊢
        refine ⟨fun e => pickL_cl _ _ _ (fun k u hk hf => ?_) (h.1 e), h.2⟩
        rw [gd_iff] at hf ⊢
        exact ⟨hf.1, hf.2, Cl.part hx.agg hk⟩
      · rw [cd_iff] at h ⊢
        refine ⟨fun e => ?_, h.2⟩
        have := h.1 e
        rw [gd_iff] at this ⊢
        exact ⟨this.1, this.2, fun _ _ => rfl⟩
      · rw [cd_iff] at h ⊢
        refine ⟨fun e => ?_, h.2⟩
        have := h.1 e
        rw [gd_iff] at this ⊢
        exact ⟨this.1, this.2, fun f _ => val_ren f _ _ _⟩
theorem evField_cl {t : TypeId} {x : EV} {i : Nat} {K : EV → Prop} (hx : Cl n x) (h : evField E t x i K) : evField E t x i fun u => K u ∧ Cl n u := by
  unfold evField at h ⊢
  split at h
  case h_2 => exact h.elim
  rename_i ti ht
  split at h
  case h_2 => exact h.elim
  rename_i fs l hq
  simp only [hq]
  split at h
  case h_2 => exact h.elim
  rename_i o ft u hf hl
  try simp only [hf, hl]
  rw [gd_iff] at h ⊢
  exact ⟨h.1, h.2, Cl.part hx.agg hl⟩
theorem evNil_cl {x : EV} {H : Heap} {K : EV → Prop} (hx : Cl n x) (h : evNil x H K) : evNil x H fun u => K u ∧ Cl n u := by
  unfold evNil at h ⊢
  cases x <;> simp only at h ⊢ <;> try exact h
  · rename_i b p
    cases hb : H[b]? with
    | none => rw [hb] at h; exact h.elim
    | some q =>
      cases q with
      | none => rw [hb] at h; exact h.elim
      | some c =>
        rw [hb] at h
        simp only at h ⊢
        cases hg : EV.get p c with
        | none => rw [hg] at h; exact h.elim
        | some u => rw [hg] at h; exact ⟨h, hx⟩
  all_goals exact ⟨h, hx⟩
theorem nilEq_cl {op : BinOp} {b : Bool} {K : EV → Prop} (h : nilEq op b K) : nilEq op b fun u => K u ∧ Cl n u := by
  cases op <;> first | exact ⟨h, fun f _ => rfl⟩ | exact h.elim
theorem spl_cl {c : Bool} {v : EV} {K : EV → Prop} (h : spl c v K) (hv : Cl n v) : spl c v fun u => K u ∧ Cl n u := by
  cases c
  · exact ⟨h, hv⟩
  · cases v <;> simp only [spl] at h ⊢
    case int k m =>
      simp only [br_iff] at h ⊢
      exact ⟨fun e => ⟨h.1 e, fun _ _ => rfl⟩, fun e => ⟨fun e2 => ⟨(h.2 e).1 e2, fun _ _ => rfl⟩, fun e2 => (h.2 e).2 e2⟩⟩
theorem evCmp_cl {op : BinOp} {t : TypeId} {o : Operand} {x y : EV} {H : Heap} {K : EV → Prop} (hx : Cl n x) (h : evCmp E op t o x y H K) : evCmp E op t o x y H fun u => K u ∧ Cl n u := by
  unfold evCmp at h ⊢
  cases h1 : Nat.beq (nilK o) 1 with
  | true =>
    rw [h1] at h
    simp only [cond_true] at h ⊢
    unfold evPN at h ⊢
    cases x <;> simp only at h ⊢ <;> try exact h.elim
    · cases h2 : tdIs E t 1 with
      | true => rw [h2] at h; exact nilEq_cl h
      | false => rw [h2] at h; exact h.elim
    · cases h2 : tdIs E t 1 with
      | true =>
        rw [h2] at h
        simp only [cond_true] at h ⊢
        unfold evNil at h ⊢
        simp only at h ⊢
        split at h
        · split at h
          · exact nilEq_cl h
          · exact h.elim
        · exact h.elim
      | false => rw [h2] at h; exact h.elim
  | false =>
    rw [h1] at h
    simp only [cond_false] at h ⊢
    cases h2 : Nat.beq (nilK o) 2 with
    | true =>
      rw [h2] at h
      simp only [cond_true] at h ⊢
      unfold evIN at h ⊢
      cases x <;> simp only at h ⊢ <;> try exact h.elim
      all_goals
        cases h3 : tdIs E t 0 with
        | true => rw [h3] at h; exact nilEq_cl h
        | false => rw [h3] at h; exact h.elim
    | false => rw [h2] at h; exact evBin_cl h
theorem evFieldAddr_cl {t : TypeId} {x : EV} {i : Nat} {H : Heap} {K : EV → Prop} (hx : Cl n x) (h : evFieldAddr E t x i H K) : evFieldAddr E t x i H fun u => K u ∧ Cl n u := by
  unfold evFieldAddr at h ⊢
  cases ht : E.ty t with
  | none => rw [ht] at h; exact h.elim
  | some ti =>
    rw [ht] at h
    simp only at h ⊢
    cases htd : ti.td <;> simp only [htd] at h ⊢ <;> try exact h.elim
    rename_i fs
    cases hf : fs[i]? with
    | none => rw [hf] at h; exact h.elim
    | some q =>
      obtain ⟨o, ft⟩ := q
      rw [hf] at h
      simp only at h ⊢
      cases hft : E.ty ft with
      | none => rw [hft] at h; exact h.elim
      | some fi =>
        rw [hft] at h
        simp only at h ⊢
        cases x <;> try simp only at h ⊢ <;> try exact h.elim
        case ptr b p =>
          cases hb : H[b]? with
          | none => rw [hb] at h; exact h.elim
          | some oc =>
            cases oc with
            | none => rw [hb] at h; exact h.elim
            | some c =>
              rw [hb] at h
              simp only at h ⊢
              cases hg : EV.get p c with
              | none => rw [hg] at h; exact h.elim
              | some u =>
                rw [hg] at h
                simp only at h ⊢
                rw [gd_iff] at h ⊢
                exact ⟨h.1, h.2, hx.ptr⟩
        case rref v =>
          cases v <;> simp only at h ⊢ <;> try exact h.elim
          rename_i l
          cases hl : l[i]? with
          | none => rw [hl] at h; exact h.elim
          | some u =>
            rw [hl] at h
            simp only at h ⊢
            rw [gd_iff] at h ⊢
            refine ⟨h.1, h.2, fun f hf' => ?_⟩
            have hl2 : ∀ f : Nat → Nat, (∀ b, b < n → f b = b) → EV.renL f l = l := fun f hf => by
              have := hx f hf; simpa [EV.ren] using this
            simp only [EV.ren, Cl.part hl2 hl f hf']
theorem evIndexAddr_cl {t : TypeId} {x i : EV} {H : Heap} {K : EV → Prop} (hx : Cl n x) (h : evIndexAddr E t x i H K) : evIndexAddr E t x i H fun u => K u ∧ Cl n u := by
  have sl : ∀ {b off len cap e p}, x = .slice b off len cap e → Cl n (.ptr b p) := by
    intro b off len cap e p hq f hf
    have := hx f hf
    rw [hq] at this
    simp only [EV.ren, EV.slice.injEq] at this
    simp only [EV.ren, this.1]
  unfold evIndexAddr at h ⊢
  cases ht : E.ty t with
  | none => rw [ht] at h; exact h.elim
  | some ti =>
    rw [ht] at h
    cases i <;> simp only at h ⊢ <;> try exact h.elim
    rename_i ki i
    cases htd : ti.td <;> simp only [htd] at h ⊢ <;> try exact h.elim
    case slice e =>
      cases he : E.ty e with
      | none => rw [he] at h; exact h.elim
      | some ei =>
        rw [he] at h
        simp only at h ⊢
        cases x <;> simp only at h ⊢ <;> try exact h.elim
        case slice b off len cap es =>
          cases hb : H[b]? with
          | none => rw [hb] at h; exact h.elim
          | some oc =>
            cases oc with
            | none => rw [hb] at h; exact h.elim
            | some c =>
              rw [hb] at h
              simp only at h ⊢
              rw [gd_iff] at h ⊢
              refine ⟨h.1, ?_⟩
              have h2 := h.2
              cases c <;> simp only at h2 ⊢ <;> first | exact ⟨h2, sl rfl⟩ | skip
              exact pickL_cl _ _ _ (fun k u hk hf => ⟨hf, sl rfl⟩) h2
        case rsI k n g =>
          rw [gd_iff] at h ⊢
          exact ⟨h.1, h.2, fun _ _ => rfl⟩
        case rsT m s g =>
          rw [gd_iff] at h ⊢
          exact ⟨h.1, h.2, fun f _ => by rw [EV.ren, val_ren]⟩
    case array m e =>
      cases he : E.ty e with
      | none => rw [he] at h; exact h.elim
      | some ei =>
        rw [he] at h
        simp only at h ⊢
        cases x <;> try simp only at h ⊢ <;> try exact h.elim
        case ptr b p =>
          cases hb : H[b]? with
          | none => rw [hb] at h; exact h.elim
          | some oc =>
            cases oc with
            | none => rw [hb] at h; exact h.elim
            | some c =>
              rw [hb] at h
              simp only at h ⊢
              cases hg : EV.get p c with
              | none => rw [hg] at h; exact h.elim
              | some u =>
                rw [hg] at h
                try simp only at h ⊢
                cases u <;> simp only at h ⊢ <;> try exact h.elim
                case arr k m g =>
                  rw [cd_iff] at h ⊢
                  refine ⟨fun hc => ?_, h.2⟩
                  have := h.1 hc
                  rw [gd_iff] at this ⊢
                  exact ⟨this.1, this.2, hx.ptr⟩
                case agg l =>
                  rw [cd_iff] at h ⊢
                  exact ⟨fun hc => pickL_cl _ _ _ (fun k u hk hf => ⟨hf, hx.ptr⟩) (h.1 hc), h.2⟩
                case arrT m s g =>
                  rw [cd_iff] at h ⊢
                  refine ⟨fun hc => ?_, h.2⟩
                  have := h.1 hc
                  rw [gd_iff] at this ⊢
                  exact ⟨this.1, this.2, hx.ptr⟩
        case rref v =>
          cases v <;> simp only at h ⊢ <;> try exact h.elim
          case arr k m g =>
            rw [cd_iff] at h ⊢
            exact ⟨fun hc => ⟨(h.1 hc).1, (h.1 hc).2, fun _ _ => rfl⟩, h.2⟩
          case arrT m s g =>
            rw [cd_iff] at h ⊢
            refine ⟨fun hc => ?_, h.2⟩
            have := h.1 hc
            rw [gd_iff] at this ⊢
            exact ⟨this.1, this.2, fun f _ => by rw [EV.ren, val_ren]⟩
theorem evExtract_cl {x : EV} {i : Nat} {K : EV → Prop} (hx : Cl n x) (h : evExtract x i K) : evExtract x i fun u => K u ∧ Cl n u := by
  cases x <;> simp only [evExtract] at h ⊢ <;> try exact h.elim
  rename_i l
  cases hl : l[i]? with
  | none => rw [hl] at h; exact h.elim
  | some u => rw [hl] at h; exact ⟨h, Cl.part hx.tuple hl⟩
theorem evParts_cl {place : Nat → Option (Nat × Nat)} {ps : List (Nat × EV)} {z v : EV} (hp : ∀ p ∈ ps, Cl n p.2) (hz : Cl n z) (h : evParts place ps z = some v) : Cl n v := by
  intro f hf
  have h1 := evParts_ren (f := f) place ps z
  have h2 : renP f ps = ps := by
    unfold renP
    have : ∀ p ∈ ps, (fun p : Nat × EV => (p.1, p.2.ren f)) p = id p := fun p hp' => by
      show (p.1, p.2.ren f) = p
      rw [hp p hp' f hf]
    rw [List.map_congr_left this, List.map_id]
  rw [h2, hz f hf, h] at h1
  exact (Option.some.inj h1).symm
theorem evBuild_cl (hC : Closed E) {t : TypeId} {ps : List (Nat × EV)} {K : EV → Prop} (hp : ∀ p ∈ ps, Cl n p.2) (h : evBuild E t ps K) : evBuild E t ps fun u => K u ∧ Cl n u := by
  unfold evBuild at h ⊢
  cases ht : E.ty t with
  | none => rw [ht] at h; exact h.elim
  | some ti =>
    rw [ht] at h
    simp only at h ⊢
    have hz : Cl n ti.zero := Cl.of (hC.ty t ti ht)
    rw [gd_iff] at h ⊢
    refine ⟨h.1, ?_⟩
    replace h := h.2
    cases htd : ti.td <;> simp only [htd] at h ⊢ <;> try exact h.elim
    case struct fs =>
      split at h
      · rename_i v hv
        try simp only [hv]
        rw [gd_iff] at h ⊢
        exact ⟨h.1, h.2, evParts_cl hp hz hv⟩
      · exact h.elim
    case array m e =>
      split at h
      case h_2 => exact h.elim
      rename_i k he
      split at h
      · rename_i v hv
        try simp only [hv]
        exact ⟨h, evParts_cl hp hz hv⟩
      · exact h.elim
theorem evLen_cl {t : TypeId} {x : EV} {K : EV → Prop} (h : evLen E t x K) : evLen E t x fun u => K u ∧ Cl n u := by
  unfold evLen at h ⊢
  cases ht : E.ty t with
  | none => rw [ht] at h; exact h.elim
  | some ti =>
    rw [ht] at h
    simp only at h ⊢
    cases htd : ti.td <;> simp only [htd] at h ⊢ <;> try exact h.elim
    all_goals (cases x <;> simp only at h ⊢ <;> first | exact h.elim | exact ⟨h, fun _ _ => rfl⟩)
theorem evMM_cl {g : Int → Int → Int} {xs : List EV} {K : EV → Prop} (hx : ClL n xs) (h : evMM g xs K) : evMM g xs fun u => K u ∧ Cl n u := by
  cases xs with
  | nil => exact h
  | cons x r =>
    simp only [evMM] at h ⊢
    cases hv : foldMM g x r with
    | none => rw [hv] at h; exact h.elim
    | some v =>
      rw [hv] at h
      refine ⟨h, fun f hf => ?_⟩
      have h1 := foldMM_ren (f := f) g r x
      rw [hx x List.mem_cons_self f hf, ClL.ren (fun u hu => hx u (List.mem_cons_of_mem _ hu)) f hf, hv] at h1
      exact (Option.some.inj h1).symm
theorem evSlice_cl {t : TypeId} {x : EV} {lo hi mx : Option EV} {H : Heap} {K : EV → Prop} (hx : Cl n x) (h : evSlice E t x lo hi mx H K) : evSlice E t x lo hi mx H fun u => K u ∧ Cl n u := by
  unfold evSlice at h ⊢
  cases mx with
  | some m => exact h.elim
  | none =>
    cases ht : E.ty t with
    | none => rw [ht] at h; exact h.elim
    | some ti =>
      rw [ht] at h
      simp only at h ⊢
      cases htd : ti.td <;> simp only [htd] at h ⊢ <;> try exact h.elim
      case str =>
        cases x <;> simp only at h ⊢ <;> try exact h.elim
        rename_i s
        cases hl : oInt 0 lo with
        | none => rw [hl] at h; exact h.elim
        | some l =>
          cases hh : oInt s.length hi with
          | none => rw [hl, hh] at h; exact h.elim
          | some q =>
            rw [hl, hh] at h
            simp only at h ⊢
            rw [gd_iff] at h ⊢
            exact ⟨h.1, h.2, fun _ _ => rfl⟩
      case slice e =>
        cases x <;> simp only at h ⊢ <;> try exact h.elim
        case slice b off len cap es =>
          cases hl : oInt 0 lo with
          | none => rw [hl] at h; exact h.elim
          | some l =>
            cases hh : oInt len hi with
            | none => rw [hl, hh] at h; exact h.elim
            | some q =>
              cases hb : H[b]? with
              | none => rw [hl, hh, hb] at h; exact h.elim
              | some oc =>
                cases oc with
                | none => rw [hl, hh, hb] at h; exact h.elim
                | some c =>
                  rw [hl, hh, hb] at h
                  simp only at h ⊢
                  rw [gd_iff] at h ⊢
                  refine ⟨h.1, h.2, fun f hf => ?_⟩
                  have := hx f hf
                  simp only [EV.ren, EV.slice.injEq] at this
                  simp only [EV.ren, this.1]
        case rsI k m g =>
          cases hl : oInt 0 lo with
          | none => rw [hl] at h; exact h.elim
          | some l =>
            cases hh : oInt m hi with
            | none => rw [hl, hh] at h; exact h.elim
            | some q =>
              rw [hl, hh] at h
              simp only at h ⊢
              rw [gd_iff] at h ⊢
              exact ⟨h.1, h.2, fun _ _ => rfl⟩
        case nilSlice =>
          cases hl : oInt 0 lo with
          | none => rw [hl] at h; exact h.elim
          | some l =>
            cases hh : oInt 0 hi with
            | none => rw [hl, hh] at h; exact h.elim
            | some q =>
              rw [hl, hh] at h
              simp only at h ⊢
              rw [gd_iff] at h ⊢
              exact ⟨h.1, h.2, fun _ _ => rfl⟩
      case array na e =>
        cases x <;> try simp only at h ⊢ <;> try exact h.elim
        rename_i b p
        cases p with
        | cons _ _ => exact h.elim
        | nil =>
          simp only at h ⊢
          cases hl : oInt 0 lo with
          | none => rw [hl] at h; exact h.elim
          | some l =>
            cases hh : oInt na hi with
            | none => rw [hl, hh] at h; exact h.elim
            | some q =>
              cases hb : H[b]? with
              | none => rw [hl, hh, hb] at h; exact h.elim
              | some oc =>
                cases oc with
                | none => rw [hl, hh, hb] at h; exact h.elim
                | some c =>
                  rw [hl, hh, hb] at h
                  cases c <;> simp only at h ⊢ <;> try exact h.elim
                  rw [gd_iff] at h ⊢
                  refine ⟨h.1, h.2, fun f hf => ?_⟩
                  have := hx f hf
                  simp only [EV.ren, EV.ptr.injEq] at this
                  simp only [EV.ren, this.1]
theorem evSliceA_cl {t : TypeId} {x : EV} {lo hi mx : Option EV} {H : Heap} {K : EV → Prop} (hx : Cl n x) (h : evSliceA E t x lo hi mx H K) : evSliceA E t x lo hi mx H fun u => K u ∧ Cl n u := by
  cases x
  case rsT m s g =>
    simp only [evSliceA] at h ⊢
    unfold evSliceT at h ⊢
    cases mx with
    | some m => exact h.elim
    | none =>
      cases ht : E.ty t with
      | none => rw [ht] at h; exact h.elim
      | some ti =>
        rw [ht] at h
        simp only at h ⊢
        cases htd : ti.td <;> simp only [htd] at h ⊢ <;> try exact h.elim
        cases hl : oInt 0 lo with
        | none => rw [hl] at h; exact h.elim
        | some l =>
          cases hh : oInt m hi with
          | none => rw [hl, hh] at h; exact h.elim
          | some q =>
            rw [hl, hh] at h
            simp only at h ⊢
            rw [gd_iff] at h ⊢
            exact ⟨h.1, h.2, fun _ _ => rfl⟩
  all_goals exact evSlice_cl hx h
structure ClS (s : St) : Prop where
  tmps : ClL s.heap.length s.tmps
  heap : ClH s.heap.length s.heap
theorem opd_cl (hC : Closed E) {s : St} (h : ClS s) (x : Operand) : Cl s.heap.length (St.opd E s x) := by
  cases x with
  | tmp t =>
    simp only [St.opd, St.slot]
    cases ht : s.tmps[t]? with
    | none => exact fun _ _ => rfl
    | some v => exact h.tmps v (List.mem_of_getElem? ht)
  | const v => exact fun f _ => constV_ren v
  | global g =>
    simp only [St.opd]
    cases hg : E.gl g with
    | none => exact fun _ _ => rfl
    | some v => exact fun f _ => by simp only [EV.ren, ren_in v (hC.gl g v hg)]
  | func g => exact fun _ _ => rfl
theorem opdL_cl (hC : Closed E) {s : St} (h : ClS s) (l : List Operand) : ClL s.heap.length (l.map (St.opd E s)) := by
  intro v hv
  obtain ⟨x, _, rfl⟩ := List.mem_map.1 hv
  exact opd_cl hC h x
theorem opdP_cl (hC : Closed E) {s : St} (h : ClS s) (l : List (Nat × Operand)) : ∀ p ∈ (l.map fun p => (p.1, St.opd E s p.2)), Cl s.heap.length p.2 := by
  intro p hp
  obtain ⟨x, _, rfl⟩ := List.mem_map.1 hp
  exact opd_cl hC h x.2
theorem evV_cl (hC : Closed E) {o : Op} {s : St} {K : EV → Prop} (h : ClS s) (hk : evV E o s K) : evV E o s fun u => K u ∧ Cl s.heap.length u := by
  have ho := opd_cl hC h
  unfold evV at hk ⊢
  split at hk
  · exact ⟨hk, ho _⟩
  · exact ⟨hk, ho _⟩
  · rename_i c a b
    simp only
    cases hc : St.opd E s c <;> rw [hc] at hk <;> try exact hk.elim
    simp only at hk ⊢
    rw [br_iff] at hk ⊢
    exact ⟨fun e => ⟨hk.1 e, ho _⟩, fun e => ⟨hk.2 e, ho _⟩⟩
  · rw [gd_iff] at hk ⊢; exact ⟨hk.1, evBuild_cl hC (opdP_cl hC h _) hk.2⟩
  · exact evLoad_cl (ho _) h.heap hk
  · rw [gd_iff] at hk ⊢; exact ⟨hk.1, det_evCmp.mono (evCmp_cl (ho _) hk.2) fun v hv => spl_cl hv.1 hv.2⟩
  · exact evUn_cl hk
  · rw [gd_iff] at hk ⊢; exact ⟨hk.1, evConv_cl hk.2⟩
  · rw [gd_iff] at hk ⊢; exact ⟨hk.1, evFieldAddr_cl (ho _) hk.2⟩
  · rw [gd_iff] at hk ⊢; exact ⟨hk.1, evField_cl (ho _) hk.2⟩
  · rw [gd_iff] at hk ⊢; exact ⟨hk.1, evIndexAddr_cl (ho _) hk.2⟩
  · rw [gd_iff] at hk ⊢; exact ⟨hk.1, evIndex_cl (ho _) hk.2⟩
  · exact evExtract_cl (ho _) hk
  · rename_i g cs
    rw [gd_iff] at hk ⊢
    exact ⟨hk.1, hk.2, fun f hf => by simp only [EV.ren, renL_map, ClL.ren (opdL_cl hC h cs.toList) f hf]⟩
  · rw [gd_iff] at hk ⊢; exact ⟨hk.1, evSliceA_cl (ho _) hk.2⟩
  · rw [gd_iff] at hk ⊢; exact ⟨hk.1, evLen_cl hk.2⟩
  · rw [gd_iff] at hk ⊢; exact ⟨hk.1, evMM_cl (opdL_cl hC h _) hk.2⟩
  · rw [gd_iff] at hk ⊢; exact ⟨hk.1, evMM_cl (opdL_cl hC h _) hk.2⟩
  · rw [gd_iff] at hk ⊢; exact ⟨hk.1, evNil_cl (ho _) hk.2⟩
  · rename_i g fs _
    rw [gd_iff] at hk ⊢
    exact ⟨hk.1, hk.2, fun f hf => by simp only [EV.ren, renL_map, ClL.ren (opdL_cl hC h fs.toList) f hf]⟩
  · exact hk.elim
theorem ClS.put {s : St} (h : ClS s) (d : Option Nat) {v : EV} {H : Heap} (hl : s.heap.length ≤ H.length) (hv : Cl H.length v) (hH : ClH H.length H) : ClS (s.put d v H) := by
  have ht : ClL H.length s.tmps := fun u hu => (h.tmps u hu).mono hl
  cases d with
  | none => exact ⟨ht, hH⟩
  | some d =>
    refine ⟨?_, hH⟩
    intro u hu
    simp only [St.put] at hu ⊢
    rcases List.mem_or_eq_of_mem_set hu with h1 | rfl
    · exact ht u h1
    · exact hv
mutual
theorem rel_cl {ρ : Ren} {w : World} {f : Nat → Nat} (hf : ∀ b, b < ρ.bs.length → f b = b) : ∀ (v : EV) (x : Value), Rel ρ w v x → v.ren f = v
  | .undef, _, hr => hr.elim
  | .bool _, _, _ => rfl
  | .int _ _, _, _ => rfl
  | .str _, _, _ => rfl
  | .nilPtr, _, _ => rfl
  | .nilSlice, _, _ => rfl
  | .nilFunc, _, _ => rfl
  | .arr _ _ _, _, _ => rfl
  | .nilIface, _, _ => rfl
  | .rsI _ _ _, _, _ => rfl
  | .rsT _ _ _, _, _ => rfl
  | .arrT _ _ _, _, _ => rfl
  | .ptr b p, x, hr => by
    simp only [Rel] at hr
    obtain ⟨a, _, r, h1, _⟩ := hr
    have : b < ρ.bs.length := by
      rcases Nat.lt_or_ge b ρ.bs.length with hh | hh
      · exact hh
      · rw [List.getElem?_eq_none hh] at h1; cases h1
    simp only [EV.ren, hf b this]
  | .slice b off len cap e, x, hr => by
    simp only [Rel] at hr
    obtain ⟨a, c, _, r, h1, _⟩ := hr
    have : b < ρ.bs.length := by
      rcases Nat.lt_or_ge b ρ.bs.length with hh | hh
      · exact hh
      · rw [List.getElem?_eq_none hh] at h1; cases h1
    simp only [EV.ren, hf b this]
  | .rref v, x, hr => by
    simp only [Rel] at hr
    obtain ⟨b, o, y, _, h2, _⟩ := hr
    simp only [EV.ren, rel_cl hf v y h2]
  | .func g cap, x, hr => by
    simp only [Rel] at hr
    obtain ⟨vs, _, h2⟩ := hr
    simp only [EV.ren, relL_cl hf cap _ h2]
  | .bnd g cap, x, hr => by
    simp only [Rel] at hr
    obtain ⟨vs, _, h2⟩ := hr
    simp only [EV.ren, relL_cl hf cap _ h2]
  | .agg l, x, hr => by
    simp only [Rel] at hr
    obtain ⟨vs, _, h2⟩ := hr
    simp only [EV.ren, relF_cl hf l _ h2]
  | .tuple l, x, hr => by
    simp only [Rel] at hr
    obtain ⟨vs, _, h2⟩ := hr
    simp only [EV.ren, relL_cl hf l _ h2]
  | .iface t v, x, hr => by
    simp only [Rel] at hr
    obtain ⟨y, _, h2⟩ := hr
    simp only [EV.ren, rel_cl hf v y h2]
theorem relL_cl {ρ : Ren} {w : World} {f : Nat → Nat} (hf : ∀ b, b < ρ.bs.length → f b = b) : ∀ (l : List EV) (xs : List Value), RelL ρ w l xs → EV.renL f l = l
  | [], _, _ => rfl
  | v :: l, xs, hr => by
    simp only [RelL] at hr
    obtain ⟨x, ys, _, h2, h3⟩ := hr
    simp only [EV.renL, rel_cl hf v x h2, relL_cl hf l ys h3]
theorem relF_cl {ρ : Ren} {w : World} {f : Nat → Nat} (hf : ∀ b, b < ρ.bs.length → f b = b) : ∀ (l : List EV) (xs : List Value), RelF ρ w l xs → EV.renL f l = l
  | [], _, _ => rfl
  | v :: l, xs, hr => by
    simp only [RelF] at hr
    obtain ⟨x, ys, _, h2, h3⟩ := hr
    simp only [EV.renL, rel_cl hf v x h2, relF_cl hf l ys h3]
end
theorem ClS.of {gl : Nat → Option EV} {ρ : Ren} {w : World} {s : St} {a : Array Value} (hT : RelT gl ρ w s.tmps a) (hS : Sim ρ s.heap w) : ClS s := by
  refine ⟨fun v hv f hf => ?_, fun b c hb f hf => ?_⟩
  · obtain ⟨i, hi⟩ := List.mem_iff_getElem?.1 hv
    rcases hT.2.1 i v hi with rfl | ⟨x, _, hr⟩
    · rfl
    · exact rel_cl (fun b hb => hf b (by rw [← hS.len]; exact hb)) v x hr
  · obtain ⟨r, _, _, cs, e, fz, x, _, _, h5, _⟩ := hS.live b c hb
    exact rel_cl (fun b hb => hf b (by rw [← hS.len]; exact hb)) c x h5
end clo
end Go.Ev
