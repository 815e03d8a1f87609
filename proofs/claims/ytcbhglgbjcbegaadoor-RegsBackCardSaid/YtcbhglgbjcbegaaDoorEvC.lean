/- The evaluator: the blocks' numbers, others: what it comes to is the same, with the other numbers. -/
import Derived.Test.YtcbhglgbjcbegaaDoorEvB
set_option linter.unusedVariables false
set_option linter.unusedSimpArgs false
namespace Go.Ev
open Go
structure Shf (n m : Nat) (f : Nat → Nat) : Prop where
  inj : ∀ a b, f a = f b → a = b
  low : ∀ b, b < n → f b = b
  high : ∀ b, m ≤ b → f b = b
theorem Shf.lt {n m : Nat} {f : Nat → Nat} (h : Shf n m f) {b : Nat} (hb : b < m) : f b < m := by
  rcases Nat.lt_or_ge (f b) m with h1 | h1
  · exact h1
  · have := h.inj _ _ (h.high (f b) h1)
    omega
theorem Shf.lt' {n m : Nat} {f : Nat → Nat} (h : Shf n m f) {b : Nat} (hb : f b < m) : b < m := by
  rcases Nat.lt_or_ge b m with h1 | h1
  · exact h1
  · rw [h.high b h1] at hb; exact hb
theorem Shf.mono {n m m' : Nat} {f : Nat → Nat} (h : Shf n m f) (hm : m ≤ m') : Shf n m' f := ⟨h.inj, h.low, fun b hb => h.high b (by omega)⟩
theorem Shf.comp {n m : Nat} {f g : Nat → Nat} (h : Shf n m f) (k : Shf n m g) : Shf n m (fun b => g (f b)) :=
  ⟨fun a b e => h.inj _ _ (k.inj _ _ e), fun b hb => by rw [h.low b hb, k.low b hb], fun b hb => by rw [h.high b hb, k.high b hb]⟩
theorem Shf.id (n m : Nat) : Shf n m (fun b => b) := ⟨fun _ _ h => h, fun _ _ => rfl, fun _ _ => rfl⟩
theorem pigeon : ∀ (m : Nat) (f : Nat → Nat), (∀ a b, a < m → b < m → f a = f b → a = b) → (∀ b, b < m → f b < m) → ∀ c, c < m → ∃ b, b < m ∧ f b = c
  | 0, _, _, _, c, hc => by omega
  | m + 1, f, hi, hl, c, hc => by
    have ih := pigeon m (fun b => if f b = m then f m else f b) (by
      intro a b ha hb h
      have h : (if f a = m then f m else f a) = (if f b = m then f m else f b) := h
      by_cases h1 : f a = m
      · by_cases h2 : f b = m
        · exact hi a b (by omega) (by omega) (by omega)
        · rw [if_pos h1, if_neg h2] at h
          have := hi m b (by omega) (by omega) h
          omega
      · by_cases h2 : f b = m
        · rw [if_neg h1, if_pos h2] at h
          have := hi a m (by omega) (by omega) h
          omega
        · rw [if_neg h1, if_neg h2] at h
          exact hi a b (by omega) (by omega) h) (by
      intro b hb
      show (if f b = m then f m else f b) < m
      by_cases h1 : f b = m
      · rw [if_pos h1]
        have h2 := hl m (by omega)
        by_cases h3 : f m = m
        · have := hi b m (by omega) (by omega) (by omega); omega
        · omega
      · rw [if_neg h1]
        have := hl b (by omega); omega)
    by_cases h0 : f m = c
    · exact ⟨m, by omega, h0⟩
    by_cases h1 : c = m
    · have h2 := hl m (by omega)
      obtain ⟨b, h3, h4⟩ := ih (f m) (by omega)
      have h4 : (if f b = m then f m else f b) = f m := h4
      by_cases h5 : f b = m
      · exact ⟨b, by omega, by omega⟩
      · rw [if_neg h5] at h4
        have := hi b m (by omega) (by omega) h4
        omega
    · obtain ⟨b, h3, h4⟩ := ih c (by omega)
      have h4 : (if f b = m then f m else f b) = c := h4
      by_cases h5 : f b = m
      · rw [if_pos h5] at h4; exact absurd h4 h0
      · rw [if_neg h5] at h4; exact ⟨b, by omega, h4⟩
theorem Shf.surj {n m : Nat} {f : Nat → Nat} (h : Shf n m f) {c : Nat} (hc : c < m) : ∃ b, b < m ∧ f b = c :=
  pigeon m f (fun a b _ _ e => h.inj a b e) (fun b hb => h.lt hb) c hc
def swp (n b : Nat) : Nat := if b = n then n + 1 else if b = n + 1 then n else b
theorem Shf.swp (k n m : Nat) (hk : k ≤ n) (hm : n + 2 ≤ m) : Shf k m (swp n) := by
  refine ⟨fun a b h => ?_, fun b hb => ?_, fun b hb => ?_⟩
  · unfold Ev.swp at h; split at h <;> split at h <;> (try split at h) <;> (try split at h) <;> omega
  · unfold Ev.swp; rw [if_neg (by omega), if_neg (by omega)]
  · unfold Ev.swp; rw [if_neg (by omega), if_neg (by omega)]
theorem renL_map (f : Nat → Nat) : ∀ (l : List EV), EV.renL f l = l.map (EV.ren f)
  | [] => rfl
  | v :: l => by simp only [EV.renL, List.map_cons, renL_map f l]
mutual
theorem ren_ren (f g : Nat → Nat) : ∀ (v : EV), (v.ren f).ren g = v.ren (fun b => g (f b))
  | .ptr _ _ => rfl
  | .slice _ _ _ _ _ => rfl
  | .rref v => by simp only [EV.ren, ren_ren f g v]
  | .agg l => by simp only [EV.ren, renL_renL f g l]
  | .tuple l => by simp only [EV.ren, renL_renL f g l]
  | .func _ l => by simp only [EV.ren, renL_renL f g l]
  | .bnd _ l => by simp only [EV.ren, renL_renL f g l]
  | .iface _ v => by simp only [EV.ren, ren_ren f g v]
  | .rsI _ _ _ => rfl | .undef => rfl
  | .bool _ => rfl | .int _ _ => rfl | .str _ => rfl | .nilPtr => rfl | .nilSlice => rfl | .nilFunc => rfl | .arr _ _ _ => rfl | .nilIface => rfl
  | .rsT _ _ _ => rfl | .arrT _ _ _ => rfl
theorem renL_renL (f g : Nat → Nat) : ∀ (l : List EV), EV.renL g (EV.renL f l) = EV.renL (fun b => g (f b)) l
  | [] => rfl
  | v :: l => by simp only [EV.renL, ren_ren f g v, renL_renL f g l]
end
mutual
theorem ren_id : ∀ (v : EV), v.ren (fun b => b) = v
  | .ptr _ _ => rfl
  | .slice _ _ _ _ _ => rfl
  | .rref v => by simp only [EV.ren, ren_id v]
  | .agg l => by simp only [EV.ren, renL_id l]
  | .tuple l => by simp only [EV.ren, renL_id l]
  | .func _ l => by simp only [EV.ren, renL_id l]
  | .bnd _ l => by simp only [EV.ren, renL_id l]
  | .iface _ v => by simp only [EV.ren, ren_id v]
  | .rsI _ _ _ => rfl | .undef => rfl
  | .bool _ => rfl | .int _ _ => rfl | .str _ => rfl | .nilPtr => rfl | .nilSlice => rfl | .nilFunc => rfl | .arr _ _ _ => rfl | .nilIface => rfl
  | .rsT _ _ _ => rfl | .arrT _ _ _ => rfl
theorem renL_id : ∀ (l : List EV), EV.renL (fun b => b) l = l
  | [] => rfl
  | v :: l => by simp only [EV.renL, ren_id v, renL_id l]
end
structure HR (f : Nat → Nat) (H H' : Heap) : Prop where
  len : H'.length = H.length
  get : ∀ (b : Nat), H'[f b]? = (H[b]?).map (renO f)
theorem HR.id (H : Heap) : HR (fun b => b) H H := ⟨rfl, fun b => by
  cases H[b]? with
  | none => rfl
  | some o => cases o <;> simp [renO, ren_id]⟩
theorem renO_renO (f g : Nat → Nat) (o : Option EV) : renO g (renO f o) = renO (fun b => g (f b)) o := by
  cases o <;> simp [renO, ren_ren]
theorem HR.uniq {k : Nat} {f : Nat → Nat} {H A B : Heap} (hs : Shf k H.length f) (h1 : HR f H A) (h2 : HR f H B) : A = B := by
  apply List.ext_getElem?
  intro c
  rcases Nat.lt_or_ge c H.length with hc | hc
  · obtain ⟨b, _, rfl⟩ := hs.surj hc
    rw [h1.get, h2.get]
  · rw [List.getElem?_eq_none (by rw [h1.len]; exact hc), List.getElem?_eq_none (by rw [h2.len]; exact hc)]
theorem HR.comp {f g : Nat → Nat} {H H' H'' : Heap} (h : HR f H H') (k : HR g H' H'') : HR (fun b => g (f b)) H H'' := by
  refine ⟨k.len.trans h.len, fun b => ?_⟩
  rw [k.get, h.get]
  cases H[b]? with
  | none => rfl
  | some o => simp [renO_renO]
theorem HR.live {f : Nat → Nat} {H H' : Heap} (h : HR f H H') {b : Nat} {c : EV} (hb : H[b]? = some (some c)) : H'[f b]? = some (some (c.ren f)) := by
  rw [h.get, hb]; rfl
theorem HR.set {f : Nat → Nat} {H H' : Heap} (h : HR f H H') (hi : ∀ a b, f a = f b → a = b) (b : Nat) (o : Option EV) : HR f (H.set b o) (H'.set (f b) (renO f o)) := by
  refine ⟨by simp [h.len], fun c => ?_⟩
  by_cases hc : c = b
  · subst hc
    have := h.get c
    rw [List.getElem?_set, List.getElem?_set]
    simp only [if_true]
    by_cases hl : c < H.length
    · have h2 : f c < H'.length := by
        rcases Nat.lt_or_ge (f c) H'.length with h3 | h3
        · exact h3
        · rw [List.getElem?_eq_none h3, List.getElem?_eq_getElem hl] at this; cases this
      simp [hl, h2]
    · have h2 : ¬ f c < H'.length := by
        intro h3
        rw [List.getElem?_eq_getElem h3, List.getElem?_eq_none (by omega)] at this; cases this
      simp [hl, h2]
  · rw [List.getElem?_set_ne (fun e => hc e.symm), List.getElem?_set_ne (fun e => hc (hi _ _ e.symm)), h.get]
theorem HR.push {n : Nat} {f : Nat → Nat} {H H' : Heap} (h : HR f H H') (hs : Shf n H.length f) (o : Option EV) : HR f (H ++ [o]) (H' ++ [renO f o]) := by
  refine ⟨by simp [h.len], fun b => ?_⟩
  rcases Nat.lt_or_ge b H.length with hb | hb
  · rw [List.getElem?_append_left hb, List.getElem?_append_left (by rw [h.len]; exact hs.lt hb), h.get]
  · rw [hs.high b hb, List.getElem?_append_right hb, List.getElem?_append_right (by rw [h.len]; exact hb), h.len]
    cases hq : b - H.length with
    | zero => simp
    | succ k => simp
def KV (f : Nat → Nat) (K : EV → Prop) : EV → Prop := fun v' => ∃ v, v' = v.ren f ∧ K v
def KR (f : Nat → Nat) (n : Nat) (K : EV → Heap → Prop) : EV → Heap → Prop := fun v' H' => ∃ v H, v' = v.ren f ∧ HR f H H' ∧ n ≤ H.length ∧ K v H
def KH (f : Nat → Nat) (n : Nat) (K : Heap → Prop) : Heap → Prop := fun H' => ∃ H, HR f H H' ∧ n ≤ H.length ∧ K H
theorem renL_get (f : Nat → Nat) (l : List EV) (i : Nat) : (EV.renL f l)[i]? = (l[i]?).map (EV.ren f) := by rw [renL_map, List.getElem?_map]
theorem renL_length (f : Nat → Nat) (l : List EV) : (EV.renL f l).length = l.length := by rw [renL_map, List.length_map]
theorem renL_set (f : Nat → Nat) (l : List EV) (i : Nat) (y : EV) : (EV.renL f l).set i (y.ren f) = EV.renL f (l.set i y) := by rw [renL_map, renL_map, List.map_set]
theorem renL_append (f : Nat → Nat) (l r : List EV) : EV.renL f (l ++ r) = EV.renL f l ++ EV.renL f r := by simp [renL_map]
theorem aggLike_ren (f : Nat → Nat) (v : EV) : aggLike (v.ren f) = aggLike v := by cases v <;> rfl
theorem dfd_ren (f : Nat → Nat) (v : EV) : (v.ren f).dfd = v.dfd := by cases v <;> rfl
theorem dfdL_ren (f : Nat → Nat) : ∀ (l : List EV), dfdL (l.map (EV.ren f)) = dfdL l
  | [] => rfl
  | v :: l => by simp only [List.map_cons, dfdL, dfd_ren, dfdL_ren f l]
mutual
theorem storable_ren (f : Nat → Nat) : ∀ (v : EV), (v.ren f).storable = v.storable
  | .agg l => by simp only [EV.ren, EV.storable, storableL_ren f l]
  | .ptr _ _ => rfl | .slice _ _ _ _ _ => rfl | .rref _ => rfl | .tuple _ => rfl | .func _ _ => rfl | .bnd _ _ => rfl | .iface _ _ => rfl
  | .rsI _ _ _ => rfl | .undef => rfl
  | .bool _ => rfl | .int _ _ => rfl | .str _ => rfl | .nilPtr => rfl | .nilSlice => rfl | .nilFunc => rfl | .arr _ _ _ => rfl | .nilIface => rfl
  | .rsT _ _ _ => rfl | .arrT _ _ _ => rfl
theorem storableL_ren (f : Nat → Nat) : ∀ (l : List EV), EV.storableL (EV.renL f l) = EV.storableL l
  | [] => rfl
  | v :: l => by simp only [EV.renL, EV.storableL, storable_ren f v, storableL_ren f l]
end
mutual
theorem free_ren (f : Nat → Nat) : ∀ (v : EV), (v.ren f).free = v.free
  | .agg l => by simp only [EV.ren, EV.free, freeL_ren f l]
  | .tuple l => by simp only [EV.ren, EV.free, freeL_ren f l]
  | .func _ l => by simp only [EV.ren, EV.free, freeL_ren f l]
  | .bnd _ l => by simp only [EV.ren, EV.free, freeL_ren f l]
  | .iface _ v => by simp only [EV.ren, EV.free, free_ren f v]
  | .ptr _ _ => rfl | .slice _ _ _ _ _ => rfl | .rref _ => rfl
  | .rsI _ _ _ => rfl | .undef => rfl
  | .bool _ => rfl | .int _ _ => rfl | .str _ => rfl | .nilPtr => rfl | .nilSlice => rfl | .nilFunc => rfl | .arr _ _ _ => rfl | .nilIface => rfl
  | .rsT _ _ _ => rfl | .arrT _ _ _ => rfl
theorem freeL_ren (f : Nat → Nat) : ∀ (l : List EV), EV.freeL (EV.renL f l) = EV.freeL l
  | [] => rfl
  | v :: l => by simp only [EV.renL, EV.freeL, free_ren f v, freeL_ren f l]
end
mutual
theorem val_ren (f : Nat → Nat) : ∀ (s : Sk) (c : Nat) (r : Nat → Lf), (s.val c r).ren f = s.val c r
  | .int _, _, _ => rfl
  | .bool, _, _ => rfl
  | .sl _, _, _ => rfl
  | .agg l, c, r => by simp only [Sk.val, EV.ren, val_renL f l c r]
theorem val_renL (f : Nat → Nat) : ∀ (l : List Sk) (c : Nat) (r : Nat → Lf), EV.renL f (Sk.valL l c r) = Sk.valL l c r
  | [], _, _ => rfl
  | s :: l, c, r => by simp only [Sk.valL, EV.renL, val_ren f s c r, val_renL f l _ r]
end
mutual
theorem un_ren (f : Nat → Nat) : ∀ (s : Sk) (v : EV), s.un (v.ren f) = s.un v
  | .int k, v => by cases v <;> rfl
  | .bool, v => by cases v <;> rfl
  | .sl s, v => by cases v <;> rfl
  | .agg l, v => by
    cases v <;> try rfl
    simp only [EV.ren, Sk.un, un_renL f l]
theorem un_renL (f : Nat → Nat) : ∀ (l : List Sk) (vs : List EV), Sk.unL l (EV.renL f vs) = Sk.unL l vs
  | [], [] => rfl
  | [], _ :: _ => rfl
  | _ :: _, [] => rfl
  | s :: l, v :: vs => by simp only [EV.renL, Sk.unL, un_ren f s v, un_renL f l vs]
end
theorem get_ren (f : Nat → Nat) : ∀ (p : List Nat) (v : EV), EV.get p (v.ren f) = (EV.get p v).map (EV.ren f)
  | [], v => by simp [EV.get]
  | i :: p, .agg l => by
    simp only [EV.ren, EV.get, renL_get]
    cases l[i]? with
    | none => rfl
    | some u => simp only [Option.map_some]; exact get_ren f p u
  | [i], .arr k n g => rfl
  | i :: j :: p, .arr k n g => rfl
  | i :: p, .arrT n s g => by
    have := get_ren f p (s.val 0 (g i))
    rw [val_ren] at this
    simp only [EV.ren, EV.get]; exact this
  | i :: p, .rsT _ _ _ => rfl
  | i :: p, .undef => rfl
  | i :: p, .bool _ => rfl
  | i :: p, .int _ _ => rfl
  | i :: p, .str _ => rfl
  | i :: p, .nilPtr => rfl
  | i :: p, .ptr _ _ => rfl
  | i :: p, .rref _ => rfl
  | i :: p, .nilSlice => rfl
  | i :: p, .slice _ _ _ _ _ => rfl
  | i :: p, .rsI _ _ _ => rfl
  | i :: p, .nilFunc => rfl
  | i :: p, .func _ _ => rfl
  | i :: p, .bnd _ _ => rfl
  | i :: p, .tuple _ => rfl
  | i :: p, .nilIface => rfl
  | i :: p, .iface _ _ => rfl
theorem set_ren (f : Nat → Nat) : ∀ (p : List Nat) (v u : EV), EV.set p (v.ren f) (u.ren f) = (EV.set p v u).map (EV.ren f)
  | [], v, u => by
    simp only [EV.set, shape_ren]
    cases v.shape.beq u.shape <;> rfl
  | i :: p, .agg l, u => by
    simp only [EV.ren, EV.set, renL_get]
    cases l[i]? with
    | none => rfl
    | some x =>
      simp only [Option.map_some, set_ren f p x u]
      cases EV.set p x u with
      | none => rfl
      | some y => simp only [Option.map_some, renL_set, EV.ren]
  | [i], .arr k n g, u => by
    cases u <;> try rfl
    rename_i k' x
    simp only [EV.ren, EV.set]
    cases decide (k = k') <;> rfl
  | i :: j :: p, .arr k n g, u => rfl
  | i :: p, .arrT n s g, u => by
    have := set_ren f p (s.val 0 (g i)) u
    rw [val_ren] at this
    simp only [EV.ren, EV.set, this]
    cases EV.set p (s.val 0 (g i)) u with
    | none => rfl
    | some y =>
      simp only [Option.map_some, un_ren]
      cases s.un y <;> rfl
  | i :: p, .rsT _ _ _, u => rfl
  | i :: p, .undef, u => rfl
  | i :: p, .bool _, u => rfl
  | i :: p, .int _ _, u => rfl
  | i :: p, .str _, u => rfl
  | i :: p, .nilPtr, u => rfl
  | i :: p, .ptr _ _, u => rfl
  | i :: p, .rref _, u => rfl
  | i :: p, .nilSlice, u => rfl
  | i :: p, .slice _ _ _ _ _, u => rfl
  | i :: p, .rsI _ _ _, u => rfl
  | i :: p, .nilFunc, u => rfl
  | i :: p, .func _ _, u => rfl
  | i :: p, .bnd _ _, u => rfl
  | i :: p, .tuple _, u => rfl
  | i :: p, .nilIface, u => rfl
  | i :: p, .iface _ _, u => rfl
section eqv
variable {E : Env} {f : Nat → Nat}
theorem conf_ren (t : TypeId) (u : EV) : conf E t (u.ren f) = conf E t u := by simp only [conf, aggLike_ren, shape_ren]
theorem evLoad_eqv {t : TypeId} {v : EV} {H H' : Heap} {K : EV → Prop} (hH : HR f H H') (h : evLoad E t v H K) : evLoad E t (v.ren f) H' (KV f K) := by
  cases v <;> simp only [evLoad, EV.ren] at h ⊢
  case rref u =>
    rw [gd_iff] at h ⊢
    exact ⟨by rw [conf_ren]; exact h.1, _, rfl, h.2⟩
  case ptr b p =>
    split at h
    case h_2 => exact h.elim
    rename_i c hb
    rw [hH.live hb]
    simp only [get_ren]
    split at h
    case h_2 => exact h.elim
    rename_i u hu
    simp only [hu, Option.map_some]
    rw [gd_iff] at h ⊢
    exact ⟨by rw [conf_ren]; exact h.1, _, rfl, h.2⟩
theorem evStore_eqv {n : Nat} {t : TypeId} {a v : EV} {H H' : Heap} {K : Heap → Prop} (hs : Shf n H.length f) (hH : HR f H H') (h : evStore E t a v H K) : evStore E t (a.ren f) (v.ren f) H' (KH f H.length K) := by
  cases a <;> simp only [evStore, EV.ren] at h ⊢
  case ptr b p =>
    split at h
    case h_2 => exact h.elim
    rename_i c hb
    rw [hH.live hb]
    simp only [set_ren]
    split at h
    case h_2 => exact h.elim
    rename_i u hu
    simp only [hu, Option.map_some]
    rw [gd_iff] at h ⊢
    refine ⟨?_, H.set b (some u), hH.set hs.inj b (some u), by simp, h.2⟩
    rw [storable_ren, shape_ren]; exact h.1
theorem evNew_eqv {n : Nat} {v : EV} {H H' : Heap} {K : EV → Heap → Prop} (hs : Shf n H.length f) (hH : HR f H H') (h : evNew H v K) : evNew H' (v.ren f) (KR f H.length K) :=
  ⟨.ptr H.length [], H ++ [some v], by rw [EV.ren, hs.high _ (Nat.le_refl _), hH.len], hH.push hs (some v), by simp, h⟩
theorem eqL_ren {eq : TypeId → EV → EV → Option Bool} (he : ∀ t x y, eq t (x.ren f) (y.ren f) = eq t x y) : ∀ (fs : List (Nat × TypeId)) (o : Nat) (xs ys : List EV),
    eqL E eq fs o (EV.renL f xs) (EV.renL f ys) = eqL E eq fs o xs ys
  | [], _, [], [] => rfl
  | [], _, [], _ :: _ => rfl
  | [], _, _ :: _, [] => rfl
  | [], _, _ :: _, _ :: _ => rfl
  | _ :: _, _, [], [] => rfl
  | _ :: _, _, [], _ :: _ => rfl
  | _ :: _, _, _ :: _, [] => rfl
  | (o, t) :: fs, off, x :: xs, y :: ys => by
    simp only [EV.renL, eqL, shape_ren, conf_ren, he, eqL_ren he fs]
theorem renL_len : ∀ l : List EV, (EV.renL f l).length = l.length
  | [] => rfl
  | v :: l => by simp only [EV.renL, List.length_cons, renL_len l]
theorem eqA_ren {eq : TypeId → EV → EV → Option Bool} (he : ∀ t x y, eq t (x.ren f) (y.ren f) = eq t x y) (e : TypeId) (sz : Nat) : ∀ (xs ys : List EV),
    eqA E eq e sz (EV.renL f xs) (EV.renL f ys) = eqA E eq e sz xs ys
  | [], [] => rfl
  | [], _ :: _ => rfl
  | _ :: _, [] => rfl
  | x :: xs, y :: ys => by
    simp only [EV.renL, eqA, shape_ren, conf_ren, he, eqA_ren he e sz xs]
    cases xs <;> rfl
theorem eqT_ren : ∀ (d : Nat) (t : TypeId) (x y : EV), eqT E d t (x.ren f) (y.ren f) = eqT E d t x y
  | 0, _, _, _ => rfl
  | d + 1, t, x, y => by
    simp only [eqT]
    cases E.ty t with
    | none => rfl
    | some ti =>
      simp only
      cases ti.td
      case struct fs =>
        cases x <;> cases y <;> simp only [EV.ren]
        exact eqL_ren (eqT_ren d) fs 0 _ _
      case array n e =>
        cases x <;> cases y <;> simp only [EV.ren]
        cases E.ty e with
        | none => rfl
        | some ei => simp only [renL_len, eqA_ren (eqT_ren d)]
      all_goals (cases x <;> cases y <;> rfl)
theorem intBin_eqv {op : BinOp} {k : IntKind} {a b : Int} {K : EV → Prop} (h : intBin op k a b K) : intBin op k a b (KV f K) := by
  cases op <;> simp only [intBin, gd_iff] at h ⊢ <;> first | exact ⟨_, rfl, h⟩ | exact ⟨h.1, _, rfl, h.2⟩
theorem strBin_eqv {op : BinOp} {a b : List UInt8} {K : EV → Prop} (h : strBin op a b K) : strBin op a b (KV f K) := by
  cases op <;> simp only [strBin, gd_iff] at h ⊢ <;> first | exact h.elim | exact ⟨_, rfl, h⟩ | exact ⟨h.1, _, rfl, h.2⟩
theorem ren_int {x : EV} {k : IntKind} {a : Int} (h : x.ren f = .int k a) : x = .int k a := by cases x <;> simp [EV.ren] at h ⊢ <;> exact h
theorem ren_str {x : EV} {s : List UInt8} (h : x.ren f = .str s) : x = .str s := by cases x <;> simp [EV.ren] at h ⊢ <;> exact h
def eqRest (E : Env) (op : BinOp) (t : TypeId) (x y : EV) (K : EV → Prop) : Prop :=
  match op with
  | .eql => match eqT E 100 t x y with
    | some b => K (.bool b)
    | none => False
  | .neq => match eqT E 100 t x y with
    | some b => K (.bool (!b))
    | none => False
  | _ => False
theorem evBin_rest {op : BinOp} {t : TypeId} {x y : EV} {K : EV → Prop} (h1 : ∀ k a k' b, x = .int k a → y = .int k' b → False) (h2 : ∀ a b, x = .str a → y = .str b → False) :
    evBin E op t x y K = eqRest E op t x y K := by
  unfold evBin eqRest
  split
  · exact (h1 _ _ _ _ rfl rfl).elim
  · exact (h2 _ _ rfl rfl).elim
  · rfl
theorem eqRest_eqv {op : BinOp} {t : TypeId} {x y : EV} {K : EV → Prop} (h : eqRest E op t x y K) : eqRest E op t (x.ren f) (y.ren f) (KV f K) := by
  cases op <;> simp only [eqRest, eqT_ren] at h ⊢ <;> try exact h
  · cases hb : eqT E 100 t x y with
    | none => rw [hb] at h; exact h.elim
    | some b => rw [hb] at h; exact ⟨_, rfl, h⟩
  · cases hb : eqT E 100 t x y with
    | none => rw [hb] at h; exact h.elim
    | some b => rw [hb] at h; exact ⟨_, rfl, h⟩
theorem evBin_eqv {op : BinOp} {t : TypeId} {x y : EV} {K : EV → Prop} (h : evBin E op t x y K) : evBin E op t (x.ren f) (y.ren f) (KV f K) := by
  by_cases h1 : ∃ k a k' b, x = .int k a ∧ y = .int k' b
  · obtain ⟨k, a, k', b, rfl, rfl⟩ := h1
    cases op <;> simp only [evBin, EV.ren] at h ⊢
    all_goals first
      | (rw [gd_iff] at h ⊢; exact ⟨h.1, _, rfl, h.2⟩)
      | (rw [cd_iff] at h ⊢; exact ⟨fun e => intBin_eqv (h.1 e), h.2⟩)
  · by_cases h2 : ∃ a b, x = .str a ∧ y = .str b
    · obtain ⟨a, b, rfl, rfl⟩ := h2
      exact strBin_eqv h
    · rw [evBin_rest (fun k a k' b e1 e2 => h1 ⟨k, a, k', b, e1, e2⟩) (fun a b e1 e2 => h2 ⟨a, b, e1, e2⟩)] at h
      rw [evBin_rest (fun k a k' b e1 e2 => h1 ⟨k, a, k', b, ren_int e1, ren_int e2⟩) (fun a b e1 e2 => h2 ⟨a, b, ren_str e1, ren_str e2⟩)]
      exact eqRest_eqv h
theorem evUn_eqv {op : UnOp} {x : EV} {K : EV → Prop} (h : evUn op x K) : evUn op (x.ren f) (KV f K) := by
  cases op <;> cases x <;> simp only [evUn, EV.ren] at h ⊢ <;> first | exact h.elim | exact ⟨_, rfl, h⟩
theorem evWin_ren {H H' : Heap} (hH : HR f H H') (x : EV) : evWin H' (x.ren f) = evWin H x := by
  cases x <;> simp only [EV.ren, evWin]
  rename_i b off len cap e
  rw [hH.get]
  cases H[b]? with
  | none => rfl
  | some o =>
    cases o with
    | none => rfl
    | some c => cases c <;> rfl
def convRest (E : Env) (si : TI) (x : EV) (H : Heap) (K : EV → Prop) : Prop :=
  match si.td with
  | .slice e => cond (isIntTy E e .u8) (match evWin H x with
    | some (.u8, n, g) => K (.str (bytesOf n g))
    | _ => match x with
      | .nilSlice => K (.str [])
      | _ => False) False
  | _ => False
theorem convRest_eqv {si : TI} {x : EV} {H H' : Heap} {K : EV → Prop} (hH : HR f H H') (h : convRest E si x H K) : convRest E si (x.ren f) H' (KV f K) := by
  unfold convRest at h ⊢
  rw [evWin_ren hH]
  split at h
  case h_2 => exact h.elim
  rename_i e he
  rw [cd_iff] at h
  cases hi : isIntTy E e .u8 with
  | false => exact (h.2 hi).elim
  | true =>
    have h' := h.1 hi
    simp only [cond_true]
    split at h'
    · exact ⟨_, rfl, h'⟩
    · rename_i hw
      split at h'
      · exact ⟨_, rfl, h'⟩
      · exact h'.elim
theorem evConv_eqv {src dst : TypeId} {x : EV} {H H' : Heap} {K : EV → Prop} (hH : HR f H H') (h : evConv E src dst x H K) : evConv E src dst (x.ren f) H' (KV f K) := by
  unfold evConv at h ⊢
  cases hs : E.ty src with
  | none => rw [hs] at h; exact h.elim
  | some si =>
    cases hd : E.ty dst with
    | none => rw [hs, hd] at h; exact h.elim
    | some di =>
      rw [hs, hd] at h
      simp only at h ⊢
      cases htd : di.td <;> simp only [htd] at h ⊢ <;> try exact h.elim
      · cases x <;> simp only [EV.ren] at h ⊢ <;> first | exact h.elim | exact ⟨_, rfl, h⟩
      · rcases (show (∃ s, x = .str s ∧ K (.str s)) ∨ ((∀ s, x ≠ .str s) ∧ convRest E si x H K) from by
          cases x <;> first | exact .inl ⟨_, rfl, h⟩ | exact .inr ⟨(fun s e => by cases e), h⟩) with ⟨s, rfl, h⟩ | ⟨hne, h⟩
        · exact ⟨_, rfl, h⟩
        · have := convRest_eqv hH h
          revert this hne
          cases x <;> intro hne this <;> first | exact this | exact absurd rfl (hne _)
theorem pickL_eqv {F G : Nat → EV → Prop} (hF : ∀ j u, F j u → G j (u.ren f)) : ∀ (l : List EV) (j : Nat) (i : Int), pickL F l j i → pickL G (EV.renL f l) j i
  | [], _, _, h => h
  | u :: l, j, i, h => by
    simp only [pickL, EV.renL, br_iff] at h ⊢
    exact ⟨fun e => hF j u (h.1 e), fun e => pickL_eqv hF l (j + 1) i (h.2 e)⟩
theorem allSize_ren (n : Nat) : ∀ (l : List EV), allSize n (EV.renL f l) = allSize n l
  | [] => rfl
  | u :: l => by simp only [EV.renL, allSize, shape_ren, allSize_ren n l]
theorem evIndex_eqv {t : TypeId} {x i : EV} {K : EV → Prop} (h : evIndex E t x i K) : evIndex E t (x.ren f) (i.ren f) (KV f K) := by
  unfold evIndex at h ⊢
  split at h
  case h_2 => exact h.elim
  rename_i ti k i ht
  simp only [ht, EV.ren]
  split at h
  · rename_i n e k m g hq
    simp only [hq, EV.ren]
    rw [cd_iff] at h ⊢
    refine ⟨fun hc => ?_, fun hc => (h.2 hc).elim⟩
    have := h.1 hc
    rw [gd_iff] at this ⊢
    exact ⟨this.1, _, rfl, this.2⟩
  · rename_i n e l hq
    simp only [hq, EV.ren, renL_length]
    cases he : E.ty e <;> simp only [he, allSize_ren] at h ⊢ <;> rw [cd_iff] at h ⊢
    · exact ⟨fun hc => by simp at hc, fun hc => (h.2 hc).elim⟩
    refine ⟨fun hc => ?_, fun hc => (h.2 hc).elim⟩
    refine pickL_eqv (fun j u hu => ?_) l 0 i (h.1 hc)
    rw [gd_iff] at hu ⊢
    exact ⟨by rw [conf_ren]; exact hu.1, _, rfl, hu.2⟩
  · rename_i n e m s g hq
    simp only [hq, EV.ren]
    rw [cd_iff] at h ⊢
    refine ⟨fun hc => ?_, fun hc => (h.2 hc).elim⟩
    have := h.1 hc
    rw [gd_iff] at this ⊢
    exact ⟨this.1, _, (val_ren f s 0 _).symm, this.2⟩
  · rename_i s hq
    simp only [hq, EV.ren]
    rw [gd_iff] at h ⊢
    exact ⟨h.1, _, rfl, h.2⟩
  · exact h.elim
theorem evField_eqv {t : TypeId} {x : EV} {i : Nat} {K : EV → Prop} (h : evField E t x i K) : evField E t (x.ren f) i (KV f K) := by
  unfold evField at h ⊢
  split at h
  case h_2 => exact h.elim
  rename_i ti ht
  split at h
  case h_2 => exact h.elim
  rename_i fs l hq
  simp only [hq, EV.ren, renL_get]
  split at h
  case h_2 => exact h.elim
  rename_i o ft u hf hl
  simp only [hf, hl, Option.map_some]
  rw [gd_iff] at h ⊢
  refine ⟨?_, _, rfl, h.2⟩
  rw [conf_ren]
  have : EV.shapeL ((EV.renL f l).take i) = EV.shapeL (l.take i) := by
    rw [renL_map, ← List.map_take, ← renL_map, shapeL_ren]
  rw [this]; exact h.1
theorem evFieldAddr_eqv {t : TypeId} {x : EV} {i : Nat} {H H' : Heap} {K : EV → Prop} (hH : HR f H H') (h : evFieldAddr E t x i H K) : evFieldAddr E t (x.ren f) i H' (KV f K) := by
  unfold evFieldAddr at h ⊢
  cases ht : E.ty t with
  | none => rw [ht] at h; exact h.elim
  | some ti =>
    rw [ht] at h
    simp only at h ⊢
    cases htd : ti.td <;> simp only [htd] at h ⊢ <;> try exact h.elim
    rename_i fs
    cases hf : fs[i]? with
    | none => rw [hf] at h; exact h.elim
    | some q =>
      obtain ⟨o, ft⟩ := q
      rw [hf] at h
      simp only at h ⊢
      cases hft : E.ty ft with
      | none => rw [hft] at h; exact h.elim
      | some fi =>
        rw [hft] at h
        simp only at h ⊢
        cases x <;> simp only [EV.ren] at h ⊢ <;> try exact h.elim
        case ptr b p =>
          cases hb : H[b]? with
          | none => rw [hb] at h; exact h.elim
          | some oc =>
            cases oc with
            | none => rw [hb] at h; exact h.elim
            | some c =>
              rw [hb] at h
              rw [hH.live hb]
              simp only [get_ren] at h ⊢
              cases hg : EV.get p c with
              | none => rw [hg] at h; exact h.elim
              | some u =>
                rw [hg] at h
                simp only [Option.map_some] at h ⊢
                rw [gd_iff] at h ⊢
                refine ⟨?_, _, rfl, h.2⟩
                rw [shape_ren]; exact h.1
        case rref v =>
          cases v <;> simp only [EV.ren] at h ⊢ <;> try exact h.elim
          rename_i l
          rw [renL_get]
          cases hl : l[i]? with
          | none => rw [hl] at h; exact h.elim
          | some u =>
            rw [hl] at h
            simp only [Option.map_some] at h ⊢
            rw [gd_iff] at h ⊢
            refine ⟨?_, _, rfl, h.2⟩
            have : EV.shapeL ((EV.renL f l).take i) = EV.shapeL (l.take i) := by
              rw [renL_map, ← List.map_take, ← renL_map, shapeL_ren]
            rw [this]; exact h.1
theorem evNil_eqv {x : EV} {H H' : Heap} {K : EV → Prop} (hH : HR f H H') (h : evNil x H K) : evNil (x.ren f) H' (KV f K) := by
  unfold evNil at h ⊢
  cases x <;> simp only [EV.ren] at h ⊢ <;> try exact h.elim
  case ptr b p =>
    cases hb : H[b]? with
    | none => rw [hb] at h; exact h.elim
    | some oc =>
      cases oc with
      | none => rw [hb] at h; exact h.elim
      | some c =>
        rw [hb] at h
        rw [hH.live hb]
        simp only [get_ren] at h ⊢
        cases hg : EV.get p c with
        | none => rw [hg] at h; exact h.elim
        | some u =>
          rw [hg] at h
          exact ⟨.ptr b p, rfl, h⟩
  case rref v => exact ⟨.rref v, rfl, h⟩
  case func g l => exact ⟨.func g l, rfl, h⟩
  case bnd g l => exact ⟨.bnd g l, rfl, h⟩
  case iface t v => exact ⟨.iface t v, rfl, h⟩
theorem nilEq_eqv {op : BinOp} {b : Bool} {K : EV → Prop} (h : nilEq op b K) : nilEq op b (KV f K) := by
  cases op <;> first | exact ⟨_, rfl, h⟩ | exact h.elim
theorem evCmp_eqv {op : BinOp} {t : TypeId} {o : Operand} {x y : EV} {H H' : Heap} {K : EV → Prop} (hH : HR f H H') (h : evCmp E op t o x y H K) : evCmp E op t o (x.ren f) (y.ren f) H' (KV f K) := by
  unfold evCmp at h ⊢
  cases h1 : Nat.beq (nilK o) 1 with
  | true =>
    rw [h1] at h
    simp only [cond_true] at h ⊢
    unfold evPN at h ⊢
    cases x <;> simp only [EV.ren] at h ⊢ <;> try exact h.elim
    · cases h2 : tdIs E t 1 with
      | true => rw [h2] at h; exact nilEq_eqv h
      | false => rw [h2] at h; exact h.elim
    · rename_i b q
      cases h2 : tdIs E t 1 with
      | true =>
        rw [h2] at h
        simp only [cond_true] at h ⊢
        have := evNil_eqv hH h
        simp only [EV.ren] at this
        unfold evNil at this ⊢
        simp only at this ⊢
        split at this
        · split at this
          · obtain ⟨_, _, hk⟩ := this
            exact nilEq_eqv hk
          · exact this.elim
        · exact this.elim
      | false => rw [h2] at h; exact h.elim
  | false =>
    rw [h1] at h
    simp only [cond_false] at h ⊢
    cases h2 : Nat.beq (nilK o) 2 with
    | true =>
      rw [h2] at h
      simp only [cond_true] at h ⊢
      unfold evIN at h ⊢
      cases x <;> simp only [EV.ren] at h ⊢ <;> try exact h.elim
      all_goals
        cases h3 : tdIs E t 0 with
        | true => rw [h3] at h; exact nilEq_eqv h
        | false => rw [h3] at h; exact h.elim
    | false => rw [h2] at h; exact evBin_eqv h
theorem evIndexAddr_eqv {t : TypeId} {x i : EV} {H H' : Heap} {K : EV → Prop} (hH : HR f H H') (h : evIndexAddr E t x i H K) : evIndexAddr E t (x.ren f) (i.ren f) H' (KV f K) := by
  unfold evIndexAddr at h ⊢
  cases ht : E.ty t with
  | none => rw [ht] at h; exact h.elim
  | some ti =>
    rw [ht] at h
    cases i <;> simp only [EV.ren] at h ⊢ <;> try exact h.elim
    rename_i ki i
    cases htd : ti.td <;> simp only [htd] at h ⊢ <;> try exact h.elim
    case slice e =>
      cases he : E.ty e with
      | none => rw [he] at h; exact h.elim
      | some ei =>
        rw [he] at h
        simp only at h ⊢
        cases x <;> simp only [EV.ren] at h ⊢ <;> try exact h.elim
        case slice b off len cap es =>
          cases hb : H[b]? with
          | none => rw [hb] at h; exact h.elim
          | some oc =>
            cases oc with
            | none => rw [hb] at h; exact h.elim
            | some c =>
              rw [hb] at h
              rw [hH.live hb]
              simp only at h ⊢
              rw [gd_iff] at h ⊢
              refine ⟨h.1, ?_⟩
              have h2 := h.2
              cases c <;> simp only [EV.ren] at h2 ⊢ <;> first | exact ⟨_, rfl, h2⟩ | skip
              rw [renL_map, ← List.map_drop, ← renL_map]
              exact pickL_eqv (fun j u hu => ⟨_, rfl, hu⟩) _ 0 i h2
        case rsI k n g =>
          rw [gd_iff] at h ⊢
          exact ⟨h.1, _, rfl, h.2⟩
        case rsT n s g =>
          rw [gd_iff] at h ⊢
          exact ⟨h.1, _, by rw [EV.ren, val_ren], h.2⟩
    case array n e =>
      cases he : E.ty e with
      | none => rw [he] at h; exact h.elim
      | some ei =>
        rw [he] at h
        simp only at h ⊢
        cases x <;> simp only [EV.ren] at h ⊢ <;> try exact h.elim
        case ptr b p =>
          cases hb : H[b]? with
          | none => rw [hb] at h; exact h.elim
          | some oc =>
            cases oc with
            | none => rw [hb] at h; exact h.elim
            | some c =>
              rw [hb] at h
              rw [hH.live hb]
              simp only [get_ren] at h ⊢
              cases hg : EV.get p c with
              | none => rw [hg] at h; exact h.elim
              | some u =>
                rw [hg] at h
                simp only [Option.map_some] at h ⊢
                cases u <;> simp only [EV.ren] at h ⊢ <;> try exact h.elim
                case arr k m g =>
                  rw [cd_iff] at h ⊢
                  refine ⟨fun hc => ?_, h.2⟩
                  have := h.1 hc
                  rw [gd_iff] at this ⊢
                  exact ⟨this.1, _, rfl, this.2⟩
                case agg l =>
                  rw [renL_length, allSize_ren]
                  rw [cd_iff] at h ⊢
                  exact ⟨fun hc => pickL_eqv (fun j u hu => ⟨_, rfl, hu⟩) l 0 i (h.1 hc), h.2⟩
                case arrT m s g =>
                  rw [cd_iff] at h ⊢
                  refine ⟨fun hc => ?_, h.2⟩
                  have := h.1 hc
                  rw [gd_iff] at this ⊢
                  exact ⟨this.1, _, rfl, this.2⟩
        case rref v =>
          cases v <;> simp only [EV.ren] at h ⊢ <;> try exact h.elim
          case arr k m g =>
            rw [cd_iff] at h ⊢
            exact ⟨fun hc => ⟨(h.1 hc).1, _, rfl, (h.1 hc).2⟩, h.2⟩
          case arrT m s g =>
            rw [cd_iff] at h ⊢
            refine ⟨fun hc => ?_, h.2⟩
            have := h.1 hc
            rw [gd_iff] at this ⊢
            exact ⟨this.1, _, by rw [EV.ren, val_ren], this.2⟩
theorem evExtract_eqv {x : EV} {i : Nat} {K : EV → Prop} (h : evExtract x i K) : evExtract (x.ren f) i (KV f K) := by
  cases x <;> simp only [evExtract, EV.ren] at h ⊢ <;> try exact h.elim
  rename_i l
  rw [renL_get]
  cases hl : l[i]? with
  | none => rw [hl] at h; exact h.elim
  | some u => rw [hl] at h; exact ⟨_, rfl, h⟩
def renP (f : Nat → Nat) (ps : List (Nat × EV)) : List (Nat × EV) := ps.map fun p => (p.1, p.2.ren f)
theorem evParts_ren (place : Nat → Option (Nat × Nat)) : ∀ (ps : List (Nat × EV)) (z : EV), evParts place (renP f ps) (z.ren f) = (evParts place ps z).map (EV.ren f)
  | [], z => rfl
  | (i, x) :: r, z => by
    have ih := fun z' => evParts_ren place r z'
    simp only [renP, List.map_cons, evParts, shape_ren, set_ren] at ih ⊢
    cases place i with
    | none => rfl
    | some q =>
      cases Shape.off [i] z.shape with
      | none => rfl
      | some o' =>
        cases EV.set [i] z x with
        | none => rfl
        | some z' =>
          simp only [Option.map_some]
          cases (Nat.beq q.fst o' && Nat.beq q.snd x.shape.size) with
          | false => rfl
          | true => simp only [cond_true, ih]
structure Closed (E : Env) : Prop where
  ty : ∀ t ti, E.ty t = some ti → ti.zero.inI [] = true
  gl : ∀ g v, E.gl g = some v → v.inI [] = true
theorem evBuild_eqv (hC : Closed E) {t : TypeId} {ps : List (Nat × EV)} {K : EV → Prop} (h : evBuild E t ps K) : evBuild E t (renP f ps) (KV f K) := by
  unfold evBuild at h ⊢
  cases ht : E.ty t with
  | none => rw [ht] at h; exact h.elim
  | some ti =>
    rw [ht] at h
    simp only at h ⊢
    have hz := ren_in (f := f) ti.zero (hC.ty t ti ht)
    rw [gd_iff] at h ⊢
    refine ⟨h.1, ?_⟩
    have h := h.2
    have hp : ∀ place, evParts place (renP f ps) ti.zero = (evParts place ps ti.zero).map (EV.ren f) := fun place => by
      have := evParts_ren (f := f) place ps ti.zero
      rwa [hz] at this
    cases htd : ti.td <;> simp only [htd] at h ⊢ <;> try exact h.elim
    case struct fs =>
      rw [hp]
      split at h
      · rename_i v hv
        simp only [hv, Option.map_some]
        rw [gd_iff] at h ⊢
        exact ⟨h.1, _, rfl, h.2⟩
      · exact h.elim
    case array n e =>
      split at h
      case h_2 => exact h.elim
      rename_i n he
      rw [hp]
      split at h
      · rename_i v hv
        simp only [hv, Option.map_some]
        exact ⟨_, rfl, h⟩
      · exact h.elim
theorem evBuildSlice_eqv (hC : Closed E) {k : Nat} {t : TypeId} {n : Nat} {ps : List (Nat × EV)} {H H' : Heap} {K : EV → Heap → Prop} (hs : Shf k H.length f) (hH : HR f H H') (h : evBuildSlice E t n ps H K) :
    evBuildSlice E t n (renP f ps) H' (KR f H.length K) := by
  have push : ∀ (v : EV) (off len : Nat) (cap : Option Nat) (e : Nat), K (.slice H.length off len cap e) (H ++ [some v]) → KR f H.length K (.slice H'.length off len cap e) (H' ++ [some (v.ren f)]) := fun v off len cap e hK =>
    ⟨.slice H.length off len cap e, H ++ [some v], by rw [EV.ren, hs.high _ (Nat.le_refl _), hH.len], hH.push hs (some v), by simp, hK⟩
  unfold evBuildSlice at h ⊢
  cases ht : E.ty t with
  | none => rw [ht] at h; exact h.elim
  | some ti =>
    rw [ht] at h
    simp only at h ⊢
    cases htd : ti.td <;> simp only [htd] at h ⊢ <;> try exact h.elim
    rename_i e
    cases he : E.ty e with
    | none => rw [he] at h; exact h.elim
    | some ei =>
      rw [he] at h
      simp only at h ⊢
      rw [gd_iff] at h ⊢
      refine ⟨h.1, ?_⟩
      have h := h.2
      have hz := ren_in (f := f) ei.zero (hC.ty e ei he)
      by_cases hi : ∃ q z, ei.zero = .int q z
      · obtain ⟨q, z, hi⟩ := hi
        simp only [hi] at h ⊢
        rw [gd_iff] at h ⊢
        refine ⟨h.1, ?_⟩
        have h := h.2
        have hp := evParts_ren (f := f) (fun i => some (i * 1, 1)) ps (.arr q n (fun _ => z))
        simp only [EV.ren] at hp
        rw [hp]
        split at h
        · rename_i v hv
          simp only [hv, Option.map_some]
          exact push v _ _ _ _ h
        · exact h.elim
      · have key : ∀ (X : Prop) (A : EV → Prop), (match ei.zero with | .int k z => X | z => A z) → A ei.zero := by
          intro X A hX
          split at hX
          · rename_i q z hq; exact (hi ⟨q, z, hq⟩).elim
          · exact hX
        have back : ∀ (X : IntKind → Int → Prop) (A : EV → Prop), A ei.zero → (match ei.zero with | .int k z => X k z | z => A z) := by
          intro X A hA
          split
          · rename_i q z hq; exact (hi ⟨q, z, hq⟩).elim
          · exact hA
        have key : ∀ (X : IntKind → Int → Prop) (A : EV → Prop), (match ei.zero with | .int k z => X k z | z => A z) → A ei.zero := by
          intro X A hX
          split at hX
          · rename_i q z hq; exact (hi ⟨q, z, hq⟩).elim
          · exact hX
        have h := key _ _ h
        refine back _ _ ?_
        rw [gd_iff] at h ⊢
        refine ⟨h.1, ?_⟩
        have h := h.2
        have hp := evParts_ren (f := f) (fun i => some (i * ei.size, ei.size)) ps (.agg (List.replicate n ei.zero))
        simp only [EV.ren, renL_map, List.map_replicate, hz] at hp
        rw [hp]
        split at h
        · rename_i v hv
          simp only [hv, Option.map_some]
          exact push v _ _ _ _ h
        · exact h.elim
theorem evLen_eqv {t : TypeId} {x : EV} {K : EV → Prop} (h : evLen E t x K) : evLen E t (x.ren f) (KV f K) := by
  unfold evLen at h ⊢
  cases ht : E.ty t with
  | none => rw [ht] at h; exact h.elim
  | some ti =>
    rw [ht] at h
    simp only at h ⊢
    cases htd : ti.td <;> simp only [htd] at h ⊢ <;> try exact h.elim
    all_goals (cases x <;> simp only [EV.ren] at h ⊢ <;> first | exact h.elim | exact ⟨_, rfl, h⟩)
theorem foldMM_ren (g : Int → Int → Int) : ∀ (l : List EV) (x : EV), foldMM g (x.ren f) (l.map (EV.ren f)) = (foldMM g x l).map (EV.ren f)
  | [], x => by cases x <;> rfl
  | y :: r, x => by
    cases x <;> cases y <;> first | rfl | exact foldMM_ren g r (.int _ (g _ _))
theorem evMM_eqv {g : Int → Int → Int} {xs : List EV} {K : EV → Prop} (h : evMM g xs K) : evMM g (xs.map (EV.ren f)) (KV f K) := by
  cases xs with
  | nil => exact h
  | cons x r =>
    simp only [evMM, List.map_cons, foldMM_ren] at h ⊢
    split at h
    · rename_i v hv
      simp only [hv, Option.map_some]
      exact ⟨_, rfl, h⟩
    · exact h.elim
theorem oInt_ren (d : Nat) (o : Option EV) : oInt d (o.map (EV.ren f)) = oInt d o := by
  cases o with
  | none => rfl
  | some v => cases v <;> rfl
theorem evSlice_eqv {t : TypeId} {x : EV} {lo hi mx : Option EV} {H H' : Heap} {K : EV → Prop} (hH : HR f H H') (h : evSlice E t x lo hi mx H K) :
    evSlice E t (x.ren f) (lo.map (EV.ren f)) (hi.map (EV.ren f)) (mx.map (EV.ren f)) H' (KV f K) := by
  unfold evSlice at h ⊢
  cases mx with
  | some m => exact h.elim
  | none =>
    cases ht : E.ty t with
    | none => rw [ht] at h; exact h.elim
    | some ti =>
      rw [ht] at h
      simp only [Option.map_none, oInt_ren] at h ⊢
      cases htd : ti.td <;> simp only [htd] at h ⊢ <;> try exact h.elim
      case str =>
        cases x <;> simp only [EV.ren] at h ⊢ <;> try exact h.elim
        rename_i s
        cases hl : oInt 0 lo with
        | none => rw [hl] at h; exact h.elim
        | some l =>
          cases hh : oInt s.length hi with
          | none => rw [hl, hh] at h; exact h.elim
          | some q =>
            rw [hl, hh] at h
            simp only at h ⊢
            rw [gd_iff] at h ⊢
            exact ⟨h.1, _, rfl, h.2⟩
      case slice e =>
        cases x <;> simp only [EV.ren] at h ⊢ <;> try exact h.elim
        case slice b off len cap es =>
          cases hl : oInt 0 lo with
          | none => rw [hl] at h; exact h.elim
          | some l =>
            cases hh : oInt len hi with
            | none => rw [hl, hh] at h; exact h.elim
            | some q =>
              cases hb : H[b]? with
              | none => rw [hl, hh, hb] at h; exact h.elim
              | some oc =>
                cases oc with
                | none => rw [hl, hh, hb] at h; exact h.elim
                | some c =>
                  rw [hl, hh, hb] at h
                  rw [hH.live hb]
                  simp only at h ⊢
                  rw [gd_iff] at h ⊢
                  exact ⟨h.1, _, rfl, h.2⟩
        case rsI k n g =>
          cases hl : oInt 0 lo with
          | none => rw [hl] at h; exact h.elim
          | some l =>
            cases hh : oInt n hi with
            | none => rw [hl, hh] at h; exact h.elim
            | some q =>
              rw [hl, hh] at h
              simp only at h ⊢
              rw [gd_iff] at h ⊢
              exact ⟨h.1, _, rfl, h.2⟩
        case nilSlice =>
          cases hl : oInt 0 lo with
          | none => rw [hl] at h; exact h.elim
          | some l =>
            cases hh : oInt 0 hi with
            | none => rw [hl, hh] at h; exact h.elim
            | some q =>
              rw [hl, hh] at h
              simp only at h ⊢
              rw [gd_iff] at h ⊢
              exact ⟨h.1, _, rfl, h.2⟩
      case array na e =>
        cases x <;> simp only [EV.ren] at h ⊢ <;> try exact h.elim
        rename_i b p
        cases p with
        | cons _ _ => exact h.elim
        | nil =>
          simp only at h ⊢
          cases hl : oInt 0 lo with
          | none => rw [hl] at h; exact h.elim
          | some l =>
            cases hh : oInt na hi with
            | none => rw [hl, hh] at h; exact h.elim
            | some q =>
              cases hb : H[b]? with
              | none => rw [hl, hh, hb] at h; exact h.elim
              | some oc =>
                cases oc with
                | none => rw [hl, hh, hb] at h; exact h.elim
                | some c =>
                  rw [hl, hh, hb] at h
                  rw [hH.live hb]
                  cases c <;> simp only [EV.ren] at h ⊢ <;> try exact h.elim
                  rw [gd_iff] at h ⊢
                  exact ⟨h.1, _, rfl, h.2⟩
theorem evSliceA_eqv {t : TypeId} {x : EV} {lo hi mx : Option EV} {H H' : Heap} {K : EV → Prop} (hH : HR f H H') (h : evSliceA E t x lo hi mx H K) :
    evSliceA E t (x.ren f) (lo.map (EV.ren f)) (hi.map (EV.ren f)) (mx.map (EV.ren f)) H' (KV f K) := by
  cases x
  case rsT n s g =>
    simp only [evSliceA, EV.ren] at h ⊢
    unfold evSliceT at h ⊢
    cases mx with
    | some m => exact h.elim
    | none =>
      cases ht : E.ty t with
      | none => rw [ht] at h; exact h.elim
      | some ti =>
        rw [ht] at h
        simp only [Option.map_none, oInt_ren] at h ⊢
        cases htd : ti.td <;> simp only [htd] at h ⊢ <;> try exact h.elim
        cases hl : oInt 0 lo with
        | none => rw [hl] at h; exact h.elim
        | some l =>
          cases hh : oInt n hi with
          | none => rw [hl, hh] at h; exact h.elim
          | some q =>
            rw [hl, hh] at h
            simp only at h ⊢
            rw [gd_iff] at h ⊢
            exact ⟨h.1, _, rfl, h.2⟩
  all_goals exact evSlice_eqv hH h
theorem evWinT_ren {H H' : Heap} (hH : HR f H H') (x : EV) (s : Sk) : evWinT H' (x.ren f) s = evWinT H x s := by
  cases x <;> try rfl
  rename_i b off len cap es
  simp only [EV.ren, evWinT]
  cases hb : H[b]? with
  | none => rw [hH.get, hb]; rfl
  | some o =>
    cases o with
    | none => rw [hH.get, hb]; rfl
    | some c =>
      rw [hH.live hb]
      cases c <;> try rfl
      rename_i l
      cases l with
      | nil => rfl
      | cons v l =>
        cases l with
        | nil => simp only [EV.ren, EV.renL, un_ren]
        | cons _ _ => rfl
theorem evMakeSlice_eqv (hC : Closed E) {k : Nat} {t : TypeId} {ln cp : EV} {H H' : Heap} {K : EV → Heap → Prop} (hs : Shf k H.length f) (hH : HR f H H') (h : evMakeSlice E t ln cp H K) :
    evMakeSlice E t (ln.ren f) (cp.ren f) H' (KR f H.length K) := by
  unfold evMakeSlice at h ⊢
  cases ht : E.ty t with
  | none => rw [ht] at h; exact h.elim
  | some ti =>
    rw [ht] at h
    cases ln <;> simp only [EV.ren] at h ⊢ <;> try exact h.elim
    cases cp <;> simp only [EV.ren] at h ⊢ <;> try exact h.elim
    cases htd : ti.td <;> simp only [htd] at h ⊢ <;> try exact h.elim
    rename_i e
    cases he : E.ty e with
    | none => rw [he] at h; exact h.elim
    | some ei =>
      rw [he] at h
      simp only at h ⊢
      cases hz : ei.zero <;> simp only [hz] at h ⊢ <;> try exact h.elim
      rw [gd_iff] at h ⊢
      exact ⟨h.1, _, _, by rw [EV.ren, hs.high _ (Nat.le_refl _), hH.len], hH.push hs (some _), by simp, h.2⟩
theorem evMakeSliceA_eqv (hC : Closed E) {k : Nat} {t : TypeId} {ln cp : EV} {H H' : Heap} {K : EV → Heap → Prop} (hs : Shf k H.length f) (hH : HR f H H') (h : evMakeSliceA E t ln cp H K) :
    evMakeSliceA E t (ln.ren f) (cp.ren f) H' (KR f H.length K) := by
  unfold evMakeSliceA at h ⊢
  rw [cd_iff] at h ⊢
  refine ⟨fun he => evMakeSlice_eqv hC hs hH (h.1 he), fun he => ?_⟩
  replace h := h.2 he
  unfold evMakeSliceT at h ⊢
  cases ht : E.ty t with
  | none => rw [ht] at h; exact h.elim
  | some ti =>
    rw [ht] at h
    cases ln <;> simp only [EV.ren] at h ⊢ <;> try exact h.elim
    cases cp <;> simp only [EV.ren] at h ⊢ <;> try exact h.elim
    cases htd : ti.td <;> simp only [htd] at h ⊢ <;> try exact h.elim
    rename_i e
    cases he : E.ty e with
    | none => rw [he] at h; exact h.elim
    | some ei =>
      rw [he] at h
      simp only at h ⊢
      cases hz : Sk.of ei.zero with
      | none => rw [hz] at h; exact h.elim
      | some s =>
        rw [hz] at h
        simp only at h ⊢
        rw [gd_iff] at h ⊢
        exact ⟨h.1, _, _, by rw [EV.ren, hs.high _ (Nat.le_refl _), hH.len], hH.push hs (some _), by simp, h.2⟩
theorem evCopy_eqv {k : Nat} {t : TypeId} {d x : EV} {H H' : Heap} {K : EV → Heap → Prop} (hs : Shf k H.length f) (hH : HR f H H') (h : evCopy E t d x H K) :
    evCopy E t (d.ren f) (x.ren f) H' (KR f H.length K) := by
  unfold evCopy at h ⊢
  cases ht : E.ty t with
  | none => rw [ht] at h; exact h.elim
  | some ti =>
    rw [ht] at h
    cases d <;> simp only [EV.ren] at h ⊢ <;> try exact h.elim
    rename_i b off len cap e
    by_cases he : e = 1
    · subst he
      simp only [evWin_ren hH] at h ⊢
      cases htd : ti.td <;> simp only [htd] at h ⊢ <;> try exact h.elim
      cases hb : H[b]? with
      | none => rw [hb] at h; exact h.elim
      | some oc =>
        cases oc with
        | none => rw [hb] at h; exact h.elim
        | some c =>
          rw [hb] at h
          rw [hH.live hb]
          cases c <;> simp only [EV.ren] at h ⊢ <;> try exact h.elim
          cases hw : evWin H x with
          | none => rw [hw] at h; exact h.elim
          | some q =>
            obtain ⟨k', m, g'⟩ := q
            rw [hw] at h
            simp only at h ⊢
            rw [gd_iff] at h ⊢
            exact ⟨h.1, _, _, rfl, hH.set hs.inj b (some _), by simp, h.2⟩
    · split at h
      · rename_i q1 q2 q3; simp at q3; exact absurd q3.2.2.2.2 he
      · exact h.elim
theorem evAppend_eqv {k : Nat} {t t' : TypeId} {s x : EV} {H H' : Heap} {K : EV → Heap → Prop} (hs : Shf k H.length f) (hH : HR f H H') (h : evAppend E t t' s x H K) :
    evAppend E t t' (s.ren f) (x.ren f) H' (KR f H.length K) := by
  unfold evAppend at h ⊢
  cases ht : E.ty t with
  | none => rw [ht] at h; exact h.elim
  | some ti =>
    cases ht' : E.ty t' with
    | none => rw [ht, ht'] at h; exact h.elim
    | some ti' =>
      rw [ht, ht'] at h
      simp only [evWin_ren hH] at h ⊢
      cases htd : ti.td <;> simp only [htd] at h ⊢ <;> try exact h.elim
      rename_i e
      cases htd' : ti'.td <;> simp only [htd'] at h ⊢ <;> try exact h.elim
      cases hw : evWin H x with
      | none => rw [hw] at h; exact h.elim
      | some q =>
        obtain ⟨kk, m, g'⟩ := q
        rw [hw] at h
        simp only at h ⊢
        cases he : E.ty e with
        | none => rw [he] at h; exact h.elim
        | some ei =>
          rw [he] at h
          simp only at h ⊢
          cases hz : ei.zero <;> simp only [hz] at h ⊢ <;> try exact h.elim
          rw [gd_iff] at h ⊢
          refine ⟨h.1, ?_⟩
          replace h := h.2
          have hp : ∀ (o : Option EV) off len cap e, K (.slice H.length off len cap e) (H ++ [o]) → KR f H.length K (.slice H'.length off len cap e) (H' ++ [renO f o]) := fun o off len cap e hK =>
            ⟨_, _, by rw [EV.ren, hs.high _ (Nat.le_refl _), hH.len], hH.push hs o, by simp, hK⟩
          cases s <;> simp only [EV.ren] at h ⊢ <;> try exact h.elim
          case nilSlice =>
            rw [gd_iff] at h ⊢
            refine ⟨h.1, ?_⟩
            replace h := h.2
            rw [br_iff] at h ⊢
            exact ⟨fun e => ⟨_, _, rfl, hH, Nat.le_refl _, h.1 e⟩, fun e => hp _ _ _ _ _ (h.2 e)⟩
          case slice b off len cap es =>
            by_cases hes : es = 1
            · subst hes
              simp only at h ⊢
              cases hb : H[b]? with
              | none => rw [hb] at h; exact h.elim
              | some oc =>
                cases oc with
                | none => rw [hb] at h; exact h.elim
                | some c =>
                  rw [hb] at h
                  rw [hH.live hb]
                  cases c <;> try exact h.elim
                  show gd _ _
                  replace h : gd _ _ := h
                  rw [gd_iff] at h ⊢
                  refine ⟨h.1, _, _, by rw [EV.ren, hs.high _ (Nat.le_refl _), hH.len], (hH.set hs.inj b none).push (n := k) (by rw [List.length_set]; exact hs) (some _), by simp, h.2⟩
            · exfalso
              match es, hes, h with
              | 0, _, h => exact h
              | 1, hes, _ => exact hes rfl
              | n + 2, _, h => exact h
end eqv
section call
variable {E : Env} {f : Nat → Nat}
theorem beq_map (hi : ∀ a b, f a = f b → a = b) (a b : Nat) : Nat.beq (f a) (f b) = Nat.beq a b := by
  by_cases h : a = b
  · subst h; rw [Nat.beq_refl, Nat.beq_refl]
  · have e1 : Nat.beq a b = false := by rw [Bool.eq_false_iff]; intro e; exact h (Nat.eq_of_beq_eq_true e)
    have e2 : Nat.beq (f a) (f b) = false := by rw [Bool.eq_false_iff]; intro e; exact h (hi _ _ (Nat.eq_of_beq_eq_true e))
    rw [e1, e2]
theorem memN_map (hi : ∀ a b, f a = f b → a = b) (b : Nat) : ∀ (l : List Nat), memN (f b) (l.map f) = memN b l
  | [] => rfl
  | c :: l => by
    simp only [List.map_cons, memN, memN_map hi b l]
    congr 1
    exact beq_map hi b c
mutual
theorem inI_ren (hi : ∀ a b, f a = f b → a = b) (idx : List Nat) : ∀ (v : EV), (v.ren f).inI (idx.map f) = v.inI idx
  | .ptr b _ => by simp only [EV.ren, EV.inI, memN_map hi]
  | .slice b _ _ _ _ => by simp only [EV.ren, EV.inI, memN_map hi]
  | .rref v => by simp only [EV.ren, EV.inI, inI_ren hi idx v]
  | .agg l => by simp only [EV.ren, EV.inI, inIL_ren hi idx l]
  | .tuple l => by simp only [EV.ren, EV.inI, inIL_ren hi idx l]
  | .func _ l => by simp only [EV.ren, EV.inI, inIL_ren hi idx l]
  | .bnd _ l => by simp only [EV.ren, EV.inI, inIL_ren hi idx l]
  | .iface _ v => by simp only [EV.ren, EV.inI, inI_ren hi idx v]
  | .rsI _ _ _ => rfl | .undef => rfl
  | .bool _ => rfl | .int _ _ => rfl | .str _ => rfl | .nilPtr => rfl | .nilSlice => rfl | .nilFunc => rfl | .arr _ _ _ => rfl | .nilIface => rfl
  | .rsT _ _ _ => rfl | .arrT _ _ _ => rfl
theorem inIL_ren (hi : ∀ a b, f a = f b → a = b) (idx : List Nat) : ∀ (l : List EV), EV.inIL (idx.map f) (EV.renL f l) = EV.inIL idx l
  | [] => rfl
  | v :: l => by simp only [EV.renL, EV.inIL, inI_ren hi idx v, inIL_ren hi idx l]
end
theorem inIH_ren (hi : ∀ a b, f a = f b → a = b) {H H' : Heap} (hH : HR f H H') (idx : List Nat) : ∀ (l : List Nat), inIH (idx.map f) H' (l.map f) = inIH idx H l
  | [] => rfl
  | b :: l => by
    simp only [List.map_cons, inIH, inIH_ren hi hH idx l, hH.get]
    cases H[b]? with
    | none => rfl
    | some o =>
      cases o with
      | none => rfl
      | some v => simp only [Option.map_some, renO, inI_ren hi]
theorem allLt_ren {k m : Nat} (hs : Shf k m f) : ∀ (l : List Nat), allLt m (l.map f) = allLt m l
  | [] => rfl
  | b :: l => by
    simp only [List.map_cons, allLt, allLt_ren hs l]
    congr 1
    by_cases h : b < m
    · rw [show Nat.blt b m = true from by simpa using h, show Nat.blt (f b) m = true from by simpa using hs.lt h]
    · have h' : ¬ f b < m := fun e => h (hs.lt' e)
      have e1 : Nat.blt b m = false := by rw [Bool.eq_false_iff]; intro e; exact h (by simpa using e)
      have e2 : Nat.blt (f b) m = false := by rw [Bool.eq_false_iff]; intro e; exact h' (by simpa using e)
      rw [e1, e2]
theorem noneIn_ren (hi : ∀ a b, f a = f b → a = b) (idx : List Nat) : ∀ (l : List Nat), noneIn (idx.map f) (l.map f) = noneIn idx l
  | [] => rfl
  | b :: l => by simp only [List.map_cons, noneIn, memN_map hi, noneIn_ren hi idx l]
mutual
theorem blkL_ren : ∀ (v : EV), (v.ren f).blkL = v.blkL.map f
  | .ptr b _ => rfl
  | .slice b _ _ _ _ => rfl
  | .rref v => by simp only [EV.ren, EV.blkL, blkL_ren v]
  | .agg l => by simp only [EV.ren, EV.blkL, blkLL_ren l]
  | .tuple l => by simp only [EV.ren, EV.blkL, blkLL_ren l]
  | .func _ l => by simp only [EV.ren, EV.blkL, blkLL_ren l]
  | .bnd _ l => by simp only [EV.ren, EV.blkL, blkLL_ren l]
  | .iface _ v => by simp only [EV.ren, EV.blkL, blkL_ren v]
  | .rsI _ _ _ => rfl | .undef => rfl
  | .bool _ => rfl | .int _ _ => rfl | .str _ => rfl | .nilPtr => rfl | .nilSlice => rfl | .nilFunc => rfl | .arr _ _ _ => rfl | .nilIface => rfl
  | .rsT _ _ _ => rfl | .arrT _ _ _ => rfl
theorem blkLL_ren : ∀ (l : List EV), EV.blkLL (EV.renL f l) = (EV.blkLL l).map f
  | [] => rfl
  | v :: l => by simp only [EV.renL, EV.blkLL, blkL_ren v, blkLL_ren l, List.map_append]
end
theorem addN_map (hi : ∀ a b, f a = f b → a = b) : ∀ (l idx : List Nat), addN (idx.map f) (l.map f) = (addN idx l).map f
  | [], idx => rfl
  | b :: l, idx => by
    simp only [List.map_cons, addN, memN_map hi]
    cases memN b idx with
    | true => exact addN_map hi l idx
    | false =>
      have := addN_map hi l (idx ++ [b])
      rw [List.map_append] at this
      exact this
theorem heapL_map {H H' : Heap} (hH : HR f H H') : ∀ (l : List Nat), heapL H' (l.map f) = (heapL H l).map f
  | [] => rfl
  | b :: l => by
    simp only [List.map_cons, heapL, heapL_map hH l, hH.get]
    cases H[b]? with
    | none => rfl
    | some o =>
      cases o with
      | none => rfl
      | some v => simp only [Option.map_some, renO, blkL_ren, List.map_append]
theorem closeI_map (hi : ∀ a b, f a = f b → a = b) {H H' : Heap} (hH : HR f H H') : ∀ (n : Nat) (idx : List Nat), closeI H' n (idx.map f) = (closeI H n idx).map f
  | 0, idx => rfl
  | n + 1, idx => by simp only [closeI, heapL_map hH, addN_map hi, closeI_map hi hH n]
theorem canI_map (hi : ∀ a b, f a = f b → a = b) {H H' : Heap} (hH : HR f H H') (vs : List EV) : canI 0 (EV.renL f vs) H' = (canI 0 vs H).map f := by
  unfold canI
  rw [blkLL_ren]
  have := addN_map hi (EV.blkLL vs) (upTo 0)
  rw [show (upTo 0).map f = upTo 0 from rfl] at this
  rw [this, closeI_map hi hH]
theorem pos_map (hi : ∀ a b, f a = f b → a = b) (b : Nat) : ∀ (l : List Nat), pos (l.map f) (f b) = pos l b
  | [] => rfl
  | c :: l => by
    simp only [List.map_cons, pos, pos_map hi b l]
    congr 1
    exact beq_map hi c b
theorem evAppendA_eqv {k : Nat} {t t' : TypeId} {s x : EV} {H H' : Heap} {K : EV → Heap → Prop} (hs : Shf k H.length f) (hH : HR f H H') (h : evAppendA E t t' s x H K) :
    evAppendA E t t' (s.ren f) (x.ren f) H' (KR f H.length K) := by
  unfold evAppendA at h ⊢
  rw [cd_iff] at h ⊢
  refine ⟨fun he => evAppend_eqv hs hH (h.1 he), fun he => ?_⟩
  replace h := h.2 he
  unfold evAppendT at h ⊢
  cases ht : E.ty t with
  | none => rw [ht] at h; exact h.elim
  | some ti =>
    rw [ht] at h
    simp only [evWinT_ren hH] at h ⊢
    cases htd : ti.td <;> simp only [htd] at h ⊢ <;> try exact h.elim
    rename_i e
    cases he : E.ty e with
    | none => rw [he] at h; exact h.elim
    | some ei =>
      rw [he] at h
      simp only at h ⊢
      cases hz : Sk.of ei.zero with
      | none => rw [hz] at h; exact h.elim
      | some sk =>
        rw [hz] at h
        simp only at h ⊢
        cases hw : evWinT H x sk with
        | none => rw [hw] at h; exact h.elim
        | some q =>
          obtain ⟨m, g'⟩ := q
          rw [hw] at h
          simp only at h ⊢
          rw [gd_iff] at h ⊢
          refine ⟨h.1, ?_⟩
          replace h := h.2
          have hp : ∀ (o : Option EV) off len cap e, K (.slice H.length off len cap e) (H ++ [o]) → KR f H.length K (.slice H'.length off len cap e) (H' ++ [renO f o]) := fun o off len cap e hK =>
            ⟨_, _, by rw [EV.ren, hs.high _ (Nat.le_refl _), hH.len], hH.push hs o, by simp, hK⟩
          cases s <;> simp only [EV.ren] at h ⊢ <;> try exact h.elim
          case nilSlice =>
            rw [gd_iff] at h ⊢
            refine ⟨h.1, ?_⟩
            replace h := h.2
            rw [br_iff] at h ⊢
            exact ⟨fun e => ⟨_, _, rfl, hH, Nat.le_refl _, h.1 e⟩, fun e => hp _ _ _ _ _ (h.2 e)⟩
          case slice b off len cap es =>
            cases hb : H[b]? with
            | none => rw [hb] at h; exact h.elim
            | some oc =>
              cases oc with
              | none => rw [hb] at h; exact h.elim
              | some c =>
                rw [hb] at h
                rw [hH.live hb]
                cases c <;> simp only [EV.ren] at h ⊢ <;> try exact h.elim
                rw [gd_iff] at h ⊢
                refine ⟨h.1, ?_⟩
                exact ⟨_, _, by rw [EV.ren, hs.high _ (Nat.le_refl _), hH.len], (hH.set hs.inj b none).push (n := k) (by rw [List.length_set]; exact hs) (some _), by simp, h.2⟩
theorem roArg_ren {H H' : Heap} (hH : HR f H H') (m : Option RK) (v : EV) : roArg H' m (v.ren f) = (roArg H m v).ren f := by
  cases m with
  | none => cases v <;> rfl
  | some k =>
    cases k with
    | int k =>
      cases v <;> try rfl
      rename_i b off len cap e
      simp only [EV.ren, roArg, hH.get]
      cases H[b]? with
      | none => rfl
      | some o =>
        cases o with
        | none => rfl
        | some c =>
          cases c <;> try rfl
          rename_i k' n g
          simp only [Option.map_some, renO, EV.ren]
          cases decide (k = k') <;> rfl
    | sk s =>
      cases v <;> try rfl
      rename_i b off len cap e
      simp only [EV.ren, roArg, hH.get]
      cases H[b]? with
      | none => rfl
      | some o =>
        cases o with
        | none => rfl
        | some c =>
          cases c <;> try rfl
          rename_i n s' g
          simp only [Option.map_some, renO, EV.ren]
          cases (s.beq s' && (Nat.beq e s.shape.size && s.flat)) <;> rfl
theorem roArgs_renL {H H' : Heap} (hH : HR f H H') : ∀ (ms : List (Option RK)) (vs : List EV), roArgs H' ms (EV.renL f vs) = EV.renL f (roArgs H ms vs)
  | [], vs => by cases vs <;> rfl
  | _ :: _, [] => rfl
  | m :: ms, v :: vs => by simp only [EV.renL, roArgs, roArg_ren hH, roArgs_renL hH ms vs]
theorem roDead_ren : ∀ (ms : List (Option RK)) (vs : List EV), roDead ms (EV.renL f vs) = (roDead ms vs).map f
  | [], vs => by cases vs <;> rfl
  | _ :: _, [] => by rename_i m ms; cases m <;> rfl
  | m :: ms, v :: vs => by
    have ih := roDead_ren ms vs
    cases m with
    | none => cases v <;> simp only [EV.renL, EV.ren, roDead] <;> exact ih
    | some k => cases v <;> simp only [EV.renL, EV.ren, roDead, List.map_cons] <;> first | exact ih | rw [ih]
theorem subHI_map {H H' : Heap} (hH : HR f H H') (g : Nat → Nat) : ∀ (l : List Nat), subHI H' g (l.map f) = subHI H (fun b => g (f b)) l
  | [] => rfl
  | b :: l => by
    simp only [List.map_cons, subHI, subHI_map hH g l, hH.get]
    cases H[b]? with
    | none => rfl
    | some o =>
      cases o with
      | none => rfl
      | some v => simp only [Option.map_some, renO, ren_ren]
theorem subH_map (hi : ∀ a b, f a = f b → a = b) {H H' : Heap} (hH : HR f H H') (idx : List Nat) : subH H' (idx.map f) = subH H idx := by
  unfold subH
  rw [subHI_map hH]
  congr 1
  funext b
  exact pos_map hi b idx
theorem backN_map {k m : Nat} (hs : Shf k m f) (idx : List Nat) (j : Nat) : backN (idx.map f) m j = f (backN idx m j) := by
  unfold backN
  rw [List.getElem?_map]
  cases idx[j]? with
  | none => simp only [Option.map_none, List.length_map]; rw [hs.high _ (by omega)]
  | some b => rfl
theorem HR.append {k : Nat} {H H' : Heap} (hH : HR f H H') (hs : Shf k H.length f) : ∀ (r : Heap), HR f (H ++ r) (H' ++ r.map (renO f)) := by
  intro r
  induction r generalizing H H' with
  | nil => simpa using hH
  | cons o r ih =>
    have := ih (hH.push hs o) (hs.mono (by simp))
    simpa using this
theorem HR.putB {k : Nat} : ∀ (idx : List Nat) (r : Heap) {H H' : Heap}, HR f H H' → Shf k H.length f → HR f (putB idx r H) (Ev.putB (idx.map f) (r.map (renO f)) H')
  | [], r, H, H', hH, hs => hH.append hs r
  | b :: l, [], H, H', hH, hs => hH
  | b :: l, o :: r, H, H', hH, hs => by
    simp only [List.map_cons, Ev.putB]
    exact HR.putB l r (hH.set hs.inj b o) (by rw [List.length_set]; exact hs)
theorem HR.killN (hi : ∀ a b, f a = f b → a = b) : ∀ (l : List Nat) {H H' : Heap}, HR f H H' → HR f (killN l H) (Ev.killN (l.map f) H')
  | [], H, H', hH => hH
  | b :: l, H, H', hH => HR.killN hi l (hH.set hi b Option.none)
theorem putB_ge {α : Type} : ∀ (idx : List Nat) (r H : List α), H.length ≤ (putB idx r H).length
  | [], r, H => by simp [putB]
  | _ :: _, [], H => Nat.le_refl _
  | b :: l, v :: r, H => by
    have := putB_ge l r (H.set b v)
    rw [List.length_set] at this
    exact this
theorem renH_map (g : Nat → Nat) : ∀ (H : Heap), renH g H = H.map (renO g)
  | [] => rfl
  | o :: H => by simp only [renH, List.map_cons, renH_map g H]
theorem evCallL_eqv {k : Nat} {en : Entry} {args : List EV} {dead idx : List Nat} {H H' : Heap} {K : EV → Heap → Prop} (hD : Det2 (en.spec (EV.renL (pos idx) args) (subH H idx))) (hs : Shf k H.length f) (hH : HR f H H')
    (h : evCallL en args dead idx H K) : evCallL en (EV.renL f args) (dead.map f) (idx.map f) H' (KR f H.length K) := by
  unfold evCallL at h ⊢
  rw [gd_iff] at h ⊢
  have e1 : EV.renL (pos (idx.map f)) (EV.renL f args) = EV.renL (pos idx) args := by
    rw [renL_renL]
    congr 1
    funext b
    exact pos_map hs.inj b idx
  rw [e1, subH_map hs.inj hH, inIL_ren hs.inj, inIH_ren hs.inj hH, hH.len, allLt_ren hs, noneIn_ren hs.inj, renL_map, dfdL_ren]
  refine ⟨h.1, hD.mono h.2 ?_⟩
  intro v H2 hK
  rw [gd_iff] at hK ⊢
  rw [List.length_map]
  refine ⟨hK.1, v.ren (backN idx H.length), _, ?_, ?_, ?_, hK.2⟩
  · rw [ren_ren]
    congr 1
    funext j
    exact backN_map hs idx j
  · have e2 : cond (v.noRS && noRSH H2) [] (dead.map f) = (cond (v.noRS && noRSH H2) [] dead).map f := by cases (v.noRS && noRSH H2) <;> rfl
    rw [e2]
    refine HR.killN hs.inj _ ?_
    have e3 : renH (backN (idx.map f) H.length) H2 = (renH (backN idx H.length) H2).map (renO f) := by
      rw [renH_map, renH_map, List.map_map]
      refine List.map_congr_left fun o _ => ?_
      simp only [Function.comp, renO_renO]
      congr 1
      funext j
      exact backN_map hs idx j
    rw [e3]
    exact HR.putB idx _ hH hs
  · rw [killN_length]; exact putB_ge _ _ _
theorem killArgs_eqv (hi : ∀ a b, f a = f b → a = b) : ∀ (vs : List EV) {H H' : Heap}, HR f H H' → HR f (killArgs vs H) (killArgs (EV.renL f vs) H')
  | [], H, H', hH => hH
  | v :: vs, H, H', hH => by
    cases v
    case slice b off len cap e => exact killArgs_eqv hi vs (hH.set hi b none)
    all_goals exact killArgs_eqv hi vs hH
theorem killArgs_length : ∀ (vs : List EV) (H : Heap), (killArgs vs H).length = H.length
  | [], H => rfl
  | v :: vs, H => by
    cases v
    case slice b off len cap e => rw [killArgs, killArgs_length vs, List.length_set]
    all_goals exact killArgs_length vs H
theorem freeL_ren_id : ∀ (l : List EV), EV.freeL l = true → EV.renL f l = l := by
  have one : ∀ (v : EV), v.free = true → v.inI [] = true := by
    intro v
    exact (go v)
  intro l h
  refine renL_in l ?_
  induction l with
  | nil => rfl
  | cons v l ih =>
    simp only [EV.freeL, Bool.and_eq_true] at h
    simp only [EV.inIL, Bool.and_eq_true]
    exact ⟨one v h.1, ih h.2⟩
where
  go : ∀ (v : EV), v.free = true → v.inI [] = true := fun v => (goBoth v)
  goBoth : ∀ (v : EV), v.free = true → v.inI [] = true
    | .ptr _ _, h => by simp [EV.free] at h
    | .slice _ _ _ _ _, h => by simp [EV.free] at h
    | .rref _, h => by simp [EV.free] at h
    | .agg l, h => by simp only [EV.free] at h; simp only [EV.inI]; exact goL l h
    | .tuple l, h => by simp only [EV.free] at h; simp only [EV.inI]; exact goL l h
    | .func _ l, h => by simp only [EV.free] at h; simp only [EV.inI]; exact goL l h
    | .bnd _ l, h => by simp only [EV.free] at h; simp only [EV.inI]; exact goL l h
    | .iface _ v, h => by simp only [EV.free] at h; simp only [EV.inI]; exact goBoth v h
    | .rsI _ _ _, _ => rfl | .undef, h => by simp [EV.free] at h
    | .bool _, _ => rfl | .int _ _, _ => rfl | .str _, _ => rfl | .nilPtr, _ => rfl | .nilSlice, _ => rfl | .nilFunc, _ => rfl | .arr _ _ _, _ => rfl | .nilIface, _ => rfl
    | .rsT _ _ _, _ => rfl | .arrT _ _ _, _ => rfl
  goL : ∀ (l : List EV), EV.freeL l = true → EV.inIL [] l = true
    | [], _ => rfl
    | v :: l, h => by
      simp only [EV.freeL, Bool.and_eq_true] at h
      simp only [EV.inIL, Bool.and_eq_true]
      exact ⟨goBoth v h.1, goL l h.2⟩
theorem evCallF_eqv (hD : DetFn E) {k : Nat} {g : FuncId} {args : List EV} {H H' : Heap} {K : EV → Heap → Prop} (hs : Shf k H.length f) (hH : HR f H H')
    (h : evCallF E g args H K) : evCallF E g (EV.renL f args) H' (KR f H.length K) := by
  simp only [evCallF] at h ⊢
  cases he : E.fn g with
  | none => rw [he] at h; exact h.elim
  | some en =>
    rw [he] at h
    simp only at h ⊢
    rw [roArgs_renL hH, roDead_ren, canI_map hs.inj hH, canI_map hs.inj hH, freeL_ren, freeL_ren]
    cases hl : en.lend with
    | true =>
      rw [hl] at h
      simp only [cond_true] at h ⊢
      cases hw : newRo en.ro with
      | true =>
        rw [hw] at h
        simp only [cond_true] at h ⊢
        rw [gd_iff] at h ⊢
        exact ⟨h.1, evCallL_eqv (dead := []) (idx := []) (hD g en he _ _) hs hH h.2⟩
      | false =>
      rw [hw] at h
      simp only [cond_false] at h ⊢
      cases hw2 : keepRo en.ro with
      | true =>
        rw [hw2] at h
        simp only [cond_true] at h ⊢
        refine (det_evCallL (hD g en he)).mono (evCallL_eqv (dead := []) (hD g en he _ _) hs hH h) ?_
        rintro v' H2 ⟨v, H1, rfl, k1, k2, k3, k4⟩
        unfold keepH at k3
        subst k3
        rw [gd_iff] at k4 ⊢
        have hv := ren_in (f := f) v k4.1
        refine ⟨HR.uniq hs k1 hH, by rw [hv]; exact k4.1, v, H1, rfl, hH, Nat.le_refl _, k4.2⟩
      | false =>
      rw [hw2] at h
      simp only [cond_false] at h ⊢
      exact evCallL_eqv (hD g en he _ _) hs hH h
    | false =>
      rw [hl] at h
      simp only [cond_false] at h ⊢
      rw [gd_iff] at h ⊢
      refine ⟨h.1, ?_⟩
      rw [freeL_ren_id _ h.1]
      refine (hD g en he _ _).mono h.2 ?_
      intro v H2 hK
      rw [gd_iff] at hK ⊢
      refine ⟨hK.1, ?_⟩
      have hv := ren_in (f := f) v (Bool.and_eq_true _ _ ▸ hK.1 : _ ∧ _).2
      have hK := hK.2
      rw [cd_iff] at hK ⊢
      exact ⟨fun e => ⟨v, H, hv.symm, hH, Nat.le_refl _, hK.1 e⟩, fun e => ⟨v, _, hv.symm, killArgs_eqv hs.inj _ hH, by rw [killArgs_length]; exact Nat.le_refl _, hK.2 e⟩⟩
theorem evCall_eqv (hD : DetFn E) {k : Nat} {fv : EV} {args : List EV} {H H' : Heap} {K : EV → Heap → Prop} (hs : Shf k H.length f) (hH : HR f H H')
    (h : evCall E fv args H K) : evCall E (fv.ren f) (EV.renL f args) H' (KR f H.length K) := by
  cases fv <;> simp only [evCall, EV.ren] at h ⊢ <;> try exact h.elim
  · rw [← renL_append]; exact evCallF_eqv hD hs hH h
  · rw [← renL_append]; exact evCallF_eqv hD hs hH h
end call
section op
variable {E : Env} {f : Nat → Nat}
structure StR (f : Nat → Nat) (s s' : St) : Prop where
  tmps : s'.tmps = s.tmps.map (EV.ren f)
  heap : HR f s.heap s'.heap
theorem StR.slot {s s' : St} (h : StR f s s') (t : Nat) : s'.slot t = (s.slot t).ren f := by
  unfold St.slot
  rw [h.tmps, List.getElem?_map]
  cases s.tmps[t]? <;> rfl
theorem constV_ren (v : Value) : (constV v).ren f = constV v := by
  unfold constV
  split <;> rfl
theorem opd_eqv (hC : Closed E) {s s' : St} (h : StR f s s') (x : Operand) : St.opd E s' x = (St.opd E s x).ren f := by
  cases x with
  | tmp t => exact h.slot t
  | const v => exact (constV_ren v).symm
  | global g =>
    simp only [St.opd]
    cases hg : E.gl g with
    | none => rfl
    | some v => simp only [EV.ren, ren_in v (hC.gl g v hg)]
  | func g => rfl
theorem opdL_eqv (hC : Closed E) {s s' : St} (h : StR f s s') (l : List Operand) : l.map (St.opd E s') = (l.map (St.opd E s)).map (EV.ren f) := by
  rw [List.map_map]
  exact List.map_congr_left fun x _ => opd_eqv hC h x
theorem opdP_eqv (hC : Closed E) {s s' : St} (h : StR f s s') (l : List (Nat × Operand)) : (l.map fun p => (p.1, St.opd E s' p.2)) = renP f (l.map fun p => (p.1, St.opd E s p.2)) := by
  unfold renP
  rw [List.map_map]
  exact List.map_congr_left fun x _ => by simp only [Function.comp, opd_eqv hC h x.2]
theorem opdP2_eqv (hC : Closed E) {s s' : St} (h : StR f s s') (l : List (Nat × Operand)) : (l.map fun p => St.opd E s' p.2) = (l.map fun p => St.opd E s p.2).map (EV.ren f) := by
  rw [List.map_map]
  exact List.map_congr_left fun x _ => opd_eqv hC h x.2
theorem opdO_eqv (hC : Closed E) {s s' : St} (h : StR f s s') (o : Option Operand) : o.map (St.opd E s') = (o.map (St.opd E s)).map (EV.ren f) := by
  cases o with
  | none => rfl
  | some x => simp only [Option.map_some, opd_eqv hC h x]
theorem dfdO_ren (o : Option EV) : dfdO (o.map (EV.ren f)) = dfdO o := by
  cases o with
  | none => rfl
  | some v => exact dfd_ren f v
theorem evV_eqv (hC : Closed E) {o : Op} {s s' : St} {K : EV → Prop} (h : StR f s s') (hk : evV E o s K) : evV E o s' (KV f K) := by
  have ho := opd_eqv hC h
  unfold evV at hk ⊢
  split at hk
  · rename_i x; simp only [ho]; exact ⟨_, rfl, hk⟩
  · rename_i x; simp only [ho]; exact ⟨_, rfl, hk⟩
  · rename_i c a b
    simp only [ho]
    cases hc : St.opd E s c <;> rw [hc] at hk <;> try exact hk.elim
    simp only [EV.ren] at hk ⊢
    rw [br_iff] at hk ⊢
    exact ⟨fun e => ⟨_, rfl, hk.1 e⟩, fun e => ⟨_, rfl, hk.2 e⟩⟩
  · rename_i t ps
    simp only [opdP_eqv hC h, opdP2_eqv hC h, dfdL_ren]
    rw [gd_iff] at hk ⊢
    exact ⟨hk.1, evBuild_eqv hC hk.2⟩
  · rename_i t a; simp only [ho]; exact evLoad_eqv h.heap hk
  · rename_i op t x y z
    simp only [ho, dfd_ren]
    rw [gd_iff] at hk ⊢
    exact ⟨hk.1, evCmp_eqv h.heap hk.2⟩
  · rename_i op z x; simp only [ho]; exact evUn_eqv hk
  · rename_i src dst x
    simp only [ho, dfd_ren]
    rw [gd_iff] at hk ⊢
    exact ⟨hk.1, evConv_eqv h.heap hk.2⟩
  · rename_i t x i
    simp only [ho, dfd_ren]
    rw [gd_iff] at hk ⊢
    exact ⟨hk.1, evFieldAddr_eqv h.heap hk.2⟩
  · rename_i t x i
    simp only [ho, dfd_ren]
    rw [gd_iff] at hk ⊢
    exact ⟨hk.1, evField_eqv hk.2⟩
  · rename_i t x i
    simp only [ho, dfd_ren]
    rw [gd_iff] at hk ⊢
    exact ⟨hk.1, evIndexAddr_eqv h.heap hk.2⟩
  · rename_i t x i
    simp only [ho, dfd_ren]
    rw [gd_iff] at hk ⊢
    exact ⟨hk.1, evIndex_eqv hk.2⟩
  · rename_i x i; simp only [ho]; exact evExtract_eqv hk
  · rename_i g cs
    simp only [opdL_eqv hC h, dfdL_ren]
    rw [gd_iff] at hk ⊢
    exact ⟨hk.1, _, by rw [EV.ren, renL_map], hk.2⟩
  · rename_i t x lo hi mx
    simp only [ho, dfd_ren, opdO_eqv hC h, dfdO_ren]
    rw [gd_iff] at hk ⊢
    exact ⟨hk.1, evSliceA_eqv h.heap hk.2⟩
  · rename_i x t
    simp only [ho, dfd_ren]
    rw [gd_iff] at hk ⊢
    exact ⟨hk.1, evLen_eqv hk.2⟩
  · rename_i xs t
    simp only [opdL_eqv hC h, dfdL_ren]
    rw [gd_iff] at hk ⊢
    exact ⟨hk.1, evMM_eqv hk.2⟩
  · rename_i xs t
    simp only [opdL_eqv hC h, dfdL_ren]
    rw [gd_iff] at hk ⊢
    exact ⟨hk.1, evMM_eqv hk.2⟩
  · rename_i x
    simp only [ho, dfd_ren]
    rw [gd_iff] at hk ⊢
    exact ⟨hk.1, evNil_eqv h.heap hk.2⟩
  · rename_i g fs _
    simp only [opdL_eqv hC h, dfdL_ren]
    rw [gd_iff] at hk ⊢
    exact ⟨hk.1, _, by rw [EV.ren, renL_map], hk.2⟩
  · exact hk.elim
theorem evOp_eqv (hC : Closed E) (hD : DetFn E) {k : Nat} {o : Op} {s s' : St} {K : EV → Heap → Prop} (hs : Shf k s.heap.length f) (h : StR f s s') (hk : evOp E o s K) : evOp E o s' (KR f s.heap.length K) := by
  have ho := opd_eqv hC h
  unfold evOp at hk ⊢
  split at hk
  · rename_i t
    cases ht : E.ty t with
    | none => rw [ht] at hk; exact hk.elim
    | some ti =>
      rw [ht] at hk
      have := evNew_eqv hs h.heap hk
      rw [ren_in _ (hC.ty t ti ht)] at this
      exact this
  · rename_i t x
    simp only [ho]
    have hu : St.opd E s x ≠ .undef := by intro e; rw [e] at hk; exact hk.elim
    have h1 : evNew s.heap (St.opd E s x) K := by
      revert hk
      cases hq : St.opd E s x <;> intro hk <;> first | exact absurd hq hu | exact hk
    have h2 := evNew_eqv hs h.heap h1
    revert h2
    cases hq : St.opd E s x <;> intro h2 <;> first | exact absurd hq hu | exact h2
  · rename_i t n ps
    simp only [opdP_eqv hC h, opdP2_eqv hC h, dfdL_ren]
    rw [gd_iff] at hk ⊢
    exact ⟨hk.1, evBuildSlice_eqv hC hs h.heap hk.2⟩
  · rename_i t a x
    simp only [ho]
    refine det_evStore.mono (evStore_eqv hs h.heap hk) ?_
    rintro H' ⟨H, h1, h2, h3⟩
    exact ⟨.undef, H, rfl, h1, h2, h3⟩
  · rename_i t ln cp
    simp only [ho, dfd_ren]
    rw [gd_iff] at hk ⊢
    exact ⟨hk.1, evMakeSliceA_eqv hC hs h.heap hk.2⟩
  · rename_i g xs ts
    simp only [ho, opdL_eqv hC h, ← renL_map]
    exact evCall_eqv hD hs h.heap hk
  · rename_i x y t u
    simp only [ho, dfd_ren]
    rw [gd_iff] at hk ⊢
    exact ⟨hk.1, evAppendA_eqv hs h.heap hk.2⟩
  · rename_i x y t u
    simp only [ho, dfd_ren]
    rw [gd_iff] at hk ⊢
    exact ⟨hk.1, evCopy_eqv hs h.heap hk.2⟩
  · refine det_evV.mono (evV_eqv hC h hk) ?_
    rintro v' ⟨v, rfl, hv⟩
    exact ⟨v, s.heap, rfl, h.heap, Nat.le_refl _, hv⟩
theorem StR.put {s s' : St} (h : StR f s s') (d : Option Nat) (v : EV) {H H' : Heap} (hH : HR f H H') : StR f (s.put d v H) (s'.put d (v.ren f) H') := by
  cases d with
  | none => exact ⟨h.tmps, hH⟩
  | some d => exact ⟨by simp only [St.put, h.tmps, List.map_set], hH⟩
def KS (f : Nat → Nat) (n : Nat) (K : St → Prop) : St → Prop := fun s' => ∃ s, StR f s s' ∧ n ≤ s.heap.length ∧ K s
theorem put_heap' {s : St} {d : Option Nat} {v : EV} {H : Heap} : (s.put d v H).heap = H := by cases d <;> rfl
theorem evOne_eqv (hC : Closed E) (hD : DetFn E) {k : Nat} {ops : List Oper} {o : Oper} {s s' : St} {K : St → Prop} (hs : Shf k s.heap.length f) (h : StR f s s') (hk : evOne E ops o s K) :
    evOne E ops o s' (KS f s.heap.length K) := by
  have run : ∀ (s1 s1' : St), s1.heap = s.heap → StR f s1 s1' → (evOp E o.op s1 fun v H => K (s1.put o.dst v H)) → evOp E o.op s1' fun v H => KS f s.heap.length K (s1'.put o.dst v H) := by
    intro s1 s1' he h1 hk
    refine (det_evOp hD).mono (evOp_eqv hC hD (by rw [he]; exact hs) h1 hk) ?_
    rintro v' H' ⟨v, H, rfl, h2, h3, h4⟩
    exact ⟨_, h1.put o.dst v h2, by rw [put_heap', ← he]; exact h3, h4⟩
  have skip : ∀ (s1 s1' : St), StR f s1 s1' → K (s1.put o.dst (.tuple []) s.heap) → KS f s.heap.length K (s1'.put o.dst (.tuple []) s'.heap) := by
    intro s1 s1' h1 hk
    exact ⟨_, h1.put o.dst (.tuple []) h.heap, by rw [put_heap']; exact Nat.le_refl _, hk⟩
  unfold evOne at hk ⊢
  cases hg : o.guard with
  | none => rw [hg] at hk; exact run s s' rfl h hk
  | some g =>
    obtain ⟨j, want⟩ := g
    rw [hg] at hk
    simp only at hk ⊢
    cases hj : ops[j]? with
    | none => rw [hj] at hk; exact hk.elim
    | some oj =>
      rw [hj] at hk
      simp only at hk ⊢
      cases hd : oj.dst with
      | none => rw [hd] at hk; exact hk.elim
      | some d =>
        rw [hd] at hk
        simp only [h.slot] at hk ⊢
        cases hb : s.slot d <;> rw [hb] at hk <;> try exact hk.elim
        case bool b =>
          simp only [EV.ren] at hk ⊢
          rw [br_iff] at hk ⊢
          refine ⟨fun e => ?_, fun e => ?_⟩
          · have hk := hk.1 e
            have hp := h.put (some d) (.bool true) h.heap
            cases hq : beqB true want <;> rw [hq] at hk <;> simp only [cond_true, cond_false] at hk ⊢
            · exact skip _ _ hp hk
            · exact run _ _ (put_heap') hp hk
          · have hk := hk.2 e
            have hp := h.put (some d) (.bool false) h.heap
            cases hq : beqB false want <;> rw [hq] at hk <;> simp only [cond_true, cond_false] at hk ⊢
            · exact skip _ _ hp hk
            · exact run _ _ (put_heap') hp hk
        case tuple l =>
          cases l with
          | nil => exact skip _ _ h hk
          | cons _ _ => exact hk.elim
theorem evOps_eqv (hC : Closed E) (hD : DetFn E) {k : Nat} {ops : List Oper} : ∀ (r : List Oper) {s s' : St} {K : St → Prop}, Shf k s.heap.length f → StR f s s' → evOps E ops r s K →
    evOps E ops r s' (KS f s.heap.length K)
  | [], s, s', K, hs, h, hk => ⟨s, h, Nat.le_refl _, hk⟩
  | o :: r, s, s', K, hs, h, hk => by
    simp only [evOps] at hk ⊢
    refine (det_evOne hD).mono (evOne_eqv hC hD hs h hk) ?_
    rintro s1' ⟨s1, h1, h2, h3⟩
    refine (det_evOps hD r s1').mono (evOps_eqv hC hD r (hs.mono h2) h1 h3) ?_
    rintro s2' ⟨s2, h4, h5, h6⟩
    exact ⟨s2, h4, Nat.le_trans h2 h5, h6⟩
end op
end Go.Ev

/- The evaluator: values that name no block but those that there are. -/
set_option linter.unusedVariables false
set_option linter.unusedSimpArgs false
namespace Go.Ev
open Go
def Cl (n : Nat) (v : EV) : Prop := ∀ f : Nat → Nat, (∀ b, b < n → f b = b) → v.ren f = v
def ClL (n : Nat) (l : List EV) : Prop := ∀ v ∈ l, Cl n v
def ClH (n : Nat) (H : Heap) : Prop := ∀ (b : Nat) c, H[b]? = some (some c) → Cl n c
theorem Cl.mono {n m : Nat} {v : EV} (h : Cl n v) (hm : n ≤ m) : Cl m v := fun f hf => h f fun b hb => hf b (by omega)
theorem Cl.of {n : Nat} {v : EV} (h : v.inI [] = true) : Cl n v := fun f _ => ren_in v h
theorem Cl.get {n : Nat} {p : List Nat} {v u : EV} (h : Cl n v) (hg : EV.get p v = some u) : Cl n u := by
  intro f hf
  have := get_ren f p v
  rw [h f hf, hg] at this
  exact (Option.some.inj this).symm
theorem Cl.part {n : Nat} {l : List EV} {i : Nat} {u : EV} (h : ∀ f : Nat → Nat, (∀ b, b < n → f b = b) → EV.renL f l = l) (hl : l[i]? = some u) : Cl n u := by
  intro f hf
  have := renL_get f l i
  rw [h f hf, hl] at this
  exact (Option.some.inj this).symm
theorem Cl.agg {n : Nat} {l : List EV} (h : Cl n (.agg l)) : ∀ f : Nat → Nat, (∀ b, b < n → f b = b) → EV.renL f l = l := fun f hf => by
  have := h f hf; simpa [EV.ren] using this
theorem Cl.tuple {n : Nat} {l : List EV} (h : Cl n (.tuple l)) : ∀ f : Nat → Nat, (∀ b, b < n → f b = b) → EV.renL f l = l := fun f hf => by
  have := h f hf; simpa [EV.ren] using this
theorem ClL.ren {n : Nat} {l : List EV} (h : ClL n l) (f : Nat → Nat) (hf : ∀ b, b < n → f b = b) : l.map (EV.ren f) = l := by
  induction l with
  | nil => rfl
  | cons v l ih => rw [List.map_cons, h v List.mem_cons_self f hf, ih fun u hu => h u (List.mem_cons_of_mem _ hu)]
theorem Cl.ptr {n b : Nat} {p q : List Nat} (h : Cl n (.ptr b p)) : Cl n (.ptr b q) := fun f hf => by
  have := h f hf; simp only [EV.ren, EV.ptr.injEq] at this ⊢; exact ⟨this.1, trivial⟩
section clo
variable {E : Env} {n : Nat}
theorem evLoad_cl {t : TypeId} {v : EV} {H : Heap} {K : EV → Prop} (hv : Cl n v) (hH : ClH n H) (h : evLoad E t v H K) : evLoad E t v H fun u => K u ∧ Cl n u := by
  cases v <;> simp only [evLoad] at h ⊢ <;> try exact h.elim
  case rref u =>
    rw [gd_iff] at h ⊢
    refine ⟨h.1, h.2, fun f hf => ?_⟩
    have := hv f hf; simpa [EV.ren] using this
  case ptr b p =>
    split at h
    case h_2 => exact h.elim
    rename_i c hb
    split at h
    case h_2 => exact h.elim
    rename_i u hu
    try simp only [hb, hu]
    rw [gd_iff] at h ⊢
    exact ⟨h.1, h.2, (hH b c hb).get hu⟩
theorem intBin_cl {op : BinOp} {k : IntKind} {a b : Int} {K : EV → Prop} (h : intBin op k a b K) : intBin op k a b fun u => K u ∧ Cl n u := by
  cases op <;> simp only [intBin, gd_iff] at h ⊢ <;> first | exact ⟨h, fun _ _ => rfl⟩ | exact ⟨h.1, h.2, fun _ _ => rfl⟩
theorem strBin_cl {op : BinOp} {a b : List UInt8} {K : EV → Prop} (h : strBin op a b K) : strBin op a b fun u => K u ∧ Cl n u := by
  cases op <;> simp only [strBin, gd_iff] at h ⊢ <;> first | exact h.elim | exact ⟨h, fun _ _ => rfl⟩ | exact ⟨h.1, h.2, fun _ _ => rfl⟩
theorem evBin_cl {op : BinOp} {t : TypeId} {x y : EV} {K : EV → Prop} (h : evBin E op t x y K) : evBin E op t x y fun u => K u ∧ Cl n u := by
  by_cases h1 : ∃ k a k' b, x = .int k a ∧ y = .int k' b
  · obtain ⟨k, a, k', b, rfl, rfl⟩ := h1
    cases op <;> simp only [evBin] at h ⊢
    all_goals first
      | (rw [gd_iff] at h ⊢; exact ⟨h.1, h.2, fun _ _ => rfl⟩)
      | (rw [cd_iff] at h ⊢; exact ⟨fun e => intBin_cl (h.1 e), h.2⟩)
  · by_cases h2 : ∃ a b, x = .str a ∧ y = .str b
    · obtain ⟨a, b, rfl, rfl⟩ := h2
      exact strBin_cl h
    · rw [evBin_rest (fun k a k' b e1 e2 => h1 ⟨k, a, k', b, e1, e2⟩) (fun a b e1 e2 => h2 ⟨a, b, e1, e2⟩)] at h ⊢
      cases op <;> simp only [eqRest] at h ⊢ <;> try exact h
      · cases hb : eqT E 100 t x y with
        | none => rw [hb] at h; exact h.elim
        | some b => rw [hb] at h; exact ⟨h, fun _ _ => rfl⟩
      · cases hb : eqT E 100 t x y with
        | none => rw [hb] at h; exact h.elim
        | some b => rw [hb] at h; exact ⟨h, fun _ _ => rfl⟩
theorem evUn_cl {op : UnOp} {x : EV} {K : EV → Prop} (h : evUn op x K) : evUn op x fun u => K u ∧ Cl n u := by
  cases op <;> cases x <;> simp only [evUn] at h ⊢ <;> first | exact h.elim | exact ⟨h, fun _ _ => rfl⟩
theorem convRest_cl {si : TI} {x : EV} {H : Heap} {K : EV → Prop} (h : convRest E si x H K) : convRest E si x H fun u => K u ∧ Cl n u := by
  unfold convRest at h ⊢
  split at h
  case h_2 => exact h.elim
  rename_i e he
  rw [cd_iff] at h
  cases hi : isIntTy E e .u8 with
  | false => exact (h.2 hi).elim
  | true =>
    have h' := h.1 hi
    simp only [cond_true]
    split at h'
    · exact ⟨h', fun _ _ => rfl⟩
    · rename_i hw
      split at h'
      · exact ⟨h', fun _ _ => rfl⟩
      · exact h'.elim
theorem evConv_cl {src dst : TypeId} {x : EV} {H : Heap} {K : EV → Prop} (h : evConv E src dst x H K) : evConv E src dst x H fun u => K u ∧ Cl n u := by
  unfold evConv at h ⊢
  cases hs : E.ty src with
  | none => rw [hs] at h; exact h.elim
  | some si =>
    cases hd : E.ty dst with
    | none => rw [hs, hd] at h; exact h.elim
    | some di =>
      rw [hs, hd] at h
      simp only at h ⊢
      cases htd : di.td <;> simp only [htd] at h ⊢ <;> try exact h.elim
      · cases x <;> simp only at h ⊢ <;> first | exact h.elim | exact ⟨h, fun _ _ => rfl⟩
      · rcases (show (∃ s, x = .str s ∧ K (.str s)) ∨ ((∀ s, x ≠ .str s) ∧ convRest E si x H K) from by
          cases x <;> first | exact .inl ⟨_, rfl, h⟩ | exact .inr ⟨(fun s e => by cases e), h⟩) with ⟨s, rfl, h⟩ | ⟨hne, h⟩
        · exact ⟨h, fun _ _ => rfl⟩
        · have := convRest_cl (n := n) h
          revert this hne
          cases x <;> intro hne this <;> first | exact this | exact absurd rfl (hne _)
theorem pickL_cl {F G : Nat → EV → Prop} : ∀ (l : List EV) (j : Nat) (i : Int), (∀ k u, l[k]? = some u → F (j + k) u → G (j + k) u) → pickL F l j i → pickL G l j i
  | [], _, _, _, h => h
  | u :: l, j, i, hF, h => by
    simp only [pickL, br_iff] at h ⊢
    refine ⟨fun e => hF 0 u rfl (h.1 e), fun e => pickL_cl l (j + 1) i (fun k u hk hf => ?_) (h.2 e)⟩
    rw [show j + 1 + k = j + (k + 1) from by omega] at hf ⊢
    exact hF (k + 1) u (by simpa using hk) hf
theorem evIndex_cl {t : TypeId} {x i : EV} {K : EV → Prop} (hx : Cl n x) (h : evIndex E t x i K) : evIndex E t x i fun u => K u ∧ Cl n u := by
  unfold evIndex at h ⊢
  cases ht : E.ty t with
  | none => rw [ht] at h; exact h.elim
  | some ti =>
    rw [ht] at h
    cases i <;> simp only at h ⊢ <;> try exact h.elim
    cases htd : ti.td <;> simp only [htd] at h ⊢ <;> try exact h.elim
    · cases x <;> simp only at h ⊢ <;> try exact h.elim
      rw [gd_iff] at h ⊢
      exact ⟨h.1, h.2, fun _ _ => rfl⟩
    · cases x <;> simp only at h ⊢ <;> try exact h.elim
      · rw [cd_iff] at h ⊢
        refine ⟨fun e => pickL_cl _ _ _ (fun k u hk hf => ?_) (h.1 e), h.2⟩
        rw [gd_iff] at hf ⊢
        exact ⟨hf.1, hf.2, Cl.part hx.agg hk⟩
      · rw [cd_iff] at h ⊢
        refine ⟨fun e => ?_, h.2⟩
        have := h.1 e
        rw [gd_iff] at this ⊢
        exact ⟨this.1, this.2, fun _ _ => rfl⟩
      · rw [cd_iff] at h ⊢
        refine ⟨fun e => ?_, h.2⟩
        have := h.1 e
        rw [gd_iff] at this ⊢
        exact ⟨this.1, this.2, fun f _ => val_ren f _ _ _⟩
theorem evField_cl {t : TypeId} {x : EV} {i : Nat} {K : EV → Prop} (hx : Cl n x) (h : evField E t x i K) : evField E t x i fun u => K u ∧ Cl n u := by
  unfold evField at h ⊢
  split at h
  case h_2 => exact h.elim
  rename_i ti ht
  split at h
  case h_2 => exact h.elim
  rename_i fs l hq
  simp only [hq]
  split at h
  case h_2 => exact h.elim
  rename_i o ft u hf hl
  try simp only [hf, hl]
  rw [gd_iff] at h ⊢
  exact ⟨h.1, h.2, Cl.part hx.agg hl⟩
theorem evNil_cl {x : EV} {H : Heap} {K : EV → Prop} (hx : Cl n x) (h : evNil x H K) : evNil x H fun u => K u ∧ Cl n u := by
  unfold evNil at h ⊢
  cases x <;> simp only at h ⊢ <;> try exact h
  · rename_i b p
    cases hb : H[b]? with
    | none => rw [hb] at h; exact h.elim
    | some q =>
      cases q with
      | none => rw [hb] at h; exact h.elim
      | some c =>
        rw [hb] at h
        simp only at h ⊢
        cases hg : EV.get p c with
        | none => rw [hg] at h; exact h.elim
        | some u => rw [hg] at h; exact ⟨h, hx⟩
  all_goals exact ⟨h, hx⟩
theorem nilEq_cl {op : BinOp} {b : Bool} {K : EV → Prop} (h : nilEq op b K) : nilEq op b fun u => K u ∧ Cl n u := by
  cases op <;> first | exact ⟨h, fun f _ => rfl⟩ | exact h.elim
theorem evCmp_cl {op : BinOp} {t : TypeId} {o : Operand} {x y : EV} {H : Heap} {K : EV → Prop} (hx : Cl n x) (h : evCmp E op t o x y H K) : evCmp E op t o x y H fun u => K u ∧ Cl n u := by
  unfold evCmp at h ⊢
  cases h1 : Nat.beq (nilK o) 1 with
  | true =>
    rw [h1] at h
    simp only [cond_true] at h ⊢
    unfold evPN at h ⊢
    cases x <;> simp only at h ⊢ <;> try exact h.elim
    · cases h2 : tdIs E t 1 with
      | true => rw [h2] at h; exact nilEq_cl h
      | false => rw [h2] at h; exact h.elim
    · cases h2 : tdIs E t 1 with
      | true =>
        rw [h2] at h
        simp only [cond_true] at h ⊢
        unfold evNil at h ⊢
        simp only at h ⊢
        split at h
        · split at h
          · exact nilEq_cl h
          · exact h.elim
        · exact h.elim
      | false => rw [h2] at h; exact h.elim
  | false =>
    rw [h1] at h
    simp only [cond_false] at h ⊢
    cases h2 : Nat.beq (nilK o) 2 with
    | true =>
      rw [h2] at h
      simp only [cond_true] at h ⊢
      unfold evIN at h ⊢
      cases x <;> simp only at h ⊢ <;> try exact h.elim
      all_goals
        cases h3 : tdIs E t 0 with
        | true => rw [h3] at h; exact nilEq_cl h
        | false => rw [h3] at h; exact h.elim
    | false => rw [h2] at h; exact evBin_cl h
theorem evFieldAddr_cl {t : TypeId} {x : EV} {i : Nat} {H : Heap} {K : EV → Prop} (hx : Cl n x) (h : evFieldAddr E t x i H K) : evFieldAddr E t x i H fun u => K u ∧ Cl n u := by
  unfold evFieldAddr at h ⊢
  cases ht : E.ty t with
  | none => rw [ht] at h; exact h.elim
  | some ti =>
    rw [ht] at h
    simp only at h ⊢
    cases htd : ti.td <;> simp only [htd] at h ⊢ <;> try exact h.elim
    rename_i fs
    cases hf : fs[i]? with
    | none => rw [hf] at h; exact h.elim
    | some q =>
      obtain ⟨o, ft⟩ := q
      rw [hf] at h
      simp only at h ⊢
      cases hft : E.ty ft with
      | none => rw [hft] at h; exact h.elim
      | some fi =>
        rw [hft] at h
        simp only at h ⊢
        cases x <;> try simp only at h ⊢ <;> try exact h.elim
        case ptr b p =>
          cases hb : H[b]? with
          | none => rw [hb] at h; exact h.elim
          | some oc =>
            cases oc with
            | none => rw [hb] at h; exact h.elim
            | some c =>
              rw [hb] at h
              simp only at h ⊢
              cases hg : EV.get p c with
              | none => rw [hg] at h; exact h.elim
              | some u =>
                rw [hg] at h
                simp only at h ⊢
                rw [gd_iff] at h ⊢
                exact ⟨h.1, h.2, hx.ptr⟩
        case rref v =>
          cases v <;> simp only at h ⊢ <;> try exact h.elim
          rename_i l
          cases hl : l[i]? with
          | none => rw [hl] at h; exact h.elim
          | some u =>
            rw [hl] at h
            simp only at h ⊢
            rw [gd_iff] at h ⊢
            refine ⟨h.1, h.2, fun f hf' => ?_⟩
            have hl2 : ∀ f : Nat → Nat, (∀ b, b < n → f b = b) → EV.renL f l = l := fun f hf => by
              have := hx f hf; simpa [EV.ren] using this
            simp only [EV.ren, Cl.part hl2 hl f hf']
theorem evIndexAddr_cl {t : TypeId} {x i : EV} {H : Heap} {K : EV → Prop} (hx : Cl n x) (h : evIndexAddr E t x i H K) : evIndexAddr E t x i H fun u => K u ∧ Cl n u := by
  have sl : ∀ {b off len cap e p}, x = .slice b off len cap e → Cl n (.ptr b p) := by
    intro b off len cap e p hq f hf
    have := hx f hf
    rw [hq] at this
    simp only [EV.ren, EV.slice.injEq] at this
    simp only [EV.ren, this.1]
  unfold evIndexAddr at h ⊢
  cases ht : E.ty t with
  | none => rw [ht] at h; exact h.elim
  | some ti =>
    rw [ht] at h
    cases i <;> simp only at h ⊢ <;> try exact h.elim
    rename_i ki i
    cases htd : ti.td <;> simp only [htd] at h ⊢ <;> try exact h.elim
    case slice e =>
      cases he : E.ty e with
      | none => rw [he] at h; exact h.elim
      | some ei =>
        rw [he] at h
        simp only at h ⊢
        cases x <;> simp only at h ⊢ <;> try exact h.elim
        case slice b off len cap es =>
          cases hb : H[b]? with
          | none => rw [hb] at h; exact h.elim
          | some oc =>
            cases oc with
            | none => rw [hb] at h; exact h.elim
            | some c =>
              rw [hb] at h
              simp only at h ⊢
              rw [gd_iff] at h ⊢
              refine ⟨h.1, ?_⟩
              have h2 := h.2
              cases c <;> simp only at h2 ⊢ <;> first | exact ⟨h2, sl rfl⟩ | skip
              exact pickL_cl _ _ _ (fun k u hk hf => ⟨hf, sl rfl⟩) h2
        case rsI k n g =>
          rw [gd_iff] at h ⊢
          exact ⟨h.1, h.2, fun _ _ => rfl⟩
        case rsT m s g =>
          rw [gd_iff] at h ⊢
          exact ⟨h.1, h.2, fun f _ => by rw [EV.ren, val_ren]⟩
    case array m e =>
      cases he : E.ty e with
      | none => rw [he] at h; exact h.elim
      | some ei =>
        rw [he] at h
        simp only at h ⊢
        cases x <;> try simp only at h ⊢ <;> try exact h.elim
        case ptr b p =>
          cases hb : H[b]? with
          | none => rw [hb] at h; exact h.elim
          | some oc =>
            cases oc with
            | none => rw [hb] at h; exact h.elim
            | some c =>
              rw [hb] at h
              simp only at h ⊢
              cases hg : EV.get p c with
              | none => rw [hg] at h; exact h.elim
              | some u =>
                rw [hg] at h
                try simp only at h ⊢
                cases u <;> simp only at h ⊢ <;> try exact h.elim
                case arr k m g =>
                  rw [cd_iff] at h ⊢
                  refine ⟨fun hc => ?_, h.2⟩
                  have := h.1 hc
                  rw [gd_iff] at this ⊢
                  exact ⟨this.1, this.2, hx.ptr⟩
                case agg l =>
                  rw [cd_iff] at h ⊢
                  exact ⟨fun hc => pickL_cl _ _ _ (fun k u hk hf => ⟨hf, hx.ptr⟩) (h.1 hc), h.2⟩
                case arrT m s g =>
                  rw [cd_iff] at h ⊢
                  refine ⟨fun hc => ?_, h.2⟩
                  have := h.1 hc
                  rw [gd_iff] at this ⊢
                  exact ⟨this.1, this.2, hx.ptr⟩
        case rref v =>
          cases v <;> simp only at h ⊢ <;> try exact h.elim
          case arr k m g =>
            rw [cd_iff] at h ⊢
            exact ⟨fun hc => ⟨(h.1 hc).1, (h.1 hc).2, fun _ _ => rfl⟩, h.2⟩
          case arrT m s g =>
            rw [cd_iff] at h ⊢
            refine ⟨fun hc => ?_, h.2⟩
            have := h.1 hc
            rw [gd_iff] at this ⊢
            exact ⟨this.1, this.2, fun f _ => by rw [EV.ren, val_ren]⟩
theorem evExtract_cl {x : EV} {i : Nat} {K : EV → Prop} (hx : Cl n x) (h : evExtract x i K) : evExtract x i fun u => K u ∧ Cl n u := by
  cases x <;> simp only [evExtract] at h ⊢ <;> try exact h.elim
  rename_i l
  cases hl : l[i]? with
  | none => rw [hl] at h; exact h.elim
  | some u => rw [hl] at h; exact ⟨h, Cl.part hx.tuple hl⟩
theorem evParts_cl {place : Nat → Option (Nat × Nat)} {ps : List (Nat × EV)} {z v : EV} (hp : ∀ p ∈ ps, Cl n p.2) (hz : Cl n z) (h : evParts place ps z = some v) : Cl n v := by
  intro f hf
  have h1 := evParts_ren (f := f) place ps z
  have h2 : renP f ps = ps := by
    unfold renP
    have : ∀ p ∈ ps, (fun p : Nat × EV => (p.1, p.2.ren f)) p = id p := fun p hp' => by
      show (p.1, p.2.ren f) = p
      rw [hp p hp' f hf]
    rw [List.map_congr_left this, List.map_id]
  rw [h2, hz f hf, h] at h1
  exact (Option.some.inj h1).symm
theorem evBuild_cl (hC : Closed E) {t : TypeId} {ps : List (Nat × EV)} {K : EV → Prop} (hp : ∀ p ∈ ps, Cl n p.2) (h : evBuild E t ps K) : evBuild E t ps fun u => K u ∧ Cl n u := by
  unfold evBuild at h ⊢
  cases ht : E.ty t with
  | none => rw [ht] at h; exact h.elim
  | some ti =>
    rw [ht] at h
    simp only at h ⊢
    have hz : Cl n ti.zero := Cl.of (hC.ty t ti ht)
    rw [gd_iff] at h ⊢
    refine ⟨h.1, ?_⟩
    replace h := h.2
    cases htd : ti.td <;> simp only [htd] at h ⊢ <;> try exact h.elim
    case struct fs =>
      split at h
      · rename_i v hv
        try simp only [hv]
        rw [gd_iff] at h ⊢
        exact ⟨h.1, h.2, evParts_cl hp hz hv⟩
      · exact h.elim
    case array m e =>
      split at h
      case h_2 => exact h.elim
      rename_i k he
      split at h
      · rename_i v hv
        try simp only [hv]
        exact ⟨h, evParts_cl hp hz hv⟩
      · exact h.elim
theorem evLen_cl {t : TypeId} {x : EV} {K : EV → Prop} (h : evLen E t x K) : evLen E t x fun u => K u ∧ Cl n u := by
  unfold evLen at h ⊢
  cases ht : E.ty t with
  | none => rw [ht] at h; exact h.elim
  | some ti =>
    rw [ht] at h
    simp only at h ⊢
    cases htd : ti.td <;> simp only [htd] at h ⊢ <;> try exact h.elim
    all_goals (cases x <;> simp only at h ⊢ <;> first | exact h.elim | exact ⟨h, fun _ _ => rfl⟩)
theorem evMM_cl {g : Int → Int → Int} {xs : List EV} {K : EV → Prop} (hx : ClL n xs) (h : evMM g xs K) : evMM g xs fun u => K u ∧ Cl n u := by
  cases xs with
  | nil => exact h
  | cons x r =>
    simp only [evMM] at h ⊢
    cases hv : foldMM g x r with
    | none => rw [hv] at h; exact h.elim
    | some v =>
      rw [hv] at h
      refine ⟨h, fun f hf => ?_⟩
      have h1 := foldMM_ren (f := f) g r x
      rw [hx x List.mem_cons_self f hf, ClL.ren (fun u hu => hx u (List.mem_cons_of_mem _ hu)) f hf, hv] at h1
      exact (Option.some.inj h1).symm
theorem evSlice_cl {t : TypeId} {x : EV} {lo hi mx : Option EV} {H : Heap} {K : EV → Prop} (hx : Cl n x) (h : evSlice E t x lo hi mx H K) : evSlice E t x lo hi mx H fun u => K u ∧ Cl n u := by
  unfold evSlice at h ⊢
  cases mx with
  | some m => exact h.elim
  | none =>
    cases ht : E.ty t with
    | none => rw [ht] at h; exact h.elim
    | some ti =>
      rw [ht] at h
      simp only at h ⊢
      cases htd : ti.td <;> simp only [htd] at h ⊢ <;> try exact h.elim
      case str =>
        cases x <;> simp only at h ⊢ <;> try exact h.elim
        rename_i s
        cases hl : oInt 0 lo with
        | none => rw [hl] at h; exact h.elim
        | some l =>
          cases hh : oInt s.length hi with
          | none => rw [hl, hh] at h; exact h.elim
          | some q =>
            rw [hl, hh] at h
            simp only at h ⊢
            rw [gd_iff] at h ⊢
            exact ⟨h.1, h.2, fun _ _ => rfl⟩
      case slice e =>
        cases x <;> simp only at h ⊢ <;> try exact h.elim
        case slice b off len cap es =>
          cases hl : oInt 0 lo with
          | none => rw [hl] at h; exact h.elim
          | some l =>
            cases hh : oInt len hi with
            | none => rw [hl, hh] at h; exact h.elim
            | some q =>
              cases hb : H[b]? with
              | none => rw [hl, hh, hb] at h; exact h.elim
              | some oc =>
                cases oc with
                | none => rw [hl, hh, hb] at h; exact h.elim
                | some c =>
                  rw [hl, hh, hb] at h
                  simp only at h ⊢
                  rw [gd_iff] at h ⊢
                  refine ⟨h.1, h.2, fun f hf => ?_⟩
                  have := hx f hf
                  simp only [EV.ren, EV.slice.injEq] at this
                  simp only [EV.ren, this.1]
        case rsI k m g =>
          cases hl : oInt 0 lo with
          | none => rw [hl] at h; exact h.elim
          | some l =>
            cases hh : oInt m hi with
            | none => rw [hl, hh] at h; exact h.elim
            | some q =>
              rw [hl, hh] at h
              simp only at h ⊢
              rw [gd_iff] at h ⊢
              exact ⟨h.1, h.2, fun _ _ => rfl⟩
        case nilSlice =>
          cases hl : oInt 0 lo with
          | none => rw [hl] at h; exact h.elim
          | some l =>
            cases hh : oInt 0 hi with
            | none => rw [hl, hh] at h; exact h.elim
            | some q =>
              rw [hl, hh] at h
              simp only at h ⊢
              rw [gd_iff] at h ⊢
              exact ⟨h.1, h.2, fun _ _ => rfl⟩
      case array na e =>
        cases x <;> try simp only at h ⊢ <;> try exact h.elim
        rename_i b p
        cases p with
        | cons _ _ => exact h.elim
        | nil =>
          simp only at h ⊢
          cases hl : oInt 0 lo with
          | none => rw [hl] at h; exact h.elim
          | some l =>
            cases hh : oInt na hi with
            | none => rw [hl, hh] at h; exact h.elim
            | some q =>
              cases hb : H[b]? with
              | none => rw [hl, hh, hb] at h; exact h.elim
              | some oc =>
                cases oc with
                | none => rw [hl, hh, hb] at h; exact h.elim
                | some c =>
                  rw [hl, hh, hb] at h
                  cases c <;> simp only at h ⊢ <;> try exact h.elim
                  rw [gd_iff] at h ⊢
                  refine ⟨h.1, h.2, fun f hf => ?_⟩
                  have := hx f hf
                  simp only [EV.ren, EV.ptr.injEq] at this
                  simp only [EV.ren, this.1]
theorem evSliceA_cl {t : TypeId} {x : EV} {lo hi mx : Option EV} {H : Heap} {K : EV → Prop} (hx : Cl n x) (h : evSliceA E t x lo hi mx H K) : evSliceA E t x lo hi mx H fun u => K u ∧ Cl n u := by
  cases x
  case rsT m s g =>
    simp only [evSliceA] at h ⊢
    unfold evSliceT at h ⊢
    cases mx with
    | some m => exact h.elim
    | none =>
      cases ht : E.ty t with
      | none => rw [ht] at h; exact h.elim
      | some ti =>
        rw [ht] at h
        simp only at h ⊢
        cases htd : ti.td <;> simp only [htd] at h ⊢ <;> try exact h.elim
        cases hl : oInt 0 lo with
        | none => rw [hl] at h; exact h.elim
        | some l =>
          cases hh : oInt m hi with
          | none => rw [hl, hh] at h; exact h.elim
          | some q =>
            rw [hl, hh] at h
            simp only at h ⊢
            rw [gd_iff] at h ⊢
            exact ⟨h.1, h.2, fun _ _ => rfl⟩
  all_goals exact evSlice_cl hx h
structure ClS (s : St) : Prop where
  tmps : ClL s.heap.length s.tmps
  heap : ClH s.heap.length s.heap
theorem opd_cl (hC : Closed E) {s : St} (h : ClS s) (x : Operand) : Cl s.heap.length (St.opd E s x) := by
  cases x with
  | tmp t =>
    simp only [St.opd, St.slot]
    cases ht : s.tmps[t]? with
    | none => exact fun _ _ => rfl
    | some v => exact h.tmps v (List.mem_of_getElem? ht)
  | const v => exact fun f _ => constV_ren v
  | global g =>
    simp only [St.opd]
    cases hg : E.gl g with
    | none => exact fun _ _ => rfl
    | some v => exact fun f _ => by simp only [EV.ren, ren_in v (hC.gl g v hg)]
  | func g => exact fun _ _ => rfl
theorem opdL_cl (hC : Closed E) {s : St} (h : ClS s) (l : List Operand) : ClL s.heap.length (l.map (St.opd E s)) := by
  intro v hv
  obtain ⟨x, _, rfl⟩ := List.mem_map.1 hv
  exact opd_cl hC h x
theorem opdP_cl (hC : Closed E) {s : St} (h : ClS s) (l : List (Nat × Operand)) : ∀ p ∈ (l.map fun p => (p.1, St.opd E s p.2)), Cl s.heap.length p.2 := by
  intro p hp
  obtain ⟨x, _, rfl⟩ := List.mem_map.1 hp
  exact opd_cl hC h x.2
theorem evV_cl (hC : Closed E) {o : Op} {s : St} {K : EV → Prop} (h : ClS s) (hk : evV E o s K) : evV E o s fun u => K u ∧ Cl s.heap.length u := by
  have ho := opd_cl hC h
  unfold evV at hk ⊢
  split at hk
  · exact ⟨hk, ho _⟩
  · exact ⟨hk, ho _⟩
  · rename_i c a b
    simp only
    cases hc : St.opd E s c <;> rw [hc] at hk <;> try exact hk.elim
    simp only at hk ⊢
    rw [br_iff] at hk ⊢
    exact ⟨fun e => ⟨hk.1 e, ho _⟩, fun e => ⟨hk.2 e, ho _⟩⟩
  · rw [gd_iff] at hk ⊢; exact ⟨hk.1, evBuild_cl hC (opdP_cl hC h _) hk.2⟩
  · exact evLoad_cl (ho _) h.heap hk
  · rw [gd_iff] at hk ⊢; exact ⟨hk.1, evCmp_cl (ho _) hk.2⟩
  · exact evUn_cl hk
  · rw [gd_iff] at hk ⊢; exact ⟨hk.1, evConv_cl hk.2⟩
  · rw [gd_iff] at hk ⊢; exact ⟨hk.1, evFieldAddr_cl (ho _) hk.2⟩
  · rw [gd_iff] at hk ⊢; exact ⟨hk.1, evField_cl (ho _) hk.2⟩
  · rw [gd_iff] at hk ⊢; exact ⟨hk.1, evIndexAddr_cl (ho _) hk.2⟩
  · rw [gd_iff] at hk ⊢; exact ⟨hk.1, evIndex_cl (ho _) hk.2⟩
  · exact evExtract_cl (ho _) hk
  · rename_i g cs
    rw [gd_iff] at hk ⊢
    exact ⟨hk.1, hk.2, fun f hf => by simp only [EV.ren, renL_map, ClL.ren (opdL_cl hC h cs.toList) f hf]⟩
  · rw [gd_iff] at hk ⊢; exact ⟨hk.1, evSliceA_cl (ho _) hk.2⟩
  · rw [gd_iff] at hk ⊢; exact ⟨hk.1, evLen_cl hk.2⟩
  · rw [gd_iff] at hk ⊢; exact ⟨hk.1, evMM_cl (opdL_cl hC h _) hk.2⟩
  · rw [gd_iff] at hk ⊢; exact ⟨hk.1, evMM_cl (opdL_cl hC h _) hk.2⟩
  · rw [gd_iff] at hk ⊢; exact ⟨hk.1, evNil_cl (ho _) hk.2⟩
  · rename_i g fs _
    rw [gd_iff] at hk ⊢
    exact ⟨hk.1, hk.2, fun f hf => by simp only [EV.ren, renL_map, ClL.ren (opdL_cl hC h fs.toList) f hf]⟩
  · exact hk.elim
theorem ClS.put {s : St} (h : ClS s) (d : Option Nat) {v : EV} {H : Heap} (hl : s.heap.length ≤ H.length) (hv : Cl H.length v) (hH : ClH H.length H) : ClS (s.put d v H) := by
  have ht : ClL H.length s.tmps := fun u hu => (h.tmps u hu).mono hl
  cases d with
  | none => exact ⟨ht, hH⟩
  | some d =>
    refine ⟨?_, hH⟩
    intro u hu
    simp only [St.put] at hu ⊢
    rcases List.mem_or_eq_of_mem_set hu with h1 | rfl
    · exact ht u h1
    · exact hv
mutual
theorem rel_cl {ρ : Ren} {w : World} {f : Nat → Nat} (hf : ∀ b, b < ρ.bs.length → f b = b) : ∀ (v : EV) (x : Value), Rel ρ w v x → v.ren f = v
  | .undef, _, hr => hr.elim
  | .bool _, _, _ => rfl
  | .int _ _, _, _ => rfl
  | .str _, _, _ => rfl
  | .nilPtr, _, _ => rfl
  | .nilSlice, _, _ => rfl
  | .nilFunc, _, _ => rfl
  | .arr _ _ _, _, _ => rfl
  | .nilIface, _, _ => rfl
  | .rsI _ _ _, _, _ => rfl
  | .rsT _ _ _, _, _ => rfl
  | .arrT _ _ _, _, _ => rfl
  | .ptr b p, x, hr => by
    simp only [Rel] at hr
    obtain ⟨a, _, r, h1, _⟩ := hr
    have : b < ρ.bs.length := by
      rcases Nat.lt_or_ge b ρ.bs.length with hh | hh
      · exact hh
      · rw [List.getElem?_eq_none hh] at h1; cases h1
    simp only [EV.ren, hf b this]
  | .slice b off len cap e, x, hr => by
    simp only [Rel] at hr
    obtain ⟨a, c, _, r, h1, _⟩ := hr
    have : b < ρ.bs.length := by
      rcases Nat.lt_or_ge b ρ.bs.length with hh | hh
      · exact hh
      · rw [List.getElem?_eq_none hh] at h1; cases h1
    simp only [EV.ren, hf b this]
  | .rref v, x, hr => by
    simp only [Rel] at hr
    obtain ⟨b, o, y, _, h2, _⟩ := hr
    simp only [EV.ren, rel_cl hf v y h2]
  | .func g cap, x, hr => by
    simp only [Rel] at hr
    obtain ⟨vs, _, h2⟩ := hr
    simp only [EV.ren, relL_cl hf cap _ h2]
  | .bnd g cap, x, hr => by
    simp only [Rel] at hr
    obtain ⟨vs, _, h2⟩ := hr
    simp only [EV.ren, relL_cl hf cap _ h2]
  | .agg l, x, hr => by
    simp only [Rel] at hr
    obtain ⟨vs, _, h2⟩ := hr
    simp only [EV.ren, relF_cl hf l _ h2]
  | .tuple l, x, hr => by
    simp only [Rel] at hr
    obtain ⟨vs, _, h2⟩ := hr
    simp only [EV.ren, relL_cl hf l _ h2]
  | .iface t v, x, hr => by
    simp only [Rel] at hr
    obtain ⟨y, _, h2⟩ := hr
    simp only [EV.ren, rel_cl hf v y h2]
theorem relL_cl {ρ : Ren} {w : World} {f : Nat → Nat} (hf : ∀ b, b < ρ.bs.length → f b = b) : ∀ (l : List EV) (xs : List Value), RelL ρ w l xs → EV.renL f l = l
  | [], _, _ => rfl
  | v :: l, xs, hr => by
    simp only [RelL] at hr
    obtain ⟨x, ys, _, h2, h3⟩ := hr
    simp only [EV.renL, rel_cl hf v x h2, relL_cl hf l ys h3]
theorem relF_cl {ρ : Ren} {w : World} {f : Nat → Nat} (hf : ∀ b, b < ρ.bs.length → f b = b) : ∀ (l : List EV) (xs : List Value), RelF ρ w l xs → EV.renL f l = l
  | [], _, _ => rfl
  | v :: l, xs, hr => by
    simp only [RelF] at hr
    obtain ⟨x, ys, _, h2, h3⟩ := hr
    simp only [EV.renL, rel_cl hf v x h2, relF_cl hf l ys h3]
end
theorem ClS.of {gl : Nat → Option EV} {ρ : Ren} {w : World} {s : St} {a : Array Value} (hT : RelT gl ρ w s.tmps a) (hS : Sim ρ s.heap w) : ClS s := by
  refine ⟨fun v hv f hf => ?_, fun b c hb f hf => ?_⟩
  · obtain ⟨i, hi⟩ := List.mem_iff_getElem?.1 hv
    rcases hT.2.1 i v hi with rfl | ⟨x, _, hr⟩
    · rfl
    · exact rel_cl (fun b hb => hf b (by rw [← hS.len]; exact hb)) v x hr
  · obtain ⟨r, _, _, cs, e, fz, x, _, _, h5, _⟩ := hS.live b c hb
    exact rel_cl (fun b hb => hf b (by rw [← hS.len]; exact hb)) c x h5
end clo
end Go.Ev

/- The evaluator: a region whose order is open. -/
set_option linter.unusedVariables false
set_option linter.unusedSimpArgs false
namespace Go.Ev
open Go
def tmpsOf : List Operand → List Nat
  | [] => []
  | .tmp t :: l => t :: tmpsOf l
  | _ :: l => tmpsOf l
theorem tmpsOf_mem (t : Nat) : ∀ (l : List Operand), .tmp t ∈ l → t ∈ tmpsOf l
  | x :: l, h => by
    rcases List.mem_cons.1 h with h | h
    · subst h; simp [tmpsOf]
    · have := tmpsOf_mem t l h
      cases x <;> simp [tmpsOf, this]
def guardSlot (ops : List Oper) (o : Oper) : List Nat :=
  match o.guard with
  | none => []
  | some (j, _) => match ops[j]? with
    | some oj => match oj.dst with
      | some d => [d]
      | none => []
    | none => []
def allNone : List (Option RK) → Bool
  | [] => true
  | none :: l => allNone l
  | some _ :: _ => false
def heapK (E : Env) : Op → Nat
  | .move _ => 0 | .assign _ => 0 | .pick _ _ _ => 0 | .build _ _ => 0 | .binOp _ _ _ y _ => cond (Nat.beq (nilK y) 1) 1 0 | .unOp _ _ _ => 0 | .field _ _ _ => 0
  | .index _ _ _ => 0 | .extract _ _ => 0
  | .alloc _ => 3 | .box _ _ => 3 | .buildSlice _ _ _ => 3 | .makeSlice _ _ _ => 3
  | .slice _ _ _ _ _ => 1 | .load _ _ => 1 | .convert _ _ _ => 1 | .fieldAddr _ _ _ => 1 | .indexAddr _ _ _ => 1 | .nilCheck _ => 1
  | .call { callee := .value (.func f), args := _, argTypes := _ } => match E.fn f with
    | some en => cond (allNone en.ro && !en.lend) 0 (cond (en.lend && newRo en.ro) 4 (cond (en.lend && keepRo en.ro) 5 2))
    | none => 2
  | .call { callee := .builtin .len, args := _, argTypes := _ } => 0
  | .call { callee := .builtin .max, args := _, argTypes := _ } => 0
  | .call { callee := .builtin .min, args := _, argTypes := _ } => 0
  | _ => 2
mutual
theorem inI_congr {f g : Nat → Nat} {idx : List Nat} (h : ∀ b, b ∈ idx → f b = g b) : ∀ (v : EV), v.inI idx = true → v.ren f = v.ren g
  | .ptr b _, hv => by simp only [EV.inI, memN_iff] at hv; simp only [EV.ren, h b hv]
  | .slice b _ _ _ _, hv => by simp only [EV.inI, memN_iff] at hv; simp only [EV.ren, h b hv]
  | .rref v, hv => by simp only [EV.ren, inI_congr h v (by simpa [EV.inI] using hv)]
  | .agg l, hv => by simp only [EV.ren, inIL_congr h l (by simpa [EV.inI] using hv)]
  | .tuple l, hv => by simp only [EV.ren, inIL_congr h l (by simpa [EV.inI] using hv)]
  | .func _ l, hv => by simp only [EV.ren, inIL_congr h l (by simpa [EV.inI] using hv)]
  | .bnd _ l, hv => by simp only [EV.ren, inIL_congr h l (by simpa [EV.inI] using hv)]
  | .iface _ v, hv => by simp only [EV.ren, inI_congr h v (by simpa [EV.inI] using hv)]
  | .rsI _ _ _, _ => rfl | .undef, _ => rfl
  | .bool _, _ => rfl | .int _ _, _ => rfl | .str _, _ => rfl | .nilPtr, _ => rfl | .nilSlice, _ => rfl | .nilFunc, _ => rfl | .arr _ _ _, _ => rfl | .nilIface, _ => rfl
  | .rsT _ _ _, _ => rfl | .arrT _ _ _, _ => rfl
theorem inIL_congr {f g : Nat → Nat} {idx : List Nat} (h : ∀ b, b ∈ idx → f b = g b) : ∀ (l : List EV), EV.inIL idx l = true → EV.renL f l = EV.renL g l
  | [], _ => rfl
  | v :: l, hv => by
    simp only [EV.inIL, Bool.and_eq_true] at hv
    simp only [EV.renL, inI_congr h v hv.1, inIL_congr h l hv.2]
end
theorem hk0 {en : Entry} (hk : (cond (allNone en.ro && !en.lend) 0 (cond (en.lend && newRo en.ro) 4 (cond (en.lend && keepRo en.ro) 5 2)) : Nat) = 0) : allNone en.ro = true ∧ en.lend = false := by
  cases h1 : allNone en.ro <;> cases h2 : en.lend <;> cases h3 : newRo en.ro <;> cases h4 : keepRo en.ro <;> simp [h1, h2, h3, h4] at hk ⊢
theorem hk4 {en : Entry} (hk : (cond (allNone en.ro && !en.lend) 0 (cond (en.lend && newRo en.ro) 4 (cond (en.lend && keepRo en.ro) 5 2)) : Nat) = 4) : en.lend = true ∧ newRo en.ro = true := by
  cases h1 : allNone en.ro <;> cases h2 : en.lend <;> cases h3 : newRo en.ro <;> cases h4 : keepRo en.ro <;> simp [h1, h2, h3, h4] at hk ⊢
theorem hk5 {en : Entry} (hk : (cond (allNone en.ro && !en.lend) 0 (cond (en.lend && newRo en.ro) 4 (cond (en.lend && keepRo en.ro) 5 2)) : Nat) = 5) : en.lend = true ∧ newRo en.ro = false ∧ keepRo en.ro = true := by
  cases h1 : allNone en.ro <;> cases h2 : en.lend <;> cases h3 : newRo en.ro <;> cases h4 : keepRo en.ro <;> simp [h1, h2, h3, h4] at hk ⊢
def noMem (d : Option Nat) (l : List Nat) : Bool :=
  match d with
  | some d => !memN d l
  | none => true
def neO : Option Nat → Option Nat → Bool
  | some a, some b => !Nat.beq a b
  | _, _ => true
def kp (a : Nat) : Bool := Nat.ble a 1 || Nat.beq a 5
def heapOk (a b : Nat) : Bool := Nat.beq a 0 || (Nat.beq b 0 || ((kp a && kp b) || ((Nat.beq a 1 && Nat.beq b 3) || (Nat.beq a 1 && Nat.beq b 4))))
def readPtr : Op → Option Operand
  | .load _ a => some a
  | .fieldAddr _ x _ => some x
  | .nilCheck x => some x
  | .indexAddr _ x _ => some x
  | .slice _ x _ _ _ => some x
  | .convert _ _ x => some x
  | _ => none
def storePtr : Op → Option Operand
  | .store _ a _ => some a
  | _ => none
def dynP (p o : Op) : Option (Operand × Operand) :=
  match storePtr p, readPtr o with
  | some a, some x => some (a, x)
  | _, _ => match readPtr p, storePtr o with
    | some x, some a => some (x, a)
    | _, _ => none
def blkOf : EV → Option Nat
  | .ptr b _ => some b
  | .slice b _ _ _ _ => some b
  | _ => none
def apartV (a x : EV) : Bool :=
  match blkOf a, blkOf x with
  | some b, some c => !Nat.beq b c
  | _, _ => true
theorem blkOf_ren {f : Nat → Nat} (v : EV) : blkOf (v.ren f) = (blkOf v).map f := by cases v <;> rfl
def noDst (x : Operand) : List Oper → Bool
  | [] => true
  | o :: l => noMem o.dst (tmpsOf [x]) && noDst x l
def quietOps (E : Env) : List Oper → Bool
  | [] => true
  | o :: l => !Nat.beq (heapK E o.op) 2 && quietOps E l
def indepD (ops : List Oper) (p o : Oper) : Bool :=
  (noMem p.dst (tmpsOf o.op.operands.toList) && noMem p.dst (guardSlot ops o)) && ((noMem o.dst (tmpsOf p.op.operands.toList) && noMem o.dst (guardSlot ops p)) && neO p.dst o.dst)
def dynOk (ops : List Oper) (j i : Nat) (p o : Oper) : Bool :=
  match dynP p.op o.op with
  | some (x, y) => noDst x (ops.drop j) && noDst y (ops.drop i)
  | none => false
def both3 (E : Env) (p o : Op) : Bool := (Nat.beq (heapK E p) 3 && Nat.beq (heapK E o) 3) || (Nat.beq (heapK E p) 4 && (Nat.beq (heapK E o) 1 && (readPtr o).isSome))
theorem both3_spec {E : Env} {p o : Op} (h : both3 E p o = true) : (heapK E p = 3 ∧ heapK E o = 3) ∨ (heapK E p = 4 ∧ heapK E o = 1 ∧ ∃ x, readPtr o = some x) := by
  simp only [both3, Bool.or_eq_true, Bool.and_eq_true, Nat.beq_eq, Option.isSome_iff_exists] at h
  rcases h with h | ⟨h1, h2, h3⟩
  · exact .inl h
  · exact .inr ⟨h1, h2, h3⟩
def bindsOn (j : Nat) : List Edge → Bool
  | [] => false
  | e :: l => (Region.binds .any e && Nat.beq e.on j) || bindsOn j l
def anyE (p : Edge → Bool) : List Edge → Bool
  | [] => false
  | e :: l => p e || anyE p l
def bindsT (ops : List Oper) : Nat → Nat → List Edge → Bool
  | 0, _, _ => false
  | n + 1, j, l => anyE (fun e => Region.binds .any e && (Nat.beq e.on j || (Nat.blt j e.on && (match ops[e.on]? with
    | some o => bindsT ops n j o.after.toList
    | none => false)))) l
def edgesBelow (i : Nat) : List Edge → Bool
  | [] => true
  | e :: l => (!Region.binds .any e || Nat.blt e.on i) && edgesBelow i l
def okAll (E : Env) (ops : List Oper) (o : Oper) (i : Nat) : Nat → List Oper → Bool
  | _, [] => true
  | j, p :: l => ((bindsOn j o.after.toList || (indepD ops p o && (heapOk (heapK E p.op) (heapK E o.op) || ((both3 E p.op o.op && quietOps E (ops.take i)) || dynOk ops j i p o)))) || bindsT ops 6 j o.after.toList) && okAll E ops o i (j + 1) l
def okFrom (E : Env) (ops : List Oper) : Nat → List Oper → Bool
  | _, [] => true
  | i, o :: l => (edgesBelow i o.after.toList && okAll E ops o i 0 (ops.take i)) && okFrom E ops (i + 1) l
def commB (E : Env) (ops : List Oper) : Bool := okFrom E ops 0 ops
def chkAll (E : Env) (t : Operand → Operand → Bool) (o : Oper) : Nat → List Oper → Bool
  | _, [] => true
  | j, p :: l => (bindsOn j o.after.toList || (heapOk (heapK E p.op) (heapK E o.op) || (both3 E p.op o.op || (match dynP p.op o.op with
    | some (x, y) => t x y
    | none => true)))) && chkAll E t o (j + 1) l
def chkFrom (E : Env) (t : Operand → Operand → Bool) (ops : List Oper) : Nat → List Oper → Bool
  | _, [] => true
  | i, o :: l => chkAll E t o 0 (ops.take i) && chkFrom E t ops (i + 1) l
def chkB (E : Env) (ops : List Oper) (s : St) : Bool := chkFrom E (fun x y => apartV (St.opd E s x) (St.opd E s y)) ops 0 ops
def evDraw (E : Env) (ops : List Oper) (s : St) (K : St → Prop) : Prop :=
  gd (commB E ops) (cond (chkFrom E (fun _ _ => false) ops 0 ops) (evOps E ops ops s K) (evOps E ops ops s fun s' => gd (chkB E ops s') (K s')))
section swap
variable {E : Env}
def Out (E : Env) (o : Op) (s : St) (v : EV) (H : Heap) : Prop := ∀ K : EV → Heap → Prop, K v H → evOp E o s K
theorem killArgs_free : ∀ (l : List EV) (H : Heap), EV.freeL l = true → killArgs l H = H
  | [], _, _ => rfl
  | v :: l, H, h => by
    simp only [EV.freeL, Bool.and_eq_true] at h
    cases v <;> simp only [killArgs] <;> first | exact killArgs_free l H h.2 | (simp [EV.free] at h)
theorem roArgs_none (H : Heap) : ∀ (ms : List (Option RK)) (vs : List EV), allNone ms = true → roArgs H ms vs = vs
  | [], vs, _ => by cases vs <;> rfl
  | none :: ms, [], _ => rfl
  | none :: ms, v :: vs, h => by
    simp only [allNone] at h
    rw [roArgs, roArgs_none H ms vs h]
    rfl
  | some _ :: _, _, h => by simp [allNone] at h
theorem evV_loc {o : Op} {s s' : St} (h : ∀ x ∈ o.operands.toList, (St.opd E s) x = (St.opd E s') x) (hh : heapK E o = 0 ∨ s.heap = s'.heap) : evV E o s = evV E o s' := by
  funext K
  unfold evV
  split
  case h_1 x => rw [h x (by simp [Op.operands])]
  case h_2 x => rw [h x (by simp [Op.operands])]
  case h_3 c a b => rw [h c (by simp [Op.operands]), h a (by simp [Op.operands]), h b (by simp [Op.operands])]
  case h_4 t ps =>
    have e1 : (ps.toList.map fun p => (St.opd E s) p.2) = ps.toList.map fun p => (St.opd E s') p.2 := List.map_congr_left fun p hp => h p.2 (by simp only [Op.operands]; exact List.mem_map.2 ⟨p, hp, rfl⟩)
    have e2 : (ps.toList.map fun p => (p.1, (St.opd E s) p.2)) = ps.toList.map fun p => (p.1, (St.opd E s') p.2) := List.map_congr_left fun p hp => by rw [h p.2 (by simp only [Op.operands]; exact List.mem_map.2 ⟨p, hp, rfl⟩)]
    rw [e1, e2]
  case h_5 t a =>
    rcases hh with hh | hh
    · simp [heapK] at hh
    · rw [h a (by simp [Op.operands]), hh]
  case h_6 op t x y u =>
    rw [h x (by simp [Op.operands]), h y (by simp [Op.operands])]
    rcases hh with hh | hh
    · simp only [heapK] at hh
      unfold evCmp
      cases hq : Nat.beq (nilK y) 1 with
      | true => rw [hq] at hh; cases hh
      | false => rfl
    · rw [hh]
  case h_7 op u x => rw [h x (by simp [Op.operands])]
  case h_8 src dst x =>
    rcases hh with hh | hh
    · simp [heapK] at hh
    · rw [h x (by simp [Op.operands]), hh]
  case h_9 t x f =>
    rcases hh with hh | hh
    · simp [heapK] at hh
    · rw [h x (by simp [Op.operands]), hh]
  case h_10 t x f => rw [h x (by simp [Op.operands])]
  case h_11 t x i =>
    rcases hh with hh | hh
    · simp [heapK] at hh
    · rw [h x (by simp [Op.operands]), h i (by simp [Op.operands]), hh]
  case h_12 t x i => rw [h x (by simp [Op.operands]), h i (by simp [Op.operands])]
  case h_13 x i => rw [h x (by simp [Op.operands])]
  case h_14 f cs =>
    have e1 : cs.toList.map (St.opd E s) = cs.toList.map (St.opd E s') := List.map_congr_left fun x hx => h x (by simp [Op.operands]; simpa using hx)
    rw [e1]
  case h_15 t x lo hi mx =>
    rcases hh with hh | hh
    · simp [heapK] at hh
    · have ho : ∀ q : Option Operand, (∀ y, q = some y → y ∈ (#[x] ++ lo.toArray ++ hi.toArray ++ mx.toArray : Array Operand).toList) → q.map (St.opd E s) = q.map (St.opd E s') := by
        intro q hq
        cases q with
        | none => rfl
        | some y => simp only [Option.map_some, h y (hq y rfl)]
      rw [h x (by simp [Op.operands]), ho lo (by intro y hy; subst hy; simp), ho hi (by intro y hy; subst hy; simp), ho mx (by intro y hy; subst hy; simp), hh]
  case h_16 x t => rw [h x (by simp [Op.operands, Call.operands])]
  case h_17 xs ts =>
    have e1 : xs.toList.map (St.opd E s) = xs.toList.map (St.opd E s') := List.map_congr_left fun x hx => h x (by simp [Op.operands, Call.operands]; simpa using hx)
    rw [e1]
  case h_18 xs ts =>
    have e1 : xs.toList.map (St.opd E s) = xs.toList.map (St.opd E s') := List.map_congr_left fun x hx => h x (by simp [Op.operands, Call.operands]; simpa using hx)
    rw [e1]
  case h_19 x =>
    rcases hh with hh | hh
    · simp [heapK] at hh
    · rw [h x (by simp [Op.operands]), hh]
  case h_20 f fs _ =>
    have e1 : fs.toList.map (St.opd E s) = fs.toList.map (St.opd E s') := List.map_congr_left fun x hx => h x (by simp [Op.operands]; simpa using hx)
    rw [e1]
  case h_21 => rfl
theorem evOp_loc {o : Op} {s s' : St} (h : ∀ x ∈ o.operands.toList, (St.opd E s) x = (St.opd E s') x) (hh : s.heap = s'.heap) : evOp E o s = evOp E o s' := by
  funext K
  unfold evOp
  split
  · rw [hh]
  · rename_i t x
    rw [h x (by simp [Op.operands]), hh]
  · rename_i t n ps
    have e1 : (ps.toList.map fun p => (St.opd E s) p.2) = ps.toList.map fun p => (St.opd E s') p.2 := List.map_congr_left fun p hp => h p.2 (by simp only [Op.operands]; exact List.mem_map.2 ⟨p, hp, rfl⟩)
    have e2 : (ps.toList.map fun p => (p.1, (St.opd E s) p.2)) = ps.toList.map fun p => (p.1, (St.opd E s') p.2) := List.map_congr_left fun p hp => by rw [h p.2 (by simp only [Op.operands]; exact List.mem_map.2 ⟨p, hp, rfl⟩)]
    rw [e1, e2, hh]
  · rename_i t a x
    rw [h a (by simp [Op.operands]), h x (by simp [Op.operands]), hh]
  · rename_i t ln cp
    rw [h ln (by simp [Op.operands]), h cp (by simp [Op.operands]), hh]
  · rename_i f xs ts
    have e1 : xs.toList.map (St.opd E s) = xs.toList.map (St.opd E s') := List.map_congr_left fun x hx => h x (by simp [Op.operands, Call.operands]; exact .inr (by simpa using hx))
    rw [e1, h f (by simp [Op.operands, Call.operands]), hh]
  · rename_i x y t u
    rw [h x (by simp [Op.operands, Call.operands]), h y (by simp [Op.operands, Call.operands]), hh]
  · rename_i x y t u
    rw [h x (by simp [Op.operands, Call.operands]), h y (by simp [Op.operands, Call.operands]), hh]
  · rw [evV_loc h (.inr hh), hh]
theorem out_any {o : Op} {s s' : St} {v : EV} {H : Heap} (hD : DetFn E) (h : ∀ x ∈ o.operands.toList, (St.opd E s) x = (St.opd E s') x) (hk : heapK E o = 0) (ho : Out E o s v H) : H = s.heap ∧ Out E o s' v s'.heap := by
  have main : ∀ (T : St → (EV → Prop) → Prop), (∀ K, evOp E o s K = T s fun v => K v s.heap) → (∀ K, evOp E o s' K = T s' fun v => K v s'.heap) → T s = T s' → Det (T s) → H = s.heap ∧ Out E o s' v s'.heap := by
    intro T h1 h2 h3 h4
    have := ho (fun v' H' => v' = v ∧ H' = H) ⟨rfl, rfl⟩
    rw [h1] at this
    obtain ⟨u, ⟨rfl, hH⟩, h6⟩ := h4 _ this
    refine ⟨hH.symm, fun K hK => ?_⟩
    rw [h2, ← h3]
    exact h6 _ hK
  cases o
  case alloc => simp [heapK] at hk
  case box => simp [heapK] at hk
  case buildSlice => simp [heapK] at hk
  case store => simp [heapK] at hk
  case makeSlice => simp [heapK] at hk
  case call c =>
    obtain ⟨cal, xs, ts⟩ := c
    cases cal
    case value f =>
      cases f
      case func f =>
        simp only [heapK] at hk
        cases he : E.fn f with
        | none => simp [he] at hk
        | some en =>
          simp only [he] at hk
          obtain ⟨hn, hnl⟩ := hk0 hk
          have e1 : xs.toList.map (St.opd E s) = xs.toList.map (St.opd E s') := List.map_congr_left fun x hx => h x (by simp [Op.operands, Call.operands]; exact .inr (by simpa using hx))
          have key : ∀ (r : St) K, evOp E (.call { callee := .value (.func f), args := xs, argTypes := ts }) r K =
              gd (EV.freeL (xs.toList.map (St.opd E r))) (en.spec (xs.toList.map (St.opd E r)) [] fun v H' => gd (Nat.beq H'.length 0 && v.inI []) (K v r.heap)) := by
            intro r K
            simp only [evOp, St.opd, evCall, evCallF, he, List.append_nil, roArgs_none _ _ _ hn, hnl, cond_false]
            cases hfr : EV.freeL (xs.toList.map (St.opd E r)) with
            | false => rfl
            | true =>
              have : killArgs (xs.toList.map (St.opd E r)) r.heap = r.heap := killArgs_free _ _ hfr
              simp only [this]
              congr 1
              have : (fun (v : EV) (H' : Heap) => gd (Nat.beq H'.length 0 && v.inI []) (cond v.noRS (K v r.heap) (K v r.heap))) = fun v H' => gd (Nat.beq H'.length 0 && v.inI []) (K v r.heap) := by
                funext v H'
                cases v.noRS <;> rfl
              rw [this]
          exact main (fun r K => gd (EV.freeL (xs.toList.map (St.opd E r))) (en.spec (xs.toList.map (St.opd E r)) [] fun v H' => gd (Nat.beq H'.length 0 && v.inI []) (K v))) (key s) (key s') (by funext K; simp only [e1])
            (det_gd (det_bind (T := fun K : EV × Heap → Prop => en.spec _ _ fun v H' => K (v, H')) (U := fun (p : EV × Heap) (K : EV → Prop) => gd (Nat.beq p.2.length 0 && p.1.inI []) (K p.1)) (hD f en he _ _).to fun p => det_gd (det_pure p.1)))
      all_goals simp [heapK] at hk
    case builtin bi =>
      cases bi
      case len => exact main (fun r => evV E _ r) (fun _ => rfl) (fun _ => rfl) (evV_loc h (.inl hk)) det_evV
      case max => exact main (fun r => evV E _ r) (fun _ => rfl) (fun _ => rfl) (evV_loc h (.inl hk)) det_evV
      case min => exact main (fun r => evV E _ r) (fun _ => rfl) (fun _ => rfl) (evV_loc h (.inl hk)) det_evV
      all_goals simp [heapK] at hk
    all_goals simp [heapK] at hk
  all_goals first
    | exact main (fun r => evV E _ r) (fun _ => rfl) (fun _ => rfl) (evV_loc h (.inl hk)) det_evV
    | (simp [heapK] at hk)
theorem out_keep {o : Op} {s : St} {v : EV} {H : Heap} (hD : DetFn E) (hk : heapK E o ≤ 1) (ho : Out E o s v H) : H = s.heap := by
  by_cases h0 : heapK E o = 0
  · exact (out_any hD (fun _ _ => rfl) h0 ho).1
  · have main : (∀ K, evOp E o s K = evV E o s fun v => K v s.heap) → H = s.heap := by
      intro h1
      have := ho (fun v' H' => v' = v ∧ H' = H) ⟨rfl, rfl⟩
      rw [h1] at this
      obtain ⟨u, ⟨rfl, hH⟩, h6⟩ := det_evV _ this
      exact hH.symm
    cases o
    case alloc => simp [heapK] at hk
    case box => simp [heapK] at hk
    case buildSlice => simp [heapK] at hk
    case store => simp [heapK] at hk
    case makeSlice => simp [heapK] at hk
    case call c =>
      obtain ⟨cal, xs, ts⟩ := c
      cases cal
      case value f =>
        cases f
        case func f =>
          simp only [heapK] at hk h0
          cases he : E.fn f with
          | none => simp [he] at hk
          | some en =>
            simp only [he] at hk h0
            cases q1 : allNone en.ro <;> cases q2 : en.lend <;> cases q3 : newRo en.ro <;> cases q4 : keepRo en.ro <;> simp [q1, q2, q3, q4] at hk h0
        all_goals simp [heapK] at hk
      case builtin bi => cases bi <;> simp [heapK] at hk h0
      all_goals simp [heapK] at hk
    all_goals exact main fun _ => rfl
def More (H H' : Heap) : Prop := ∀ (b : Nat) c, H[b]? = some (some c) → H'[b]? = some (some c)
theorem More.append (H t : Heap) : More H (H ++ t) := by
  intro b c h
  have hlt : b < H.length := by
    rcases Nat.lt_or_ge b H.length with hh | hh
    · exact hh
    · rw [List.getElem?_eq_none hh] at h; cases h
  rw [List.getElem?_append_left hlt]; exact h
theorem evLoad_more {t : TypeId} {v : EV} {H H' : Heap} {K : EV → Prop} (hm : More H H') (h : evLoad E t v H K) : evLoad E t v H' K := by
  cases v <;> simp only [evLoad] at h ⊢ <;> try exact h
  split at h
  · rename_i c hb
    rw [hm _ _ hb]; exact h
  · exact h.elim
theorem evWin_more {x : EV} {H H' : Heap} (hm : More H H') {r : IntKind × Nat × (Nat → Int)} (h : evWin H x = some r) : evWin H' x = some r := by
  cases x <;> simp only [evWin] at h ⊢ <;> try exact h
  split at h
  · rename_i k g hb
    rw [hm _ _ hb]; exact h
  · cases h
theorem evConv_more {src dst : TypeId} {x : EV} {H H' : Heap} {K : EV → Prop} (hm : More H H') (h : evConv E src dst x H K) : evConv E src dst x H' K := by
  unfold evConv at h ⊢
  split at h
  case h_2 => exact h.elim
  rename_i si di hs hd
  split at h
  · exact h
  · exact h
  · rename_i htd
    split at h
    case h_2 => exact h.elim
    rename_i e he
    rw [cd_iff] at h
    cases hi : isIntTy E e .u8 with
    | false => exact (h.2 hi).elim
    | true =>
      have h' := h.1 hi
      simp only [cond_true]
      split at h'
      · rename_i n g hw
        rw [evWin_more hm hw]; exact h'
      · split at h'
        · exact h'
        · exact h'.elim
  · exact h.elim
theorem evFieldAddr_more {t : TypeId} {x : EV} {f : Nat} {H H' : Heap} {K : EV → Prop} (hm : More H H') (h : evFieldAddr E t x f H K) : evFieldAddr E t x f H' K := by
  unfold evFieldAddr at h ⊢
  split at h
  case h_2 => exact h.elim
  split at h
  case h_2 => exact h.elim
  split at h
  case h_2 => exact h.elim
  split at h
  case h_2 => exact h.elim
  split at h
  · split at h
    · rename_i c hb
      simp_all [hm _ _ hb]
    · exact h.elim
  · simp_all
  · exact h.elim
theorem evIndexAddr_more {t : TypeId} {x i : EV} {H H' : Heap} {K : EV → Prop} (hm : More H H') (h : evIndexAddr E t x i H K) : evIndexAddr E t x i H' K := by
  unfold evIndexAddr at h ⊢
  split at h
  case h_2 => exact h.elim
  split at h
  · split at h
    case h_2 => exact h.elim
    split at h
    · split at h
      · rename_i c hb
        simp_all [hm _ _ hb]
      · exact h.elim
    · exact h
    · exact h
    · exact h.elim
  · split at h
    case h_2 => exact h.elim
    split at h
    · split at h
      · rename_i c hb
        simp_all [hm _ _ hb]
      · exact h.elim
    · simp_all
    · simp_all
    · exact h.elim
  · exact h.elim
theorem evSlice_more {t : TypeId} {x : EV} {lo hi mx : Option EV} {H H' : Heap} {K : EV → Prop} (hm : More H H') (h : evSlice E t x lo hi mx H K) : evSlice E t x lo hi mx H' K := by
  unfold evSlice at h ⊢
  split at h
  case h_2 => exact h.elim
  split at h
  · simp_all
  · split at h
    · rename_i c _ _ hb
      simp_all [hm _ _ hb]
    · exact h.elim
  · simp_all
  · simp_all
  · split at h
    · rename_i hb
      simp_all [hm _ _ hb]
    · exact h.elim
  · exact h.elim
theorem evSliceA_more {t : TypeId} {x : EV} {lo hi mx : Option EV} {H H' : Heap} {K : EV → Prop} (hm : More H H') (h : evSliceA E t x lo hi mx H K) : evSliceA E t x lo hi mx H' K := by
  cases x
  case rsT n s g => exact h
  all_goals exact evSlice_more hm h
theorem evNil_more {x : EV} {H H' : Heap} {K : EV → Prop} (hm : More H H') (h : evNil x H K) : evNil x H' K := by
  unfold evNil at h ⊢
  cases x <;> simp only at h ⊢ <;> try exact h
  rename_i b p
  split at h
  · rename_i c hb
    rw [hm _ _ hb]
    exact h
  · exact h.elim
theorem evCmp_more {op : BinOp} {t : TypeId} {o : Operand} {x y : EV} {H H' : Heap} {K : EV → Prop} (hm : More H H') (h : evCmp E op t o x y H K) : evCmp E op t o x y H' K := by
  unfold evCmp at h ⊢
  cases h1 : Nat.beq (nilK o) 1 with
  | false => rw [h1] at h; exact h
  | true =>
    rw [h1] at h
    simp only [cond_true] at h ⊢
    unfold evPN at h ⊢
    split at h
    · exact h
    · cases h2 : tdIs E t 1 with
      | false => rw [h2] at h; exact h.elim
      | true => rw [h2] at h; simp only [cond_true] at h ⊢; exact evNil_more hm h
    · exact h.elim
theorem out_more {o : Op} {s s' : St} {v : EV} {H : Heap} (hD : DetFn E) (h : ∀ x ∈ o.operands.toList, (St.opd E s) x = (St.opd E s') x) (hk : heapK E o = 1) (hm : More s.heap s'.heap) (ho : Out E o s v H) : Out E o s' v s'.heap := by
  have hH := out_keep hD (Nat.le_of_eq hk) ho
  subst hH
  have main : (∀ (r : St) K, evOp E o r K = evV E o r fun v => K v r.heap) → (∀ K, evV E o s K → evV E o s' K) → Out E o s' v s'.heap := by
    intro h1 h2 K hK
    rw [h1]
    refine h2 _ ?_
    have := ho (fun v _ => K v s'.heap) hK
    rwa [h1] at this
  cases o <;> simp [heapK] at hk
  case load t a =>
    refine main (fun _ _ => rfl) fun K hK => ?_
    simp only [evV] at hK ⊢
    rw [← h a (by simp [Op.operands])]
    exact evLoad_more hm hK
  case convert src dst x =>
    refine main (fun _ _ => rfl) fun K hK => ?_
    simp only [evV] at hK ⊢
    rw [← h x (by simp [Op.operands])]
    rw [gd_iff] at hK ⊢
    exact ⟨hK.1, evConv_more hm hK.2⟩
  case nilCheck x =>
    refine main (fun _ _ => rfl) fun K hK => ?_
    simp only [evV] at hK ⊢
    rw [← h x (by simp [Op.operands])]
    rw [gd_iff] at hK ⊢
    exact ⟨hK.1, evNil_more hm hK.2⟩
  case binOp op t x y u =>
    refine main (fun _ _ => rfl) fun K hK => ?_
    simp only [evV] at hK ⊢
    rw [← h x (by simp [Op.operands]), ← h y (by simp [Op.operands])]
    rw [gd_iff] at hK ⊢
    exact ⟨hK.1, evCmp_more hm hK.2⟩
  case fieldAddr t x f =>
    refine main (fun _ _ => rfl) fun K hK => ?_
    simp only [evV] at hK ⊢
    rw [← h x (by simp [Op.operands])]
    rw [gd_iff] at hK ⊢
    exact ⟨hK.1, evFieldAddr_more hm hK.2⟩
  case indexAddr t x i =>
    refine main (fun _ _ => rfl) fun K hK => ?_
    simp only [evV] at hK ⊢
    rw [← h x (by simp [Op.operands]), ← h i (by simp [Op.operands])]
    rw [gd_iff] at hK ⊢
    exact ⟨hK.1, evIndexAddr_more hm hK.2⟩
  case slice t x lo hi mx =>
    refine main (fun _ _ => rfl) fun K hK => ?_
    simp only [evV] at hK ⊢
    have ho : ∀ q : Option Operand, (∀ y, q = some y → y ∈ (#[x] ++ lo.toArray ++ hi.toArray ++ mx.toArray : Array Operand).toList) → q.map (St.opd E s) = q.map (St.opd E s') := by
      intro q hq
      cases q with
      | none => rfl
      | some y => simp only [Option.map_some, h y (hq y rfl)]
    rw [← h x (by simp [Op.operands]), ← ho lo (by intro y hy; subst hy; simp), ← ho hi (by intro y hy; subst hy; simp), ← ho mx (by intro y hy; subst hy; simp)]
    rw [gd_iff] at hK ⊢
    exact ⟨hK.1, evSliceA_more hm hK.2⟩
  case call c =>
    obtain ⟨cal, xs, ts⟩ := c
    cases cal
    case value f =>
      cases f
      case func f =>
        simp only at hk
        cases he : E.fn f with
        | none => simp [he] at hk
        | some en =>
          simp only [he] at hk
          cases q1 : allNone en.ro <;> cases q2 : en.lend <;> cases q3 : newRo en.ro <;> cases q4 : keepRo en.ro <;> simp [q1, q2, q3, q4] at hk
      all_goals simp at hk
    case builtin bi => cases bi <;> simp at hk
    all_goals simp at hk
theorem out_grow {o : Op} {s : St} {v : EV} {H : Heap} (hk : heapK E o = 3) (ho : Out E o s v H) : More s.heap H := by
  have h := ho (fun v' H' => v' = v ∧ H' = H) ⟨rfl, rfl⟩
  cases o <;> simp [heapK] at hk
  case binOp op t x y u => cases hq : Nat.beq (nilK y) 1 <;> rw [hq] at hk <;> cases hk
  case alloc t =>
    simp only [evOp] at h
    split at h
    · obtain ⟨_, rfl⟩ := h; exact More.append _ _
    · exact h.elim
  case box t x =>
    simp only [evOp] at h
    split at h
    · exact h.elim
    · obtain ⟨_, rfl⟩ := h; exact More.append _ _
  case buildSlice t n ps =>
    simp only [evOp] at h
    rw [gd_iff] at h
    have h := h.2
    unfold evBuildSlice at h
    split at h
    case h_2 => exact h.elim
    split at h
    case h_2 => exact h.elim
    split at h
    case h_2 => exact h.elim
    rw [gd_iff] at h
    have h := h.2
    split at h
    · rw [gd_iff] at h
      have h := h.2
      split at h
      · obtain ⟨_, rfl⟩ := h; exact More.append _ _
      · exact h.elim
    · rw [gd_iff] at h
      have h := h.2
      split at h
      · obtain ⟨_, rfl⟩ := h; exact More.append _ _
      · exact h.elim
  case makeSlice t l c =>
    simp only [evOp] at h
    rw [gd_iff] at h
    have h := h.2
    unfold evMakeSliceA at h
    cases hel : elInt E t with
    | true =>
      rw [hel, cond_true] at h
      unfold evMakeSlice at h
      split at h
      case h_2 => exact h.elim
      split at h
      case h_2 => exact h.elim
      split at h
      case h_2 => exact h.elim
      split at h
      case h_2 => exact h.elim
      rw [gd_iff] at h
      obtain ⟨_, _, rfl⟩ := h
      exact More.append _ _
    | false =>
      rw [hel, cond_false] at h
      unfold evMakeSliceT at h
      split at h
      case h_2 => exact h.elim
      split at h
      case h_2 => exact h.elim
      split at h
      case h_2 => exact h.elim
      split at h
      case h_2 => exact h.elim
      rw [gd_iff] at h
      obtain ⟨_, _, rfl⟩ := h
      exact More.append _ _
  case call c =>
    obtain ⟨cal, xs, ts⟩ := c
    cases cal
    case value f =>
      cases f
      case func f =>
        simp only at hk
        cases he : E.fn f with
        | none => simp [he] at hk
        | some en =>
          simp only [he] at hk
          cases q1 : allNone en.ro <;> cases q2 : en.lend <;> cases q3 : newRo en.ro <;> cases q4 : keepRo en.ro <;> simp [q1, q2, q3, q4] at hk
      all_goals simp at hk
    case builtin bi => cases bi <;> simp at hk
    all_goals simp at hk
theorem op4 {o : Op} (hk : heapK E o = 4) : ∃ (f : FuncId) (en : Entry) (xs : List Operand), E.fn f = some en ∧ ∀ (s : St) (K : EV → Heap → Prop), evOp E o s K =
    gd (EV.freeL (xs.map (St.opd E s))) (evCallL en (xs.map (St.opd E s)) [] [] s.heap K) := by
  cases o <;> simp [heapK] at hk
  case binOp op t x y u => cases hq : Nat.beq (nilK y) 1 <;> rw [hq] at hk <;> cases hk
  case call c =>
    obtain ⟨cal, xs, ts⟩ := c
    cases cal
    case value f =>
      cases f
      case func f =>
        simp only at hk
        cases he : E.fn f with
        | none => simp [he] at hk
        | some en =>
          simp only [he] at hk
          obtain ⟨h1, h2⟩ := hk4 hk
          refine ⟨f, en, xs.toList, he, fun s K => ?_⟩
          simp only [evOp, St.opd, evCall, evCallF, he, List.append_nil, h1, h2, cond_true]
      all_goals simp at hk
    case builtin bi => cases bi <;> simp at hk
    all_goals simp at hk
theorem call4 {en : Entry} {args : List EV} {H : Heap} {K : EV → Heap → Prop} : evCallL en args [] [] H K =
    gd (dfdL args && (EV.inIL [] args && (inIH [] H [] && (allLt H.length [] && noneIn [] []))))
    (en.spec (EV.renL (pos []) args) (subH H []) fun v H' =>
      gd (v.inI (upTo H'.length) && (inIH (upTo H'.length) H' (upTo H'.length) && Nat.ble 0 H'.length))
        (K (v.ren (backN [] H.length)) (H ++ renH (backN [] H.length) H'))) := by
  unfold evCallL
  have : ∀ (c : Bool) (X : Heap), killN (cond c [] []) X = X := by intro c X; cases c <;> rfl
  simp only [this, putB]
  rfl
theorem op5 {o : Op} (hk : heapK E o = 5) : ∃ (f : FuncId) (en : Entry) (xs : List Operand), E.fn f = some en ∧ ∀ (s : St) (K : EV → Heap → Prop), evOp E o s K =
    evCallL en (xs.map (St.opd E s)) [] (canI 0 (xs.map (St.opd E s)) s.heap) s.heap fun v H2 => keepH H2 s.heap ∧ gd (v.inI []) (K v s.heap) := by
  cases o <;> simp [heapK] at hk
  case binOp op t x y u => cases hq : Nat.beq (nilK y) 1 <;> rw [hq] at hk <;> cases hk
  case call c =>
    obtain ⟨cal, xs, ts⟩ := c
    cases cal
    case value f =>
      cases f
      case func f =>
        simp only at hk
        cases he : E.fn f with
        | none => simp [he] at hk
        | some en =>
          simp only [he] at hk
          obtain ⟨h1, h2, h3⟩ := hk5 hk
          refine ⟨f, en, xs.toList, he, fun s K => ?_⟩
          simp only [evOp, St.opd, evCall, evCallF, he, List.append_nil, h1, h2, h3, cond_true, cond_false]
      all_goals simp at hk
    case builtin bi => cases bi <;> simp at hk
    all_goals simp at hk
theorem out_keep5 (hD : DetFn E) {o : Op} {s : St} {v : EV} {H : Heap} (hk : kp (heapK E o) = true) (ho : Out E o s v H) : H = s.heap := by
  simp only [kp, Bool.or_eq_true, Nat.ble_eq, Nat.beq_eq] at hk
  rcases hk with hk | hk
  · exact out_keep hD hk ho
  · have h := ho (fun v' H' => v' = v ∧ H' = H) ⟨rfl, rfl⟩
    obtain ⟨f, en, xs, he, h1⟩ := op5 hk
    rw [h1] at h
    obtain ⟨u, w, h2, _⟩ := det_evCallL (hD f en he) _ h
    have h2 := h2.2
    rw [gd_iff] at h2
    exact h2.2.2.symm
theorem out_new4 (hD : DetFn E) {o : Op} {s : St} {v : EV} {H : Heap} (hk : heapK E o = 4) (ho : Out E o s v H) : ∃ t, H = s.heap ++ t := by
  have h := ho (fun v' H' => v' = v ∧ H' = H) ⟨rfl, rfl⟩
  obtain ⟨f, en, xs, he, h1⟩ := op4 hk
  rw [h1, gd_iff] at h
  have h := h.2
  rw [call4, gd_iff] at h
  obtain ⟨u, w, h2, _⟩ := hD f en he _ _ _ h.2
  rw [gd_iff] at h2
  exact ⟨_, h2.2.2.symm⟩
def gval (ops : List Oper) (o : Oper) (s : St) : Option Bool :=
  match o.guard with
  | none => some true
  | some (j, want) => match ops[j]? with
    | some oj => match oj.dst with
      | some d => match s.slot d with
        | .bool b => some (beqB b want)
        | .tuple [] => some false
        | _ => none
      | none => none
    | none => none
theorem evOne_iff {ops : List Oper} {o : Oper} {s : St} {K : St → Prop} : evOne E ops o s K ↔ match gval ops o s with
    | some true => evOp E o.op s fun v H => K (s.put o.dst v H)
    | some false => K (s.put o.dst (.tuple []) s.heap)
    | none => False := by
  unfold evOne gval
  cases hg : o.guard with
  | none => exact Iff.rfl
  | some g =>
    obtain ⟨j, want⟩ := g
    dsimp only
    cases ops[j]? with
    | none => exact Iff.rfl
    | some oj =>
      dsimp only
      cases oj.dst with
      | none => exact Iff.rfl
      | some d =>
        dsimp only
        cases hs : s.slot d
        case bool b =>
          have hset : s.put (some d) (.bool b) s.heap = s := by
            simp only [St.put, put_same (slot_some hs (by simp))]
          dsimp only
          rw [br_iff]
          cases b <;> cases want <;> simp [hset, beqB]
        case tuple l => cases l <;> exact Iff.rfl
        all_goals exact Iff.rfl
theorem gval_loc {ops : List Oper} {o : Oper} {s s' : St} (h : ∀ d ∈ guardSlot ops o, s.slot d = s'.slot d) : gval ops o s = gval ops o s' := by
  unfold gval
  unfold guardSlot at h
  cases hg : o.guard with
  | none => rfl
  | some g =>
    obtain ⟨j, want⟩ := g
    simp only [hg] at h
    dsimp only
    cases hj : ops[j]? with
    | none => rfl
    | some oj =>
      simp only [hj] at h
      dsimp only
      cases hd : oj.dst with
      | none => rfl
      | some d =>
        simp only [hd] at h
        dsimp only
        rw [h d (by simp)]
theorem slot_put {s : St} {d : Option Nat} {v : EV} {H : Heap} {t : Nat} (h : d ≠ some t) : (s.put d v H).slot t = s.slot t := by
  cases d with
  | none => rfl
  | some d =>
    simp only [St.put, St.slot]
    rw [map_some_ne]
    intro e; subst e; exact h rfl
theorem opd_put {s : St} {d : Option Nat} {v : EV} {H : Heap} {l : List Operand} (h : noMem d (tmpsOf l) = true) : ∀ x ∈ l, St.opd E (s.put d v H) x = (St.opd E s) x := by
  intro x hx
  cases x
  case tmp t =>
    have ht := tmpsOf_mem t l hx
    simp only [St.opd]
    refine slot_put ?_
    intro e; subst e
    simp only [noMem, Bool.not_eq_true', ← Bool.not_eq_true, memN_iff] at h
    exact h ht
  all_goals rfl
theorem gval_put {ops : List Oper} {o : Oper} {s : St} {d : Option Nat} {v : EV} {H : Heap} (h : noMem d (guardSlot ops o) = true) : gval ops o (s.put d v H) = gval ops o s := by
  refine gval_loc fun t ht => slot_put ?_
  intro e; subst e
  simp only [noMem, Bool.not_eq_true', ← Bool.not_eq_true, memN_iff] at h
  exact h ht
theorem put_heap {s : St} {d : Option Nat} {v : EV} {H : Heap} : (s.put d v H).heap = H := by cases d <;> rfl
theorem put_comm {s : St} {a b : Option Nat} {u v : EV} {H H' H'' : Heap} (h : neO a b = true) : (s.put a u H).put b v H'' = (s.put b v H').put a u H'' := by
  cases a <;> cases b <;> simp only [St.put]
  rename_i a b
  simp only [neO, Bool.not_eq_true'] at h
  rw [List.set_comm]
  intro e; subst e; simp at h
theorem evOne_swap_of (hD : DetFn E) {ops : List Oper} {p o : Oper} (hi : indepD ops p o = true) {s : St} {K K' : St → Prop} (hK : ∀ s, K s → K' s)
    (hc : ∀ v1 H1 v2 H2, Out E p.op s v1 H1 → Out E o.op (s.put p.dst v1 H1) v2 H2 → K ((s.put p.dst v1 H1).put o.dst v2 H2) →
      ∃ v2' H2' v1' H1', Out E o.op s v2' H2' ∧ Out E p.op (s.put o.dst v2' H2') v1' H1' ∧ K' ((s.put o.dst v2' H2').put p.dst v1' H1'))
    (h : evOne E ops p s fun s1 => evOne E ops o s1 K) : evOne E ops o s fun s2 => evOne E ops p s2 K' := by
  simp only [indepD, Bool.and_eq_true] at hi
  obtain ⟨⟨hi1, hi2⟩, ⟨hi3, hi4⟩, hi5⟩ := hi
  rw [evOne_iff] at h ⊢
  cases hp : gval ops p s with
  | none => simp only [hp] at h
  | some bp =>
    simp only [hp] at h
    cases bp with
    | false =>
      simp only at h
      rw [evOne_iff, gval_put hi2] at h
      cases ho : gval ops o s with
      | none => simp only [ho] at h
      | some bo =>
        simp only [ho] at h
        cases bo with
        | false =>
          simp only at h ⊢
          rw [evOne_iff, gval_put hi4, hp]
          simp only
          rw [put_heap] at h ⊢
          rw [← put_comm hi5]; exact hK _ h
        | true =>
          simp only at h ⊢
          obtain ⟨v, H, h1, h2⟩ := det_evOp hD _ h
          rw [evOp_loc (s' := s) (opd_put hi1) put_heap] at h2
          refine h2 _ ?_
          rw [evOne_iff, gval_put hi4, hp]
          simp only
          rw [put_heap, ← put_comm hi5]; exact hK _ h1
    | true =>
      simp only at h
      obtain ⟨v1, H1, h1, h2⟩ := det_evOp hD _ h
      have hO1 : Out E p.op s v1 H1 := h2
      rw [evOne_iff, gval_put hi2] at h1
      cases ho : gval ops o s with
      | none => simp only [ho] at h1
      | some bo =>
        simp only [ho] at h1
        cases bo with
        | false =>
          simp only at h1 ⊢
          rw [evOne_iff, gval_put hi4, hp]
          simp only
          rw [evOp_loc (s' := s) (opd_put hi3) put_heap]
          refine h2 _ ?_
          rw [put_heap] at h1
          rw [← put_comm hi5]; exact hK _ h1
        | true =>
          simp only at h1 ⊢
          obtain ⟨v2, H2, h3, h4⟩ := det_evOp hD _ h1
          have hO2 : Out E o.op (s.put p.dst v1 H1) v2 H2 := h4
          obtain ⟨v2', H2', v1', H1', q1, q2, q3⟩ := hc v1 H1 v2 H2 hO1 hO2 h3
          refine q1 _ ?_
          rw [evOne_iff, gval_put hi4, hp]
          simp only
          exact q2 _ q3
theorem hsame_out {o : Op} {s : St} {d : Option Nat} {v v1 : EV} {H' H1 : Heap} (hi : noMem d (tmpsOf o.operands.toList) = true) (hH' : H' = s.heap) (h : Out E o s v1 H1) : Out E o (s.put d v H') v1 H1 := by
  intro K' hK'
  rw [evOp_loc (s' := s) (opd_put hi) (by rw [put_heap, hH'])]
  exact h K' hK'
theorem back_out {o : Op} {s : St} {d : Option Nat} {v v1 : EV} {H' H1 : Heap} (hi : noMem d (tmpsOf o.operands.toList) = true) (hH' : H' = s.heap) (h : Out E o (s.put d v H') v1 H1) : Out E o s v1 H1 := by
  intro K' hK'
  rw [← evOp_loc (s := s.put d v H') (opd_put hi) (by rw [put_heap, hH'])]
  exact h K' hK'
theorem evOne_swap (hD : DetFn E) {ops : List Oper} {p o : Oper} (hi : indepD ops p o = true) (hi6 : heapOk (heapK E p.op) (heapK E o.op) = true) {s : St} {K : St → Prop}
    (h : evOne E ops p s fun s1 => evOne E ops o s1 K) : evOne E ops o s fun s2 => evOne E ops p s2 K := by
  refine evOne_swap_of hD hi (fun _ h => h) ?_ h
  simp only [indepD, Bool.and_eq_true] at hi
  obtain ⟨⟨hi1, hi2⟩, ⟨hi3, hi4⟩, hi5⟩ := hi
  intro v1 H1 v2 H2 hO1 hO2 h3
  have fin : ∀ H2', Out E o.op s v2 H2' → Out E p.op (s.put o.dst v2 H2') v1 H2 → ∃ v2' H2' v1' H1', Out E o.op s v2' H2' ∧ Out E p.op (s.put o.dst v2' H2') v1' H1' ∧ K ((s.put o.dst v2' H2').put p.dst v1' H1') :=
    fun H2' q1 q2 => ⟨v2, H2', v1, H2, q1, q2, by rw [← put_comm hi5]; exact h3⟩
  simp only [heapOk, Bool.or_eq_true, Bool.and_eq_true, Nat.beq_eq] at hi6
  rcases hi6 with hz | hz | ⟨hz1, hz2⟩ | ⟨hz1, hz2⟩ | ⟨hz1, hz2⟩
  · obtain ⟨q1, q2⟩ := out_any (s' := s.put o.dst v2 H2) hD (fun x hx => (opd_put hi3 x hx).symm) hz hO1
    rw [put_heap] at q2
    exact fin H2 (back_out hi1 q1 hO2) q2
  · obtain ⟨q1, q2⟩ := out_any (s' := s) hD (opd_put hi1) hz hO2
    rw [put_heap] at q1
    refine fin s.heap q2 ?_
    rw [q1]
    exact hsame_out hi3 rfl hO1
  · have q1 := out_keep5 hD hz1 hO1
    have q2 := out_keep5 hD hz2 hO2
    rw [put_heap] at q2
    refine fin H2 (back_out hi1 q1 hO2) ?_
    rw [q2]
    exact hsame_out hi3 q1 hO1
  · -- what is read, and new blocks
    have q1 := out_keep hD (Nat.le_of_eq hz1) hO1
    have hO2' : Out E o.op s v2 H2 := back_out hi1 q1 hO2
    have hmore := out_grow hz2 hO2'
    refine fin H2 hO2' ?_
    have := out_more (s' := s.put o.dst v2 H2) hD (fun x hx => (opd_put hi3 x hx).symm) hz1 (by rw [put_heap]; exact hmore) hO1
    rwa [put_heap] at this
  · have q1 := out_keep hD (Nat.le_of_eq hz1) hO1
    have hO2' : Out E o.op s v2 H2 := back_out hi1 q1 hO2
    obtain ⟨t, ht⟩ := out_new4 hD hz2 hO2'
    have hmore : More s.heap H2 := by rw [ht]; exact More.append _ _
    refine fin H2 hO2' ?_
    have := out_more (s' := s.put o.dst v2 H2) hD (fun x hx => (opd_put hi3 x hx).symm) hz1 (by rw [put_heap]; exact hmore) hO1
    rwa [put_heap] at this
theorem evLoad_at {t : TypeId} {v : EV} {H H' : Heap} (hb : ∀ b, blkOf v = some b → H[b]? = H'[b]?) : evLoad E t v H = evLoad E t v H' := by
  funext K
  cases v <;> simp only [evLoad]
  rw [hb _ rfl]
theorem evWin_at {x : EV} {H H' : Heap} (hb : ∀ b, blkOf x = some b → H[b]? = H'[b]?) : evWin H x = evWin H' x := by
  cases x <;> simp only [evWin]
  rw [hb _ rfl]
theorem evConv_at {src dst : TypeId} {x : EV} {H H' : Heap} (hb : ∀ b, blkOf x = some b → H[b]? = H'[b]?) : evConv E src dst x H = evConv E src dst x H' := by
  funext K
  have hw := evWin_at hb
  unfold evConv
  cases E.ty src with
  | none => rfl
  | some si =>
    cases E.ty dst with
    | none => rfl
    | some di =>
      simp only
      cases di.td <;> try rfl
      all_goals (cases x <;> first | rfl | (show convRest E si _ H K = convRest E si _ H' K; unfold convRest; rw [hw]))
theorem evNil_at {x : EV} {H H' : Heap} (hb : ∀ b, blkOf x = some b → H[b]? = H'[b]?) : evNil x H = evNil x H' := by
  funext K
  cases x <;> first | rfl | (simp only [evNil]; rw [hb _ rfl]) | (rename_i v; cases v <;> rfl)
theorem evFieldAddr_at {t : TypeId} {x : EV} {f : Nat} {H H' : Heap} (hb : ∀ b, blkOf x = some b → H[b]? = H'[b]?) : evFieldAddr E t x f H = evFieldAddr E t x f H' := by
  funext K
  cases x <;> first | rfl | (simp only [evFieldAddr]; rw [hb _ rfl]) | (rename_i v; cases v <;> rfl)
theorem evIndexAddr_at {t : TypeId} {x i : EV} {H H' : Heap} (hb : ∀ b, blkOf x = some b → H[b]? = H'[b]?) : evIndexAddr E t x i H = evIndexAddr E t x i H' := by
  funext K
  cases x <;> first | rfl | (simp only [evIndexAddr]; rw [hb _ rfl]) | (rename_i v; cases v <;> rfl)
theorem evSlice_at {t : TypeId} {x : EV} {lo hi mx : Option EV} {H H' : Heap} (hb : ∀ b, blkOf x = some b → H[b]? = H'[b]?) : evSlice E t x lo hi mx H = evSlice E t x lo hi mx H' := by
  funext K
  unfold evSlice
  cases mx with
  | some _ => rfl
  | none =>
    cases E.ty t with
    | none => rfl
    | some ti =>
      simp only
      cases ti.td
      case slice =>
        cases x
        case slice => simp only; rw [hb _ rfl]
        all_goals rfl
      case array =>
        cases x
        case ptr b p =>
          cases p with
          | nil => simp only; rw [hb _ rfl]
          | cons _ _ => rfl
        all_goals rfl
      all_goals (cases x <;> rfl)
theorem evSliceA_at {t : TypeId} {x : EV} {lo hi mx : Option EV} {H H' : Heap} (hb : ∀ b, blkOf x = some b → H[b]? = H'[b]?) : evSliceA E t x lo hi mx H = evSliceA E t x lo hi mx H' := by
  cases x
  case rsT n s g => rfl
  all_goals exact evSlice_at hb
theorem out_read {o : Op} {s s' : St} {v : EV} {H : Heap} {x : Operand} (h : ∀ x ∈ o.operands.toList, (St.opd E s) x = (St.opd E s') x) (hr : readPtr o = some x)
    (hb : ∀ b, blkOf (St.opd E s x) = some b → s.heap[b]? = s'.heap[b]?) (ho : Out E o s v H) : H = s.heap ∧ Out E o s' v s'.heap := by
  have main : (∀ (r : St) K, evOp E o r K = evV E o r fun v => K v r.heap) → evV E o s = evV E o s' → H = s.heap ∧ Out E o s' v s'.heap := by
    intro h1 h2
    have := ho (fun v' H' => v' = v ∧ H' = H) ⟨rfl, rfl⟩
    rw [h1] at this
    obtain ⟨u, ⟨rfl, hH⟩, h6⟩ := det_evV _ this
    refine ⟨hH.symm, fun K hK => ?_⟩
    rw [h1, ← h2]
    exact h6 _ hK
  cases o <;> simp only [readPtr, Option.some.injEq, reduceCtorEq] at hr
  case load t a =>
    subst hr
    refine main (fun _ _ => rfl) (funext fun K => ?_)
    simp only [evV]
    rw [← h a (by simp [Op.operands]), evLoad_at hb]
  case convert src dst x =>
    subst hr
    refine main (fun _ _ => rfl) (funext fun K => ?_)
    simp only [evV]
    rw [← h x (by simp [Op.operands]), evConv_at hb]
  case nilCheck x =>
    subst hr
    refine main (fun _ _ => rfl) (funext fun K => ?_)
    simp only [evV]
    rw [← h x (by simp [Op.operands]), evNil_at hb]
  case fieldAddr t x f =>
    subst hr
    refine main (fun _ _ => rfl) (funext fun K => ?_)
    simp only [evV]
    rw [← h x (by simp [Op.operands]), evFieldAddr_at hb]
  case indexAddr t x i =>
    subst hr
    refine main (fun _ _ => rfl) (funext fun K => ?_)
    simp only [evV]
    rw [← h x (by simp [Op.operands]), ← h i (by simp [Op.operands]), evIndexAddr_at hb]
  case slice t x lo hi mx =>
    subst hr
    refine main (fun _ _ => rfl) (funext fun K => ?_)
    simp only [evV]
    have ho : ∀ q : Option Operand, (∀ y, q = some y → y ∈ (#[x] ++ lo.toArray ++ hi.toArray ++ mx.toArray : Array Operand).toList) → q.map (St.opd E s) = q.map (St.opd E s') := by
      intro q hq
      cases q with
      | none => rfl
      | some y => simp only [Option.map_some, h y (hq y rfl)]
    rw [← h x (by simp [Op.operands]), ← ho lo (by intro y hy; subst hy; simp), ← ho hi (by intro y hy; subst hy; simp), ← ho mx (by intro y hy; subst hy; simp), evSliceA_at hb]
theorem out_store {o : Op} {s : St} {v : EV} {H : Heap} {a : Operand} (hp : storePtr o = some a) (ho : Out E o s v H) :
    v = .undef ∧ ∃ b c, blkOf (St.opd E s a) = some b ∧ H = s.heap.set b c ∧
      ∀ s', (∀ x ∈ o.operands.toList, (St.opd E s) x = (St.opd E s') x) → s'.heap[b]? = s.heap[b]? → Out E o s' .undef (s'.heap.set b c) := by
  cases o <;> simp only [storePtr, Option.some.injEq, reduceCtorEq] at hp
  case store t a' x =>
    subst hp
    have h := ho (fun v' H' => v' = v ∧ H' = H) ⟨rfl, rfl⟩
    simp only [evOp] at h
    cases hq : St.opd E s a' <;> rw [hq] at h <;> simp only [evStore] at h <;> try exact h.elim
    rename_i b p
    cases hb : s.heap[b]? with
    | none => rw [hb] at h; exact h.elim
    | some oc =>
      cases oc with
      | none => rw [hb] at h; exact h.elim
      | some c =>
        rw [hb] at h
        simp only at h
        cases hs : EV.set p c (St.opd E s x) with
        | none => rw [hs] at h; exact h.elim
        | some c' =>
          rw [hs] at h
          simp only at h
          rw [gd_iff] at h
          obtain ⟨h1, rfl, rfl⟩ := h
          refine ⟨rfl, b, some c', rfl, rfl, fun s' hop hbb K hK => ?_⟩
          simp only [evOp]
          rw [← hop a' (by simp [Op.operands]), ← hop x (by simp [Op.operands]), hq]
          simp only [evStore, hbb, hb, hs]
          rw [gd_iff]
          exact ⟨h1, hK⟩
theorem readPtr_mem {o : Op} {x : Operand} (h : readPtr o = some x) : x ∈ o.operands.toList := by
  cases o <;> simp only [readPtr, Option.some.injEq, reduceCtorEq] at h <;> subst h <;> simp [Op.operands]
theorem storePtr_mem {o : Op} {x : Operand} (h : storePtr o = some x) : x ∈ o.operands.toList := by
  cases o <;> simp only [storePtr, Option.some.injEq, reduceCtorEq] at h <;> subst h <;> simp [Op.operands]
theorem apart_spec {a x : EV} {b c : Nat} (h : apartV a x = true) (ha : blkOf a = some b) (hx : blkOf x = some c) : b ≠ c := by
  intro e; subst e
  simp [apartV, ha, hx] at h
theorem evOne_swap_dyn (hD : DetFn E) {ops : List Oper} {p o : Oper} (hi : indepD ops p o = true) {x y : Operand} (hd : dynP p.op o.op = some (x, y)) {s : St} (ha : apartV (St.opd E s x) (St.opd E s y) = true) {K : St → Prop}
    (h : evOne E ops p s fun s1 => evOne E ops o s1 K) : evOne E ops o s fun s2 => evOne E ops p s2 K := by
  refine evOne_swap_of hD hi (fun _ h => h) ?_ h
  simp only [indepD, Bool.and_eq_true] at hi
  obtain ⟨⟨hi1, hi2⟩, ⟨hi3, hi4⟩, hi5⟩ := hi
  intro v1 H1 v2 H2 hO1 hO2 h3
  have fin : ∀ H2', Out E o.op s v2 H2' → Out E p.op (s.put o.dst v2 H2') v1 H2 → ∃ v2' H2' v1' H1', Out E o.op s v2' H2' ∧ Out E p.op (s.put o.dst v2' H2') v1' H1' ∧ K ((s.put o.dst v2' H2').put p.dst v1' H1') :=
    fun H2' q1 q2 => ⟨v2, H2', v1, H2, q1, q2, by rw [← put_comm hi5]; exact h3⟩
  have cases2 : (storePtr p.op = some x ∧ readPtr o.op = some y) ∨ (readPtr p.op = some x ∧ storePtr o.op = some y) := by
    unfold dynP at hd
    split at hd
    · rename_i a q h1 h2
      simp only [Option.some.injEq, Prod.mk.injEq] at hd
      obtain ⟨rfl, rfl⟩ := hd
      exact .inl ⟨h1, h2⟩
    · split at hd
      · rename_i a q h1 h2
        simp only [Option.some.injEq, Prod.mk.injEq] at hd
        obtain ⟨rfl, rfl⟩ := hd
        exact .inr ⟨h1, h2⟩
      · cases hd
  rcases cases2 with ⟨g1, g2⟩ | ⟨g1, g2⟩
  · obtain ⟨rfl, b, c, k1, rfl, k3⟩ := out_store g1 hO1
    obtain ⟨q1, q2⟩ := out_read (s' := s) (opd_put hi1) g2 (fun b' hb' => by
      rw [opd_put hi1 y (readPtr_mem g2)] at hb'
      rw [put_heap, List.getElem?_set_ne (apart_spec ha k1 hb')]) hO2
    rw [put_heap] at q1
    refine fin s.heap q2 ?_
    have := k3 (s.put o.dst v2 s.heap) (fun z hz => (opd_put hi3 z hz).symm) (by rw [put_heap])
    rw [put_heap] at this
    rw [q1]
    exact this
  · obtain ⟨q1, _⟩ := out_read (s' := s) (fun _ _ => rfl) g1 (fun _ _ => rfl) hO1
    subst q1
    have hO2' := back_out hi1 rfl hO2
    obtain ⟨rfl, b, c, k1, rfl, k3⟩ := out_store g2 hO2'
    refine fin _ hO2' ?_
    obtain ⟨_, q2⟩ := out_read (s' := s.put o.dst .undef (s.heap.set b c)) (fun z hz => (opd_put hi3 z hz).symm) g1 (fun b' hb' => by
      rw [put_heap, List.getElem?_set_ne (fun e => apart_spec ha hb' k1 e.symm)]) hO1
    rwa [put_heap] at q2
theorem blk_lt {n : Nat} {v : EV} {b : Nat} (h : Cl n v) (hb : blkOf v = some b) : b < n := by
  rcases Nat.lt_or_ge b n with hh | hh
  · exact hh
  · exfalso
    have h1 := h (fun c => if c < n then c else c + 1) fun c hc => by simp [hc]
    have h2 := blkOf_ren (f := fun c => if c < n then c else c + 1) v
    rw [h1, hb] at h2
    simp only [Option.map_some, Option.some.injEq] at h2
    rw [if_neg (by omega)] at h2
    omega
theorem out_new (hC : Closed E) {o : Op} {s : St} {v : EV} {H : Heap} (hk : heapK E o = 3) (hcl : ClS s) (ho : Out E o s v H) :
    ∃ (mk : Nat → EV) (c : EV), (∀ f n, (mk n).ren f = mk (f n)) ∧ v = mk s.heap.length ∧ H = s.heap ++ [some c] ∧ Cl s.heap.length c ∧
      ∀ s', (∀ x ∈ o.operands.toList, (St.opd E s) x = (St.opd E s') x) → Out E o s' (mk s'.heap.length) (s'.heap ++ [some c]) := by
  have h := ho (fun v' H' => v' = v ∧ H' = H) ⟨rfl, rfl⟩
  cases o <;> simp [heapK] at hk
  case binOp op t x y u => cases hq : Nat.beq (nilK y) 1 <;> rw [hq] at hk <;> cases hk
  case alloc t =>
    simp only [evOp] at h
    cases ht : E.ty t with
    | none => rw [ht] at h; exact h.elim
    | some ti =>
      rw [ht] at h
      obtain ⟨rfl, rfl⟩ := h
      refine ⟨fun n => .ptr n [], ti.zero, fun _ _ => rfl, rfl, rfl, Cl.of (hC.ty t ti ht), fun s' _ K hK => ?_⟩
      simp only [evOp, ht]
      exact hK
  case box t x =>
    simp only [evOp] at h
    have hu : St.opd E s x ≠ .undef := by intro e; rw [e] at h; exact h.elim
    have h1 : evNew s.heap (St.opd E s x) (fun v' H' => v' = v ∧ H' = H) := by
      revert h
      cases hq : St.opd E s x <;> intro h <;> first | exact absurd hq hu | exact h
    obtain ⟨rfl, rfl⟩ := h1
    refine ⟨fun n => .ptr n [], St.opd E s x, fun _ _ => rfl, rfl, rfl, opd_cl hC hcl x, fun s' hop K hK => ?_⟩
    simp only [evOp]
    rw [← hop x (by simp [Op.operands])]
    have hK' : evNew s'.heap (St.opd E s x) K := hK
    revert hK'
    cases hq : St.opd E s x <;> intro hK' <;> first | exact absurd hq hu | exact hK'
  case buildSlice t n ps =>
    simp only [evOp] at h
    rw [gd_iff] at h
    obtain ⟨hd, h⟩ := h
    have hps := opdP_cl hC hcl ps.toList
    have go : ∀ (L : List (Nat × EV)), (∀ p ∈ L, Cl s.heap.length p.2) → evBuildSlice E t n L s.heap (fun v' H' => v' = v ∧ H' = H) →
        ∃ (mk : Nat → EV) (c : EV), (∀ f n, (mk n).ren f = mk (f n)) ∧ v = mk s.heap.length ∧ H = s.heap ++ [some c] ∧ Cl s.heap.length c ∧ ∀ (H2 : Heap) (K : EV → Heap → Prop), K (mk H2.length) (H2 ++ [some c]) → evBuildSlice E t n L H2 K := by
      intro L hL h
      unfold evBuildSlice at h ⊢
      cases ht : E.ty t with
      | none => rw [ht] at h; exact h.elim
      | some ti =>
        rw [ht] at h
        simp only at h ⊢
        cases htd : ti.td <;> simp only [htd] at h ⊢ <;> try exact h.elim
        rename_i e
        cases he : E.ty e with
        | none => rw [he] at h; exact h.elim
        | some ei =>
          rw [he] at h
          simp only at h ⊢
          rw [gd_iff] at h
          obtain ⟨g0, h⟩ := h
          have hz : Cl s.heap.length ei.zero := Cl.of (hC.ty e ei he)
          split at h
          · rename_i q z hq
            rw [gd_iff] at h
            obtain ⟨g1, h⟩ := h
            split at h
            · rename_i u hu
              obtain ⟨rfl, rfl⟩ := h
              refine ⟨fun m => .slice m 0 n (some n) 1, u, fun _ _ => rfl, rfl, rfl, evParts_cl hL (fun f _ => rfl) hu, fun H2 K hK => ?_⟩
              rw [gd_iff]
              refine ⟨g0, ?_⟩
              first
                | (rw [gd_iff]; exact ⟨g1, hK⟩)
                | (simp only [hq, hu]; rw [gd_iff]; exact ⟨g1, hK⟩)
            · exact h.elim
          · rename_i hne
            rw [gd_iff] at h
            obtain ⟨g1, h⟩ := h
            split at h
            · rename_i u hu
              obtain ⟨rfl, rfl⟩ := h
              refine ⟨fun m => .slice m 0 n (some n) ei.size, u, fun _ _ => rfl, rfl, rfl, evParts_cl hL (fun f hf => ?_) hu, fun H2 K hK => ?_⟩
              · simp only [EV.ren, renL_map, List.map_replicate, hz f hf]
              · rw [gd_iff]
                refine ⟨g0, ?_⟩
                first
                  | (rw [gd_iff]; exact ⟨g1, hK⟩)
                  | (split
                     · rename_i q z hq; exact (hne q z hq).elim
                     · rw [gd_iff]
                       simp only [hu]
                       exact ⟨g1, hK⟩)
            · exact h.elim
    obtain ⟨mk, c, k1, k2, k3, k4, k5⟩ := go _ hps h
    refine ⟨mk, c, k1, k2, k3, k4, fun s' hop K hK => ?_⟩
    have e1 : (ps.toList.map fun p => (St.opd E s) p.2) = ps.toList.map fun p => (St.opd E s') p.2 := List.map_congr_left fun p hp => hop p.2 (by simp only [Op.operands]; exact List.mem_map.2 ⟨p, hp, rfl⟩)
    have e2 : (ps.toList.map fun p => (p.1, (St.opd E s) p.2)) = ps.toList.map fun p => (p.1, (St.opd E s') p.2) := List.map_congr_left fun p hp => by rw [hop p.2 (by simp only [Op.operands]; exact List.mem_map.2 ⟨p, hp, rfl⟩)]
    simp only [evOp]
    rw [← e1, ← e2, gd_iff]
    exact ⟨hd, k5 _ _ hK⟩
  case makeSlice t l c =>
    simp only [evOp] at h
    rw [gd_iff] at h
    obtain ⟨hd, h⟩ := h
    have go : ∀ (A B : EV), evMakeSliceA E t A B s.heap (fun v' H' => v' = v ∧ H' = H) →
        ∃ (mk : Nat → EV) (c : EV), (∀ f n, (mk n).ren f = mk (f n)) ∧ v = mk s.heap.length ∧ H = s.heap ++ [some c] ∧ Cl s.heap.length c ∧ ∀ (H2 : Heap) (K : EV → Heap → Prop), K (mk H2.length) (H2 ++ [some c]) → evMakeSliceA E t A B H2 K := by
      intro A B h
      unfold evMakeSliceA at h ⊢
      cases hel : elInt E t with
      | false =>
        rw [hel, cond_false] at h
        simp only [cond_false]
        unfold evMakeSliceT at h ⊢
        cases ht : E.ty t with
        | none => rw [ht] at h; exact h.elim
        | some ti =>
          rw [ht] at h
          cases A <;> simp only at h ⊢ <;> try exact h.elim
          cases B <;> simp only at h ⊢ <;> try exact h.elim
          rename_i ka la kb lb
          cases htd : ti.td <;> simp only [htd] at h ⊢ <;> try exact h.elim
          rename_i e
          cases he : E.ty e with
          | none => rw [he] at h; exact h.elim
          | some ei =>
            rw [he] at h
            simp only at h ⊢
            cases hz : Sk.of ei.zero with
            | none => rw [hz] at h; exact h.elim
            | some sk =>
              rw [hz] at h
              simp only at h ⊢
              rw [gd_iff] at h
              obtain ⟨g0, rfl, rfl⟩ := h
              refine ⟨fun m => .slice m 0 la.toNat (some lb.toNat) sk.shape.size, _, fun _ _ => rfl, rfl, rfl, fun _ _ => rfl, fun H2 K hK => ?_⟩
              rw [gd_iff]
              exact ⟨g0, hK⟩
      | true =>
      rw [hel, cond_true] at h
      simp only [cond_true]
      unfold evMakeSlice at h ⊢
      cases ht : E.ty t with
      | none => rw [ht] at h; exact h.elim
      | some ti =>
        rw [ht] at h
        cases A <;> simp only at h ⊢ <;> try exact h.elim
        cases B <;> simp only at h ⊢ <;> try exact h.elim
        rename_i ka la kb lb
        cases htd : ti.td <;> simp only [htd] at h ⊢ <;> try exact h.elim
        rename_i e
        cases he : E.ty e with
        | none => rw [he] at h; exact h.elim
        | some ei =>
          rw [he] at h
          simp only at h ⊢
          cases hz : ei.zero <;> simp only [hz] at h ⊢ <;> try exact h.elim
          rw [gd_iff] at h
          obtain ⟨g0, rfl, rfl⟩ := h
          refine ⟨fun m => .slice m 0 la.toNat (some lb.toNat) 1, _, fun _ _ => rfl, rfl, rfl, fun _ _ => rfl, fun H2 K hK => ?_⟩
          rw [gd_iff]
          exact ⟨g0, hK⟩
    obtain ⟨mk, c', k1, k2, k3, k4, k5⟩ := go _ _ h
    refine ⟨mk, c', k1, k2, k3, k4, fun s' hop K hK => ?_⟩
    simp only [evOp]
    rw [← hop l (by simp [Op.operands]), ← hop c (by simp [Op.operands]), gd_iff]
    exact ⟨hd, k5 _ _ hK⟩
  case call c =>
    obtain ⟨cal, xs, ts⟩ := c
    cases cal
    case value f =>
      cases f
      case func f =>
        simp only at hk
        cases he : E.fn f with
        | none => simp [he] at hk
        | some en =>
          simp only [he] at hk
          cases q1 : allNone en.ro <;> cases q2 : en.lend <;> cases q3 : newRo en.ro <;> cases q4 : keepRo en.ro <;> simp [q1, q2, q3, q4] at hk
      all_goals simp at hk
    case builtin bi => cases bi <;> simp at hk
    all_goals simp at hk
def KQ (n : Nat) (K : St → Prop) : St → Prop := fun s' => ∃ f s, Shf n s.heap.length f ∧ StR f s s' ∧ K s
theorem StR.id (s : St) : StR (fun b => b) s s := ⟨by
  have : s.tmps.map (EV.ren fun b => b) = s.tmps.map _root_.id := List.map_congr_left fun v _ => (ren_id v : v.ren (fun b => b) = _root_.id v)
  rw [this, List.map_id], HR.id _⟩
theorem StR.comp {f g : Nat → Nat} {s s' s'' : St} (h : StR f s s') (k : StR g s' s'') : StR (fun b => g (f b)) s s'' :=
  ⟨by rw [k.tmps, h.tmps, List.map_map]; exact List.map_congr_left fun v _ => ren_ren f g v, h.heap.comp k.heap⟩
theorem KQ.of {n : Nat} {K : St → Prop} {s : St} (h : K s) : KQ n K s := ⟨_, s, Shf.id n _, StR.id s, h⟩
theorem KQ.flat {n : Nat} {K : St → Prop} {s : St} (h : KQ n (KQ n K) s) : KQ n K s := by
  obtain ⟨g, s1, h1, h2, f, s2, h3, h4, h5⟩ := h
  exact ⟨_, s2, h3.comp (by rw [← h4.heap.len]; exact h1), h4.comp h2, h5⟩
theorem KQ.ops (hC : Closed E) (hD : DetFn E) {n : Nat} {ops r : List Oper} {K : St → Prop} {s : St} (h : KQ n (fun s => evOps E ops r s K) s) : evOps E ops r s (KQ n K) := by
  obtain ⟨f, s1, h1, h2, h3⟩ := h
  refine (det_evOps hD r s).mono (evOps_eqv hC hD r h1 h2 h3) ?_
  rintro s' ⟨s2, k1, k2, k3⟩
  exact ⟨f, s2, h1.mono k2, k1, k3⟩
theorem put_tmps {s : St} {d : Option Nat} {v : EV} {H : Heap} : (s.put d v H).tmps = (match d with | some d => s.tmps.set d v | none => s.tmps) := by cases d <;> rfl
theorem evOne_swap33 (hC : Closed E) (hD : DetFn E) {ops : List Oper} {p o : Oper} (hi : indepD ops p o = true) (hp : heapK E p.op = 3) (ho : heapK E o.op = 3) {n : Nat} {s : St} (hcl : ClS s) (hn : n ≤ s.heap.length) {K : St → Prop}
    (h : evOne E ops p s fun s1 => evOne E ops o s1 K) : evOne E ops o s fun s2 => evOne E ops p s2 (KQ n K) := by
  refine evOne_swap_of hD hi (fun _ h => KQ.of h) ?_ h
  simp only [indepD, Bool.and_eq_true] at hi
  obtain ⟨⟨hi1, hi2⟩, ⟨hi3, hi4⟩, hi5⟩ := hi
  intro v1 H1 v2 H2 hO1 hO2 h3
  obtain ⟨mk1, c1, a1, rfl, rfl, a4, a5⟩ := out_new hC hp hcl hO1
  have hcl1 : ClS (s.put p.dst (mk1 s.heap.length) (s.heap ++ [some c1])) := by
    refine hcl.put _ (by simp) (fun f hf => by rw [a1, hf _ (by simp)]) ?_
    intro b c hb
    have hmono : ∀ {u : EV}, Cl s.heap.length u → Cl (s.heap ++ [some c1]).length u := fun h => h.mono (by simp)
    rcases Nat.lt_or_ge b s.heap.length with hh | hh
    · rw [List.getElem?_append_left hh] at hb; exact hmono (hcl.heap b c hb)
    · rw [List.getElem?_append_right hh] at hb
      cases hq : b - s.heap.length with
      | zero => rw [hq] at hb; simp at hb; subst hb; exact hmono a4
      | succ k => rw [hq] at hb; simp at hb
  obtain ⟨mk2, c2, b1, e2, e3, b4, b5⟩ := out_new hC ho hcl1 hO2
  rw [put_heap] at e2 e3 b4
  subst e2; subst e3
  have q1 := b5 s (opd_put hi1)
  have q2 := a5 (s.put o.dst (mk2 s.heap.length) (s.heap ++ [some c2])) (fun x hx => (opd_put hi3 x hx).symm)
  rw [put_heap] at q2
  refine ⟨_, _, _, _, q1, q2, swp s.heap.length, _, Shf.swp n s.heap.length _ hn ?_, ?_, h3⟩
  · rw [put_heap]; simp
  · have hlen1 : (s.heap ++ [some c1]).length = s.heap.length + 1 := by simp
    have hlen2 : (s.heap ++ [some c2]).length = s.heap.length + 1 := by simp
    have fixT : s.tmps.map (EV.ren (swp s.heap.length)) = s.tmps := hcl.tmps.ren _ fun b hb => by unfold swp; rw [if_neg (by omega), if_neg (by omega)]
    have sw0 : swp s.heap.length s.heap.length = s.heap.length + 1 := by simp [swp]
    have sw1 : swp s.heap.length (s.heap.length + 1) = s.heap.length := by simp [swp]
    have sc : ∀ {u : EV}, Cl s.heap.length u → u.ren (swp s.heap.length) = u := fun h => h _ fun b hb => by unfold swp; rw [if_neg (by omega), if_neg (by omega)]
    have c2cl : Cl s.heap.length c2 := by
      obtain ⟨mk', c', _, _, k3, k4, _⟩ := out_new hC ho hcl q1
      have : c2 = c' := by simpa using k3
      rw [this]; exact k4
    refine ⟨?_, ?_⟩
    · simp only [put_tmps, hlen1, hlen2]
      cases hpd : p.dst with
      | none =>
        cases hod : o.dst with
        | none => exact fixT.symm
        | some d => simp only [List.map_set, b1, sw1, fixT]
      | some d1 =>
        cases hod : o.dst with
        | none => simp only [List.map_set, a1, sw0, fixT]
        | some d2 =>
          have hne : d2 ≠ d1 := by
            intro e
            rw [hpd, hod] at hi5
            subst e
            simp [neO] at hi5
          simp only [List.map_set, a1, b1, sw0, sw1, fixT]
          rw [List.set_comm _ _ hne]
    · rw [put_heap, put_heap]
      refine ⟨by simp, fun b => ?_⟩
      rcases Nat.lt_or_ge b s.heap.length with hh | hh
      · have e : swp s.heap.length b = b := by unfold swp; rw [if_neg (by omega), if_neg (by omega)]
        rw [e, List.append_assoc, List.append_assoc, List.getElem?_append_left hh, List.getElem?_append_left hh]
        cases hq : s.heap[b]? with
        | none => rfl
        | some oc =>
          cases oc with
          | none => rfl
          | some c => simp only [Option.map_some, renO, sc (hcl.heap b c hq)]
      · rcases Nat.lt_or_ge b (s.heap.length + 2) with h2 | h2
        · rcases Nat.lt_or_ge b (s.heap.length + 1) with h4 | h4
          · obtain rfl : b = s.heap.length := by omega
            rw [sw0, List.getElem?_append_right (by simp), List.getElem?_append_left (by simp), List.getElem?_append_right (Nat.le_refl _)]
            simp [renO, sc a4]
          · obtain rfl : b = s.heap.length + 1 := by omega
            rw [sw1, List.getElem?_append_left (by simp), List.getElem?_append_right (Nat.le_refl _), List.getElem?_append_right (by simp)]
            simp [renO, sc c2cl]
        · have e : swp s.heap.length b = b := by unfold swp; rw [if_neg (by omega), if_neg (by omega)]
          rw [e, List.getElem?_eq_none (by simp; omega), List.getElem?_eq_none (by simp; omega)]
          rfl
theorem evOne_swap41 (hC : Closed E) (hD : DetFn E) {ops : List Oper} {p o : Oper} (hi : indepD ops p o = true) (hp : heapK E p.op = 4) {x : Operand} (hx : readPtr o.op = some x) {s : St} (hcl : ClS s) {K : St → Prop}
    (h : evOne E ops p s fun s1 => evOne E ops o s1 K) : evOne E ops o s fun s2 => evOne E ops p s2 K := by
  refine evOne_swap_of hD hi (fun _ h => h) ?_ h
  simp only [indepD, Bool.and_eq_true] at hi
  obtain ⟨⟨hi1, hi2⟩, ⟨hi3, hi4⟩, hi5⟩ := hi
  intro v1 H1 v2 H2 hO1 hO2 h3
  obtain ⟨t, ht⟩ := out_new4 hD hp hO1
  have hop : St.opd E (s.put p.dst v1 H1) x = St.opd E s x := opd_put hi1 x (readPtr_mem hx)
  obtain ⟨q1, q2⟩ := out_read (s' := s) (opd_put hi1) hx (fun b hb => by
    rw [hop] at hb
    have hlt := blk_lt (opd_cl hC hcl x) hb
    rw [put_heap, ht, List.getElem?_append_left hlt]) hO2
  rw [put_heap] at q1
  refine ⟨v2, s.heap, v1, H1, q2, hsame_out hi3 rfl hO1, ?_⟩
  rw [← put_comm hi5]
  rw [← q1]
  exact h3
theorem evOne_keep {ops : List Oper} {o : Oper} {s : St} {K : St → Prop} (hD : DetFn E) (h : evOne E ops o s K) : evOne E ops o s fun s' => K s' ∧ ∀ t, o.dst ≠ some t → s'.slot t = s.slot t := by
  rw [evOne_iff] at h ⊢
  cases hg : gval ops o s with
  | none => rw [hg] at h; exact h
  | some b =>
    rw [hg] at h
    cases b with
    | true => exact (det_evOp hD).mono h fun v H hK => ⟨hK, fun t ht => slot_put ht⟩
    | false => exact ⟨h, fun t ht => slot_put ht⟩
theorem evOps_keep {ops : List Oper} (hD : DetFn E) : ∀ (r : List Oper) {s : St} {K : St → Prop}, evOps E ops r s K → evOps E ops r s fun s' => K s' ∧ ∀ t, (∀ o ∈ r, o.dst ≠ some t) → s'.slot t = s.slot t
  | [], s, K, h => ⟨h, fun _ _ => rfl⟩
  | o :: r, s, K, h => by
    simp only [evOps] at h ⊢
    refine (det_evOne hD).mono (evOne_keep hD h) ?_
    rintro s1 ⟨h1, h2⟩
    refine (det_evOps hD r s1).mono (evOps_keep hD r h1) ?_
    rintro s2 ⟨h3, h4⟩
    exact ⟨h3, fun t ht => (h4 t fun q hq => ht q (List.mem_cons_of_mem _ hq)).trans (h2 t (ht o List.mem_cons_self))⟩
theorem evOne_len (hC : Closed E) (hD : DetFn E) {ops : List Oper} {o : Oper} {s : St} {K : St → Prop} (h : evOne E ops o s K) : evOne E ops o s fun s' => K s' ∧ s.heap.length ≤ s'.heap.length := by
  refine (det_evOne hD).mono (evOne_eqv hC hD (Shf.id 0 _) (StR.id s) h) ?_
  rintro s' ⟨s1, h1, h2, h3⟩
  have h4 := StR.id s1
  have e1 : s'.tmps = s1.tmps := h1.tmps.trans h4.tmps.symm
  have e2 : s'.heap = s1.heap := by
    apply List.ext_getElem?
    intro b
    rw [h1.heap.get b, ← h4.heap.get b]
  have e3 : s' = s1 := by cases s'; cases s1; simp_all
  exact ⟨e3 ▸ h3, by rw [e2]; exact h2⟩
theorem bindsOn_iff {j : Nat} : ∀ {l : List Edge}, bindsOn j l = true → ∃ e ∈ l, Region.binds .any e = true ∧ e.on = j
  | e :: l, h => by
    simp only [bindsOn, Bool.or_eq_true, Bool.and_eq_true, Nat.beq_eq] at h
    rcases h with ⟨h1, h2⟩ | h
    · exact ⟨e, List.mem_cons_self, h1, h2⟩
    · obtain ⟨e', h1, h2⟩ := bindsOn_iff h
      exact ⟨e', List.mem_cons_of_mem _ h1, h2⟩
theorem edgesBelow_spec {i : Nat} : ∀ {l : List Edge}, edgesBelow i l = true → ∀ e ∈ l, Region.binds .any e = true → e.on < i
  | e :: l, h, e', he, hb => by
    simp only [edgesBelow, Bool.and_eq_true, Bool.or_eq_true, Bool.not_eq_true', Nat.blt_eq] at h
    rcases List.mem_cons.1 he with rfl | he
    · rcases h.1 with h1 | h1
      · rw [h1] at hb; cases hb
      · exact h1
    · exact edgesBelow_spec h.2 e' he hb
theorem okAll_spec {ops : List Oper} {o : Oper} {i : Nat} (l : List Oper) : ∀ (j0 : Nat), okAll E ops o i j0 l = true → ∀ (k : Nat) p, l[k]? = some p →
    (bindsOn (j0 + k) o.after.toList = true ∨ (indepD ops p o = true ∧ (heapOk (heapK E p.op) (heapK E o.op) = true ∨ (both3 E p.op o.op = true ∧ quietOps E (ops.take i) = true) ∨ dynOk ops (j0 + k) i p o = true))) ∨ bindsT ops 6 (j0 + k) o.after.toList = true := by
  induction l with
  | nil => intro j0 h k p hk; simp at hk
  | cons q l ih =>
    intro j0 h k p hk
    simp only [okAll, Bool.and_eq_true, Bool.or_eq_true] at h
    cases k with
    | zero =>
      rw [List.getElem?_cons_zero, Option.some.injEq] at hk
      subst hk
      exact h.1
    | succ k =>
      rw [List.getElem?_cons_succ] at hk
      have := ih (j0 + 1) h.2 k p hk
      rw [show j0 + 1 + k = j0 + (k + 1) from by omega] at this
      exact this
theorem okFrom_spec {ops : List Oper} (l : List Oper) : ∀ (i0 : Nat), okFrom E ops i0 l = true → ∀ (k : Nat) o, l[k]? = some o →
    edgesBelow (i0 + k) o.after.toList = true ∧ okAll E ops o (i0 + k) 0 (ops.take (i0 + k)) = true := by
  induction l with
  | nil => intro i0 h k o hk; simp at hk
  | cons q l ih =>
    intro i0 h k o hk
    simp only [okFrom, Bool.and_eq_true] at h
    cases k with
    | zero =>
      rw [List.getElem?_cons_zero, Option.some.injEq] at hk
      subst hk
      exact h.1
    | succ k =>
      rw [List.getElem?_cons_succ] at hk
      have := ih (i0 + 1) h.2 k o hk
      rw [show i0 + 1 + k = i0 + (k + 1) from by omega] at this
      exact this
theorem commB_spec {ops : List Oper} (h : commB E ops = true) {i : Nat} {o : Oper} (hi : ops[i]? = some o) :
    (∀ e ∈ o.after.toList, Region.binds .any e = true → e.on < i) ∧ ∀ (j : Nat) p, j < i → ops[j]? = some p → ((∃ e ∈ o.after.toList, Region.binds .any e = true ∧ e.on = j) ∨ bindsT ops 6 j o.after.toList = true) ∨
      (indepD ops p o = true ∧ (heapOk (heapK E p.op) (heapK E o.op) = true ∨ (both3 E p.op o.op = true ∧ quietOps E (ops.take i) = true) ∨ dynOk ops j i p o = true)) := by
  obtain ⟨h1, h2⟩ := okFrom_spec ops 0 h i o hi
  rw [Nat.zero_add] at h1 h2
  refine ⟨edgesBelow_spec h1, fun j p hj hp => ?_⟩
  rcases okAll_spec _ 0 h2 j p (by rw [List.getElem?_take_of_lt hj]; exact hp) with (h3 | h3) | h3
  · rw [Nat.zero_add] at h3; exact .inl (.inl (bindsOn_iff h3))
  · rw [Nat.zero_add] at h3; exact .inr h3
  · rw [Nat.zero_add] at h3; exact .inl (.inr h3)
theorem anyE_iff {p : Edge → Bool} : ∀ {l : List Edge}, anyE p l = true → ∃ e ∈ l, p e = true
  | e :: l, h => by
    simp only [anyE, Bool.or_eq_true] at h
    rcases h with h | h
    · exact ⟨e, List.mem_cons_self, h⟩
    · obtain ⟨e', h1, h2⟩ := anyE_iff h
      exact ⟨e', List.mem_cons_of_mem _ h1, h2⟩
theorem bindsT_listed {ops : List Oper} {listed : Array Bool} (hdown : ∀ m o, ops[m]? = some o → listed.getD m false = true → ∀ e ∈ o.after.toList, Region.binds .any e = true → listed.getD e.on false = true) :
    ∀ (n j : Nat) (l : List Edge), bindsT ops n j l = true → (∀ e ∈ l, Region.binds .any e = true → listed.getD e.on false = true) → listed.getD j false = true
  | 0, j, l, h, hl => by simp [bindsT] at h
  | n + 1, j, l, h, hl => by
    simp only [bindsT] at h
    obtain ⟨e, he, h⟩ := anyE_iff h
    simp only [Bool.and_eq_true, Bool.or_eq_true] at h
    obtain ⟨hb, h⟩ := h
    have h1 := hl e he hb
    rcases h with h | ⟨_, h⟩
    · rw [← Nat.eq_of_beq_eq_true h]; exact h1
    · split at h
      · rename_i o ho
        exact bindsT_listed hdown n j _ h (hdown _ o ho h1)
      · cases h
theorem chkAll_spec {t : Operand → Operand → Bool} {o : Oper} (l : List Oper) : ∀ (j0 : Nat), chkAll E t o j0 l = true → ∀ (k : Nat) p, l[k]? = some p →
    bindsOn (j0 + k) o.after.toList = true ∨ heapOk (heapK E p.op) (heapK E o.op) = true ∨ both3 E p.op o.op = true ∨ ∀ x y, dynP p.op o.op = some (x, y) → t x y = true := by
  induction l with
  | nil => intro j0 h k p hk; simp at hk
  | cons q l ih =>
    intro j0 h k p hk
    simp only [chkAll, Bool.and_eq_true, Bool.or_eq_true] at h
    cases k with
    | zero =>
      rw [List.getElem?_cons_zero, Option.some.injEq] at hk
      subst hk
      rcases h.1 with h | h | h | h
      · exact .inl h
      · exact .inr (.inl h)
      · exact .inr (.inr (.inl h))
      · refine .inr (.inr (.inr fun x y hd => ?_))
        rw [hd] at h; exact h
    | succ k =>
      rw [List.getElem?_cons_succ] at hk
      have := ih (j0 + 1) h.2 k p hk
      rw [show j0 + 1 + k = j0 + (k + 1) from by omega] at this
      exact this
theorem chkFrom_spec {t : Operand → Operand → Bool} {ops : List Oper} (l : List Oper) : ∀ (i0 : Nat), chkFrom E t ops i0 l = true → ∀ (k : Nat) o, l[k]? = some o → chkAll E t o 0 (ops.take (i0 + k)) = true := by
  induction l with
  | nil => intro i0 h k o hk; simp at hk
  | cons q l ih =>
    intro i0 h k o hk
    simp only [chkFrom, Bool.and_eq_true] at h
    cases k with
    | zero =>
      rw [List.getElem?_cons_zero, Option.some.injEq] at hk
      subst hk
      exact h.1
    | succ k =>
      rw [List.getElem?_cons_succ] at hk
      have := ih (i0 + 1) h.2 k o hk
      rw [show i0 + 1 + k = i0 + (k + 1) from by omega] at this
      exact this
theorem chkAll_mono {t t' : Operand → Operand → Bool} (ht : ∀ x y, t x y = true → t' x y = true) {o : Oper} (l : List Oper) : ∀ (j : Nat), chkAll E t o j l = true → chkAll E t' o j l = true := by
  induction l with
  | nil => intro j h; rfl
  | cons p l ih =>
    intro j h
    simp only [chkAll, Bool.and_eq_true, Bool.or_eq_true] at h ⊢
    refine ⟨?_, ih (j + 1) h.2⟩
    rcases h.1 with h | h | h | h
    · exact .inl h
    · exact .inr (.inl h)
    · exact .inr (.inr (.inl h))
    · refine .inr (.inr (.inr ?_))
      cases hd : dynP p.op o.op with
      | none => rfl
      | some q => rw [hd] at h; exact ht _ _ h
theorem chkFrom_mono {t t' : Operand → Operand → Bool} (ht : ∀ x y, t x y = true → t' x y = true) {ops : List Oper} (l : List Oper) : ∀ (j : Nat), chkFrom E t ops j l = true → chkFrom E t' ops j l = true := by
  induction l with
  | nil => intro j h; rfl
  | cons p l ih =>
    intro j h
    simp only [chkFrom, Bool.and_eq_true] at h ⊢
    exact ⟨chkAll_mono ht _ _ h.1, ih (j + 1) h.2⟩
theorem apartV_ren {f : Nat → Nat} (hi : ∀ a b, f a = f b → a = b) (a x : EV) : apartV (a.ren f) (x.ren f) = apartV a x := by
  unfold apartV
  rw [blkOf_ren, blkOf_ren]
  cases blkOf a <;> cases blkOf x <;> simp only [Option.map_some, Option.map_none]
  rw [beq_map hi]
theorem chkB_ren (hC : Closed E) {f : Nat → Nat} (hi : ∀ a b, f a = f b → a = b) {ops : List Oper} {s s' : St} (h : StR f s s') : chkB E ops s' = chkB E ops s := by
  unfold chkB
  have : (fun x y => apartV (St.opd E s' x) (St.opd E s' y)) = fun x y => apartV (St.opd E s x) (St.opd E s y) := by
    funext x y
    rw [opd_eqv hC h, opd_eqv hC h, apartV_ren hi]
  rw [this]
theorem noDst_spec {x : Operand} {l : List Oper} (h : noDst x l = true) : ∀ o ∈ l, noMem o.dst (tmpsOf [x]) = true := by
  induction l with
  | nil => intro o ho; cases ho
  | cons o l ih =>
    intro q hq
    simp only [noDst, Bool.and_eq_true] at h
    rcases List.mem_cons.1 hq with e | hq
    · rw [e]; exact h.1
    · exact ih h.2 q hq
theorem quietOps_spec {l : List Oper} (h : quietOps E l = true) : ∀ o ∈ l, heapK E o.op ≠ 2 := by
  induction l with
  | nil => intro o ho; cases ho
  | cons o l ih =>
    intro q hq
    simp only [quietOps, Bool.and_eq_true, Bool.not_eq_true'] at h
    rcases List.mem_cons.1 hq with e | hq
    · rw [e]
      intro e2
      have h1 := h.1
      rw [e2] at h1
      exact absurd h1 (by decide)
    · exact ih h.2 q hq
theorem opd_keep {s s' : St} {x : Operand} (h : ∀ t, x = .tmp t → s'.slot t = s.slot t) : St.opd E s' x = St.opd E s x := by
  cases x
  case tmp t => exact h t rfl
  all_goals rfl
theorem noMem_one {d : Option Nat} {t : Nat} (h : noMem d (tmpsOf [.tmp t]) = true) : d ≠ some t := by
  intro e; subst e
  simp [noMem, tmpsOf, memN] at h
theorem evOp_cl (hC : Closed E) (hD : DetFn E) {o : Op} {s : St} {K : EV → Heap → Prop} (hk : heapK E o ≠ 2) (hcl : ClS s) (h : evOp E o s K) :
    evOp E o s fun v H => K v H ∧ Cl H.length v ∧ ClH H.length H ∧ s.heap.length ≤ H.length := by
  have viaV : (∀ K, evOp E o s K = evV E o s fun v => K v s.heap) → evOp E o s fun v H => K v H ∧ Cl H.length v ∧ ClH H.length H ∧ s.heap.length ≤ H.length := by
    intro h1
    rw [h1] at h ⊢
    exact det_evV.mono (evV_cl hC hcl h) fun v hv => ⟨hv.1, hv.2, hcl.heap, Nat.le_refl _⟩
  by_cases h3 : heapK E o = 3
  · obtain ⟨v, H, h1, h2⟩ := det_evOp hD _ h
    obtain ⟨mk, c, k1, rfl, rfl, k4, _⟩ := out_new hC h3 hcl h2
    refine h2 _ ⟨h1, fun f hf => by rw [k1, hf _ (by simp)], fun b c' hb => ?_, by simp⟩
    rcases Nat.lt_or_ge b s.heap.length with hh | hh
    · rw [List.getElem?_append_left hh] at hb; exact (hcl.heap b c' hb).mono (by simp)
    · rw [List.getElem?_append_right hh] at hb
      cases hq : b - s.heap.length with
      | zero => rw [hq] at hb; simp at hb; subst hb; exact k4.mono (by simp)
      | succ k => rw [hq] at hb; simp at hb
  by_cases h4 : heapK E o = 4
  · obtain ⟨f, en, xs, he, h1⟩ := op4 h4
    rw [h1, gd_iff] at h ⊢
    refine ⟨h.1, ?_⟩
    have h := h.2
    rw [call4, gd_iff] at h ⊢
    refine ⟨h.1, (hD f en he _ _).mono h.2 fun v H' hK => ?_⟩
    rw [gd_iff] at hK ⊢
    refine ⟨hK.1, hK.2, ?_⟩
    simp only [Bool.and_eq_true] at hK
    obtain ⟨⟨g1, g2, _⟩, _⟩ := hK
    have hlen : (s.heap ++ renH (backN [] s.heap.length) H').length = s.heap.length + H'.length := by rw [List.length_append, renH_length]
    have hcl4 : ∀ u : EV, u.inI (upTo H'.length) = true → Cl (s.heap.length + H'.length) (u.ren (backN [] s.heap.length)) := by
      intro u hu f hf
      rw [ren_ren]
      refine inI_congr (fun b hb => ?_) u hu
      have hb := (mem_upTo _ _).1 hb
      have : backN [] s.heap.length b = s.heap.length + b := by simp [backN]
      rw [this]
      exact hf _ (by omega)
    rw [hlen]
    refine ⟨hcl4 v g1, fun b c hb => ?_, by omega⟩
    rcases Nat.lt_or_ge b s.heap.length with hh | hh
    · rw [List.getElem?_append_left hh] at hb; exact (hcl.heap b c hb).mono (by omega)
    · rw [List.getElem?_append_right hh, renH_get] at hb
      cases hq : H'[b - s.heap.length]? with
      | none => rw [hq] at hb; simp at hb
      | some oc =>
        rw [hq] at hb
        cases oc with
        | none => simp [renO] at hb
        | some c' =>
          simp only [Option.map_some, renO, Option.some.injEq] at hb
          subst hb
          have hlt : b - s.heap.length < H'.length := (List.getElem?_eq_some_iff.1 hq).1
          exact hcl4 c' (inIH_spec g2 _ ((mem_upTo _ _).2 hlt) c' hq)
  by_cases h5 : heapK E o = 5
  · obtain ⟨f, en, xs, he, h1⟩ := op5 h5
    rw [h1] at h ⊢
    refine (det_evCallL (hD f en he)).mono h fun v H2 hK => ⟨hK.1, ?_⟩
    have hK := hK.2
    rw [gd_iff] at hK ⊢
    exact ⟨hK.1, hK.2, Cl.of hK.1, hcl.heap, Nat.le_refl _⟩
  · cases o
    case alloc => simp [heapK] at h3
    case box => simp [heapK] at h3
    case buildSlice => simp [heapK] at h3
    case makeSlice => simp [heapK] at h3
    case store => simp [heapK] at hk
    case call c =>
      obtain ⟨cal, xs, ts⟩ := c
      cases cal
      case value f =>
        cases f
        case func f =>
          simp only [heapK] at hk
          cases he : E.fn f with
          | none => simp [he] at hk
          | some en =>
            simp only [he] at hk
            obtain ⟨hn, hnl⟩ : allNone en.ro = true ∧ en.lend = false := by
              cases q1 : allNone en.ro <;> cases q2 : en.lend <;> cases q3 : newRo en.ro <;> cases q4 : keepRo en.ro <;> simp [q1, q2, q3, q4, heapK, he] at hk h4 h5 ⊢
            simp only [evOp, St.opd, evCall, evCallF, he, List.append_nil, roArgs_none _ _ _ hn, hnl, cond_false] at h ⊢
            rw [gd_iff] at h ⊢
            obtain ⟨g0, h⟩ := h
            refine ⟨g0, ?_⟩
            have hka : killArgs (xs.toList.map (St.opd E s)) s.heap = s.heap := killArgs_free _ _ g0
            refine (hD f en he _ _).mono h fun v H' hK => ?_
            rw [gd_iff] at hK ⊢
            refine ⟨hK.1, ?_⟩
            have hv : Cl s.heap.length v := Cl.of ((Bool.and_eq_true _ _ ▸ hK.1 : _ ∧ _).2)
            have hK := hK.2
            rw [hka] at hK ⊢
            cases hr : v.noRS <;> rw [hr] at hK <;> exact ⟨hK, hv, hcl.heap, Nat.le_refl _⟩
        all_goals simp [heapK] at hk
      case builtin bi => cases bi <;> first | exact viaV fun _ => rfl | simp [heapK] at hk
      all_goals simp [heapK] at hk
    all_goals exact viaV fun _ => rfl
theorem evOne_cl (hC : Closed E) (hD : DetFn E) {ops : List Oper} {o : Oper} {s : St} {K : St → Prop} (hk : heapK E o.op ≠ 2) (hcl : ClS s) (h : evOne E ops o s K) : evOne E ops o s fun s' => K s' ∧ ClS s' := by
  rw [evOne_iff] at h ⊢
  cases hg : gval ops o s with
  | none => rw [hg] at h; exact h
  | some b =>
    rw [hg] at h
    cases b with
    | true => exact (det_evOp hD).mono (evOp_cl hC hD hk hcl h) fun v H hK => ⟨hK.1, hcl.put _ hK.2.2.2 hK.2.1 hK.2.2.1⟩
    | false => exact ⟨h, hcl.put _ (Nat.le_refl _) (fun _ _ => rfl) hcl.heap⟩
structure Pass (E : Env) (ops : List Oper) (K : St → Prop) (o : Oper) (r l1 : List Oper) (p : Oper) (l2 : List Oper) : Prop where
  ind : indepD ops p o = true
  how : heapOk (heapK E p.op) (heapK E o.op) = true ∨ (both3 E p.op o.op = true ∧ ∀ q ∈ l1, heapK E q.op ≠ 2) ∨
    ∃ x y, dynP p.op o.op = some (x, y) ∧ (∀ q ∈ p :: o :: (l2 ++ r), noMem q.dst (tmpsOf [x]) = true) ∧ (∀ q ∈ o :: (l2 ++ r), noMem q.dst (tmpsOf [y]) = true) ∧ ∀ s, K s → apartV (St.opd E s x) (St.opd E s y) = true
theorem dynP_mem {p o : Op} {x y : Operand} (h : dynP p o = some (x, y)) : y ∈ o.operands.toList := by
  unfold dynP at h
  split at h
  · rename_i a q h1 h2
    simp only [Option.some.injEq, Prod.mk.injEq] at h
    obtain ⟨rfl, rfl⟩ := h
    exact readPtr_mem h2
  · split at h
    · rename_i a q h1 h2
      simp only [Option.some.injEq, Prod.mk.injEq] at h
      obtain ⟨rfl, rfl⟩ := h
      exact storePtr_mem h2
    · cases h
theorem evOps_front (hC : Closed E) (hD : DetFn E) {ops : List Oper} {o : Oper} {r : List Oper} {K : St → Prop} {n : Nat} : ∀ (l : List Oper) (s : St), n ≤ s.heap.length →
    (∀ l1 p l2, l = l1 ++ p :: l2 → Pass E ops K o r l1 p l2) → ((∃ l1 p l2, l = l1 ++ p :: l2 ∧ both3 E p.op o.op = true ∧ ∀ q ∈ l1, heapK E q.op ≠ 2) → ClS s) →
    evOps E ops (l ++ o :: r) s K → evOne E ops o s fun s' => evOps E ops (l ++ r) s' (KQ n K)
  | [], s, _, _, _, h => (det_evOne hD).mono h fun s1 h1 => (det_evOps hD r s1).mono h1 fun _ h2 => KQ.of h2
  | p :: l, s, hn, hp, hcl, h => by
    have h1 : evOne E ops p s fun s1 => evOps E ops (l ++ o :: r) s1 K := h
    have hp' : ∀ l1 q l2, l = l1 ++ q :: l2 → Pass E ops K o r l1 q l2 := by
      intro l1 q l2 he
      obtain ⟨g1, g2⟩ := hp (p :: l1) q l2 (by rw [he]; rfl)
      exact ⟨g1, g2.imp _root_.id (Or.imp (fun g => ⟨g.1, fun z hz => g.2 z (List.mem_cons_of_mem _ hz)⟩) _root_.id)⟩
    have h2 : evOne E ops p s fun s1 => evOne E ops o s1 fun s2 => evOps E ops (l ++ r) s2 (KQ n K) := by
      by_cases hx : ∃ l1 q l2, l = l1 ++ q :: l2 ∧ both3 E q.op o.op = true ∧ ¬ heapOk (heapK E q.op) (heapK E o.op) = true ∧ ¬ ∃ x y, dynP q.op o.op = some (x, y)
      · obtain ⟨l1, q, l2, he, hq3, hnh, hnd⟩ := hx
        have hq := hp (p :: l1) q l2 (by rw [he]; rfl)
        have hquiet : ∀ z ∈ p :: l1, heapK E z.op ≠ 2 := by
          rcases hq.how with g | g | ⟨x, y, g, _⟩
          · exact absurd g hnh
          · exact g.2
          · exact absurd ⟨x, y, g⟩ hnd
        have hs := hcl ⟨p :: l1, q, l2, by rw [he]; rfl, hq3, hquiet⟩
        have h3 := evOne_cl hC hD (hquiet p List.mem_cons_self) hs h1
        refine (det_evOne hD).mono (evOne_len hC hD h3) ?_
        rintro s1 ⟨⟨h4, h5⟩, h6⟩
        exact evOps_front hC hD l s1 (Nat.le_trans hn h6) hp' (fun _ => h5) h4
      · refine (det_evOne hD).mono (evOne_len hC hD h1) ?_
        rintro s1 ⟨h4, h6⟩
        refine evOps_front hC hD l s1 (Nat.le_trans hn h6) hp' ?_ h4
        rintro ⟨l1, q, l2, he, hq3, hqu⟩
        exfalso
        refine hx ⟨l1, q, l2, he, hq3, ?_, ?_⟩
        · rcases both3_spec hq3 with ⟨a1, a2⟩ | ⟨a1, a2, _⟩ <;> rw [a1, a2] <;> decide
        · rintro ⟨x, y, hd⟩
          unfold dynP at hd
          have hns : ∀ {z : Op} {a : Operand}, storePtr z = some a → heapK E z = 2 := by
            intro z a hz
            cases z <;> simp only [storePtr, reduceCtorEq] at hz
            rfl
          have hq4 := both3_spec hq3
          split at hd
          · rename_i a b g1 g2
            have := hns g1; omega
          · split at hd
            · rename_i a b g1 g2
              have := hns g2; omega
            · cases hd
    have hpp := hp [] p l rfl
    rcases hpp.how with g | ⟨g0, g3⟩ | ⟨x, y, g1, g2, g3, g4⟩
    · exact evOne_swap hD hpp.ind g h2
    · have hs := hcl ⟨[], p, l, rfl, g0, g3⟩
      rcases both3_spec g0 with ⟨g1, g2⟩ | ⟨g1, g2, x, hx⟩
      case inr => exact evOne_swap41 hC hD hpp.ind g1 hx hs h2
      have h3 := evOne_swap33 hC hD hpp.ind g1 g2 hs hn h2
      refine (det_evOne hD).mono h3 fun s2 h4 => ?_
      show evOne E ops p s2 fun s3 => evOps E ops (l ++ r) s3 (KQ n K)
      refine (det_evOne hD).mono h4 fun s3 h5 => ?_
      exact (det_evOps hD _ s3).mono (KQ.ops hC hD h5) fun _ h6 => KQ.flat h6
    · have hy := dynP_mem g1
      have ha : apartV (St.opd E s x) (St.opd E s y) = true := by
        have h3 : evOps E ops (p :: o :: (l ++ r)) s (KQ n K) := h2
        obtain ⟨s', ⟨⟨f, s0, hf, hst, hK⟩, hkeep⟩, _⟩ := det_evOps hD _ s _ (evOps_keep hD _ h3)
        have h4 := g4 s0 hK
        rw [← apartV_ren hf.inj, ← opd_eqv hC hst, ← opd_eqv hC hst] at h4
        have ex : St.opd E s' x = St.opd E s x := opd_keep fun t ht => hkeep t fun q hq => by
          subst ht; exact noMem_one (g2 q hq)
        have ey : St.opd E s' y = St.opd E s y := opd_keep fun t ht => hkeep t fun q hq => by
          subst ht
          rcases List.mem_cons.1 hq with rfl | hq
          · have hi := hpp.ind
            simp only [indepD, Bool.and_eq_true] at hi
            have hi := hi.1.1
            intro e
            rw [e] at hi
            simp only [noMem, Bool.not_eq_true', ← Bool.not_eq_true, memN_iff] at hi
            exact hi (tmpsOf_mem t _ hy)
          · exact noMem_one (g3 q hq)
        rw [ex, ey] at h4
        exact h4
      exact evOne_swap_dyn hD hpp.ind g1 ha h2
def restOf (n : Nat) (listed : Array Bool) : List Nat := (List.range n).filter fun i => !listed.getD i true
theorem mem_restOf {n : Nat} {listed : Array Bool} {i : Nat} : i ∈ restOf n listed ↔ i < n ∧ listed.getD i true = false := by
  simp [restOf, List.mem_filter]
theorem restOf_sorted (n : Nat) (listed : Array Bool) : (restOf n listed).Pairwise (· < ·) := by
  unfold restOf
  exact List.Pairwise.filter _ List.pairwise_lt_range
theorem restOf_set {n : Nat} {listed : Array Bool} {i : Nat} {l r : List Nat} (hsz : listed.size = n) (h : restOf n listed = l ++ i :: r) : restOf n (listed.setIfInBounds i true) = l ++ r := by
  have hs := restOf_sorted n listed
  have hi : i < n := (mem_restOf.1 (by rw [h]; simp)).1
  have e1 : restOf n (listed.setIfInBounds i true) = (restOf n listed).filter fun j => !Nat.beq j i := by
    unfold restOf
    rw [List.filter_filter]
    refine List.filter_congr fun j hj => ?_
    by_cases hji : j = i
    · subst hji
      simp [Array.getD_eq_getD_getElem?, hsz, hi]
    · have : (listed.setIfInBounds i true).getD j true = listed.getD j true := by
        simp only [Array.getD_eq_getD_getElem?]
        rw [Array.getElem?_setIfInBounds_ne (fun e => hji e.symm)]
      rw [this]
      have : Nat.beq j i = false := by
        cases hb : Nat.beq j i with
        | false => rfl
        | true => exact absurd (Nat.eq_of_beq_eq_true hb) hji
      simp [this]
  rw [e1, h, List.filter_append, List.filter_cons]
  rw [h] at hs
  rw [List.pairwise_append] at hs
  obtain ⟨hs1, hs2, hs3⟩ := hs
  rw [List.pairwise_cons] at hs2
  have f1 : l.filter (fun j => !Nat.beq j i) = l := by
    refine List.filter_eq_self.2 fun j hj => ?_
    have := hs3 j hj i List.mem_cons_self
    cases hb : Nat.beq j i with
    | false => rfl
    | true => have := Nat.eq_of_beq_eq_true hb; omega
  have f2 : r.filter (fun j => !Nat.beq j i) = r := by
    refine List.filter_eq_self.2 fun j hj => ?_
    have := hs2.1 j hj
    cases hb : Nat.beq j i with
    | false => rfl
    | true => have := Nat.eq_of_beq_eq_true hb; omega
  have f3 : Nat.beq i i = true := Nat.beq_refl i
  rw [f1, f2, f3]
  simp
end swap
section sound
variable {P : Program} {E : Env}
mutual
theorem Rel.unren {ρ ρ' : Ren} {w : World} {f : Nat → Nat} (hb : ∀ b : Nat, ρ.bs[b]? = ρ'.bs[f b]?) (hm : ∀ b, b ∈ ρ.mbs → b ∈ ρ'.mbs) : ∀ (v : EV) (x : Value), Rel ρ' w (v.ren f) x → Rel ρ w v x
  | .undef, _, hr => hr.elim
  | .bool _, _, hr => hr
  | .int _ _, _, hr => hr
  | .str _, _, hr => hr
  | .nilPtr, _, hr => hr
  | .nilSlice, _, hr => hr
  | .nilFunc, _, hr => hr
  | .arr _ _ _, _, hr => hr
  | .nilIface, _, hr => hr
  | .rsT _ _ _, _, hr => rsT_mono (fun b h1 h2 => ⟨h1, fun hb => h2 (hm b hb), fun _ => rfl⟩) hr
  | .arrT _ _ _, _, hr => arrT_mono (.inr fun b h1 h2 => ⟨h1, fun hb => h2 (hm b hb), fun _ => rfl⟩) hr
  | .ptr b p, x, hr => by
    simp only [EV.ren, Rel, ← hb] at hr ⊢; exact hr
  | .slice b off len cap e, x, hr => by
    simp only [EV.ren, Rel, ← hb] at hr ⊢; exact hr
  | .rref v, x, hr => by
    simp only [EV.ren, Rel] at hr ⊢
    obtain ⟨b, o, y, h1, h2, h3, h4, h5⟩ := hr
    exact ⟨b, o, y, h1, Rel.unren hb hm v y h2, h3, fun h => h4 (hm b h), h5⟩
  | .rsI k n g, x, hr => by
    simp only [EV.ren, Rel] at hr ⊢
    obtain ⟨a, c, h1, h2, h3⟩ := hr
    refine ⟨a, c, h1, h2, h3.imp _root_.id ?_⟩
    rintro ⟨b, o, h4, h5, h6, h7⟩
    exact ⟨b, o, h4, h5, fun h => h6 (hm b h), h7⟩
  | .func g cap, x, hr => by
    simp only [EV.ren, Rel] at hr ⊢
    obtain ⟨vs, h1, h2⟩ := hr
    exact ⟨vs, h1, RelL.unren hb hm cap _ h2⟩
  | .bnd g cap, x, hr => by
    simp only [EV.ren, Rel] at hr ⊢
    obtain ⟨vs, h1, h2⟩ := hr
    exact ⟨vs, h1, RelL.unren hb hm cap _ h2⟩
  | .agg l, x, hr => by
    simp only [EV.ren, Rel] at hr ⊢
    obtain ⟨vs, h1, h2⟩ := hr
    exact ⟨vs, h1, RelF.unren hb hm l _ h2⟩
  | .tuple l, x, hr => by
    simp only [EV.ren, Rel] at hr ⊢
    obtain ⟨vs, h1, h2⟩ := hr
    exact ⟨vs, h1, RelL.unren hb hm l _ h2⟩
  | .iface t v, x, hr => by
    simp only [EV.ren, Rel] at hr ⊢
    obtain ⟨y, h1, h2⟩ := hr
    exact ⟨y, h1, Rel.unren hb hm v y h2⟩
theorem RelL.unren {ρ ρ' : Ren} {w : World} {f : Nat → Nat} (hb : ∀ b : Nat, ρ.bs[b]? = ρ'.bs[f b]?) (hm : ∀ b, b ∈ ρ.mbs → b ∈ ρ'.mbs) : ∀ (l : List EV) (xs : List Value), RelL ρ' w (EV.renL f l) xs → RelL ρ w l xs
  | [], _, hr => hr
  | v :: l, xs, hr => by
    simp only [EV.renL, RelL] at hr ⊢
    obtain ⟨x, ys, h1, h2, h3⟩ := hr
    exact ⟨x, ys, h1, Rel.unren hb hm v x h2, RelL.unren hb hm l ys h3⟩
theorem RelF.unren {ρ ρ' : Ren} {w : World} {f : Nat → Nat} (hb : ∀ b : Nat, ρ.bs[b]? = ρ'.bs[f b]?) (hm : ∀ b, b ∈ ρ.mbs → b ∈ ρ'.mbs) : ∀ (l : List EV) (xs : List Value), RelF ρ' w (EV.renL f l) xs → RelF ρ w l xs
  | [], _, hr => hr
  | v :: l, xs, hr => by
    simp only [EV.renL, RelF] at hr ⊢
    obtain ⟨x, ys, h1, h2, h3⟩ := hr
    exact ⟨x, ys, h1, Rel.unren hb hm v x h2, RelF.unren hb hm l ys h3⟩
end
def Ren.perm (f : Nat → Nat) (ρ : Ren) : Ren := ⟨ρ.F, (List.range ρ.bs.length).map fun b => (ρ.bs[f b]?).getD none⟩
theorem perm_get {f : Nat → Nat} {ρ : Ren} {n : Nat} (hf : Shf n ρ.bs.length f) (b : Nat) : (ρ.perm f).bs[b]? = ρ.bs[f b]? := by
  simp only [Ren.perm, List.getElem?_map]
  rcases Nat.lt_or_ge b ρ.bs.length with h | h
  · rw [List.getElem?_range h]
    have := hf.lt h
    show some ((ρ.bs[f b]?).getD none) = _
    rw [List.getElem?_eq_getElem this]
    rfl
  · rw [List.getElem?_eq_none (by simpa using h), hf.high b h, List.getElem?_eq_none h]
    rfl
theorem perm_own {f : Nat → Nat} {ρ : Ren} {n : Nat} (hf : Shf n ρ.bs.length f) {m : Nat} (h : m ∈ (ρ.perm f).own) : m ∈ ρ.own := by
  obtain ⟨b, r, h1, h2⟩ := own_mem h
  rw [perm_get hf] at h1
  exact h2 ▸ mem_own h1
theorem perm_mbs {f : Nat → Nat} {ρ : Ren} {n : Nat} (hf : Shf n ρ.bs.length f) {m : Nat} (h : m ∈ (ρ.perm f).mbs) : m ∈ ρ.mbs := by
  rcases List.mem_append.1 h with h | h
  · exact List.mem_append.2 (.inl h)
  · exact own_mbs (perm_own hf h)
theorem perm_state {gl : Nat → Option EV} {ρ0 ρ : Ren} {w0 w : World} {f : Nat → Nat} {s s' : St} {a : Array Value} (hf : Shf ρ0.bs.length s.heap.length f) (hst : StR f s s') (hT : RelT gl ρ w s'.tmps a) (hS : Sim ρ s'.heap w) (hX : Ext ρ0 w0 ρ w) :
    RelT gl (ρ.perm f) w s.tmps a ∧ Sim (ρ.perm f) s.heap w ∧ Ext ρ0 w0 (ρ.perm f) w := by
  have hlen : ρ.bs.length = s.heap.length := by rw [hS.len, hst.heap.len]
  have hf' : Shf ρ0.bs.length ρ.bs.length f := by rw [hlen]; exact hf
  have hg := fun b => perm_get hf' b
  have hm : ∀ b, b ∈ (ρ.perm f).mbs → b ∈ ρ.mbs := fun b h => perm_mbs hf' h
  have un : ∀ v x, Rel ρ w (v.ren f) x → Rel (ρ.perm f) w v x := Rel.unren hg hm
  refine ⟨⟨?_, fun i v hv => ?_, hT.2.2.sub hm⟩, ⟨?_, hS.fl, ?_, ?_, ?_, ?_⟩, ⟨hX.os, hX.tape, hX.output, hX.size, hX.out, ?_, ?_, ?_, hX.row⟩⟩
  · rw [← hT.1, hst.tmps, List.length_map]
  · have h1 : s'.tmps[i]? = some (v.ren f) := by rw [hst.tmps, List.getElem?_map, hv]; rfl
    rcases hT.2.1 i _ h1 with h2 | ⟨x, h2, h3⟩
    · left
      cases v <;> simp [EV.ren] at h2 ⊢
    · exact .inr ⟨x, h2, un v x h3⟩
  · simp [Ren.perm, hlen]
  · intro b r hb; rw [hg] at hb; exact hS.lt _ r hb
  · intro b r hb; rw [hg] at hb; exact hS.sep _ r hb
  · intro b c r q hb hc he
    rw [hg] at hb hc
    exact hf.inj _ _ (hS.nodup _ _ r q hb hc he)
  · intro b v hb
    obtain ⟨r, h1, h2, cs, e, fz, x, h3, h4, h5, h6, h7⟩ := hS.live (f b) (v.ren f) (hst.heap.live hb)
    exact ⟨r, by rw [hg]; exact h1, by rw [← h2, shape_ren], cs, e, fz, x, h3, h4, un v x h5, h6, h7⟩
  · intro b hb hn h; exact hX.new b hb hn (hm b h)
  · intro b hb hn h; exact hX.newOwn b hb hn (perm_own hf' h)
  · intro b r hb
    have hlt : b < ρ0.bs.length := by
      rcases Nat.lt_or_ge b ρ0.bs.length with hh | hh
      · exact hh
      · rw [List.getElem?_eq_none hh] at hb; cases hb
    rw [hg, hf.low b hlt]
    exact hX.keep b r hb
theorem Ext.len {ρ ρ' : Ren} {w w' : World} (h : Ext ρ w ρ' w') : ρ.bs.length ≤ ρ'.bs.length := by
  rcases Nat.lt_or_ge ρ'.bs.length ρ.bs.length with hh | hh
  · have h1 := List.getElem?_eq_getElem hh
    rcases h.keep _ _ h1 with h2 | h2 <;> rw [List.getElem?_eq_none (Nat.le_refl _)] at h2 <;> cases h2
  · exact hh
def wpAnyG (ops : Array Oper) (Q : Exit → Act → World → Prop) (st : Nat → (Act → World → Prop) → Act → World → Prop) : Nat → Array Bool → Act → World → Prop
  | 0, listed, a, w => Region.ready .any ops listed = [] ∧ Q .normal a w
  | fuel + 1, listed, a, w => (Region.ready .any ops listed = [] → Q .normal a w) ∧ ∀ i ∈ Region.ready .any ops listed, st i (wpAnyG ops Q st fuel (listed.setIfInBounds i true)) a w
theorem wpAnyG_eq (ops : Array Oper) (Q : Exit → Act → World → Prop) : ∀ (fuel : Nat) (listed : Array Bool) (a : Act) (w : World), wpAny P .any ops Q fuel listed a w = wpAnyG ops Q (wpOp P ops Q) fuel listed a w
  | 0, listed, a, w => rfl
  | fuel + 1, listed, a, w => by
    have ih : ∀ listed, wpAny P .any ops Q fuel listed = wpAnyG ops Q (wpOp P ops Q) fuel listed := fun listed => funext fun a => funext fun w => wpAnyG_eq ops Q fuel listed a w
    simp only [wpAny, wpAnyG, ih]
theorem wpAny_evG {st : Nat → (Act → World → Prop) → Act → World → Prop} {ops : Array Oper} {Q : Exit → Act → World → Prop} {a0 : Act} {ρ0 : Ren} {w0 : World} (hE : ∀ t ti, E.ty t = some ti → OkTI P t ti) (hFn : OkFn P E) (hD : DetFn E) (hC : Closed E) (hc : commB E ops.toList = true)
    (hstp : ∀ i o next a w, ops[i]? = some o → ((Region.wanted o (yielded ops a.tmps) = true ∧ (∀ c, o.op ≠ .defer c) ∧ o.wp P a w next Q) ∨ (Region.wanted o (yielded ops a.tmps) = false ∧ next (a.put o.dst undef) w)) → st i next a w) :
    ∀ (fuel : Nat) (listed : Array Bool) (ρ : Ren) (w : World) (s : St) (a : Act) (K : St → Prop), listed.size = ops.size → (restOf ops.size listed).length ≤ fuel →
      RelT E.gl ρ w s.tmps a.tmps → Sim ρ s.heap w → Ext ρ0 w0 ρ w → ρ.F = ρ0.F → a.defers = a0.defers → (∀ m o, ops.toList[m]? = some o → listed.getD m false = true → ∀ e ∈ o.after.toList, Region.binds .any e = true → listed.getD e.on false = true) → (∀ s, K s → chkB E ops.toList s = true) → evOps E ops.toList ((restOf ops.size listed).filterMap fun i => ops.toList[i]?) s K →
      (∀ s' ρ' w' a', K s' → RelT E.gl ρ' w' s'.tmps a'.tmps → a'.defers = a0.defers → Sim ρ' s'.heap w' → Ext ρ0 w0 ρ' w' → ρ'.F = ρ0.F → Q .normal a' w') →
      wpAnyG ops Q st fuel listed a w := by
  have hready : ∀ listed, listed.size = ops.size → Region.ready .any ops listed = [] → restOf ops.size listed = [] := by
    intro listed hsz hr
    cases hres : restOf ops.size listed with
    | nil => rfl
    | cons i r =>
      exfalso
      have hs := restOf_sorted ops.size listed
      rw [hres, List.pairwise_cons] at hs
      have hi := mem_restOf.1 (show i ∈ restOf ops.size listed by rw [hres]; simp)
      have : i ∈ Region.ready .any ops listed := by
        refine mem_ready.2 ⟨hi.2, ops[i]'hi.1, by simp [hi.1], fun e he hb => ?_⟩
        have hlt := (commB_spec hc (i := i) (o := ops[i]'hi.1) (by simp [hi.1])).1 e (by simpa using he) hb
        have hn : e.on < ops.size := Nat.lt_trans hlt hi.1
        have hnot : e.on ∉ restOf ops.size listed := by
          intro hin
          rw [hres] at hin
          rcases List.mem_cons.1 hin with h' | h'
          · omega
          · have := hs.1 _ h'; omega
        rw [mem_restOf] at hnot
        have hlt' : e.on < listed.size := by omega
        simp only [Array.getD_eq_getD_getElem?, Array.getElem?_eq_getElem hlt', Option.getD_some] at hnot ⊢
        cases hq : listed[e.on] with
        | true => rfl
        | false => exact absurd ⟨hn, hq⟩ hnot
      rw [hr] at this
      cases this
  intro fuel
  induction fuel with
  | zero =>
    intro listed ρ w s a K hsz hlen hT hS hX0 hF0 hd0 hdown hck h hn
    have hnil : restOf ops.size listed = [] := List.length_eq_zero_iff.1 (by omega)
    rw [hnil] at h
    refine ⟨?_, hn s ρ w a h hT hd0 hS hX0 hF0⟩
    cases hr : Region.ready .any ops listed with
    | nil => rfl
    | cons i r =>
      have h1 := mem_ready.1 (show i ∈ Region.ready .any ops listed by rw [hr]; simp)
      obtain ⟨h2, o, h3, _⟩ := h1
      have : i ∈ restOf ops.size listed := mem_restOf.2 ⟨(Array.getElem?_eq_some_iff.1 h3).1, h2⟩
      rw [hnil] at this
      cases this
  | succ fuel ih =>
    intro listed ρ w s a K hsz hlen hT hS hX0 hF0 hd0 hdown hck h hn
    refine ⟨fun hr => ?_, fun i hi => ?_⟩
    · rw [hready listed hsz hr] at h
      exact hn s ρ w a h hT hd0 hS hX0 hF0
    · obtain ⟨h0, o, ho, hall⟩ := mem_ready.1 hi
      have hin : i ∈ restOf ops.size listed := mem_restOf.2 ⟨(Array.getElem?_eq_some_iff.1 ho).1, h0⟩
      obtain ⟨l, r, hlr⟩ := List.append_of_mem hin
      have hoL : ops.toList[i]? = some o := by rw [Array.getElem?_toList]; exact ho
      have hfm : ((restOf ops.size listed).filterMap fun i => ops.toList[i]?) = (l.filterMap fun i => ops.toList[i]?) ++ o :: (r.filterMap fun i => ops.toList[i]?) := by
        rw [hlr, List.filterMap_append, List.filterMap_cons, hoL]
      rw [hfm] at h
      have hs := restOf_sorted ops.size listed
      rw [hlr, List.pairwise_append] at hs
      have hspec := commB_spec hc hoL
      have hbt : ∀ j, ((∃ e ∈ o.after.toList, Region.binds .any e = true ∧ e.on = j) ∨ bindsT ops.toList 6 j o.after.toList = true) → listed.getD j false = true := by
        rintro j (⟨e, he, hb, rfl⟩ | h1)
        · exact hall e (by simpa using he) hb
        · exact bindsT_listed hdown 6 j _ h1 fun e he hb => hall e (by simpa using he) hb
      have inDrop : ∀ (j k : Nat) (q : Oper), j ≤ k → ops.toList[k]? = some q → q ∈ ops.toList.drop j := by
        intro j k q hjk hq
        refine List.mem_of_getElem? (i := k - j) ?_
        rw [List.getElem?_drop, show j + (k - j) = k from by omega]; exact hq
      have hpass : ∀ l1 p l2, (l.filterMap fun i => ops.toList[i]?) = l1 ++ p :: l2 → Pass E ops.toList K o (r.filterMap fun i => ops.toList[i]?) l1 p l2 := by
        intro l1 p l2 he
        have hsub : ∃ la j lb, l = la ++ j :: lb ∧ ops.toList[j]? = some p ∧ (la.filterMap fun i => ops.toList[i]?) = l1 ∧ (lb.filterMap fun i => ops.toList[i]?) = l2 := by
          clear hs hlr hfm h
          induction l generalizing l1 with
          | nil => simp at he
          | cons k l ihl =>
            rw [List.filterMap_cons] at he
            cases hk : ops.toList[k]? with
            | none =>
              rw [hk] at he
              obtain ⟨la, j, lb, e1, e2, e3, e4⟩ := ihl l1 he
              exact ⟨k :: la, j, lb, by rw [e1]; rfl, e2, by rw [List.filterMap_cons, hk]; exact e3, e4⟩
            | some q =>
              rw [hk] at he
              cases l1 with
              | nil =>
                simp only [List.nil_append, List.cons.injEq] at he
                exact ⟨[], k, l, rfl, by rw [hk, he.1], rfl, he.2⟩
              | cons z l1 =>
                simp only [List.cons_append, List.cons.injEq] at he
                obtain ⟨la, j, lb, e1, e2, e3, e4⟩ := ihl l1 he.2
                exact ⟨k :: la, j, lb, by rw [e1]; rfl, e2, by rw [List.filterMap_cons, hk]; simp only; rw [e3, he.1], e4⟩
        obtain ⟨la, j, lb, e1, e2, e3, e4⟩ := hsub
        have hjl : j ∈ l := by rw [e1]; simp
        have hji : j < i := hs.2.2 j hjl i List.mem_cons_self
        have hsl := hs.1
        rw [e1, List.pairwise_append, List.pairwise_cons] at hsl
        rcases hspec.2 j p hji e2 with hb | ⟨g0, g⟩
        · exfalso
          have h1 := hbt j hb
          have h2 := (mem_restOf.1 (show j ∈ restOf ops.size listed by rw [hlr]; exact List.mem_append.2 (.inl hjl)))
          have hlt : j < listed.size := by omega
          simp only [Array.getD_eq_getD_getElem?, Array.getElem?_eq_getElem hlt, Option.getD_some] at h1 h2
          rw [h1] at h2
          exact absurd h2.2 (by simp)
        · refine ⟨g0, ?_⟩
          rcases g with g | ⟨g1, g2⟩ | g
          · exact .inl g
          · refine .inr (.inl ?_)
            refine ⟨g1, fun q hq => ?_⟩
            rw [← e3] at hq
            obtain ⟨k, hk, hqk⟩ := List.mem_filterMap.1 hq
            refine quietOps_spec g2 q ?_
            have hki : k < i := Nat.lt_trans (hsl.2.2 k hk j List.mem_cons_self) hji
            exact List.mem_of_getElem? (i := k) (by rw [List.getElem?_take_of_lt hki]; exact hqk)
          · unfold dynOk at g
            split at g
            · rename_i x y hd
              rw [Bool.and_eq_true] at g
              have afterJ : ∀ q ∈ (lb.filterMap fun i => ops.toList[i]?), ∃ k, j < k ∧ ops.toList[k]? = some q := by
                intro q hq
                obtain ⟨k, hk, hqk⟩ := List.mem_filterMap.1 hq
                exact ⟨k, hsl.2.1.1 k hk, hqk⟩
              have afterI : ∀ q ∈ (r.filterMap fun i => ops.toList[i]?), ∃ k, i < k ∧ ops.toList[k]? = some q := by
                intro q hq
                obtain ⟨k, hk, hqk⟩ := List.mem_filterMap.1 hq
                have h2 := hs.2.1
                rw [List.pairwise_cons] at h2
                exact ⟨k, h2.1 k hk, hqk⟩
              by_cases hok : heapOk (heapK E p.op) (heapK E o.op) = true
              · exact .inl hok
              refine .inr (.inr ⟨x, y, hd, ?_, ?_, ?_⟩)
              · intro q hq
                rw [← e4] at hq
                rcases List.mem_cons.1 hq with rfl | hq
                · exact noDst_spec g.1 q (inDrop j j q (Nat.le_refl _) e2)
                · rcases List.mem_cons.1 hq with rfl | hq
                  · exact noDst_spec g.1 q (inDrop j i q (Nat.le_of_lt hji) hoL)
                  · rcases List.mem_append.1 hq with hq | hq
                    · obtain ⟨k, hk, hqk⟩ := afterJ q hq
                      exact noDst_spec g.1 q (inDrop j k q (Nat.le_of_lt hk) hqk)
                    · obtain ⟨k, hk, hqk⟩ := afterI q hq
                      exact noDst_spec g.1 q (inDrop j k q (by omega) hqk)
              · intro q hq
                rw [← e4] at hq
                rcases List.mem_cons.1 hq with rfl | hq
                · exact noDst_spec g.2 q (inDrop i i q (Nat.le_refl _) hoL)
                · rcases List.mem_append.1 hq with hq | hq
                  · -- between the two: it does not touch
                    obtain ⟨k, hk, hqk⟩ := List.mem_filterMap.1 hq
                    have hkl : k ∈ l := by rw [e1]; simp [hk]
                    have hki : k < i := hs.2.2 k hkl i List.mem_cons_self
                    rcases hspec.2 k q hki hqk with hb | ⟨g5, _⟩
                    · exfalso
                      have h1 := hbt k hb
                      have h2 := (mem_restOf.1 (show k ∈ restOf ops.size listed by rw [hlr]; exact List.mem_append.2 (.inl hkl)))
                      have hlt : k < listed.size := by omega
                      simp only [Array.getD_eq_getD_getElem?, Array.getElem?_eq_getElem hlt, Option.getD_some] at h1 h2
                      rw [h1] at h2
                      exact absurd h2.2 (by simp)
                    · simp only [indepD, Bool.and_eq_true] at g5
                      have g6 := g5.1.1
                      have hy := dynP_mem hd
                      cases y
                      case tmp t =>
                        have ht := tmpsOf_mem t _ hy
                        cases hqd : q.dst with
                        | none => rfl
                        | some d =>
                          rw [hqd] at g6
                          simp only [noMem, Bool.not_eq_true', ← Bool.not_eq_true, memN_iff] at g6 ⊢
                          intro hd'
                          simp only [tmpsOf, List.mem_singleton] at hd'
                          exact g6 (hd' ▸ ht)
                      all_goals (cases q.dst <;> rfl)
                  · obtain ⟨k, hk, hqk⟩ := afterI q hq
                    exact noDst_spec g.2 q (inDrop i k q (Nat.le_of_lt hk) hqk)
              · intro s1 hK1
                have hc1 := hck s1 hK1
                have h1 := chkFrom_spec ops.toList 0 hc1 i o hoL
                rw [Nat.zero_add] at h1
                rcases chkAll_spec _ 0 h1 j p (by rw [List.getElem?_take_of_lt hji]; exact e2) with h2 | h2 | h2 | h2
                · exfalso
                  rw [Nat.zero_add] at h2
                  obtain ⟨e, he, hb, hon⟩ := bindsOn_iff h2
                  have h1 := hall e (by simpa using he) hb
                  have h2 := (mem_restOf.1 (show j ∈ restOf ops.size listed by rw [hlr]; exact List.mem_append.2 (.inl hjl)))
                  have hlt : j < listed.size := by omega
                  rw [hon] at h1
                  simp only [Array.getD_eq_getD_getElem?, Array.getElem?_eq_getElem hlt, Option.getD_some] at h1 h2
                  rw [h1] at h2
                  exact absurd h2.2 (by simp)
                · exact absurd h2 hok
                · exfalso
                  have k1 := both3_spec h2
                  have hns : ∀ {z : Op} {a : Operand}, storePtr z = some a → heapK E z = 2 := by
                    intro z a hz
                    cases z <;> simp only [storePtr, reduceCtorEq] at hz
                    rfl
                  unfold dynP at hd
                  split at hd
                  · rename_i a b g1 g2
                    have := hns g1; omega
                  · split at hd
                    · rename_i a b g1 g2
                      have := hns g2; omega
                    · cases hd
                · exact h2 x y hd
            · cases g
      have hn0 : ρ0.bs.length ≤ s.heap.length := by rw [← hS.len]; exact hX0.len
      refine hstp _ _ _ _ _ ho (evOne_gen hE hFn ho hT hS (evOps_front hC hD _ s hn0 hpass (fun _ => ClS.of hT hS) h) ?_)
      intro s' ρ' w' a' hK hT' hDf hS' hX hF
      have hrest := restOf_set hsz hlr
      refine ih (listed.setIfInBounds i true) ρ' w' s' a' (KQ ρ0.bs.length K) (by simp [hsz]) ?_ hT' hS' (hX0.trans hX) (hF.trans hF0) (hDf.trans hd0) ?_ ?_ ?_ ?_
      · rw [hrest]
        rw [hlr] at hlen
        simp at hlen ⊢
        omega
      · have hi2 : i < listed.size := by have := (Array.getElem?_eq_some_iff.1 ho).1; omega
        have hup : ∀ m, listed.getD m false = true → (listed.setIfInBounds i true).getD m false = true := by
          intro m hm
          simp only [Array.getD_eq_getD_getElem?, Array.getElem?_setIfInBounds] at hm ⊢
          by_cases hq : i = m
          · rw [if_pos hq, if_pos hi2]; rfl
          · rw [if_neg hq]; exact hm
        intro m o' hm hl e he hb
        by_cases hq : i = m
        · subst hq
          rw [hoL] at hm
          obtain rfl := Option.some.inj hm
          exact hup _ (hall e (by simpa using he) hb)
        · refine hup _ (hdown m o' hm ?_ e he hb)
          simpa only [Array.getD_eq_getD_getElem?, Array.getElem?_setIfInBounds, if_neg hq] using hl
      · rintro s1 ⟨f, s2, hf, hst, hK2⟩
        rw [chkB_ren hC hf.inj hst]
        exact hck s2 hK2
      · rw [hrest, List.filterMap_append]; exact hK
      · rintro s'' ρ'' w'' a'' ⟨f, s2, hf, hst, hK2⟩ hT'' hD' hS'' hX' hF'
        obtain ⟨q1, q2, q3⟩ := perm_state hf hst hT'' hS'' hX'
        exact hn s2 _ w'' a'' hK2 q1 hD' q2 q3 hF'
theorem evDraw_any {st : Nat → (Act → World → Prop) → Act → World → Prop} {ops : Array Oper} {Q : Exit → Act → World → Prop} (hE : ∀ t ti, E.ty t = some ti → OkTI P t ti) (hFn : OkFn P E) (hD : DetFn E) (hC : Closed E) 
    (hstp : ∀ i o next a w, ops[i]? = some o → ((Region.wanted o (yielded ops a.tmps) = true ∧ (∀ c, o.op ≠ .defer c) ∧ o.wp P a w next Q) ∨ (Region.wanted o (yielded ops a.tmps) = false ∧ next (a.put o.dst undef) w)) → st i next a w)
    (ρ : Ren) (w : World) (s : St) (a : Act) (K : St → Prop) (hT : RelT E.gl ρ w s.tmps a.tmps) (hS : Sim ρ s.heap w) (h : evDraw E ops.toList s K)
    (hn : ∀ s' ρ' w' a', K s' → RelT E.gl ρ' w' s'.tmps a'.tmps → a'.defers = a.defers → Sim ρ' s'.heap w' → Ext ρ w ρ' w' → ρ'.F = ρ.F → Q .normal a' w') :
    wpAnyG ops Q st ops.size (Array.replicate ops.size false) a { w with drawn := w.drawn + 1 } := by
  unfold evDraw at h
  rw [gd_iff] at h
  obtain ⟨hc, h⟩ := h
  have h : evOps E ops.toList ops.toList s fun s' => chkB E ops.toList s' = true ∧ K s' := by
    rw [cd_iff] at h
    cases hq : chkFrom E (fun _ _ => false) ops.toList 0 ops.toList with
    | true => exact (det_evOps hD _ s).mono (h.1 hq) fun s' hK => ⟨chkFrom_mono (fun _ _ e => by cases e) _ _ hq, hK⟩
    | false => exact (det_evOps hD _ s).mono (h.2 hq) fun s' hK => (gd_iff _ _).1 hK
  have hq : ∀ F, Ext ⟨F, []⟩ w ⟨F, []⟩ { w with drawn := w.drawn + 1 } := fun F =>
    ⟨rfl, rfl, rfl, Nat.le_refl _, fun _ _ _ => rfl, fun _ _ h => h, fun _ _ h => h, fun _ _ h => .inl h, fun _ cs e fz h => ⟨cs, e, fz, h, rfl⟩⟩
  have hX : Ext ρ w ρ { w with drawn := w.drawn + 1 } := (hq []).quiet
  have hall : restOf ops.size (Array.replicate ops.size false) = List.range ops.size := by
    unfold restOf
    refine List.filter_eq_self.2 fun i hi => ?_
    have : i < ops.size := List.mem_range.1 hi
    simp [Array.getD_eq_getD_getElem?, this]
  refine wpAny_evG (a0 := a) (ρ0 := ρ) (w0 := { w with drawn := w.drawn + 1 }) hE hFn hD hC hc hstp ops.size _ ρ _ s a (fun s' => chkB E ops.toList s' = true ∧ K s') (by simp) (by rw [hall]; simp) (hT.ext hX) (hS.quiet (hq [])) (Ext.refl _ _) rfl rfl ?_ (fun s h => h.1) ?_ ?_
  · intro m o hm hl
    exfalso
    rw [Array.getD_eq_getD_getElem?, Array.getElem?_replicate] at hl
    split at hl <;> simp at hl
  · rw [hall]
    have : (List.range ops.size).filterMap (fun i => ops.toList[i]?) = ops.toList := by
      apply List.ext_getElem?
      intro i
      have : ∀ (l : List Oper), (List.range l.length).filterMap (fun i => l[i]?) = l := by
        intro l
        induction l with
        | nil => rfl
        | cons x l ih =>
          rw [List.length_cons, List.range_succ_eq_map, List.filterMap_cons]
          simp only [List.getElem?_cons_zero, List.filterMap_map]
          congr 1
      have h2 := this ops.toList
      rw [Array.length_toList] at h2
      rw [h2]
    rw [this]; exact h
  · intro s' ρ' w' a' hK hT' hDf hS' hX' hF
    exact hn s' ρ' w' a' hK.2 hT' hDf hS' (hX.trans hX') hF
mutual
theorem encV_in : ∀ (v : EV) (x : Value), encV v = some x → v.inI [] = true
  | .bool _, _, _ => rfl | .int _ _, _, _ => rfl | .str _, _, _ => rfl | .nilPtr, _, _ => rfl | .nilSlice, _, _ => rfl | .nilFunc, _, _ => rfl
  | .nilIface, _, _ => rfl | .arr _ _ _, _, _ => rfl | .arrT _ _ _, _, _ => rfl
  | .rsT _ _ _, _, h => by simp [encV] at h
  | .agg l, x, h => by
    simp only [encV] at h
    cases hq : encF l with
    | none => rw [hq] at h; cases h
    | some cs => simp only [EV.inI]; exact encF_in l cs hq
  | .undef, _, h => by simp [encV] at h
  | .ptr _ _, _, h => by simp [encV] at h
  | .rref _, _, h => by simp [encV] at h
  | .slice _ _ _ _ _, _, h => by simp [encV] at h
  | .rsI _ _ _, _, h => by simp [encV] at h
  | .func _ _, _, h => by simp [encV] at h
  | .bnd _ _, _, h => by simp [encV] at h
  | .tuple _, _, h => by simp [encV] at h
  | .iface _ _, _, h => by simp [encV] at h
theorem encF_in : ∀ (l : List EV) (cs : List Value), encF l = some cs → EV.inIL [] l = true
  | [], _, _ => rfl
  | v :: l, cs, h => by
    simp only [encF] at h
    cases hv : encV v with
    | none => rw [hv] at h; cases h
    | some x =>
      cases hl : encF l with
      | none => rw [hv, hl] at h; cases h
      | some ys => simp only [EV.inIL, encV_in v x hv, encF_in l ys hl, Bool.and_self]
end
theorem closed_of {ρ : Ren} {w : World} (hE : ∀ t ti, E.ty t = some ti → OkTI P t ti) (hG : GOk E.gl ρ w) : Closed E :=
  ⟨fun t ti h => by
    obtain ⟨d, it, z, h1, h2, h3, h4, h5, h6, h7⟩ := hE t ti h
    exact encV_in ti.zero z h7, fun g v h => (hG g v h).1⟩
theorem det_evDraw (hD : DetFn E) {ops : List Oper} {s : St} : Det (evDraw E ops s) := by
  unfold evDraw
  exact det_gd (det_cond (det_evOps hD _ _) (det_bind (U := fun s' K => gd (chkB E ops s') (K s')) (det_evOps hD _ _) fun s' => det_gd (det_pure s')))
theorem evDraw_sound {ops : Array Oper} {Q : Exit → Act → World → Prop} (hE : ∀ t ti, E.ty t = some ti → OkTI P t ti) (hFn : OkFn P E) (hD : DetFn E) (hC : Closed E) (hm : P.follows .mixedOrders = true)
    (id : Nat) (ρ : Ren) (w : World) (s : St) (a : Act) (K : St → Prop) (hT : RelT E.gl ρ w s.tmps a.tmps) (hS : Sim ρ s.heap w) (h : evDraw E ops.toList s K)
    (hn : ∀ s' ρ' w' a', K s' → RelT E.gl ρ' w' s'.tmps a'.tmps → a'.defers = a.defers → Sim ρ' s'.heap w' → Ext ρ w ρ' w' → ρ'.F = ρ.F → Q .normal a' w') :
    (Code.region id ops true).wp P Q a w := by
  refine wp_region_any hm ?_
  rw [wpAnyG_eq]
  refine evDraw_any hE hFn hD hC (fun i o next a w ho h => ?_) ρ w s a K hT hS h hn
  unfold wpOp
  simp only [ho]
  rcases h with ⟨h1, _, h2⟩ | ⟨h1, h2⟩
  · rw [if_pos h1]; exact .inl h2
  · rw [if_neg (by rw [h1]; exact Bool.false_ne_true)]; exact h2
end sound
end Go.Ev
