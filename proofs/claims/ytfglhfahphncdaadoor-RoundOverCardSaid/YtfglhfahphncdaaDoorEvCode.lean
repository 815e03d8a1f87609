/- The evaluator: operations, regions, code, calls; and that it is sound. -/
import Derived.Test.YtfglhfahphncdaaDoorEvMore
set_option linter.unusedVariables false
set_option linter.unusedSimpArgs false
namespace Go.Ev
open Go

def EV.dfd : EV → Bool
  | .undef => false
  | .bool _ => true | .int _ _ => true | .str _ => true | .nilPtr => true | .ptr _ _ => true | .rref _ => true | .nilSlice => true | .slice _ _ _ _ _ => true
  | .rsI _ _ _ => true | .nilFunc => true | .func _ _ => true | .agg _ => true | .arr _ _ _ => true | .tuple _ => true | .nilIface => true | .iface _ _ => true
def dfdL : List EV → Bool
  | [] => true
  | v :: l => v.dfd && dfdL l
theorem dfd_ne {v : EV} (h : v.dfd = true) : v ≠ .undef := by intro e; subst e; cases h
theorem dfdL_ne : ∀ {l : List EV}, dfdL l = true → ∀ v ∈ l, v ≠ .undef
  | v :: l, h, u, hu => by
    simp only [dfdL, Bool.and_eq_true] at h
    rcases List.mem_cons.1 hu with rfl | hu
    · exact dfd_ne h.1
    · exact dfdL_ne h.2 u hu

def dfdO : Option EV → Bool
  | some v => v.dfd
  | none => true

/-- Operations that leave memory as it is. -/
def evV (E : Env) (o : Op) (s : St) (K : EV → Prop) : Prop :=
  match o with
  | .move x => K ((St.opd E s) x)
  | .assign x => K ((St.opd E s) x)
  | .pick c a b => match (St.opd E s) c with
    | .bool t => br t (K ((St.opd E s) a)) (K ((St.opd E s) b))
    | _ => False
  | .build t ps => gd (dfdL (ps.toList.map fun p => (St.opd E s) p.2)) (evBuild E t (ps.toList.map fun p => (p.1, (St.opd E s) p.2)) K)
  | .load t a => evLoad E t ((St.opd E s) a) s.heap K
  | .binOp op t x y _ => gd (((St.opd E s) x).dfd && ((St.opd E s) y).dfd) (evBin E op t ((St.opd E s) x) ((St.opd E s) y) K)
  | .unOp op _ x => evUn op ((St.opd E s) x) K
  | .convert src dst x => gd ((St.opd E s) x).dfd (evConv E src dst ((St.opd E s) x) s.heap K)
  | .fieldAddr t x f => gd ((St.opd E s) x).dfd (evFieldAddr E t ((St.opd E s) x) f s.heap K)
  | .field t x f => gd ((St.opd E s) x).dfd (evField E t ((St.opd E s) x) f K)
  | .indexAddr t x i => gd (((St.opd E s) x).dfd && ((St.opd E s) i).dfd) (evIndexAddr E t ((St.opd E s) x) ((St.opd E s) i) s.heap K)
  | .index t x i => gd (((St.opd E s) x).dfd && ((St.opd E s) i).dfd) (evIndex E t ((St.opd E s) x) ((St.opd E s) i) K)
  | .extract x i => evExtract ((St.opd E s) x) i K
  | .makeFunc (.func f) ⟨[]⟩ cs => gd (dfdL (cs.toList.map (St.opd E s))) (K (.func f (cs.toList.map (St.opd E s))))
  | .slice t x lo hi mx => gd (((St.opd E s) x).dfd && (dfdO (lo.map (St.opd E s)) && (dfdO (hi.map (St.opd E s)) && dfdO (mx.map (St.opd E s))))) (evSlice E t ((St.opd E s) x) (lo.map (St.opd E s)) (hi.map (St.opd E s)) (mx.map (St.opd E s)) s.heap K)
  | .call { callee := .builtin .len, args := ⟨[x]⟩, argTypes := ⟨[t]⟩ } => gd ((St.opd E s) x).dfd (evLen E t ((St.opd E s) x) K)
  | .call { callee := .builtin .max, args := xs, argTypes := _ } => gd (dfdL (xs.toList.map (St.opd E s))) (evMM maxI (xs.toList.map (St.opd E s)) K)
  | .call { callee := .builtin .min, args := xs, argTypes := _ } => gd (dfdL (xs.toList.map (St.opd E s))) (evMM minI (xs.toList.map (St.opd E s)) K)
  | _ => False

mutual
/-- No place of another memory in it. -/
def EV.free : EV → Bool
  | .ptr _ _ => false
  | .slice _ _ _ _ _ => false
  | .rref _ => false
  | .undef => false
  | .rsI _ _ _ => true
  | .bool _ => true | .int _ _ => true | .str _ => true | .nilPtr => true | .nilSlice => true | .nilFunc => true | .arr _ _ _ => true | .nilIface => true
  | .agg l => EV.freeL l
  | .tuple l => EV.freeL l
  | .func _ l => EV.freeL l
  | .iface _ v => v.free
def EV.freeL : List EV → Bool
  | [] => true
  | v :: l => v.free && EV.freeL l
end

/-- An argument as the callee takes it: a slice is read only. -/
def roArg (H : Heap) : Option IntKind → EV → EV
  | some k, .nilSlice => .rsI k 0 (fun _ => 0)
  | some k, .slice b off len _ _ => match H[b]? with
    | some (some (.arr k' _ g)) => cond (decide (k = k')) (.rsI k len (shift off g)) .undef
    | _ => .undef
  | _, v => v
def roArgs (H : Heap) : List (Option IntKind) → List EV → List EV
  | m :: ms, v :: vs => roArg H m v :: roArgs H ms vs
  | _, vs => vs
/-- The rows that were handed over are given up. -/
def killArgs : List EV → Heap → Heap
  | [], H => H
  | .slice b _ _ _ _ :: vs, H => killArgs vs (H.set b none)
  | _ :: vs, H => killArgs vs H

/-- The blocks of the slices that are handed over to be read. -/
def roDead : List (Option IntKind) → List EV → List Nat
  | some _ :: ms, .slice b _ _ _ _ :: vs => b :: roDead ms vs
  | _ :: ms, _ :: vs => roDead ms vs
  | _, _ => []

/-- A call to which blocks are lent. -/
def evCallL (en : Entry) (args : List EV) (dead idx : List Nat) (H : Heap) (K : EV → Heap → Prop) : Prop :=
  gd (dfdL args && (EV.inIL idx args && (inIH idx H idx && (allLt H.length idx && noneIn idx dead))))
    (en.spec (EV.renL (pos idx) args) (subH H idx) fun v H' =>
      gd (v.inI (upTo H'.length) && (inIH (upTo H'.length) H' (upTo H'.length) && Nat.ble idx.length H'.length))
        (K (v.ren (backN idx H.length)) (killN (cond (v.noRS && noRSH H') [] dead) (putB idx (renH (backN idx H.length) H') H))))

/-- A call. -/
def evCall (E : Env) (f : EV) (args : List EV) (H : Heap) (K : EV → Heap → Prop) : Prop :=
  match f with
  | .func f cap => match E.fn f with
    | some en => cond en.lend
        (evCallL en (roArgs H en.ro (args ++ cap)) (roDead en.ro (args ++ cap)) (canI 0 (roArgs H en.ro (args ++ cap)) H) H K)
        (gd (EV.freeL (roArgs H en.ro (args ++ cap))) (en.spec (roArgs H en.ro (args ++ cap)) [] fun v H' =>
          gd (Nat.beq H'.length 0) (cond v.noRS (K v H) (K v (killArgs (args ++ cap) H)))))
    | none => False
  | _ => False

def evOp (E : Env) (o : Op) (s : St) (K : EV → Heap → Prop) : Prop :=
  match o with
  | .alloc t => match E.ty t with
    | some ti => evNew s.heap ti.zero K
    | none => False
  | .box t x => match (St.opd E s) x with
    | .undef => False
    | v => evNew s.heap v K
  | .buildSlice t n ps => gd (dfdL (ps.toList.map fun p => (St.opd E s) p.2)) (evBuildSlice E t n (ps.toList.map fun p => (p.1, (St.opd E s) p.2)) s.heap K)
  | .store t a x => evStore E t ((St.opd E s) a) ((St.opd E s) x) s.heap (fun H => K .undef H)
  | .makeSlice t ln cp => gd (((St.opd E s) ln).dfd && ((St.opd E s) cp).dfd) (evMakeSlice E t ((St.opd E s) ln) ((St.opd E s) cp) s.heap K)
  | .call { callee := .value f, args := xs, argTypes := _ } => evCall E ((St.opd E s) f) (xs.toList.map (St.opd E s)) s.heap K
  | .call { callee := .builtin .append, args := ⟨[x, y]⟩, argTypes := ⟨[t, u]⟩ } => gd (((St.opd E s) x).dfd && ((St.opd E s) y).dfd) (evAppend E t u ((St.opd E s) x) ((St.opd E s) y) s.heap K)
  | .call { callee := .builtin .copy, args := ⟨[x, y]⟩, argTypes := ⟨[t, _]⟩ } => gd (((St.opd E s) x).dfd && ((St.opd E s) y).dfd) (evCopy E t ((St.opd E s) x) ((St.opd E s) y) s.heap K)
  | o => evV E o s (fun v => K v s.heap)


section sound
variable {P : Program} {E : Env}

/-- What the package-level variables have. -/
def GOk (gl : Nat → Option EV) (ρ : Ren) (w : World) : Prop := ∀ g v, gl g = some v → v.inI [] = true ∧ Rel ρ w (.rref v) (.pointer (some ⟨g, 0, none⟩))

theorem GOk.ext {gl : Nat → Option EV} {ρ ρ' : Ren} {w w' : World} (h : GOk gl ρ w) (he : Ext ρ w ρ' w') : GOk gl ρ' w' := fun g v hg => ⟨(h g v hg).1, Rel.ext he _ _ (h g v hg).2⟩

mutual
theorem ren_in {f : Nat → Nat} : ∀ (v : EV), v.inI [] = true → v.ren f = v
  | .ptr b _, h => by simp [EV.inI, memN] at h
  | .slice b _ _ _ _, h => by simp [EV.inI, memN] at h
  | .rref v, h => by simp only [EV.ren, ren_in v (by simpa [EV.inI] using h)]
  | .agg l, h => by simp only [EV.ren, renL_in l (by simpa [EV.inI] using h)]
  | .tuple l, h => by simp only [EV.ren, renL_in l (by simpa [EV.inI] using h)]
  | .func _ l, h => by simp only [EV.ren, renL_in l (by simpa [EV.inI] using h)]
  | .iface _ v, h => by simp only [EV.ren, ren_in v (by simpa [EV.inI] using h)]
  | .rsI _ _ _, _ => rfl | .undef, _ => rfl
  | .bool _, _ => rfl | .int _ _, _ => rfl | .str _, _ => rfl | .nilPtr, _ => rfl | .nilSlice, _ => rfl | .nilFunc, _ => rfl | .arr _ _ _, _ => rfl | .nilIface, _ => rfl
theorem renL_in {f : Nat → Nat} : ∀ (l : List EV), EV.inIL [] l = true → EV.renL f l = l
  | [], _ => rfl
  | v :: l, h => by
    simp only [EV.inIL, Bool.and_eq_true] at h
    simp only [EV.renL, ren_in v h.1, renL_in l h.2]
end

theorem GOk.sub {gl : Nat → Option EV} {ρ ρ' : Ren} {w : World} (h : GOk gl ρ w) (hm : ∀ b, b ∈ ρ'.mbs → b ∈ ρ.mbs) : GOk gl ρ' w := by
  intro g v hg
  obtain ⟨h1, h2⟩ := h g v hg
  refine ⟨h1, ?_⟩
  have h3 : (EV.rref v).inI [] = true := by simpa [EV.inI] using h1
  have := Rel.ren (ρ' := ρ') (f := id) (idx := []) (fun b r hb _ => by cases hb) (.rref v) _ h3 (.inr fun b _ hn hb => hn (hm b hb)) h2
  rwa [ren_in _ h3] at this

def SoundF (P : Program) (gl : Nat → Option EV) (f : FuncId) (en : Entry) : Prop :=
  ∀ (ρ : Ren) (H : Heap) (w : World) (args : List EV) (xs : List Value) (K : EV → Heap → Prop), en.spec args H K → RelL ρ w args xs → Sim ρ H w → GOk gl ρ w →
    Calls P f xs.toArray w fun e w' => ∃ v x H' ρ', e = .returned x ∧ K v H' ∧ Rel ρ' w' v x ∧ Sim ρ' H' w' ∧ Ext ρ w ρ' w' ∧ ρ'.F = ρ.F

/-- A call without places. -/
theorem SoundF.plain {gl : Nat → Option EV} {f : FuncId} {en : Entry} (h : SoundF P gl f en) {F : List Nat} {w : World} {args : List EV} {xs : List Value} {K : EV → Prop} (hs : en.spec args [] fun v H' => gd (Nat.beq H'.length 0) (K v))
    (hr : RelL ⟨F, []⟩ w args xs) (hF : ∀ b, b ∈ F → b < w.heap.size) (hG : GOk gl ⟨F, []⟩ w) : Calls P f xs.toArray w fun e w' => ∃ v x, e = .returned x ∧ K v ∧ Rel ⟨F, []⟩ w' v x ∧ Ext ⟨F, []⟩ w ⟨F, []⟩ w' := by
  refine (h ⟨F, []⟩ [] w args xs _ hs hr ⟨rfl, hF, by intro b r h; simp at h, by intro b r h; simp at h, by intro b c r s h; simp at h, by intro b v h; simp at h⟩ hG).mono ?_
  rintro e w' ⟨v, x, H', ρ', rfl, hK, hv, hS, hX, hf⟩
  rw [gd_iff] at hK
  have h0 := Nat.eq_of_beq_eq_true hK.1
  have h1 : ρ' = ⟨F, []⟩ := by
    have := hS.len
    rw [h0] at this
    have h2 := List.length_eq_zero_iff.1 this
    cases ρ'
    simp only at hf h2
    rw [hf, h2]
  subst h1
  exact ⟨v, x, rfl, hK.2, hv, hX⟩

mutual
theorem Rel.toFree {ρ ρ' : Ren} {w : World} (hm : ∀ b, b ∈ ρ'.mbs → b ∈ ρ.mbs) : ∀ (v : EV) (x : Value), v.free = true → Rel ρ w v x → Rel ρ' w v x
  | .undef, _, _, hr => hr.elim
  | .bool _, _, _, hr => hr
  | .int _ _, _, _, hr => hr
  | .str _, _, _, hr => hr
  | .nilPtr, _, _, hr => hr
  | .ptr _ _, _, h, _ => by simp [EV.free] at h
  | .rref _, _, h, _ => by simp [EV.free] at h
  | .nilSlice, _, _, hr => hr
  | .slice _ _ _ _ _, _, h, _ => by simp [EV.free] at h
  | .rsI k n g, x, _, hr => by
    simp only [Rel] at hr ⊢
    obtain ⟨a, c, h1, h2, h3⟩ := hr
    refine ⟨a, c, h1, h2, h3.imp id ?_⟩
    rintro ⟨b, o, h4, h5, h6, h7⟩
    exact ⟨b, o, h4, h5, fun h => h6 (hm b h), h7⟩
  | .nilFunc, _, _, hr => hr
  | .func f cap, x, h, hr => by
    simp only [Rel] at hr ⊢
    obtain ⟨vs, h1, h2⟩ := hr
    exact ⟨vs, h1, RelL.toFree hm cap _ (by simpa [EV.free] using h) h2⟩
  | .agg l, x, h, hr => by
    simp only [Rel] at hr ⊢
    obtain ⟨cs, h1, h2⟩ := hr
    exact ⟨cs, h1, RelF.toFree hm l _ (by simpa [EV.free] using h) h2⟩
  | .arr _ _ _, _, _, hr => hr
  | .tuple l, x, h, hr => by
    simp only [Rel] at hr ⊢
    obtain ⟨vs, h1, h2⟩ := hr
    exact ⟨vs, h1, RelL.toFree hm l _ (by simpa [EV.free] using h) h2⟩
  | .nilIface, _, _, hr => hr
  | .iface t v, x, h, hr => by
    simp only [Rel] at hr ⊢
    obtain ⟨y, h1, h2⟩ := hr
    exact ⟨y, h1, Rel.toFree hm v y (by simpa [EV.free] using h) h2⟩
theorem RelL.toFree {ρ ρ' : Ren} {w : World} (hm : ∀ b, b ∈ ρ'.mbs → b ∈ ρ.mbs) : ∀ (l : List EV) (xs : List Value), EV.freeL l = true → RelL ρ w l xs → RelL ρ' w l xs
  | [], _, _, hr => hr
  | v :: l, xs, h, hr => by
    simp only [EV.freeL, Bool.and_eq_true] at h
    simp only [RelL] at hr ⊢
    obtain ⟨x, ys, h1, h2, h3⟩ := hr
    exact ⟨x, ys, h1, Rel.toFree hm v x h.1 h2, RelL.toFree hm l ys h.2 h3⟩
theorem RelF.toFree {ρ ρ' : Ren} {w : World} (hm : ∀ b, b ∈ ρ'.mbs → b ∈ ρ.mbs) : ∀ (l : List EV) (xs : List Value), EV.freeL l = true → RelF ρ w l xs → RelF ρ' w l xs
  | [], _, _, hr => hr
  | v :: l, xs, h, hr => by
    simp only [EV.freeL, Bool.and_eq_true] at h
    simp only [RelF] at hr ⊢
    obtain ⟨x, ys, h1, h2, h3⟩ := hr
    exact ⟨x, ys, h1, Rel.toFree hm v x h.1 h2, RelF.toFree hm l ys h.2 h3⟩
end

mutual
/-- Of what a call hands back (no place of ours is in it). -/
theorem Rel.ofFree {F : List Nat} {ρ : Ren} {w : World} : ∀ (v : EV) (x : Value), (v.noRS = true ∨ ∀ b, b ∈ ρ.mbs → b ∈ F) → Rel ⟨F, []⟩ w v x → Rel ρ w v x
  | .undef, _, _, hr => hr.elim
  | .bool _, _, _, hr => hr
  | .int _ _, _, _, hr => hr
  | .str _, _, _, hr => hr
  | .nilPtr, _, _, hr => hr
  | .ptr _ _, _, _, hr => by simp only [Rel] at hr; obtain ⟨_, _, _, h, _⟩ := hr; simp at h
  | .rref v, x, h, hr => by
    simp only [Rel] at hr ⊢
    obtain ⟨b, o, y, h1, h2, h3, h4, h5⟩ := hr
    rcases h with h | h
    · simp [EV.noRS] at h
    · exact ⟨b, o, y, h1, Rel.ofFree v y (.inr h) h2, h3, fun hb => h4 (List.mem_append.2 (.inl (h b hb))), h5⟩
  | .nilSlice, _, _, hr => hr
  | .slice _ _ _ _ _, _, _, hr => by simp only [Rel] at hr; obtain ⟨_, _, _, _, h, _⟩ := hr; simp at h
  | .rsI k n g, x, h, hr => by
    simp only [Rel] at hr ⊢
    obtain ⟨a, c, h1, h2, h3⟩ := hr
    rcases h with h | h
    · simp [EV.noRS] at h
    · refine ⟨a, c, h1, h2, h3.imp id ?_⟩
      rintro ⟨b, o, h4, h5, h6, h7⟩
      exact ⟨b, o, h4, h5, fun hb => h6 (List.mem_append.2 (.inl (h b hb))), h7⟩
  | .nilFunc, _, _, hr => hr
  | .func f cap, x, h, hr => by
    simp only [Rel] at hr ⊢
    obtain ⟨vs, h1, h2⟩ := hr
    exact ⟨vs, h1, RelL.ofFree cap _ (h.imp (by simp [EV.noRS]) id) h2⟩
  | .agg l, x, h, hr => by
    simp only [Rel] at hr ⊢
    obtain ⟨cs, h1, h2⟩ := hr
    exact ⟨cs, h1, RelF.ofFree l _ (h.imp (by simp [EV.noRS]) id) h2⟩
  | .arr _ _ _, _, _, hr => hr
  | .tuple l, x, h, hr => by
    simp only [Rel] at hr ⊢
    obtain ⟨vs, h1, h2⟩ := hr
    exact ⟨vs, h1, RelL.ofFree l _ (h.imp (by simp [EV.noRS]) id) h2⟩
  | .nilIface, _, _, hr => hr
  | .iface t v, x, h, hr => by
    simp only [Rel] at hr ⊢
    obtain ⟨y, h1, h2⟩ := hr
    exact ⟨y, h1, Rel.ofFree v y (h.imp (by simp [EV.noRS]) id) h2⟩
theorem RelL.ofFree {F : List Nat} {ρ : Ren} {w : World} : ∀ (l : List EV) (xs : List Value), (EV.noRSL l = true ∨ ∀ b, b ∈ ρ.mbs → b ∈ F) → RelL ⟨F, []⟩ w l xs → RelL ρ w l xs
  | [], _, _, hr => hr
  | v :: l, xs, h, hr => by
    simp only [RelL] at hr ⊢
    obtain ⟨x, ys, h1, h2, h3⟩ := hr
    refine ⟨x, ys, h1, Rel.ofFree v x (h.imp ?_ id) h2, RelL.ofFree l ys (h.imp ?_ id) h3⟩ <;> simp +contextual [EV.noRSL]
theorem RelF.ofFree {F : List Nat} {ρ : Ren} {w : World} : ∀ (l : List EV) (xs : List Value), (EV.noRSL l = true ∨ ∀ b, b ∈ ρ.mbs → b ∈ F) → RelF ⟨F, []⟩ w l xs → RelF ρ w l xs
  | [], _, _, hr => hr
  | v :: l, xs, h, hr => by
    simp only [RelF] at hr ⊢
    obtain ⟨x, ys, h1, h2, h3⟩ := hr
    refine ⟨x, ys, h1, Rel.ofFree v x (h.imp ?_ id) h2, RelF.ofFree l ys (h.imp ?_ id) h3⟩ <;> simp +contextual [EV.noRSL]
end

/-- A call that leaves all that was as it was. -/
theorem Ext.quiet {F : List Nat} {ρ : Ren} {w w' : World} (h : Ext ⟨F, []⟩ w ⟨F, []⟩ w') : Ext ρ w ρ w' :=
  ⟨h.os, h.tape, h.output, h.size, fun b hb _ => h.out b hb (by simp [Ren.own]), fun _ _ h => h, fun _ _ h => h, fun _ _ h => .inl h, h.row⟩

theorem Sim.quiet {F : List Nat} {ρ : Ren} {H : Heap} {w w' : World} (hS : Sim ρ H w) (h : Ext ⟨F, []⟩ w ⟨F, []⟩ w') : Sim ρ H w' := by
  have hE : Ext ρ w ρ w' := h.quiet
  refine ⟨hS.len, fun b hb => Nat.lt_of_lt_of_le (hS.fl b hb) h.size, fun b r hb => Nat.lt_of_lt_of_le (hS.lt b r hb) h.size, hS.sep, hS.nodup, ?_⟩
  intro b v hb
  obtain ⟨r, h1, h2, cs, e, fz, x, h3, h4, h5, h6, h7⟩ := hS.live b v hb
  have heq := h.out r.mb (hS.lt b r h1) (by simp [Ren.own])
  exact ⟨r, h1, h2, cs, e, fz, x, heq.trans h3, h4, Rel.ext hE _ _ h5, h6, h7.keep heq⟩

/-- A block is given up. -/
def Ren.kill (ρ : Ren) (b : Nat) : Ren := { ρ with bs := ρ.bs.set b none }

theorem kill_own {ρ : Ren} {b m : Nat} (h : m ∈ (ρ.kill b).own) : m ∈ ρ.own := by
  obtain ⟨c, r, h1, h2⟩ := own_mem h
  simp only [Ren.kill] at h1
  by_cases hc : c = b
  · subst hc
    rw [List.getElem?_set] at h1
    simp at h1
  · rw [map_some_ne _ _ _ _ hc] at h1
    exact h2 ▸ mem_own h1

theorem kill_mbs {ρ : Ren} {b m : Nat} (h : m ∈ (ρ.kill b).mbs) : m ∈ ρ.mbs := by
  rcases List.mem_append.1 h with h | h
  · exact List.mem_append.2 (.inl h)
  · exact own_mbs (kill_own h)

theorem Ext.kill (ρ : Ren) (w : World) (b : Nat) : Ext ρ w (ρ.kill b) w :=
  ⟨rfl, rfl, rfl, Nat.le_refl _, fun _ _ _ => rfl, fun c _ h hm => h (kill_mbs hm), fun c _ h hm => h (kill_own hm), fun c r hc => by
    by_cases hcb : c = b
    · subst hcb
      refine .inr ?_
      simp only [Ren.kill]
      have hlt : c < ρ.bs.length := by
        rcases Nat.lt_or_ge c ρ.bs.length with hh | hh
        · exact hh
        · rw [List.getElem?_eq_none hh] at hc; cases hc
      rw [List.getElem?_set_self hlt]
    · exact .inl (by simp only [Ren.kill]; rw [map_some_ne _ _ _ _ hcb]; exact hc),
   fun _ cs e fz h => ⟨cs, e, fz, h, rfl⟩⟩

theorem Sim.kill {ρ : Ren} {H : Heap} {w : World} (hS : Sim ρ H w) (b : Nat) : Sim (ρ.kill b) (H.set b none) w := by
  have hk : ∀ (c : Nat) r, (ρ.kill b).bs[c]? = some (some r) → ρ.bs[c]? = some (some r) := by
    intro c r h1
    simp only [Ren.kill] at h1
    by_cases hc : c = b
    · subst hc
      rw [List.getElem?_set] at h1
      simp at h1
    · rw [map_some_ne _ _ _ _ hc] at h1; exact h1
  refine ⟨by simp [Ren.kill, hS.len], hS.fl, fun c r hc => hS.lt c r (hk c r hc), fun c r hc => hS.sep c r (hk c r hc), fun c d r s hc hd => hS.nodup c d r s (hk c r hc) (hk d s hd), ?_⟩
  intro c v hc
  by_cases hcb : c = b
  · subst hcb
    rw [List.getElem?_set] at hc
    simp at hc
  · rw [map_some_ne _ _ _ _ hcb] at hc
    obtain ⟨r, h1, h2, cs, e, fz, x, h3, h4, h5, h6, h7⟩ := hS.live c v hc
    exact ⟨r, by simp only [Ren.kill]; rw [map_some_ne _ _ _ _ hcb]; exact h1, h2, cs, e, fz, x, h3, h4, Rel.ext (Ext.kill ρ w b) _ _ h5, h6, h7⟩

def Ren.kills : List EV → Ren → Ren
  | [], ρ => ρ
  | .slice b _ _ _ _ :: vs, ρ => Ren.kills vs (ρ.kill b)
  | _ :: vs, ρ => Ren.kills vs ρ

theorem kills_spec : ∀ (vs : List EV) (ρ : Ren) (H : Heap) (w : World), Sim ρ H w →
    Sim (Ren.kills vs ρ) (killArgs vs H) w ∧ Ext ρ w (Ren.kills vs ρ) w ∧ (∀ m, m ∈ (Ren.kills vs ρ).mbs → m ∈ ρ.mbs) ∧ (Ren.kills vs ρ).F = ρ.F
  | [], ρ, H, w, hS => ⟨hS, Ext.refl _ _, fun _ h => h, rfl⟩
  | v :: vs, ρ, H, w, hS => by
    cases v
    case slice b off len cap e =>
      simp only [Ren.kills, killArgs]
      obtain ⟨h1, h2, h3, h4⟩ := kills_spec vs (ρ.kill b) (H.set b none) w (hS.kill b)
      exact ⟨h1, (Ext.kill ρ w b).trans h2, fun m hm => kill_mbs (h3 m hm), h4⟩
    all_goals exact kills_spec vs ρ H w hS

theorem kills_dead : ∀ (vs : List EV) (ρ : Ren) (H : Heap) (w : World), Sim ρ H w → ∀ b off len cap e, EV.slice b off len cap e ∈ vs → ∀ r, ρ.bs[b]? = some (some r) → r.mb ∉ (Ren.kills vs ρ).own
  | v :: vs, ρ, H, w, hS, b, off, len, cap, e, hm, r, hr => by
    rcases List.mem_cons.1 hm with hm' | hm'
    · subst hm'
      simp only [Ren.kills]
      intro hin
      have hin' : r.mb ∈ (ρ.kill b).own := by
        have := (kills_spec vs (ρ.kill b) (H.set b none) w (hS.kill b)).2.1.newOwn r.mb (hS.lt b r hr)
        exact Classical.byContradiction fun h => this h hin
      obtain ⟨c, s, h1, h2⟩ := own_mem hin'
      simp only [Ren.kill] at h1
      by_cases hc : c = b
      · subst hc
        rw [List.getElem?_set] at h1
        simp at h1
      · rw [map_some_ne _ _ _ _ hc] at h1
        exact hc (hS.nodup c b s r h1 hr h2)
    · cases v
      case slice b' off' len' cap' e' =>
        simp only [Ren.kills]
        by_cases hbb : b = b'
        · subst hbb
          intro hin
          have hin' : r.mb ∈ (ρ.kill b).own := by
            have := (kills_spec vs (ρ.kill b) (H.set b none) w (hS.kill b)).2.1.newOwn r.mb (hS.lt b r hr)
            exact Classical.byContradiction fun h => this h hin
          obtain ⟨c, s, h1, h2⟩ := own_mem hin'
          simp only [Ren.kill] at h1
          by_cases hc : c = b
          · subst hc
            rw [List.getElem?_set] at h1
            simp at h1
          · rw [map_some_ne _ _ _ _ hc] at h1
            exact hc (hS.nodup c b s r h1 hr h2)
        · exact kills_dead vs (ρ.kill b') (H.set b' none) w (hS.kill b') b off len cap e hm' r (by simp only [Ren.kill]; rw [map_some_ne _ _ _ _ hbb]; exact hr)
      all_goals exact kills_dead vs ρ H w hS b off len cap e hm' r hr

theorem roArg_rel {ρ : Ren} {H : Heap} {w : World} {F : List Nat} (hS : Sim ρ H w) (hF : ∀ b, b ∈ F → b ∈ ρ.mbs) {m : Option IntKind} {v : EV} {x : Value}
    (hd : ∀ b off len cap e, v = EV.slice b off len cap e → ∀ r, ρ.bs[b]? = some (some r) → r.mb ∉ F) (hf : (roArg H m v).free = true) (hr : Rel ρ w v x) : Rel ⟨F, []⟩ w (roArg H m v) x := by
  have hmb : ∀ b, b ∈ (⟨F, []⟩ : Ren).mbs → b ∈ ρ.mbs := by
    intro b hb
    rcases List.mem_append.1 hb with hb | hb
    · exact hF b hb
    · simp [Ren.own] at hb
  unfold roArg at hf ⊢
  split at hf
  · rename_i k
    simp only [Rel] at hr ⊢; subst hr
    exact ⟨none, 0, rfl, Nat.le_refl _, by simp⟩
  · rename_i k b off len cap e
    split at hf
    · rename_i k' n' g hb
      by_cases hk : k = k'
      · subst hk
        simp only [hb, decide_true, cond_true] at hf ⊢
        simp only [Rel] at hr
        obtain ⟨a, c, rfl, r, hr', hi⟩ := hr
        obtain ⟨r', h1, h2, cs, e', fz, x, h3, h4, h5, h6, h7⟩ := hS.live b _ hb
        rw [h1] at hr'; cases hr'
        obtain ⟨n, h8, h9, h10, h11, h12⟩ := hi r' rfl
        simp only [Rel]
        refine ⟨a, c, rfl, h10, ?_⟩
        rcases h12 with ⟨h12, _⟩ | ⟨h12, _⟩
        · have hsh : r'.sh = .row n' := by rw [← h2]; rfl
          have he : e = 1 ∧ n = n' := by
            rcases h8 with ⟨h8, h13⟩ | ⟨l, h8, _⟩
            · rw [hsh] at h8; cases h8; exact ⟨h13, rfl⟩
            · rw [hsh] at h8; cases h8
          obtain ⟨rfl, rfl⟩ := he
          have hnF : r'.mb ∉ (⟨F, []⟩ : Ren).mbs := by
            intro hb'
            rcases List.mem_append.1 hb' with hb' | hb'
            · exact hd b off len cap 1 rfl r' h1 hb'
            · simp [Ren.own] at hb'
          refine .inr ⟨_, _, h12, hS.lt b r' h1, hnF, ?_⟩
          simp only [Rel] at h5; subst h5
          have := h7.sub off len
          simp only [cells_agg] at this
          intro i hi
          simp only [ints_length] at hi
          have h14 := this i (by simp [ints_length]; omega)
          rw [Nat.mul_one, h14, List.getElem?_take_of_lt hi, List.getElem?_drop, ints_get _ _ _ _ (by omega), ints_get _ _ _ _ hi, shift_apply]
        · exact .inl h12
      · simp [hk, EV.free] at hf
    · simp [EV.free] at hf
  · exact Rel.toFree hmb _ _ hf hr

theorem roArgs_rel {ρ : Ren} {H : Heap} {w : World} {F : List Nat} (hS : Sim ρ H w) (hF : ∀ b, b ∈ F → b ∈ ρ.mbs) : ∀ (ms : List (Option IntKind)) (vs : List EV) (xs : List Value),
    (∀ b off len cap e, EV.slice b off len cap e ∈ vs → ∀ r, ρ.bs[b]? = some (some r) → r.mb ∉ F) → EV.freeL (roArgs H ms vs) = true → RelL ρ w vs xs → RelL ⟨F, []⟩ w (roArgs H ms vs) xs
  | m :: ms, v :: vs, xs, hd, hf, hr => by
    simp only [roArgs, EV.freeL, Bool.and_eq_true] at hf ⊢
    simp only [RelL] at hr ⊢
    obtain ⟨x, ys, rfl, h1, h2⟩ := hr
    exact ⟨x, ys, rfl, roArg_rel hS hF (fun b off len cap e he => hd b off len cap e (by rw [← he]; exact List.mem_cons_self)) hf.1 h1,
      roArgs_rel hS hF ms vs ys (fun b off len cap e he => hd b off len cap e (List.mem_cons_of_mem _ he)) hf.2 h2⟩
  | [], vs, xs, hd, hf, hr => by
    have hmb : ∀ b, b ∈ (⟨F, []⟩ : Ren).mbs → b ∈ ρ.mbs := by
      intro b hb
      rcases List.mem_append.1 hb with hb | hb
      · exact hF b hb
      · simp [Ren.own] at hb
    cases vs <;> exact RelL.toFree hmb _ _ hf hr
  | _ :: _, [], xs, hd, hf, hr => by
    simp only [roArgs, RelL] at hr ⊢; exact hr

theorem RelL.append {ρ : Ren} {w : World} : ∀ {l r : List EV} {xs ys : List Value}, RelL ρ w l xs → RelL ρ w r ys → RelL ρ w (l ++ r) (xs ++ ys)
  | [], r, xs, ys, h1, h2 => by simp only [RelL] at h1; subst h1; exact h2
  | v :: l, r, xs, ys, h1, h2 => by
    simp only [RelL] at h1
    obtain ⟨x, zs, rfl, h3, h4⟩ := h1
    simp only [List.cons_append, RelL]
    exact ⟨x, zs ++ ys, rfl, h3, h4.append h2⟩

/-- What is asked of the callees that are known. -/
def OkFn (P : Program) (E : Env) : Prop :=
  ∀ f en, E.fn f = some en → SoundF P E.gl f en ∧ ∃ fn, P.funcs[f]? = some fn ∧ fn.body.isNone = false ∧ (fn.name == "runtime.NumGoroutine") = false

theorem roArgs_ren {ρ ρ' : Ren} {H : Heap} {w : World} {f : Nat → Nat} {idx : List Nat} (hS : Sim ρ H w) (hb : ∀ (b : Nat) r, b ∈ idx → ρ.bs[b]? = some r → ρ'.bs[f b]? = some r ∨ ρ'.bs[f b]? = some none)
    (hmb : ∀ b, b ∈ ρ'.mbs → b ∈ ρ.mbs) : ∀ (ms : List (Option IntKind)) (vs : List EV) (xs : List Value), (∀ b, b ∈ roDead ms vs → ∀ r, ρ.bs[b]? = some (some r) → r.mb ∉ ρ'.mbs) →
      dfdL (roArgs H ms vs) = true → EV.inIL idx (roArgs H ms vs) = true → RelL ρ w vs xs → RelL ρ' w (EV.renL f (roArgs H ms vs)) xs := by
  have hq : ∀ b, b < w.heap.size → b ∉ ρ.mbs → b ∉ ρ'.mbs := fun b _ hn hm => hn (hmb b hm)
  have one : ∀ (m : Option IntKind) (v : EV) (x : Value), (∀ k b off len cap e, m = some k → v = EV.slice b off len cap e → ∀ r, ρ.bs[b]? = some (some r) → r.mb ∉ ρ'.mbs) → (roArg H m v).dfd = true →
      (roArg H m v).inI idx = true → Rel ρ w v x → Rel ρ' w ((roArg H m v).ren f) x := by
    intro m v x hd hdf hi hr
    have free : (roArg H m v).free = true → (∀ b off len cap e, v = EV.slice b off len cap e → ∀ r, ρ.bs[b]? = some (some r) → r.mb ∉ ρ'.mbs) → Rel ρ' w (roArg H m v) x := by
      intro hf hd'
      have := roArg_rel (F := ρ'.mbs) hS hmb hd' hf hr
      refine Rel.toFree ?_ _ _ hf this
      intro b hb'
      exact List.mem_append.2 (.inl hb')
    cases m with
    | none =>
      have e : roArg H none v = v := by cases v <;> rfl
      rw [e] at hi ⊢
      exact Rel.ren hb v x hi (.inr hq) hr
    | some k =>
      cases v
      case slice b off len cap e =>
        have hre : (roArg H (some k) (.slice b off len cap e)).free = true ∧ (roArg H (some k) (.slice b off len cap e)).ren f = roArg H (some k) (.slice b off len cap e) := by
          revert hdf
          simp only [roArg]
          split
          · rename_i k' n g hq
            by_cases hk : k = k'
            · simp [hk, EV.free, EV.ren]
            · simp [hk, EV.dfd]
          · simp [EV.dfd]
        rw [hre.2]
        exact free hre.1 fun b' off' len' cap' e' he r hr' => hd k b' off' len' cap' e' rfl he r hr'
      case nilSlice =>
        simp only [Rel] at hr; subst hr
        exact ⟨none, 0, rfl, Nat.le_refl _, .inl rfl⟩
      all_goals exact Rel.ren hb _ x hi (.inr hq) hr
  intro ms
  induction ms with
  | nil =>
    intro vs xs hd hdf hi hr
    have e : roArgs H [] vs = vs := by cases vs <;> rfl
    rw [e] at hi ⊢
    exact RelL.ren hb vs xs hi (.inr hq) hr
  | cons m ms ih =>
    intro vs xs hd hdf hi hr
    cases vs with
    | nil => exact hr
    | cons v vs =>
      simp only [roArgs, dfdL, EV.inIL, Bool.and_eq_true] at hdf hi
      simp only [RelL] at hr
      obtain ⟨x, ys, rfl, h1, h2⟩ := hr
      simp only [roArgs, EV.renL, RelL]
      refine ⟨x, ys, rfl, one m v x ?_ hdf.1 hi.1 h1, ih vs ys ?_ hdf.2 hi.2 h2⟩
      · intro k b off len cap e hm hv r hr
        subst hm; subst hv
        exact hd b (by simp [roDead]) r hr
      · intro b hb' r hr
        refine hd b ?_ r hr
        cases m with
        | none => simpa [roDead] using hb'
        | some k => cases v <;> simp [roDead, hb']

theorem evCallL_sound {ρ : Ren} {w : World} {H : Heap} {f : FuncId} {en : Entry} {args : List EV} {xs : List Value} {K : EV → Heap → Prop} (hs : SoundF P E.gl f en) (hS : Sim ρ H w) (hG : GOk E.gl ρ w)
    (hr : RelL ρ w args xs) {idx : List Nat} (hn : idx.Nodup) (h : evCallL en (roArgs H en.ro args) (roDead en.ro args) idx H K) :
    Calls P f xs.toArray w fun e w' => ∃ v x H' ρ', e = .returned x ∧ K v H' ∧ Sim ρ' H' w' ∧ Ext ρ w ρ' w' ∧ ρ'.F = ρ.F ∧ Rel ρ' w' v x := by
  unfold evCallL at h
  rw [gd_iff] at h
  simp only [Bool.and_eq_true] at h
  obtain ⟨⟨hd, hi, hcl, hlt, hno⟩, h⟩ := h
  generalize hdd : roDead en.ro args = dead at hno h
  have hno' := noneIn_spec hno
  have hlt' := allLt_spec hlt
  generalize hsm : (⟨[], subBs ρ.bs idx⟩ : Ren).own = sm
  generalize hdm : (⟨[], subBs ρ.bs dead⟩ : Ren).own = dm
  have sm_of : ∀ (b : Nat) (r : BI), b ∈ idx → ρ.bs[b]? = some (some r) → r.mb ∈ sm := fun b r h1 h2 => hsm ▸ own_subBs h1 h2
  have of_sm : ∀ m, m ∈ sm → ∃ b r, b ∈ idx ∧ ρ.bs[b]? = some (some r) ∧ r.mb = m := fun m hm => subBs_own (F := []) (hsm ▸ hm)
  have dm_of : ∀ (b : Nat) (r : BI), b ∈ dead → ρ.bs[b]? = some (some r) → r.mb ∈ dm := fun b r h1 h2 => hdm ▸ own_subBs h1 h2
  have of_dm : ∀ m, m ∈ dm → ∃ b r, b ∈ dead ∧ ρ.bs[b]? = some (some r) ∧ r.mb = m := fun m hm => subBs_own (F := []) (hdm ▸ hm)
  generalize hFs : ρ.mbs.filter (fun m => !memN m sm && !memN m dm) = Fs
  have mem_F : ∀ m, m ∈ Fs ↔ m ∈ ρ.mbs ∧ m ∉ sm ∧ m ∉ dm := by
    intro m
    rw [← hFs, List.mem_filter, Bool.and_eq_true, Bool.not_eq_true', Bool.not_eq_true', memN_not, memN_not]
  have hown : (⟨Fs, subBs ρ.bs idx⟩ : Ren).own = sm := hsm
  have hsub : ∀ b, b ∈ (⟨Fs, subBs ρ.bs idx⟩ : Ren).mbs → b ∈ ρ.mbs := by
    intro b hb
    rcases List.mem_append.1 hb with hb | hb
    · exact ((mem_F b).1 hb).1
    · obtain ⟨c, r, _, h2, h3⟩ := subBs_own hb
      exact h3 ▸ own_mbs (mem_own h2)
  have mlt : ∀ b, b ∈ ρ.mbs → b < w.heap.size := by
    intro b hb
    rcases List.mem_append.1 hb with hb | hb
    · exact hS.fl b hb
    · obtain ⟨c, r, g1, g2⟩ := own_mem hb
      exact g2 ▸ hS.lt c r g1
  have FF : ∀ b, b ∈ ρ.F → b ∈ Fs := by
    intro b hb
    refine (mem_F b).2 ⟨List.mem_append.2 (.inl hb), fun hm => ?_, fun hm => ?_⟩
    · obtain ⟨c, r, _, h2, h3⟩ := of_sm b hm
      exact hS.sep c r h2 (h3 ▸ hb)
    · obtain ⟨c, r, _, h2, h3⟩ := of_dm b hm
      exact hS.sep c r h2 (h3 ▸ hb)
  have FO : ∀ (c : Nat) (r : BI), ρ.bs[c]? = some (some r) → c ∉ idx → c ∉ dead → r.mb ∈ Fs := by
    intro c r h1 h2 h3
    refine (mem_F r.mb).2 ⟨own_mbs (mem_own h1), fun hm => ?_, fun hm => ?_⟩
    · obtain ⟨d, s, g1, g2, g3⟩ := of_sm _ hm
      exact h2 (hS.nodup d c s r g2 h1 g3 ▸ g1)
    · obtain ⟨d, s, g1, g2, g3⟩ := of_dm _ hm
      exact h3 (hS.nodup d c s r g2 h1 g3 ▸ g1)
  have hSs : Sim ⟨Fs, subBs ρ.bs idx⟩ (subH H idx) w := by
    refine hS.sub hn (fun b hb => mlt b ((mem_F b).1 hb).1) ?_ hcl fun b hb hnb hm => hnb (hsub b hm)
    intro b r h1 h2 h3
    exact ((mem_F _).1 h3).2.1 (sm_of b r h1 h2)
  have hrel : RelL ⟨Fs, subBs ρ.bs idx⟩ w (EV.renL (pos idx) (roArgs H en.ro args)) xs := by
    refine roArgs_ren hS (fun b r h1 h2 => .inl (subBs_pos h1 h2)) hsub en.ro args xs ?_ hd hi hr
    rw [hdd]
    intro b hb r h1 h2
    rcases List.mem_append.1 h2 with h2 | h2
    · exact ((mem_F _).1 h2).2.2 (dm_of b r hb h1)
    · obtain ⟨c, s, g1, g2, g3⟩ := subBs_own h2
      exact hno' b hb (hS.nodup c b s r g2 h1 g3 ▸ g1)
  refine (hs _ _ w _ _ _ h hrel hSs (hG.sub hsub)).mono ?_
  rintro e w' ⟨v, x, H', ρ', rfl, hK, hv, hS', hX, hF'⟩
  rw [gd_iff, Bool.and_eq_true, Bool.and_eq_true] at hK
  obtain ⟨⟨hvi, hHi, hle⟩, hK⟩ := hK
  have hle' : idx.length ≤ H'.length := Nat.le_of_ble_eq_true hle
  have hlen := hS'.len
  have hleb : idx.length ≤ ρ'.bs.length := by omega
  have hltb : ∀ b ∈ idx, b < ρ.bs.length := fun b hb => by rw [hS.len]; exact hlt' b hb
  simp only at hF'
  generalize hD : cond (v.noRS && noRSH H') [] dead = D at hK
  have hDn : ∀ b, b ∈ D → b ∉ idx := by
    intro b hb
    cases hc : (v.noRS && noRSH H') with
    | true => rw [hc] at hD; simp at hD; subst hD; cases hb
    | false => rw [hc] at hD; simp at hD; subst hD; exact hno' b hb
  have inv : ∀ (c : Nat) (r : BI), (killN D (putB idx ρ'.bs ρ.bs))[c]? = some (some r) → c ∉ D ∧ ((∃ j, ρ'.bs[j]? = some (some r) ∧ backN idx ρ.bs.length j = c) ∨ (c ∉ idx ∧ ρ.bs[c]? = some (some r))) := by
    intro c r hc
    obtain ⟨h1, h2⟩ := killN_some hc
    exact ⟨h1, putB_inv hn hltb hleb h2⟩
  have newLt : ∀ (j : Nat) (r : BI), ρ'.bs[j]? = some (some r) → r.mb < w.heap.size → r.mb ∈ sm := by
    intro j r hj hlt
    apply Classical.byContradiction
    intro hns
    exact hX.newOwn r.mb hlt (by rw [hown]; exact hns) (mem_own hj)
  have smO : ∀ m, m ∈ sm → m ∈ ρ.own := by
    intro m hm
    obtain ⟨b, r, _, h2, h3⟩ := of_sm m hm
    exact h3 ▸ mem_own h2
  have hE : Ext ρ w ⟨ρ.F, killN D (putB idx ρ'.bs ρ.bs)⟩ w' := by
    refine ⟨hX.os, hX.tape, hX.output, hX.size, ?_, ?_, ?_, ?_, hX.row⟩
    · intro b hb hnb
      exact hX.out b hb (by rw [hown]; exact fun hm => hnb (smO b hm))
    · intro b hb hnb hm
      rcases List.mem_append.1 hm with hm | hm
      · exact hnb (List.mem_append.2 (.inl hm))
      · obtain ⟨c, r, h1, rfl⟩ := own_mem hm
        rcases (inv c r h1).2 with ⟨j, h2, _⟩ | ⟨_, h2⟩
        · exact hnb (own_mbs (smO _ (newLt j r h2 hb)))
        · exact hnb (own_mbs (mem_own h2))
    · intro b hb hnb hm
      obtain ⟨c, r, h1, rfl⟩ := own_mem hm
      rcases (inv c r h1).2 with ⟨j, h2, _⟩ | ⟨_, h2⟩
      · exact hnb (smO _ (newLt j r h2 hb))
      · exact hnb (mem_own h2)
    · intro b r hb
      have hlt : b < ρ.bs.length := by
        rcases Nat.lt_or_ge b ρ.bs.length with hh | hh
        · exact hh
        · rw [List.getElem?_eq_none hh] at hb; cases hb
      simp only
      by_cases hbD : b ∈ D
      · exact .inr (killN_in _ _ _ (.inl hbD) (by rw [putB_length _ _ _ hleb]; omega))
      · rw [killN_out _ _ _ hbD]
        by_cases hbi : b ∈ idx
        · have hp := pos_get hbi
          have hpl : pos idx b < idx.length := by
            rcases Nat.lt_or_ge (pos idx b) idx.length with hh | hh
            · exact hh
            · rw [List.getElem?_eq_none hh] at hp; cases hp
          have := putB_at idx ρ'.bs ρ.bs (pos idx b) hn hltb hleb (by omega)
          rw [show backN idx ρ.bs.length (pos idx b) = b from by simp [backN, hp]] at this
          rw [this]
          exact hX.keep (pos idx b) r (subBs_pos hbi hb)
        · rw [putB_out _ _ _ _ hbi hlt]; exact .inl hb
  have hback : ∀ (b : Nat) r, b ∈ upTo H'.length → ρ'.bs[b]? = some r → (killN D (putB idx ρ'.bs ρ.bs))[backN idx H.length b]? = some r ∨ (killN D (putB idx ρ'.bs ρ.bs))[backN idx H.length b]? = some none := by
    intro b r hb hr'
    have hbl : b < ρ'.bs.length := by rw [hlen]; exact (mem_upTo _ _).1 hb
    have := putB_at idx ρ'.bs ρ.bs b hn hltb hleb hbl
    rw [hS.len, hr'] at this
    by_cases hbD : backN idx H.length b ∈ D
    · refine .inr (killN_in _ _ _ (.inl hbD) ?_)
      rcases Nat.lt_or_ge (backN idx H.length b) (putB idx ρ'.bs ρ.bs).length with hh | hh
      · exact hh
      · rw [List.getElem?_eq_none hh] at this; cases this
    · rw [killN_out _ _ _ hbD]; exact .inl this
  have hq : ∀ u : EV, ((v.noRS && noRSH H') = true → u.noRS = true) → u.noRS = true ∨ ∀ b, b < w'.heap.size → b ∉ ρ'.mbs → b ∉ (⟨ρ.F, killN D (putB idx ρ'.bs ρ.bs)⟩ : Ren).mbs := by
    intro u hu
    cases hc : (v.noRS && noRSH H') with
    | true => exact .inl (hu hc)
    | false =>
      right
      rw [hc] at hD; simp at hD; subst hD
      intro b hb hnb hm
      rcases List.mem_append.1 hm with hm | hm
      · exact hnb (List.mem_append.2 (.inl (hF' ▸ FF b hm)))
      · obtain ⟨c, r, h1, rfl⟩ := own_mem hm
        obtain ⟨g1, g2⟩ := inv c r h1
        rcases g2 with ⟨j, h2, _⟩ | ⟨h3, h2⟩
        · exact hnb (own_mbs (mem_own h2))
        · exact hnb (List.mem_append.2 (.inl (hF' ▸ FO c r h2 h3 g1)))
  refine ⟨_, x, _, ⟨ρ.F, killN D (putB idx ρ'.bs ρ.bs)⟩, rfl, hK, ?_, hE, rfl, ?_⟩
  · refine ⟨?_, fun b hb => Nat.lt_of_lt_of_le (hS.fl b hb) hX.size, ?_, ?_, ?_, ?_⟩
    · rw [killN_length, killN_length, putB_length _ _ _ hleb, putB_length _ _ _ (by rw [renH_length]; exact hle'), renH_length, hS.len, hlen]
    · intro c r hc
      rcases (inv c r hc).2 with ⟨j, h2, _⟩ | ⟨_, h2⟩
      · exact hS'.lt j r h2
      · exact Nat.lt_of_lt_of_le (hS.lt c r h2) hX.size
    · intro c r hc hm
      rcases (inv c r hc).2 with ⟨j, h2, _⟩ | ⟨_, h2⟩
      · exact hS'.sep j r h2 (hF' ▸ FF _ hm)
      · exact hS.sep c r h2 hm
    · have mixed : ∀ (j d : Nat) (r s : BI), ρ'.bs[j]? = some (some r) → d ∉ idx → ρ.bs[d]? = some (some s) → r.mb = s.mb → False := by
        intro j d r s h1 h2 h3 h4
        obtain ⟨b, r0, g1, g2, g3⟩ := of_sm _ (newLt j r h1 (h4 ▸ hS.lt d s h3))
        exact h2 (hS.nodup b d r0 s g2 h3 (g3.trans h4) ▸ g1)
      intro c d r s hc hd' he
      rcases (inv c r hc).2 with ⟨j, h2, h3⟩ | ⟨h3, h2⟩
      · rcases (inv d s hd').2 with ⟨k, h4, h5⟩ | ⟨h5, h4⟩
        · have := hS'.nodup j k r s h2 h4 he
          subst this
          exact h3.symm.trans h5
        · exact (mixed j d r s h2 h5 h4 he).elim
      · rcases (inv d s hd').2 with ⟨k, h4, h5⟩ | ⟨h5, h4⟩
        · exact (mixed k c s r h4 h3 h2 he.symm).elim
        · exact hS.nodup c d r s h2 h4 he
    · intro c u hc
      obtain ⟨hcD, hc⟩ := killN_some hc
      rcases putB_inv hn hlt' (by rw [renH_length]; exact hle') hc with ⟨j, h1, h2⟩ | ⟨h1, h2⟩
      · rw [renH_get] at h1
        cases hj : H'[j]? with
        | none => simp [hj] at h1
        | some o =>
          cases o with
          | none => simp [hj, renO] at h1
          | some u' =>
            simp only [hj, Option.map_some, renO, Option.some.injEq] at h1
            subst h1
            obtain ⟨r, k1, k2, cs, e, fz, y, k3, k4, k5, k6, k7⟩ := hS'.live j u' hj
            have hjl : j < ρ'.bs.length := by
              rcases Nat.lt_or_ge j ρ'.bs.length with hh | hh
              · exact hh
              · rw [List.getElem?_eq_none hh] at k1; cases k1
            refine ⟨r, ?_, (shape_ren _ _).trans k2, cs, e, fz, y, k3, k4, Rel.ren hback u' y (inIH_spec hHi j ((mem_upTo _ _).2 (by omega)) u' hj) (hq u' fun hc' => ?_) k5, k6, k7⟩
            · simp only
              rw [killN_out _ _ _ hcD, ← h2, ← hS.len, putB_at idx ρ'.bs ρ.bs j hn hltb hleb hjl]
              exact k1
            · simp only [Bool.and_eq_true] at hc'
              exact noRSH_spec hc'.2 j u' hj
      · obtain ⟨r, k1, k2, cs, e, fz, y, k3, k4, k5, k6, k7⟩ := hS.live c u h2
        have hclt : c < ρ.bs.length := by
          rcases Nat.lt_or_ge c ρ.bs.length with hh | hh
          · exact hh
          · rw [List.getElem?_eq_none hh] at k1; cases k1
        have hout : w'.heap[r.mb]? = w.heap[r.mb]? := by
          refine hX.out r.mb (hS.lt c r k1) ?_
          rw [hown]
          intro hm
          obtain ⟨b, r0, g1, g2, g3⟩ := of_sm _ hm
          exact h1 (hS.nodup b c r0 r g2 k1 g3 ▸ g1)
        exact ⟨r, by simp only; rw [killN_out _ _ _ hcD, putB_out _ _ _ _ h1 hclt]; exact k1, k2, cs, e, fz, y, hout.trans k3, k4, Rel.ext hE u y k5, k6, k7.keep hout⟩
  · exact Rel.ren hback v x hvi (hq v fun hc' => by simp only [Bool.and_eq_true] at hc'; exact hc'.1) hv

theorem evCall_sound {ρ : Ren} {w : World} {H : Heap} {fv : EV} {Fv : Value} {args : List EV} {xs : Array Value} {K : EV → Heap → Prop} (hFn : OkFn P E) (hS : Sim ρ H w) (hG : GOk E.gl ρ w)
    (hf : Rel ρ w fv Fv) (hr : RelL ρ w args xs.toList) (h : evCall E fv args H K) :
    ∃ f ys, (do let d ← Deferred.ofValue Fv xs; invoke d.target d.args : Sem Next).run P w = .ok (.enter f ys) w ∧
      Calls P f ys w fun e w' => ∃ v x H' ρ', e = .returned x ∧ K v H' ∧ Sim ρ' H' w' ∧ Ext ρ w ρ' w' ∧ ρ'.F = ρ.F ∧ Rel ρ' w' v x := by
  unfold evCall at h
  split at h
  · rename_i f cap
    split at h
    · rename_i en he
      simp only [Rel] at hf
      obtain ⟨vs, rfl, hcap⟩ := hf
      obtain ⟨hs, fn, hfn, hb, hn⟩ := hFn f en he
      refine ⟨f, xs ++ vs, ?_, ?_⟩
      · simp only [Deferred.ofValue, run_bind, run_pure, invoke, callFunc, run_program, hfn]
        rw [hn, hb]
        simp only [Bool.false_eq_true, if_false, run_pure]
        simp
      · rw [show (xs ++ vs) = (xs.toList ++ vs.toList).toArray from by simp]
        cases hl : en.lend with
        | true =>
          rw [hl] at h
          simp only [cond_true] at h
          exact evCallL_sound hs hS hG (hr.append hcap) (canI_spec _ _ _).1 h
        | false =>
        rw [hl] at h
        simp only [cond_false] at h
        rw [gd_iff] at h
        obtain ⟨hfree, h⟩ := h
        obtain ⟨k1, k2, k3, k4⟩ := kills_spec (args ++ cap) ρ H w hS
        have hrel := roArgs_rel (F := (Ren.kills (args ++ cap) ρ).mbs) hS k3 en.ro (args ++ cap) (xs.toList ++ vs.toList) (by
          intro b off len cap' e hm r hr' hin
          rcases List.mem_append.1 hin with hin | hin
          · rw [k4] at hin; exact hS.sep b r hr' hin
          · exact kills_dead (args ++ cap) ρ H w hS b off len cap' e hm r hr' hin) hfree (hr.append hcap)
        have hlt : ∀ b, b ∈ (Ren.kills (args ++ cap) ρ).mbs → b < w.heap.size := by
          intro b hb'
          rcases List.mem_append.1 hb' with hb' | hb'
          · exact k1.fl b hb'
          · obtain ⟨c, r, g1, g2⟩ := own_mem hb'
            exact g2 ▸ k1.lt c r g1
        refine (hs.plain h hrel hlt (hG.sub fun b hb => by
          rcases List.mem_append.1 hb with hb | hb
          · exact k3 b hb
          · simp [Ren.own] at hb)).mono ?_
        rintro e w' ⟨v, x, rfl, hK, hv, hE⟩
        rw [cd_iff] at hK
        cases hrs : v.noRS with
        | true =>
          exact ⟨v, x, H, ρ, rfl, hK.1 hrs, hS.quiet hE, hE.quiet, rfl, Rel.ofFree v x (.inl hrs) hv⟩
        | false =>
          refine ⟨v, x, _, _, rfl, hK.2 hrs, k1.quiet hE, k2.trans hE.quiet, k4, Rel.ofFree v x (.inr fun b hb => hb) hv⟩
    · exact h.elim
  · exact h.elim
end sound
end Go.Ev
