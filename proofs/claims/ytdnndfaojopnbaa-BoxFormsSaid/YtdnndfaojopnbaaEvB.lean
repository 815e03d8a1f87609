/- The evaluator: operations, regions, code, calls; and that it is sound. -/
import Derived.Test.YtdnndfaojopnbaaEvA
set_option linter.unusedVariables false
set_option linter.unusedSimpArgs false
namespace Go.Ev
open Go
def EV.dfd : EV → Bool
  | .undef => false
  | .bool _ => true | .int _ _ => true | .str _ => true | .nilPtr => true | .ptr _ _ => true | .rref _ => true | .nilSlice => true | .slice _ _ _ _ _ => true
  | .rsI _ _ _ => true | .nilFunc => true | .func _ _ => true | .bnd _ _ => true | .agg _ => true | .arr _ _ _ => true | .tuple _ => true | .nilIface => true | .iface _ _ => true
def dfdL : List EV → Bool
  | [] => true
  | v :: l => v.dfd && dfdL l
theorem dfd_ne {v : EV} (h : v.dfd = true) : v ≠ .undef := by intro e; subst e; cases h
theorem dfdL_ne : ∀ {l : List EV}, dfdL l = true → ∀ v ∈ l, v ≠ .undef
  | v :: l, h, u, hu => by
    simp only [dfdL, Bool.and_eq_true] at h
    rcases List.mem_cons.1 hu with rfl | hu
    · exact dfd_ne h.1
    · exact dfdL_ne h.2 u hu
def dfdO : Option EV → Bool
  | some v => v.dfd
  | none => true
def nilK : Operand → Nat
  | .const (.pointer none) => 1
  | .const .nilIface => 2
  | _ => 0
def tdIs (E : Env) (t : TypeId) (d : Nat) : Bool :=
  match E.ty t with
  | some ti => match ti.td with
    | .iface => Nat.beq d 0
    | .ptr => Nat.beq d 1
    | _ => false
  | none => false
def nilEq (op : BinOp) (b : Bool) (K : EV → Prop) : Prop :=
  match op with
  | .eql => K (.bool b)
  | .neq => K (.bool (!b))
  | _ => False
def evPN (E : Env) (op : BinOp) (t : TypeId) (x : EV) (H : Heap) (K : EV → Prop) : Prop :=
  match x with
  | .nilPtr => cond (tdIs E t 1) (nilEq op true K) False
  | .ptr b q => cond (tdIs E t 1) (evNil (.ptr b q) H fun _ => nilEq op false K) False
  | _ => False
def evIN (E : Env) (op : BinOp) (t : TypeId) (x : EV) (K : EV → Prop) : Prop :=
  match x with
  | .nilIface => cond (tdIs E t 0) (nilEq op true K) False
  | .iface _ _ => cond (tdIs E t 0) (nilEq op false K) False
  | _ => False
def evCmp (E : Env) (op : BinOp) (t : TypeId) (o : Operand) (x y : EV) (H : Heap) (K : EV → Prop) : Prop :=
  cond (Nat.beq (nilK o) 1) (evPN E op t x H K) (cond (Nat.beq (nilK o) 2) (evIN E op t x K) (evBin E op t x y K))
def evV (E : Env) (o : Op) (s : St) (K : EV → Prop) : Prop :=
  match o with
  | .move x => K ((St.opd E s) x)
  | .assign x => K ((St.opd E s) x)
  | .pick c a b => match (St.opd E s) c with
    | .bool t => br t (K ((St.opd E s) a)) (K ((St.opd E s) b))
    | _ => False
  | .build t ps => gd (dfdL (ps.toList.map fun p => (St.opd E s) p.2)) (evBuild E t (ps.toList.map fun p => (p.1, (St.opd E s) p.2)) K)
  | .load t a => evLoad E t ((St.opd E s) a) s.heap K
  | .binOp op t x y _ => gd (((St.opd E s) x).dfd && ((St.opd E s) y).dfd) (evCmp E op t y ((St.opd E s) x) ((St.opd E s) y) s.heap K)
  | .unOp op _ x => evUn op ((St.opd E s) x) K
  | .convert src dst x => gd ((St.opd E s) x).dfd (evConv E src dst ((St.opd E s) x) s.heap K)
  | .fieldAddr t x f => gd ((St.opd E s) x).dfd (evFieldAddr E t ((St.opd E s) x) f s.heap K)
  | .field t x f => gd ((St.opd E s) x).dfd (evField E t ((St.opd E s) x) f K)
  | .indexAddr t x i => gd (((St.opd E s) x).dfd && ((St.opd E s) i).dfd) (evIndexAddr E t ((St.opd E s) x) ((St.opd E s) i) s.heap K)
  | .index t x i => gd (((St.opd E s) x).dfd && ((St.opd E s) i).dfd) (evIndex E t ((St.opd E s) x) ((St.opd E s) i) K)
  | .extract x i => evExtract ((St.opd E s) x) i K
  | .makeFunc (.func f) ⟨[]⟩ cs => gd (dfdL (cs.toList.map (St.opd E s))) (K (.func f (cs.toList.map (St.opd E s))))
  | .slice t x lo hi mx => gd (((St.opd E s) x).dfd && (dfdO (lo.map (St.opd E s)) && (dfdO (hi.map (St.opd E s)) && dfdO (mx.map (St.opd E s))))) (evSlice E t ((St.opd E s) x) (lo.map (St.opd E s)) (hi.map (St.opd E s)) (mx.map (St.opd E s)) s.heap K)
  | .call { callee := .builtin .len, args := ⟨[x]⟩, argTypes := ⟨[t]⟩ } => gd ((St.opd E s) x).dfd (evLen E t ((St.opd E s) x) K)
  | .call { callee := .builtin .max, args := xs, argTypes := _ } => gd (dfdL (xs.toList.map (St.opd E s))) (evMM maxI (xs.toList.map (St.opd E s)) K)
  | .call { callee := .builtin .min, args := xs, argTypes := _ } => gd (dfdL (xs.toList.map (St.opd E s))) (evMM minI (xs.toList.map (St.opd E s)) K)
  | .nilCheck x => gd ((St.opd E s) x).dfd (evNil ((St.opd E s) x) s.heap K)
  | .makeFunc (.func f) fs ⟨[]⟩ => gd (dfdL (fs.toList.map (St.opd E s))) (K (.bnd f (fs.toList.map (St.opd E s))))
  | _ => False
mutual
def EV.free : EV → Bool
  | .ptr _ _ => false
  | .slice _ _ _ _ _ => false
  | .rref _ => false
  | .undef => false
  | .rsI _ _ _ => true
  | .bool _ => true | .int _ _ => true | .str _ => true | .nilPtr => true | .nilSlice => true | .nilFunc => true | .arr _ _ _ => true | .nilIface => true
  | .agg l => EV.freeL l
  | .tuple l => EV.freeL l
  | .func _ l => EV.freeL l
  | .bnd _ l => EV.freeL l
  | .iface _ v => v.free
def EV.freeL : List EV → Bool
  | [] => true
  | v :: l => v.free && EV.freeL l
end
def roArg (H : Heap) : Option IntKind → EV → EV
  | some k, .nilSlice => .rsI k 0 (fun _ => 0)
  | some k, .slice b off len _ _ => match H[b]? with
    | some (some (.arr k' _ g)) => cond (decide (k = k')) (.rsI k len (shift off g)) .undef
    | _ => .undef
  | _, v => v
def roArgs (H : Heap) : List (Option IntKind) → List EV → List EV
  | m :: ms, v :: vs => roArg H m v :: roArgs H ms vs
  | _, vs => vs
def killArgs : List EV → Heap → Heap
  | [], H => H
  | .slice b _ _ _ _ :: vs, H => killArgs vs (H.set b none)
  | _ :: vs, H => killArgs vs H
def roDead : List (Option IntKind) → List EV → List Nat
  | some _ :: ms, .slice b _ _ _ _ :: vs => b :: roDead ms vs
  | _ :: ms, _ :: vs => roDead ms vs
  | _, _ => []
def evCallL (en : Entry) (args : List EV) (dead idx : List Nat) (H : Heap) (K : EV → Heap → Prop) : Prop :=
  gd (dfdL args && (EV.inIL idx args && (inIH idx H idx && (allLt H.length idx && noneIn idx dead))))
    (en.spec (EV.renL (pos idx) args) (subH H idx) fun v H' =>
      gd (v.inI (upTo H'.length) && (inIH (upTo H'.length) H' (upTo H'.length) && Nat.ble idx.length H'.length))
        (K (v.ren (backN idx H.length)) (killN (cond (v.noRS && noRSH H') [] dead) (putB idx (renH (backN idx H.length) H') H))))
def evCallF (E : Env) (f : FuncId) (args : List EV) (H : Heap) (K : EV → Heap → Prop) : Prop :=
  match E.fn f with
  | some en => cond en.lend
      (evCallL en (roArgs H en.ro args) (roDead en.ro args) (canI 0 (roArgs H en.ro args) H) H K)
      (gd (EV.freeL (roArgs H en.ro args)) (en.spec (roArgs H en.ro args) [] fun v H' =>
        gd (Nat.beq H'.length 0 && v.inI []) (cond v.noRS (K v H) (K v (killArgs args H)))))
  | none => False
def evCall (E : Env) (f : EV) (args : List EV) (H : Heap) (K : EV → Heap → Prop) : Prop :=
  match f with
  | .func f cap => evCallF E f (args ++ cap) H K
  | .bnd f l => evCallF E f (l ++ args) H K
  | _ => False
def evOp (E : Env) (o : Op) (s : St) (K : EV → Heap → Prop) : Prop :=
  match o with
  | .alloc t => match E.ty t with
    | some ti => evNew s.heap ti.zero K
    | none => False
  | .box t x => match (St.opd E s) x with
    | .undef => False
    | v => evNew s.heap v K
  | .buildSlice t n ps => gd (dfdL (ps.toList.map fun p => (St.opd E s) p.2)) (evBuildSlice E t n (ps.toList.map fun p => (p.1, (St.opd E s) p.2)) s.heap K)
  | .store t a x => evStore E t ((St.opd E s) a) ((St.opd E s) x) s.heap (fun H => K .undef H)
  | .makeSlice t ln cp => gd (((St.opd E s) ln).dfd && ((St.opd E s) cp).dfd) (evMakeSlice E t ((St.opd E s) ln) ((St.opd E s) cp) s.heap K)
  | .call { callee := .value f, args := xs, argTypes := _ } => evCall E ((St.opd E s) f) (xs.toList.map (St.opd E s)) s.heap K
  | .call { callee := .builtin .append, args := ⟨[x, y]⟩, argTypes := ⟨[t, u]⟩ } => gd (((St.opd E s) x).dfd && ((St.opd E s) y).dfd) (evAppend E t u ((St.opd E s) x) ((St.opd E s) y) s.heap K)
  | .call { callee := .builtin .copy, args := ⟨[x, y]⟩, argTypes := ⟨[t, _]⟩ } => gd (((St.opd E s) x).dfd && ((St.opd E s) y).dfd) (evCopy E t ((St.opd E s) x) ((St.opd E s) y) s.heap K)
  | o => evV E o s (fun v => K v s.heap)
section sound
variable {P : Program} {E : Env}
def GOk (gl : Nat → Option EV) (ρ : Ren) (w : World) : Prop := ∀ g v, gl g = some v → v.inI [] = true ∧ Rel ρ w (.rref v) (.pointer (some ⟨g, 0, none⟩)) ∧
  ∀ k n f, v = .arr k n f → ∃ cs t fz, w.heap[g]? = some (.cells cs t fz) ∧ cs.size = n
theorem GOk.ext {gl : Nat → Option EV} {ρ ρ' : Ren} {w w' : World} (h : GOk gl ρ w) (he : Ext ρ w ρ' w') : GOk gl ρ' w' := fun g v hg => ⟨(h g v hg).1, Rel.ext he _ _ (h g v hg).2.1, fun k n f hv => by
  obtain ⟨cs, t, fz, h1, h2⟩ := (h g v hg).2.2 k n f hv
  obtain ⟨b, o, y, e, _, hb, hm, _⟩ := (h g v hg).2.1
  cases e
  exact ⟨cs, t, fz, (he.out g hb fun hh => hm (List.mem_append.2 (.inr hh))).trans h1, h2⟩⟩
mutual
theorem ren_in {f : Nat → Nat} : ∀ (v : EV), v.inI [] = true → v.ren f = v
  | .ptr b _, h => by simp [EV.inI, memN] at h
  | .slice b _ _ _ _, h => by simp [EV.inI, memN] at h
  | .rref v, h => by simp only [EV.ren, ren_in v (by simpa [EV.inI] using h)]
  | .agg l, h => by simp only [EV.ren, renL_in l (by simpa [EV.inI] using h)]
  | .tuple l, h => by simp only [EV.ren, renL_in l (by simpa [EV.inI] using h)]
  | .func _ l, h => by simp only [EV.ren, renL_in l (by simpa [EV.inI] using h)]
  | .bnd _ l, h => by simp only [EV.ren, renL_in l (by simpa [EV.inI] using h)]
  | .iface _ v, h => by simp only [EV.ren, ren_in v (by simpa [EV.inI] using h)]
  | .rsI _ _ _, _ => rfl | .undef, _ => rfl
  | .bool _, _ => rfl | .int _ _, _ => rfl | .str _, _ => rfl | .nilPtr, _ => rfl | .nilSlice, _ => rfl | .nilFunc, _ => rfl | .arr _ _ _, _ => rfl | .nilIface, _ => rfl
theorem renL_in {f : Nat → Nat} : ∀ (l : List EV), EV.inIL [] l = true → EV.renL f l = l
  | [], _ => rfl
  | v :: l, h => by
    simp only [EV.inIL, Bool.and_eq_true] at h
    simp only [EV.renL, ren_in v h.1, renL_in l h.2]
end
theorem GOk.sub {gl : Nat → Option EV} {ρ ρ' : Ren} {w : World} (h : GOk gl ρ w) (hm : ∀ b, b ∈ ρ'.mbs → b ∈ ρ.mbs) : GOk gl ρ' w := by
  intro g v hg
  obtain ⟨h1, h2, h4⟩ := h g v hg
  refine ⟨h1, ?_, h4⟩
  have h3 : (EV.rref v).inI [] = true := by simpa [EV.inI] using h1
  have := Rel.ren (ρ' := ρ') (f := id) (idx := []) (fun b r hb _ => by cases hb) (.rref v) _ h3 (.inr fun b _ hn hb => hn (hm b hb)) h2
  rwa [ren_in _ h3] at this
def SoundF (P : Program) (gl : Nat → Option EV) (f : FuncId) (en : Entry) : Prop :=
  ∀ (ρ : Ren) (H : Heap) (w : World) (args : List EV) (xs : List Value) (K : EV → Heap → Prop), en.spec args H K → RelL ρ w args xs → Sim ρ H w → GOk gl ρ w →
    Calls P f xs.toArray w fun e w' => ∃ v x H' ρ', e = .returned x ∧ K v H' ∧ Rel ρ' w' v x ∧ Sim ρ' H' w' ∧ Ext ρ w ρ' w' ∧ ρ'.F = ρ.F
theorem SoundF.plain {gl : Nat → Option EV} {f : FuncId} {en : Entry} (h : SoundF P gl f en) {F : List Nat} {w : World} {args : List EV} {xs : List Value} {K : EV → Prop} (hs : en.spec args [] fun v H' => gd (Nat.beq H'.length 0) (K v))
    (hr : RelL ⟨F, []⟩ w args xs) (hF : ∀ b, b ∈ F → b < w.heap.size) (hG : GOk gl ⟨F, []⟩ w) : Calls P f xs.toArray w fun e w' => ∃ v x, e = .returned x ∧ K v ∧ Rel ⟨F, []⟩ w' v x ∧ Ext ⟨F, []⟩ w ⟨F, []⟩ w' := by
  refine (h ⟨F, []⟩ [] w args xs _ hs hr ⟨rfl, hF, by intro b r h; simp at h, by intro b r h; simp at h, by intro b c r s h; simp at h, by intro b v h; simp at h⟩ hG).mono ?_
  rintro e w' ⟨v, x, H', ρ', rfl, hK, hv, hS, hX, hf⟩
  rw [gd_iff] at hK
  have h0 := Nat.eq_of_beq_eq_true hK.1
  have h1 : ρ' = ⟨F, []⟩ := by
    have := hS.len
    rw [h0] at this
    have h2 := List.length_eq_zero_iff.1 this
    cases ρ'
    simp only at hf h2
    rw [hf, h2]
  subst h1
  exact ⟨v, x, rfl, hK.2, hv, hX⟩
theorem SoundF.plainC {gl : Nat → Option EV} {f : FuncId} {en : Entry} (h : SoundF P gl f en) {F : List Nat} {w : World} {args : List EV} {xs : List Value} {K : EV → Prop} (hs : en.spec args [] fun v H' => gd (Nat.beq H'.length 0 && v.inI []) (K v))
    (hr : RelL ⟨F, []⟩ w args xs) (hF : ∀ b, b ∈ F → b < w.heap.size) (hG : GOk gl ⟨F, []⟩ w) : Calls P f xs.toArray w fun e w' => ∃ v x, e = .returned x ∧ K v ∧ Rel ⟨F, []⟩ w' v x ∧ Ext ⟨F, []⟩ w ⟨F, []⟩ w' := by
  refine (h ⟨F, []⟩ [] w args xs _ hs hr ⟨rfl, hF, by intro b r h; simp at h, by intro b r h; simp at h, by intro b c r s h; simp at h, by intro b v h; simp at h⟩ hG).mono ?_
  rintro e w' ⟨v, x, H', ρ', rfl, hK, hv, hS, hX, hf⟩
  rw [gd_iff, Bool.and_eq_true] at hK
  have h0 := Nat.eq_of_beq_eq_true hK.1.1
  have h1 : ρ' = ⟨F, []⟩ := by
    have := hS.len
    rw [h0] at this
    have h2 := List.length_eq_zero_iff.1 this
    cases ρ'
    simp only at hf h2
    rw [hf, h2]
  subst h1
  exact ⟨v, x, rfl, hK.2, hv, hX⟩
mutual
theorem Rel.toFree {ρ ρ' : Ren} {w : World} (hm : ∀ b, b ∈ ρ'.mbs → b ∈ ρ.mbs) : ∀ (v : EV) (x : Value), v.free = true → Rel ρ w v x → Rel ρ' w v x
  | .undef, _, _, hr => hr.elim
  | .bool _, _, _, hr => hr
  | .int _ _, _, _, hr => hr
  | .str _, _, _, hr => hr
  | .nilPtr, _, _, hr => hr
  | .ptr _ _, _, h, _ => by simp [EV.free] at h
  | .rref _, _, h, _ => by simp [EV.free] at h
  | .nilSlice, _, _, hr => hr
  | .slice _ _ _ _ _, _, h, _ => by simp [EV.free] at h
  | .rsI k n g, x, _, hr => by
    simp only [Rel] at hr ⊢
    obtain ⟨a, c, h1, h2, h3⟩ := hr
    refine ⟨a, c, h1, h2, h3.imp id ?_⟩
    rintro ⟨b, o, h4, h5, h6, h7⟩
    exact ⟨b, o, h4, h5, fun h => h6 (hm b h), h7⟩
  | .nilFunc, _, _, hr => hr
  | .func f cap, x, h, hr => by
    simp only [Rel] at hr ⊢
    obtain ⟨vs, h1, h2⟩ := hr
    exact ⟨vs, h1, RelL.toFree hm cap _ (by simpa [EV.free] using h) h2⟩
  | .bnd f cap, x, h, hr => by
    simp only [Rel] at hr ⊢
    obtain ⟨vs, h1, h2⟩ := hr
    exact ⟨vs, h1, RelL.toFree hm cap _ (by simpa [EV.free] using h) h2⟩
  | .agg l, x, h, hr => by
    simp only [Rel] at hr ⊢
    obtain ⟨cs, h1, h2⟩ := hr
    exact ⟨cs, h1, RelF.toFree hm l _ (by simpa [EV.free] using h) h2⟩
  | .arr _ _ _, _, _, hr => hr
  | .tuple l, x, h, hr => by
    simp only [Rel] at hr ⊢
    obtain ⟨vs, h1, h2⟩ := hr
    exact ⟨vs, h1, RelL.toFree hm l _ (by simpa [EV.free] using h) h2⟩
  | .nilIface, _, _, hr => hr
  | .iface t v, x, h, hr => by
    simp only [Rel] at hr ⊢
    obtain ⟨y, h1, h2⟩ := hr
    exact ⟨y, h1, Rel.toFree hm v y (by simpa [EV.free] using h) h2⟩
theorem RelL.toFree {ρ ρ' : Ren} {w : World} (hm : ∀ b, b ∈ ρ'.mbs → b ∈ ρ.mbs) : ∀ (l : List EV) (xs : List Value), EV.freeL l = true → RelL ρ w l xs → RelL ρ' w l xs
  | [], _, _, hr => hr
  | v :: l, xs, h, hr => by
    simp only [EV.freeL, Bool.and_eq_true] at h
    simp only [RelL] at hr ⊢
    obtain ⟨x, ys, h1, h2, h3⟩ := hr
    exact ⟨x, ys, h1, Rel.toFree hm v x h.1 h2, RelL.toFree hm l ys h.2 h3⟩
theorem RelF.toFree {ρ ρ' : Ren} {w : World} (hm : ∀ b, b ∈ ρ'.mbs → b ∈ ρ.mbs) : ∀ (l : List EV) (xs : List Value), EV.freeL l = true → RelF ρ w l xs → RelF ρ' w l xs
  | [], _, _, hr => hr
  | v :: l, xs, h, hr => by
    simp only [EV.freeL, Bool.and_eq_true] at h
    simp only [RelF] at hr ⊢
    obtain ⟨x, ys, h1, h2, h3⟩ := hr
    exact ⟨x, ys, h1, Rel.toFree hm v x h.1 h2, RelF.toFree hm l ys h.2 h3⟩
end
mutual
theorem Rel.ofFree {F : List Nat} {ρ : Ren} {w : World} : ∀ (v : EV) (x : Value), (v.noRS = true ∨ ∀ b, b ∈ ρ.mbs → b ∈ F) → Rel ⟨F, []⟩ w v x → Rel ρ w v x
  | .undef, _, _, hr => hr.elim
  | .bool _, _, _, hr => hr
  | .int _ _, _, _, hr => hr
  | .str _, _, _, hr => hr
  | .nilPtr, _, _, hr => hr
  | .ptr _ _, _, _, hr => by simp only [Rel] at hr; obtain ⟨_, _, _, h, _⟩ := hr; simp at h
  | .rref v, x, h, hr => by
    simp only [Rel] at hr ⊢
    obtain ⟨b, o, y, h1, h2, h3, h4, h5⟩ := hr
    rcases h with h | h
    · simp [EV.noRS] at h
    · exact ⟨b, o, y, h1, Rel.ofFree v y (.inr h) h2, h3, fun hb => h4 (List.mem_append.2 (.inl (h b hb))), h5⟩
  | .nilSlice, _, _, hr => hr
  | .slice _ _ _ _ _, _, _, hr => by simp only [Rel] at hr; obtain ⟨_, _, _, _, h, _⟩ := hr; simp at h
  | .rsI k n g, x, h, hr => by
    simp only [Rel] at hr ⊢
    obtain ⟨a, c, h1, h2, h3⟩ := hr
    rcases h with h | h
    · simp [EV.noRS] at h
    · refine ⟨a, c, h1, h2, h3.imp id ?_⟩
      rintro ⟨b, o, h4, h5, h6, h7⟩
      exact ⟨b, o, h4, h5, fun hb => h6 (List.mem_append.2 (.inl (h b hb))), h7⟩
  | .nilFunc, _, _, hr => hr
  | .func f cap, x, h, hr => by
    simp only [Rel] at hr ⊢
    obtain ⟨vs, h1, h2⟩ := hr
    exact ⟨vs, h1, RelL.ofFree cap _ (h.imp (by simp [EV.noRS]) id) h2⟩
  | .bnd f cap, x, h, hr => by
    simp only [Rel] at hr ⊢
    obtain ⟨vs, h1, h2⟩ := hr
    exact ⟨vs, h1, RelL.ofFree cap _ (h.imp (by simp [EV.noRS]) id) h2⟩
  | .agg l, x, h, hr => by
    simp only [Rel] at hr ⊢
    obtain ⟨cs, h1, h2⟩ := hr
    exact ⟨cs, h1, RelF.ofFree l _ (h.imp (by simp [EV.noRS]) id) h2⟩
  | .arr _ _ _, _, _, hr => hr
  | .tuple l, x, h, hr => by
    simp only [Rel] at hr ⊢
    obtain ⟨vs, h1, h2⟩ := hr
    exact ⟨vs, h1, RelL.ofFree l _ (h.imp (by simp [EV.noRS]) id) h2⟩
  | .nilIface, _, _, hr => hr
  | .iface t v, x, h, hr => by
    simp only [Rel] at hr ⊢
    obtain ⟨y, h1, h2⟩ := hr
    exact ⟨y, h1, Rel.ofFree v y (h.imp (by simp [EV.noRS]) id) h2⟩
theorem RelL.ofFree {F : List Nat} {ρ : Ren} {w : World} : ∀ (l : List EV) (xs : List Value), (EV.noRSL l = true ∨ ∀ b, b ∈ ρ.mbs → b ∈ F) → RelL ⟨F, []⟩ w l xs → RelL ρ w l xs
  | [], _, _, hr => hr
  | v :: l, xs, h, hr => by
    simp only [RelL] at hr ⊢
    obtain ⟨x, ys, h1, h2, h3⟩ := hr
    refine ⟨x, ys, h1, Rel.ofFree v x (h.imp ?_ id) h2, RelL.ofFree l ys (h.imp ?_ id) h3⟩ <;> simp +contextual [EV.noRSL]
theorem RelF.ofFree {F : List Nat} {ρ : Ren} {w : World} : ∀ (l : List EV) (xs : List Value), (EV.noRSL l = true ∨ ∀ b, b ∈ ρ.mbs → b ∈ F) → RelF ⟨F, []⟩ w l xs → RelF ρ w l xs
  | [], _, _, hr => hr
  | v :: l, xs, h, hr => by
    simp only [RelF] at hr ⊢
    obtain ⟨x, ys, h1, h2, h3⟩ := hr
    refine ⟨x, ys, h1, Rel.ofFree v x (h.imp ?_ id) h2, RelF.ofFree l ys (h.imp ?_ id) h3⟩ <;> simp +contextual [EV.noRSL]
end
theorem Ext.quiet {F : List Nat} {ρ : Ren} {w w' : World} (h : Ext ⟨F, []⟩ w ⟨F, []⟩ w') : Ext ρ w ρ w' :=
  ⟨h.os, h.tape, h.output, h.size, fun b hb _ => h.out b hb (by simp [Ren.own]), fun _ _ h => h, fun _ _ h => h, fun _ _ h => .inl h, h.row⟩
theorem Sim.quiet {F : List Nat} {ρ : Ren} {H : Heap} {w w' : World} (hS : Sim ρ H w) (h : Ext ⟨F, []⟩ w ⟨F, []⟩ w') : Sim ρ H w' := by
  have hE : Ext ρ w ρ w' := h.quiet
  refine ⟨hS.len, fun b hb => Nat.lt_of_lt_of_le (hS.fl b hb) h.size, fun b r hb => Nat.lt_of_lt_of_le (hS.lt b r hb) h.size, hS.sep, hS.nodup, ?_⟩
  intro b v hb
  obtain ⟨r, h1, h2, cs, e, fz, x, h3, h4, h5, h6, h7⟩ := hS.live b v hb
  have heq := h.out r.mb (hS.lt b r h1) (by simp [Ren.own])
  exact ⟨r, h1, h2, cs, e, fz, x, heq.trans h3, h4, Rel.ext hE _ _ h5, h6, h7.keep heq⟩
def Ren.kill (ρ : Ren) (b : Nat) : Ren := { ρ with bs := ρ.bs.set b none }
theorem kill_own {ρ : Ren} {b m : Nat} (h : m ∈ (ρ.kill b).own) : m ∈ ρ.own := by
  obtain ⟨c, r, h1, h2⟩ := own_mem h
  simp only [Ren.kill] at h1
  by_cases hc : c = b
  · subst hc
    rw [List.getElem?_set] at h1
    simp at h1
  · rw [map_some_ne _ _ _ _ hc] at h1
    exact h2 ▸ mem_own h1
theorem kill_mbs {ρ : Ren} {b m : Nat} (h : m ∈ (ρ.kill b).mbs) : m ∈ ρ.mbs := by
  rcases List.mem_append.1 h with h | h
  · exact List.mem_append.2 (.inl h)
  · exact own_mbs (kill_own h)
theorem Ext.kill (ρ : Ren) (w : World) (b : Nat) : Ext ρ w (ρ.kill b) w :=
  ⟨rfl, rfl, rfl, Nat.le_refl _, fun _ _ _ => rfl, fun c _ h hm => h (kill_mbs hm), fun c _ h hm => h (kill_own hm), fun c r hc => by
    by_cases hcb : c = b
    · subst hcb
      refine .inr ?_
      simp only [Ren.kill]
      have hlt : c < ρ.bs.length := by
        rcases Nat.lt_or_ge c ρ.bs.length with hh | hh
        · exact hh
        · rw [List.getElem?_eq_none hh] at hc; cases hc
      rw [List.getElem?_set_self hlt]
    · exact .inl (by simp only [Ren.kill]; rw [map_some_ne _ _ _ _ hcb]; exact hc),
   fun _ cs e fz h => ⟨cs, e, fz, h, rfl⟩⟩
theorem Sim.kill {ρ : Ren} {H : Heap} {w : World} (hS : Sim ρ H w) (b : Nat) : Sim (ρ.kill b) (H.set b none) w := by
  have hk : ∀ (c : Nat) r, (ρ.kill b).bs[c]? = some (some r) → ρ.bs[c]? = some (some r) := by
    intro c r h1
    simp only [Ren.kill] at h1
    by_cases hc : c = b
    · subst hc
      rw [List.getElem?_set] at h1
      simp at h1
    · rw [map_some_ne _ _ _ _ hc] at h1; exact h1
  refine ⟨by simp [Ren.kill, hS.len], hS.fl, fun c r hc => hS.lt c r (hk c r hc), fun c r hc => hS.sep c r (hk c r hc), fun c d r s hc hd => hS.nodup c d r s (hk c r hc) (hk d s hd), ?_⟩
  intro c v hc
  by_cases hcb : c = b
  · subst hcb
    rw [List.getElem?_set] at hc
    simp at hc
  · rw [map_some_ne _ _ _ _ hcb] at hc
    obtain ⟨r, h1, h2, cs, e, fz, x, h3, h4, h5, h6, h7⟩ := hS.live c v hc
    exact ⟨r, by simp only [Ren.kill]; rw [map_some_ne _ _ _ _ hcb]; exact h1, h2, cs, e, fz, x, h3, h4, Rel.ext (Ext.kill ρ w b) _ _ h5, h6, h7⟩
def Ren.kills : List EV → Ren → Ren
  | [], ρ => ρ
  | .slice b _ _ _ _ :: vs, ρ => Ren.kills vs (ρ.kill b)
  | _ :: vs, ρ => Ren.kills vs ρ
theorem kills_spec : ∀ (vs : List EV) (ρ : Ren) (H : Heap) (w : World), Sim ρ H w →
    Sim (Ren.kills vs ρ) (killArgs vs H) w ∧ Ext ρ w (Ren.kills vs ρ) w ∧ (∀ m, m ∈ (Ren.kills vs ρ).mbs → m ∈ ρ.mbs) ∧ (Ren.kills vs ρ).F = ρ.F
  | [], ρ, H, w, hS => ⟨hS, Ext.refl _ _, fun _ h => h, rfl⟩
  | v :: vs, ρ, H, w, hS => by
    cases v
    case slice b off len cap e =>
      simp only [Ren.kills, killArgs]
      obtain ⟨h1, h2, h3, h4⟩ := kills_spec vs (ρ.kill b) (H.set b none) w (hS.kill b)
      exact ⟨h1, (Ext.kill ρ w b).trans h2, fun m hm => kill_mbs (h3 m hm), h4⟩
    all_goals exact kills_spec vs ρ H w hS
theorem kills_dead : ∀ (vs : List EV) (ρ : Ren) (H : Heap) (w : World), Sim ρ H w → ∀ b off len cap e, EV.slice b off len cap e ∈ vs → ∀ r, ρ.bs[b]? = some (some r) → r.mb ∉ (Ren.kills vs ρ).own
  | v :: vs, ρ, H, w, hS, b, off, len, cap, e, hm, r, hr => by
    rcases List.mem_cons.1 hm with hm' | hm'
    · subst hm'
      simp only [Ren.kills]
      intro hin
      have hin' : r.mb ∈ (ρ.kill b).own := by
        have := (kills_spec vs (ρ.kill b) (H.set b none) w (hS.kill b)).2.1.newOwn r.mb (hS.lt b r hr)
        exact Classical.byContradiction fun h => this h hin
      obtain ⟨c, s, h1, h2⟩ := own_mem hin'
      simp only [Ren.kill] at h1
      by_cases hc : c = b
      · subst hc
        rw [List.getElem?_set] at h1
        simp at h1
      · rw [map_some_ne _ _ _ _ hc] at h1
        exact hc (hS.nodup c b s r h1 hr h2)
    · cases v
      case slice b' off' len' cap' e' =>
        simp only [Ren.kills]
        by_cases hbb : b = b'
        · subst hbb
          intro hin
          have hin' : r.mb ∈ (ρ.kill b).own := by
            have := (kills_spec vs (ρ.kill b) (H.set b none) w (hS.kill b)).2.1.newOwn r.mb (hS.lt b r hr)
            exact Classical.byContradiction fun h => this h hin
          obtain ⟨c, s, h1, h2⟩ := own_mem hin'
          simp only [Ren.kill] at h1
          by_cases hc : c = b
          · subst hc
            rw [List.getElem?_set] at h1
            simp at h1
          · rw [map_some_ne _ _ _ _ hc] at h1
            exact hc (hS.nodup c b s r h1 hr h2)
        · exact kills_dead vs (ρ.kill b') (H.set b' none) w (hS.kill b') b off len cap e hm' r (by simp only [Ren.kill]; rw [map_some_ne _ _ _ _ hbb]; exact hr)
      all_goals exact kills_dead vs ρ H w hS b off len cap e hm' r hr
theorem roArg_rel {ρ : Ren} {H : Heap} {w : World} {F : List Nat} (hS : Sim ρ H w) (hF : ∀ b, b ∈ F → b ∈ ρ.mbs) {m : Option IntKind} {v : EV} {x : Value}
    (hd : ∀ b off len cap e, v = EV.slice b off len cap e → ∀ r, ρ.bs[b]? = some (some r) → r.mb ∉ F) (hf : (roArg H m v).free = true) (hr : Rel ρ w v x) : Rel ⟨F, []⟩ w (roArg H m v) x := by
  have hmb : ∀ b, b ∈ (⟨F, []⟩ : Ren).mbs → b ∈ ρ.mbs := by
    intro b hb
    rcases List.mem_append.1 hb with hb | hb
    · exact hF b hb
    · simp [Ren.own] at hb
  unfold roArg at hf ⊢
  split at hf
  · rename_i k
    simp only [Rel] at hr ⊢; subst hr
    exact ⟨none, 0, rfl, Nat.le_refl _, by simp⟩
  · rename_i k b off len cap e
    split at hf
    · rename_i k' n' g hb
      by_cases hk : k = k'
      · subst hk
        simp only [hb, decide_true, cond_true] at hf ⊢
        simp only [Rel] at hr
        obtain ⟨a, c, rfl, r, hr', hi⟩ := hr
        obtain ⟨r', h1, h2, cs, e', fz, x, h3, h4, h5, h6, h7⟩ := hS.live b _ hb
        rw [h1] at hr'; cases hr'
        obtain ⟨n, h8, h9, h10, h11, h12⟩ := hi r' rfl
        simp only [Rel]
        refine ⟨a, c, rfl, h10, ?_⟩
        rcases h12 with ⟨h12, _⟩ | ⟨h12, _⟩
        · have hsh : r'.sh = .row n' := by rw [← h2]; rfl
          have he : e = 1 ∧ n = n' := by
            rcases h8 with ⟨h8, h13⟩ | ⟨l, h8, _⟩
            · rw [hsh] at h8; cases h8; exact ⟨h13, rfl⟩
            · rw [hsh] at h8; cases h8
          obtain ⟨rfl, rfl⟩ := he
          have hnF : r'.mb ∉ (⟨F, []⟩ : Ren).mbs := by
            intro hb'
            rcases List.mem_append.1 hb' with hb' | hb'
            · exact hd b off len cap 1 rfl r' h1 hb'
            · simp [Ren.own] at hb'
          refine .inr ⟨_, _, h12, hS.lt b r' h1, hnF, ?_⟩
          simp only [Rel] at h5; subst h5
          have := h7.sub off len
          simp only [cells_agg] at this
          intro i hi
          simp only [ints_length] at hi
          have h14 := this i (by simp [ints_length]; omega)
          rw [Nat.mul_one, h14, List.getElem?_take_of_lt hi, List.getElem?_drop, ints_get _ _ _ _ (by omega), ints_get _ _ _ _ hi, shift_apply]
        · exact .inl h12
      · simp [hk, EV.free] at hf
    · simp [EV.free] at hf
  · exact Rel.toFree hmb _ _ hf hr
theorem roArgs_rel {ρ : Ren} {H : Heap} {w : World} {F : List Nat} (hS : Sim ρ H w) (hF : ∀ b, b ∈ F → b ∈ ρ.mbs) : ∀ (ms : List (Option IntKind)) (vs : List EV) (xs : List Value),
    (∀ b off len cap e, EV.slice b off len cap e ∈ vs → ∀ r, ρ.bs[b]? = some (some r) → r.mb ∉ F) → EV.freeL (roArgs H ms vs) = true → RelL ρ w vs xs → RelL ⟨F, []⟩ w (roArgs H ms vs) xs
  | m :: ms, v :: vs, xs, hd, hf, hr => by
    simp only [roArgs, EV.freeL, Bool.and_eq_true] at hf ⊢
    simp only [RelL] at hr ⊢
    obtain ⟨x, ys, rfl, h1, h2⟩ := hr
    exact ⟨x, ys, rfl, roArg_rel hS hF (fun b off len cap e he => hd b off len cap e (by rw [← he]; exact List.mem_cons_self)) hf.1 h1,
      roArgs_rel hS hF ms vs ys (fun b off len cap e he => hd b off len cap e (List.mem_cons_of_mem _ he)) hf.2 h2⟩
  | [], vs, xs, hd, hf, hr => by
    have hmb : ∀ b, b ∈ (⟨F, []⟩ : Ren).mbs → b ∈ ρ.mbs := by
      intro b hb
      rcases List.mem_append.1 hb with hb | hb
      · exact hF b hb
      · simp [Ren.own] at hb
    cases vs <;> exact RelL.toFree hmb _ _ hf hr
  | _ :: _, [], xs, hd, hf, hr => by
    simp only [roArgs, RelL] at hr ⊢; exact hr
theorem RelL.append {ρ : Ren} {w : World} : ∀ {l r : List EV} {xs ys : List Value}, RelL ρ w l xs → RelL ρ w r ys → RelL ρ w (l ++ r) (xs ++ ys)
  | [], r, xs, ys, h1, h2 => by simp only [RelL] at h1; subst h1; exact h2
  | v :: l, r, xs, ys, h1, h2 => by
    simp only [RelL] at h1
    obtain ⟨x, zs, rfl, h3, h4⟩ := h1
    simp only [List.cons_append, RelL]
    exact ⟨x, zs ++ ys, rfl, h3, h4.append h2⟩
def OkFn (P : Program) (E : Env) : Prop :=
  ∀ f en, E.fn f = some en → SoundF P E.gl f en ∧ ∃ fn, P.funcs[f]? = some fn ∧ fn.body.isNone = false ∧ (fn.name == "runtime.NumGoroutine") = false
theorem roArgs_ren {ρ ρ' : Ren} {H : Heap} {w : World} {f : Nat → Nat} {idx : List Nat} (hS : Sim ρ H w) (hb : ∀ (b : Nat) r, b ∈ idx → ρ.bs[b]? = some r → ρ'.bs[f b]? = some r ∨ ρ'.bs[f b]? = some none)
    (hmb : ∀ b, b ∈ ρ'.mbs → b ∈ ρ.mbs) : ∀ (ms : List (Option IntKind)) (vs : List EV) (xs : List Value), (∀ b, b ∈ roDead ms vs → ∀ r, ρ.bs[b]? = some (some r) → r.mb ∉ ρ'.mbs) →
      dfdL (roArgs H ms vs) = true → EV.inIL idx (roArgs H ms vs) = true → RelL ρ w vs xs → RelL ρ' w (EV.renL f (roArgs H ms vs)) xs := by
  have hq : ∀ b, b < w.heap.size → b ∉ ρ.mbs → b ∉ ρ'.mbs := fun b _ hn hm => hn (hmb b hm)
  have one : ∀ (m : Option IntKind) (v : EV) (x : Value), (∀ k b off len cap e, m = some k → v = EV.slice b off len cap e → ∀ r, ρ.bs[b]? = some (some r) → r.mb ∉ ρ'.mbs) → (roArg H m v).dfd = true →
      (roArg H m v).inI idx = true → Rel ρ w v x → Rel ρ' w ((roArg H m v).ren f) x := by
    intro m v x hd hdf hi hr
    have free : (roArg H m v).free = true → (∀ b off len cap e, v = EV.slice b off len cap e → ∀ r, ρ.bs[b]? = some (some r) → r.mb ∉ ρ'.mbs) → Rel ρ' w (roArg H m v) x := by
      intro hf hd'
      have := roArg_rel (F := ρ'.mbs) hS hmb hd' hf hr
      refine Rel.toFree ?_ _ _ hf this
      intro b hb'
      exact List.mem_append.2 (.inl hb')
    cases m with
    | none =>
      have e : roArg H none v = v := by cases v <;> rfl
      rw [e] at hi ⊢
      exact Rel.ren hb v x hi (.inr hq) hr
    | some k =>
      cases v
      case slice b off len cap e =>
        have hre : (roArg H (some k) (.slice b off len cap e)).free = true ∧ (roArg H (some k) (.slice b off len cap e)).ren f = roArg H (some k) (.slice b off len cap e) := by
          revert hdf
          simp only [roArg]
          split
          · rename_i k' n g hq
            by_cases hk : k = k'
            · simp [hk, EV.free, EV.ren]
            · simp [hk, EV.dfd]
          · simp [EV.dfd]
        rw [hre.2]
        exact free hre.1 fun b' off' len' cap' e' he r hr' => hd k b' off' len' cap' e' rfl he r hr'
      case nilSlice =>
        simp only [Rel] at hr; subst hr
        exact ⟨none, 0, rfl, Nat.le_refl _, .inl rfl⟩
      all_goals exact Rel.ren hb _ x hi (.inr hq) hr
  intro ms
  induction ms with
  | nil =>
    intro vs xs hd hdf hi hr
    have e : roArgs H [] vs = vs := by cases vs <;> rfl
    rw [e] at hi ⊢
    exact RelL.ren hb vs xs hi (.inr hq) hr
  | cons m ms ih =>
    intro vs xs hd hdf hi hr
    cases vs with
    | nil => exact hr
    | cons v vs =>
      simp only [roArgs, dfdL, EV.inIL, Bool.and_eq_true] at hdf hi
      simp only [RelL] at hr
      obtain ⟨x, ys, rfl, h1, h2⟩ := hr
      simp only [roArgs, EV.renL, RelL]
      refine ⟨x, ys, rfl, one m v x ?_ hdf.1 hi.1 h1, ih vs ys ?_ hdf.2 hi.2 h2⟩
      · intro k b off len cap e hm hv r hr
        subst hm; subst hv
        exact hd b (by simp [roDead]) r hr
      · intro b hb' r hr
        refine hd b ?_ r hr
        cases m with
        | none => simpa [roDead] using hb'
        | some k => cases v <;> simp [roDead, hb']
theorem evCallL_sound {ρ : Ren} {w : World} {H : Heap} {f : FuncId} {en : Entry} {args : List EV} {xs : List Value} {K : EV → Heap → Prop} (hs : SoundF P E.gl f en) (hS : Sim ρ H w) (hG : GOk E.gl ρ w)
    (hr : RelL ρ w args xs) {idx : List Nat} (hn : idx.Nodup) (h : evCallL en (roArgs H en.ro args) (roDead en.ro args) idx H K) :
    Calls P f xs.toArray w fun e w' => ∃ v x H' ρ', e = .returned x ∧ K v H' ∧ Sim ρ' H' w' ∧ Ext ρ w ρ' w' ∧ ρ'.F = ρ.F ∧ Rel ρ' w' v x := by
  unfold evCallL at h
  rw [gd_iff] at h
  simp only [Bool.and_eq_true] at h
  obtain ⟨⟨hd, hi, hcl, hlt, hno⟩, h⟩ := h
  generalize hdd : roDead en.ro args = dead at hno h
  have hno' := noneIn_spec hno
  have hlt' := allLt_spec hlt
  generalize hsm : (⟨[], subBs ρ.bs idx⟩ : Ren).own = sm
  generalize hdm : (⟨[], subBs ρ.bs dead⟩ : Ren).own = dm
  have sm_of : ∀ (b : Nat) (r : BI), b ∈ idx → ρ.bs[b]? = some (some r) → r.mb ∈ sm := fun b r h1 h2 => hsm ▸ own_subBs h1 h2
  have of_sm : ∀ m, m ∈ sm → ∃ b r, b ∈ idx ∧ ρ.bs[b]? = some (some r) ∧ r.mb = m := fun m hm => subBs_own (F := []) (hsm ▸ hm)
  have dm_of : ∀ (b : Nat) (r : BI), b ∈ dead → ρ.bs[b]? = some (some r) → r.mb ∈ dm := fun b r h1 h2 => hdm ▸ own_subBs h1 h2
  have of_dm : ∀ m, m ∈ dm → ∃ b r, b ∈ dead ∧ ρ.bs[b]? = some (some r) ∧ r.mb = m := fun m hm => subBs_own (F := []) (hdm ▸ hm)
  generalize hFs : ρ.mbs.filter (fun m => !memN m sm && !memN m dm) = Fs
  have mem_F : ∀ m, m ∈ Fs ↔ m ∈ ρ.mbs ∧ m ∉ sm ∧ m ∉ dm := by
    intro m
    rw [← hFs, List.mem_filter, Bool.and_eq_true, Bool.not_eq_true', Bool.not_eq_true', memN_not, memN_not]
  have hown : (⟨Fs, subBs ρ.bs idx⟩ : Ren).own = sm := hsm
  have hsub : ∀ b, b ∈ (⟨Fs, subBs ρ.bs idx⟩ : Ren).mbs → b ∈ ρ.mbs := by
    intro b hb
    rcases List.mem_append.1 hb with hb | hb
    · exact ((mem_F b).1 hb).1
    · obtain ⟨c, r, _, h2, h3⟩ := subBs_own hb
      exact h3 ▸ own_mbs (mem_own h2)
  have mlt : ∀ b, b ∈ ρ.mbs → b < w.heap.size := by
    intro b hb
    rcases List.mem_append.1 hb with hb | hb
    · exact hS.fl b hb
    · obtain ⟨c, r, g1, g2⟩ := own_mem hb
      exact g2 ▸ hS.lt c r g1
  have FF : ∀ b, b ∈ ρ.F → b ∈ Fs := by
    intro b hb
    refine (mem_F b).2 ⟨List.mem_append.2 (.inl hb), fun hm => ?_, fun hm => ?_⟩
    · obtain ⟨c, r, _, h2, h3⟩ := of_sm b hm
      exact hS.sep c r h2 (h3 ▸ hb)
    · obtain ⟨c, r, _, h2, h3⟩ := of_dm b hm
      exact hS.sep c r h2 (h3 ▸ hb)
  have FO : ∀ (c : Nat) (r : BI), ρ.bs[c]? = some (some r) → c ∉ idx → c ∉ dead → r.mb ∈ Fs := by
    intro c r h1 h2 h3
    refine (mem_F r.mb).2 ⟨own_mbs (mem_own h1), fun hm => ?_, fun hm => ?_⟩
    · obtain ⟨d, s, g1, g2, g3⟩ := of_sm _ hm
      exact h2 (hS.nodup d c s r g2 h1 g3 ▸ g1)
    · obtain ⟨d, s, g1, g2, g3⟩ := of_dm _ hm
      exact h3 (hS.nodup d c s r g2 h1 g3 ▸ g1)
  have hSs : Sim ⟨Fs, subBs ρ.bs idx⟩ (subH H idx) w := by
    refine hS.sub hn (fun b hb => mlt b ((mem_F b).1 hb).1) ?_ hcl fun b hb hnb hm => hnb (hsub b hm)
    intro b r h1 h2 h3
    exact ((mem_F _).1 h3).2.1 (sm_of b r h1 h2)
  have hrel : RelL ⟨Fs, subBs ρ.bs idx⟩ w (EV.renL (pos idx) (roArgs H en.ro args)) xs := by
    refine roArgs_ren hS (fun b r h1 h2 => .inl (subBs_pos h1 h2)) hsub en.ro args xs ?_ hd hi hr
    rw [hdd]
    intro b hb r h1 h2
    rcases List.mem_append.1 h2 with h2 | h2
    · exact ((mem_F _).1 h2).2.2 (dm_of b r hb h1)
    · obtain ⟨c, s, g1, g2, g3⟩ := subBs_own h2
      exact hno' b hb (hS.nodup c b s r g2 h1 g3 ▸ g1)
  refine (hs _ _ w _ _ _ h hrel hSs (hG.sub hsub)).mono ?_
  rintro e w' ⟨v, x, H', ρ', rfl, hK, hv, hS', hX, hF'⟩
  rw [gd_iff, Bool.and_eq_true, Bool.and_eq_true] at hK
  obtain ⟨⟨hvi, hHi, hle⟩, hK⟩ := hK
  have hle' : idx.length ≤ H'.length := Nat.le_of_ble_eq_true hle
  have hlen := hS'.len
  have hleb : idx.length ≤ ρ'.bs.length := by omega
  have hltb : ∀ b ∈ idx, b < ρ.bs.length := fun b hb => by rw [hS.len]; exact hlt' b hb
  simp only at hF'
  generalize hD : cond (v.noRS && noRSH H') [] dead = D at hK
  have hDn : ∀ b, b ∈ D → b ∉ idx := by
    intro b hb
    cases hc : (v.noRS && noRSH H') with
    | true => rw [hc] at hD; simp at hD; subst hD; cases hb
    | false => rw [hc] at hD; simp at hD; subst hD; exact hno' b hb
  have inv : ∀ (c : Nat) (r : BI), (killN D (putB idx ρ'.bs ρ.bs))[c]? = some (some r) → c ∉ D ∧ ((∃ j, ρ'.bs[j]? = some (some r) ∧ backN idx ρ.bs.length j = c) ∨ (c ∉ idx ∧ ρ.bs[c]? = some (some r))) := by
    intro c r hc
    obtain ⟨h1, h2⟩ := killN_some hc
    exact ⟨h1, putB_inv hn hltb hleb h2⟩
  have newLt : ∀ (j : Nat) (r : BI), ρ'.bs[j]? = some (some r) → r.mb < w.heap.size → r.mb ∈ sm := by
    intro j r hj hlt
    apply Classical.byContradiction
    intro hns
    exact hX.newOwn r.mb hlt (by rw [hown]; exact hns) (mem_own hj)
  have smO : ∀ m, m ∈ sm → m ∈ ρ.own := by
    intro m hm
    obtain ⟨b, r, _, h2, h3⟩ := of_sm m hm
    exact h3 ▸ mem_own h2
  have hE : Ext ρ w ⟨ρ.F, killN D (putB idx ρ'.bs ρ.bs)⟩ w' := by
    refine ⟨hX.os, hX.tape, hX.output, hX.size, ?_, ?_, ?_, ?_, hX.row⟩
    · intro b hb hnb
      exact hX.out b hb (by rw [hown]; exact fun hm => hnb (smO b hm))
    · intro b hb hnb hm
      rcases List.mem_append.1 hm with hm | hm
      · exact hnb (List.mem_append.2 (.inl hm))
      · obtain ⟨c, r, h1, rfl⟩ := own_mem hm
        rcases (inv c r h1).2 with ⟨j, h2, _⟩ | ⟨_, h2⟩
        · exact hnb (own_mbs (smO _ (newLt j r h2 hb)))
        · exact hnb (own_mbs (mem_own h2))
    · intro b hb hnb hm
      obtain ⟨c, r, h1, rfl⟩ := own_mem hm
      rcases (inv c r h1).2 with ⟨j, h2, _⟩ | ⟨_, h2⟩
      · exact hnb (smO _ (newLt j r h2 hb))
      · exact hnb (mem_own h2)
    · intro b r hb
      have hlt : b < ρ.bs.length := by
        rcases Nat.lt_or_ge b ρ.bs.length with hh | hh
        · exact hh
        · rw [List.getElem?_eq_none hh] at hb; cases hb
      simp only
      by_cases hbD : b ∈ D
      · exact .inr (killN_in _ _ _ (.inl hbD) (by rw [putB_length _ _ _ hleb]; omega))
      · rw [killN_out _ _ _ hbD]
        by_cases hbi : b ∈ idx
        · have hp := pos_get hbi
          have hpl : pos idx b < idx.length := by
            rcases Nat.lt_or_ge (pos idx b) idx.length with hh | hh
            · exact hh
            · rw [List.getElem?_eq_none hh] at hp; cases hp
          have := putB_at idx ρ'.bs ρ.bs (pos idx b) hn hltb hleb (by omega)
          rw [show backN idx ρ.bs.length (pos idx b) = b from by simp [backN, hp]] at this
          rw [this]
          exact hX.keep (pos idx b) r (subBs_pos hbi hb)
        · rw [putB_out _ _ _ _ hbi hlt]; exact .inl hb
  have hback : ∀ (b : Nat) r, b ∈ upTo H'.length → ρ'.bs[b]? = some r → (killN D (putB idx ρ'.bs ρ.bs))[backN idx H.length b]? = some r ∨ (killN D (putB idx ρ'.bs ρ.bs))[backN idx H.length b]? = some none := by
    intro b r hb hr'
    have hbl : b < ρ'.bs.length := by rw [hlen]; exact (mem_upTo _ _).1 hb
    have := putB_at idx ρ'.bs ρ.bs b hn hltb hleb hbl
    rw [hS.len, hr'] at this
    by_cases hbD : backN idx H.length b ∈ D
    · refine .inr (killN_in _ _ _ (.inl hbD) ?_)
      rcases Nat.lt_or_ge (backN idx H.length b) (putB idx ρ'.bs ρ.bs).length with hh | hh
      · exact hh
      · rw [List.getElem?_eq_none hh] at this; cases this
    · rw [killN_out _ _ _ hbD]; exact .inl this
  have hq : ∀ u : EV, ((v.noRS && noRSH H') = true → u.noRS = true) → u.noRS = true ∨ ∀ b, b < w'.heap.size → b ∉ ρ'.mbs → b ∉ (⟨ρ.F, killN D (putB idx ρ'.bs ρ.bs)⟩ : Ren).mbs := by
    intro u hu
    cases hc : (v.noRS && noRSH H') with
    | true => exact .inl (hu hc)
    | false =>
      right
      rw [hc] at hD; simp at hD; subst hD
      intro b hb hnb hm
      rcases List.mem_append.1 hm with hm | hm
      · exact hnb (List.mem_append.2 (.inl (hF' ▸ FF b hm)))
      · obtain ⟨c, r, h1, rfl⟩ := own_mem hm
        obtain ⟨g1, g2⟩ := inv c r h1
        rcases g2 with ⟨j, h2, _⟩ | ⟨h3, h2⟩
        · exact hnb (own_mbs (mem_own h2))
        · exact hnb (List.mem_append.2 (.inl (hF' ▸ FO c r h2 h3 g1)))
  refine ⟨_, x, _, ⟨ρ.F, killN D (putB idx ρ'.bs ρ.bs)⟩, rfl, hK, ?_, hE, rfl, ?_⟩
  · refine ⟨?_, fun b hb => Nat.lt_of_lt_of_le (hS.fl b hb) hX.size, ?_, ?_, ?_, ?_⟩
    · rw [killN_length, killN_length, putB_length _ _ _ hleb, putB_length _ _ _ (by rw [renH_length]; exact hle'), renH_length, hS.len, hlen]
    · intro c r hc
      rcases (inv c r hc).2 with ⟨j, h2, _⟩ | ⟨_, h2⟩
      · exact hS'.lt j r h2
      · exact Nat.lt_of_lt_of_le (hS.lt c r h2) hX.size
    · intro c r hc hm
      rcases (inv c r hc).2 with ⟨j, h2, _⟩ | ⟨_, h2⟩
      · exact hS'.sep j r h2 (hF' ▸ FF _ hm)
      · exact hS.sep c r h2 hm
    · have mixed : ∀ (j d : Nat) (r s : BI), ρ'.bs[j]? = some (some r) → d ∉ idx → ρ.bs[d]? = some (some s) → r.mb = s.mb → False := by
        intro j d r s h1 h2 h3 h4
        obtain ⟨b, r0, g1, g2, g3⟩ := of_sm _ (newLt j r h1 (h4 ▸ hS.lt d s h3))
        exact h2 (hS.nodup b d r0 s g2 h3 (g3.trans h4) ▸ g1)
      intro c d r s hc hd' he
      rcases (inv c r hc).2 with ⟨j, h2, h3⟩ | ⟨h3, h2⟩
      · rcases (inv d s hd').2 with ⟨k, h4, h5⟩ | ⟨h5, h4⟩
        · have := hS'.nodup j k r s h2 h4 he
          subst this
          exact h3.symm.trans h5
        · exact (mixed j d r s h2 h5 h4 he).elim
      · rcases (inv d s hd').2 with ⟨k, h4, h5⟩ | ⟨h5, h4⟩
        · exact (mixed k c s r h4 h3 h2 he.symm).elim
        · exact hS.nodup c d r s h2 h4 he
    · intro c u hc
      obtain ⟨hcD, hc⟩ := killN_some hc
      rcases putB_inv hn hlt' (by rw [renH_length]; exact hle') hc with ⟨j, h1, h2⟩ | ⟨h1, h2⟩
      · rw [renH_get] at h1
        cases hj : H'[j]? with
        | none => simp [hj] at h1
        | some o =>
          cases o with
          | none => simp [hj, renO] at h1
          | some u' =>
            simp only [hj, Option.map_some, renO, Option.some.injEq] at h1
            subst h1
            obtain ⟨r, k1, k2, cs, e, fz, y, k3, k4, k5, k6, k7⟩ := hS'.live j u' hj
            have hjl : j < ρ'.bs.length := by
              rcases Nat.lt_or_ge j ρ'.bs.length with hh | hh
              · exact hh
              · rw [List.getElem?_eq_none hh] at k1; cases k1
            refine ⟨r, ?_, (shape_ren _ _).trans k2, cs, e, fz, y, k3, k4, Rel.ren hback u' y (inIH_spec hHi j ((mem_upTo _ _).2 (by omega)) u' hj) (hq u' fun hc' => ?_) k5, k6, k7⟩
            · simp only
              rw [killN_out _ _ _ hcD, ← h2, ← hS.len, putB_at idx ρ'.bs ρ.bs j hn hltb hleb hjl]
              exact k1
            · simp only [Bool.and_eq_true] at hc'
              exact noRSH_spec hc'.2 j u' hj
      · obtain ⟨r, k1, k2, cs, e, fz, y, k3, k4, k5, k6, k7⟩ := hS.live c u h2
        have hclt : c < ρ.bs.length := by
          rcases Nat.lt_or_ge c ρ.bs.length with hh | hh
          · exact hh
          · rw [List.getElem?_eq_none hh] at k1; cases k1
        have hout : w'.heap[r.mb]? = w.heap[r.mb]? := by
          refine hX.out r.mb (hS.lt c r k1) ?_
          rw [hown]
          intro hm
          obtain ⟨b, r0, g1, g2, g3⟩ := of_sm _ hm
          exact h1 (hS.nodup b c r0 r g2 k1 g3 ▸ g1)
        exact ⟨r, by simp only; rw [killN_out _ _ _ hcD, putB_out _ _ _ _ h1 hclt]; exact k1, k2, cs, e, fz, y, hout.trans k3, k4, Rel.ext hE u y k5, k6, k7.keep hout⟩
  · exact Rel.ren hback v x hvi (hq v fun hc' => by simp only [Bool.and_eq_true] at hc'; exact hc'.1) hv
theorem evCallF_sound {ρ : Ren} {w : World} {H : Heap} {f : FuncId} {args : List EV} {xs : List Value} {K : EV → Heap → Prop} (hFn : OkFn P E) (hS : Sim ρ H w) (hG : GOk E.gl ρ w)
    (hr : RelL ρ w args xs) (h : evCallF E f args H K) :
    ∃ fn, P.funcs[f]? = some fn ∧ fn.body.isNone = false ∧ (fn.name == "runtime.NumGoroutine") = false ∧
      Calls P f xs.toArray w fun e w' => ∃ v x H' ρ', e = .returned x ∧ K v H' ∧ Sim ρ' H' w' ∧ Ext ρ w ρ' w' ∧ ρ'.F = ρ.F ∧ Rel ρ' w' v x := by
  unfold evCallF at h
  split at h
  · rename_i en he
    obtain ⟨hs, fn, hfn, hb, hn⟩ := hFn f en he
    refine ⟨fn, hfn, hb, hn, ?_⟩
    cases hl : en.lend with
    | true =>
      rw [hl] at h
      simp only [cond_true] at h
      exact evCallL_sound hs hS hG hr (canI_spec _ _ _).1 h
    | false =>
    rw [hl] at h
    simp only [cond_false] at h
    rw [gd_iff] at h
    obtain ⟨hfree, h⟩ := h
    obtain ⟨k1, k2, k3, k4⟩ := kills_spec args ρ H w hS
    have hrel := roArgs_rel (F := (Ren.kills args ρ).mbs) hS k3 en.ro args xs (by
      intro b off len cap' e hm r hr' hin
      rcases List.mem_append.1 hin with hin | hin
      · rw [k4] at hin; exact hS.sep b r hr' hin
      · exact kills_dead args ρ H w hS b off len cap' e hm r hr' hin) hfree hr
    have hlt : ∀ b, b ∈ (Ren.kills args ρ).mbs → b < w.heap.size := by
      intro b hb'
      rcases List.mem_append.1 hb' with hb' | hb'
      · exact k1.fl b hb'
      · obtain ⟨c, r, g1, g2⟩ := own_mem hb'
        exact g2 ▸ k1.lt c r g1
    refine (hs.plainC h hrel hlt (hG.sub fun b hb => by
      rcases List.mem_append.1 hb with hb | hb
      · exact k3 b hb
      · simp [Ren.own] at hb)).mono ?_
    rintro e w' ⟨v, x, rfl, hK, hv, hE⟩
    rw [cd_iff] at hK
    cases hrs : v.noRS with
    | true =>
      exact ⟨v, x, H, ρ, rfl, hK.1 hrs, hS.quiet hE, hE.quiet, rfl, Rel.ofFree v x (.inl hrs) hv⟩
    | false =>
      refine ⟨v, x, _, _, rfl, hK.2 hrs, k1.quiet hE, k2.trans hE.quiet, k4, Rel.ofFree v x (.inr fun b hb => hb) hv⟩
  · exact h.elim
theorem evCall_sound {ρ : Ren} {w : World} {H : Heap} {fv : EV} {Fv : Value} {args : List EV} {xs : Array Value} {K : EV → Heap → Prop} (hFn : OkFn P E) (hS : Sim ρ H w) (hG : GOk E.gl ρ w)
    (hf : Rel ρ w fv Fv) (hr : RelL ρ w args xs.toList) (h : evCall E fv args H K) :
    ∃ f ys, (do let d ← Deferred.ofValue Fv xs; invoke d.target d.args : Sem Next).run P w = .ok (.enter f ys) w ∧
      Calls P f ys w fun e w' => ∃ v x H' ρ', e = .returned x ∧ K v H' ∧ Sim ρ' H' w' ∧ Ext ρ w ρ' w' ∧ ρ'.F = ρ.F ∧ Rel ρ' w' v x := by
  unfold evCall at h
  split at h
  · rename_i f cap
    simp only [Rel] at hf
    obtain ⟨vs, rfl, hcap⟩ := hf
    obtain ⟨fn, hfn, hb, hn, hc⟩ := evCallF_sound hFn hS hG (hr.append hcap) h
    refine ⟨f, xs ++ vs, ?_, ?_⟩
    · simp only [Deferred.ofValue, run_bind, run_pure, invoke, callFunc, run_program, hfn]
      rw [hn, hb]
      simp only [Bool.false_eq_true, if_false, run_pure]
      simp
    · rw [show (xs ++ vs) = (xs.toList ++ vs.toList).toArray from by simp]
      exact hc
  · rename_i f l
    simp only [Rel] at hf
    obtain ⟨vs, rfl, hcap⟩ := hf
    obtain ⟨fn, hfn, hb, hn, hc⟩ := evCallF_sound hFn hS hG (hcap.append hr) h
    refine ⟨f, vs ++ xs, ?_, ?_⟩
    · simp only [Deferred.ofValue, run_bind, run_pure, invoke, callFunc, run_program, hfn]
      rw [hn, hb]
      simp only [Bool.false_eq_true, if_false, run_pure]
      simp
    · rw [show (vs ++ xs) = (vs.toList ++ xs.toList).toArray from by simp]
      exact hc
  · exact h.elim
end sound
end Go.Ev

/- The evaluator: regions, code, functions; and that it is sound. -/
set_option linter.unusedVariables false
set_option linter.unusedSimpArgs false
namespace Go.Ev
open Go
def RelT (gl : Nat → Option EV) (ρ : Ren) (w : World) (s : List EV) (a : Array Value) : Prop :=
  s.length = a.size ∧ (∀ (i : Nat) v, s[i]? = some v → v = .undef ∨ ∃ x, a[i]? = some x ∧ Rel ρ w v x) ∧ GOk gl ρ w
section sound
variable {P : Program} {E : Env}
theorem RelT.slot {ρ : Ren} {w : World} {s : St} {a : Act} (h : RelT E.gl ρ w s.tmps a.tmps) (t : Nat) : s.slot t = .undef ∨ Rel ρ w (s.slot t) (a.eval (.tmp t)) := by
  unfold St.slot
  cases hs : s.tmps[t]? with
  | none => exact .inl rfl
  | some v =>
    rcases h.2.1 t v hs with rfl | ⟨x, hx, hr⟩
    · exact .inl rfl
    · refine .inr ?_
      simp only [Option.getD_some, Act.eval, Array.getD_eq_getD_getElem?, hx]
      exact hr
theorem constV_rel {ρ : Ren} {w : World} (v : Value) : constV v = .undef ∨ Rel ρ w (constV v) v := by
  unfold constV
  split
  all_goals first
    | exact .inl rfl
    | exact .inr rfl
    | (refine .inr ?_; rename_i s; show Value.string s = .string ⟨s.data.toList.toArray⟩; simp)
theorem opd_rel {ρ : Ren} {w : World} {s : St} {a : Act} (h : RelT E.gl ρ w s.tmps a.tmps) (x : Operand) : (St.opd E s) x = .undef ∨ Rel ρ w ((St.opd E s) x) (a.eval x) := by
  cases x with
  | tmp t => exact h.slot t
  | const v => exact constV_rel v
  | global g =>
    simp only [St.opd]
    cases hg : E.gl g with
    | none => exact .inl rfl
    | some v => exact .inr (h.2.2 g v hg).2.1
  | func f => refine .inr ?_; simp only [St.opd, Rel, Act.eval]; exact ⟨#[], rfl, rfl⟩
theorem opd_ok {ρ : Ren} {w : World} {s : St} {a : Act} (h : RelT E.gl ρ w s.tmps a.tmps) {x : Operand} {v : EV} (he : (St.opd E s) x = v) (hv : v ≠ .undef) : Rel ρ w v (a.eval x) := by
  rcases opd_rel h x with h' | h'
  · exact absurd (he.symm.trans h') hv
  · exact he ▸ h'
theorem nilEq_run {w : World} {op : BinOp} {t : TypeId} {X Y : Value} {b : Bool} {K : EV → Prop} (h1 : ∀ k n, X ≠ .int k n) (h2 : ∀ s, X ≠ .string s) (h3 : ∀ k n, X ≠ .float k n) (h4 : ∀ k n m, X ≠ .complex k n m)
    (he : (Op.equalIn 10000 t X Y).run P w = .ok b w) (h : nilEq op b K) : ∃ v z, K v ∧ (∀ ρ w, Rel ρ w v z) ∧ (binOp op t X Y).run P w = .ok z w := by
  cases op <;> simp only [nilEq] at h
  case eql => exact ⟨_, _, h, fun ρ w => rfl, run_binOp_eql h1 h2 h3 h4 he⟩
  case neq => exact ⟨_, _, h, fun ρ w => rfl, run_binOp_neq h1 h2 h3 h4 he⟩
theorem nilK_of {o : Operand} : (nilK o = 1 → o = .const (.pointer none)) ∧ (nilK o = 2 → o = .const .nilIface) := by
  unfold nilK
  split <;> simp
theorem tdIs_1 {t : TypeId} (hE : ∀ t ti, E.ty t = some ti → OkTI P t ti) (h : tdIs E t 1 = true) : ∃ e, P.underlying t = some (.pointer e) := by
  unfold tdIs at h
  split at h
  · rename_i ti ht
    obtain ⟨d, i, z, h1, h2, h3, _⟩ := hE t ti ht
    split at h
    · exact absurd h (by decide)
    · rename_i htd; rw [htd] at h3; cases d <;> simp only [tdOk] at h3
      exact ⟨_, h1⟩
    · cases h
  · cases h
theorem tdIs_0 {t : TypeId} (hE : ∀ t ti, E.ty t = some ti → OkTI P t ti) (h : tdIs E t 0 = true) : ∃ e, P.underlying t = some (.interface e) := by
  unfold tdIs at h
  split at h
  · rename_i ti ht
    obtain ⟨d, i, z, h1, h2, h3, _⟩ := hE t ti ht
    split at h
    · rename_i htd; rw [htd] at h3; cases d <;> simp only [tdOk] at h3
      exact ⟨_, h1⟩
    · exact absurd h (by decide)
    · cases h
  · cases h
theorem evCmp_sound {ρ : Ren} {w : World} {op : BinOp} {t : TypeId} {x y : EV} {X Y : Value} {H : Heap} {K : EV → Prop} {ox oy : Operand} (hE : ∀ t ti, E.ty t = some ti → OkTI P t ti) (hS : Sim ρ H w)
    (hx : Rel ρ w x X) (hy : Rel ρ w y Y) (hY : ∀ v, oy = .const v → Y = v) (h : evCmp E op t oy x y H K) :
    ∃ v z, K v ∧ (∀ ρ w, Rel ρ w v z) ∧ (do eqGuard op t ox oy X Y; binOp op t X Y : Sem Value).run P w = .ok z w := by
  unfold evCmp at h
  cases h1 : Nat.beq (nilK oy) 1 with
  | true =>
    rw [h1] at h
    simp only [cond_true] at h
    have ho := nilK_of.1 (Nat.eq_of_beq_eq_true h1)
    obtain rfl := hY _ ho
    unfold evPN at h
    split at h
    · cases h2 : tdIs E t 1 with
      | false => rw [h2] at h; exact h.elim
      | true =>
        rw [h2] at h
        obtain ⟨e, hu⟩ := tdIs_1 hE h2
        simp only [Rel] at hx; subst hx
        have hg : (eqGuard op t ox oy (.pointer none) (.pointer none)).run P w = .ok () w := run_eqGuard_of (by simp)
        simp only [run_bind, hg]
        exact nilEq_run (by simp) (by simp) (by simp) (by simp) (by rw [Op.equalIn]; simp only [run_bind, run_underlying hu]; rfl) h
    · cases h2 : tdIs E t 1 with
      | false => rw [h2] at h; exact h.elim
      | true =>
        rw [h2] at h
        simp only [cond_true] at h
        obtain ⟨e, hu⟩ := tdIs_1 hE h2
        rcases evNil_sound (K := fun _ => nilEq op false K) hS hx h with ⟨h3, a, rfl⟩ | ⟨h3, f, fs, vs, rfl⟩ | ⟨h3, t', y', rfl⟩
        · have hg : (eqGuard op t ox oy (.pointer (some a)) (.pointer none)).run P w = .ok () w := run_eqGuard_of (by simp)
          simp only [run_bind, hg]
          exact nilEq_run (by simp) (by simp) (by simp) (by simp) (by rw [Op.equalIn]; simp only [run_bind, run_underlying hu]; rfl) h3
        · simp only [Rel] at hx; obtain ⟨_, hx, _⟩ := hx; cases hx
        · simp only [Rel] at hx; obtain ⟨_, hx, _⟩ := hx; cases hx
    · exact h.elim
  | false =>
    rw [h1] at h
    simp only [cond_false] at h
    cases h2 : Nat.beq (nilK oy) 2 with
    | false => rw [h2] at h; exact evBin_sound hE hx hy h
    | true =>
      rw [h2] at h
      simp only [cond_true] at h
      have ho := nilK_of.2 (Nat.eq_of_beq_eq_true h2)
      obtain rfl := hY _ ho
      unfold evIN at h
      split at h
      · cases h3 : tdIs E t 0 with
        | false => rw [h3] at h; exact h.elim
        | true =>
          rw [h3] at h
          obtain ⟨e, hu⟩ := tdIs_0 hE h3
          simp only [Rel] at hx; subst hx
          have hg : (eqGuard op t ox oy .nilIface .nilIface).run P w = .ok () w := by
            subst ho
            unfold eqGuard
            cases op <;> first | rfl | (cases ox <;> rfl)
          simp only [run_bind, hg]
          exact nilEq_run (by simp) (by simp) (by simp) (by simp) (by rw [Op.equalIn]; simp only [run_bind, run_underlying hu]; rfl) h
      · cases h3 : tdIs E t 0 with
        | false => rw [h3] at h; exact h.elim
        | true =>
          rw [h3] at h
          obtain ⟨e, hu⟩ := tdIs_0 hE h3
          simp only [Rel] at hx; obtain ⟨y', rfl, _⟩ := hx
          have hg : ∀ t' , (eqGuard op t ox oy (.iface t' y') .nilIface).run P w = .ok () w := fun t' => run_eqGuard_of (by simp)
          simp only [run_bind, hg]
          exact nilEq_run (by simp) (by simp) (by simp) (by simp) (by rw [Op.equalIn]; simp only [run_bind, run_underlying hu]; rfl) h
      · exact h.elim
theorem RelT.ext {ρ ρ' : Ren} {w w' : World} {s : List EV} {a : Array Value} (h : RelT E.gl ρ w s a) (he : Ext ρ w ρ' w') : RelT E.gl ρ' w' s a :=
  ⟨h.1, fun i v hv => (h.2.1 i v hv).imp id fun ⟨x, hx, hr⟩ => ⟨x, hx, hr.ext he⟩, h.2.2.ext he⟩
theorem RelT.set {ρ : Ren} {w : World} {s : List EV} {a : Array Value} (h : RelT E.gl ρ w s a) (d : Nat) (v : EV) (x : Value) (hv : v = .undef ∨ Rel ρ w v x) : RelT E.gl ρ w (s.set d v) (a.setIfInBounds d x) := by
  refine ⟨by simp [h.1], fun i u hu => ?_, h.2.2⟩
  by_cases hi : i = d
  · subst hi
    rw [List.getElem?_set] at hu
    simp at hu
    obtain ⟨hlt, rfl⟩ := hu
    refine hv.imp id fun hr => ⟨x, ?_, hr⟩
    rw [Array.getElem?_setIfInBounds_self_of_lt (by rw [← h.1]; exact hlt)]
  · rw [map_some_ne _ _ _ _ hi] at hu
    refine (h.2.1 i u hu).imp id fun ⟨y, hy, hr⟩ => ⟨y, ?_, hr⟩
    rw [Array.getElem?_setIfInBounds_ne (fun e => hi e.symm)]; exact hy
theorem RelT.put {ρ : Ren} {w : World} {s : St} {a : Act} (h : RelT E.gl ρ w s.tmps a.tmps) (d : Option Nat) (v : EV) (x : Value) (H : Heap) (hv : v = .undef ∨ Rel ρ w v x) :
    RelT E.gl ρ w (s.put d v H).tmps (a.put d x).tmps := by
  cases d with
  | none => exact h
  | some d => exact h.set d v x hv
theorem opdL_rel {ρ : Ren} {w : World} {s : St} {a : Act} (h : RelT E.gl ρ w s.tmps a.tmps) : ∀ (xs : List Operand), (∀ v ∈ xs.map (St.opd E s), v ≠ .undef) → RelL ρ w (xs.map (St.opd E s)) (xs.map a.eval)
  | [], _ => rfl
  | x :: xs, hu => by
    simp only [List.map_cons, RelL]
    exact ⟨_, _, rfl, opd_ok h rfl (hu _ (by simp)), opdL_rel h xs fun v hv => hu v (by simp at hv ⊢; exact .inr hv)⟩
theorem freeL_undef : ∀ (l : List EV), EV.freeL l = true → ∀ v ∈ l, v ≠ .undef
  | v :: l, h, u, hu => by
    simp only [EV.freeL, Bool.and_eq_true] at h
    rcases List.mem_cons.1 hu with rfl | hu
    · intro e; subst e; simp [EV.free] at h
    · exact freeL_undef l h.2 u hu
theorem roArgs_undef {H : Heap} : ∀ (ms : List (Option IntKind)) (vs : List EV), EV.freeL (roArgs H ms vs) = true → ∀ v ∈ vs, v ≠ .undef
  | m :: ms, v :: vs, h, u, hu => by
    simp only [roArgs, EV.freeL, Bool.and_eq_true] at h
    rcases List.mem_cons.1 hu with rfl | hu
    · intro e; subst e
      cases m <;> simp [roArg, EV.free] at h
    · exact roArgs_undef ms vs h.2 u hu
  | [], vs, h, u, hu => by
    cases vs with
    | nil => cases hu
    | cons v vs => exact freeL_undef _ (by simpa [roArgs] using h) u hu
  | _ :: _, [], h, u, hu => by cases hu
theorem roArgs_dfd {H : Heap} : ∀ (ms : List (Option IntKind)) (vs : List EV), dfdL (roArgs H ms vs) = true → ∀ v ∈ vs, v ≠ .undef
  | m :: ms, v :: vs, h, u, hu => by
    simp only [roArgs, dfdL, Bool.and_eq_true] at h
    rcases List.mem_cons.1 hu with rfl | hu
    · intro e; subst e
      cases m <;> simp [roArg, EV.dfd] at h
    · exact roArgs_dfd ms vs h.2 u hu
  | [], vs, h, u, hu => by
    cases vs with
    | nil => cases hu
    | cons v vs => exact dfdL_ne (by simpa [roArgs] using h) u hu
  | _ :: _, [], h, u, hu => by cases hu
theorem parts_rel {ρ : Ren} {w : World} {s : St} {a : Act} (hT : RelT E.gl ρ w s.tmps a.tmps) {ps : List (Nat × Operand)} (hd : dfdL (ps.map fun p => (St.opd E s) p.2) = true) :
    ∀ (i : Nat) (u : Nat × EV) (y : Nat × Value), (ps.map fun p => (p.1, (St.opd E s) p.2))[i]? = some u → (ps.map fun p => (p.1, a.eval p.2))[i]? = some y → Rel ρ w u.2 y.2 := by
  intro i u y hu hy
  rw [List.getElem?_map] at hu hy
  cases hp : ps[i]? with
  | none => simp [hp] at hu
  | some p =>
    simp [hp] at hu hy
    subst hu; subst hy
    exact opd_ok hT rfl (dfdL_ne hd _ (List.mem_map.2 ⟨p, List.mem_of_getElem? hp, rfl⟩))
theorem evV_sound {ρ : Ren} {w : World} {s : St} {a : Act} {o : Oper} {K : EV → Prop} (hE : ∀ t ti, E.ty t = some ti → OkTI P t ti)
    (hT : RelT E.gl ρ w s.tmps a.tmps) (hS : Sim ρ s.heap w) (h : evV E o.op s K) :
    ∃ v x, K v ∧ (v = .undef ∨ Rel ρ w v x) ∧ (execOp a.eval o).run P w = .ok (.value x) w := by
  obtain ⟨dst, op, ty, pos, after, guard⟩ := o
  simp only at h
  unfold evV at h
  have hv : ∀ (m : Sem Value) (x : Value), m.run P w = .ok x w → ((do pure (.value (← m)) : Sem Next)).run P w = .ok (.value x) w := by
    intro m x hm
    simp only [run_bind, hm, run_pure]
  split at h
  · exact ⟨_, _, h, opd_rel hT _, rfl⟩
  · exact ⟨_, _, h, opd_rel hT _, rfl⟩
  · rename_i c xa xb
    split at h
    · rename_i t ht
      have hc := opd_ok hT ht (by simp)
      simp only [Rel] at hc
      rw [br_iff] at h
      cases t with
      | true => exact ⟨_, _, h.1 rfl, opd_rel hT xa, by simp [execOp, hc, asBool, run_bind, run_pure]⟩
      | false => exact ⟨_, _, h.2 rfl, opd_rel hT xb, by simp [execOp, hc, asBool, run_bind, run_pure]⟩
    · exact h.elim
  · rename_i t ps
    rw [gd_iff] at h
    obtain ⟨hd, h⟩ := h
    obtain ⟨v, z, h1, h2, h3⟩ := evBuild_sound (qs := ps.toList.map fun p => (p.1, a.eval p.2)) hE (by rw [List.map_map, List.map_map]; rfl) (parts_rel hT hd) h
    refine ⟨v, z, h1, .inr h2, ?_⟩
    have : (ps.map fun (p : Nat × Operand) => (p.1, a.eval p.2)) = (ps.toList.map fun p => (p.1, a.eval p.2)).toArray := by
      apply Array.ext'; rw [Array.toList_map]
    have h4 := hv _ _ h3
    rw [← this] at h4
    exact h4
  · rename_i t x
    by_cases hu : (St.opd E s) x = .undef
    · rw [hu] at h; exact h.elim
    · obtain ⟨u, y, h1, h2, h3⟩ := evLoad_sound hE hS (opd_ok hT rfl hu) h
      exact ⟨u, y, h1, .inr h2, hv _ _ h3⟩
  · rename_i op t x y _
    rw [gd_iff, Bool.and_eq_true] at h
    obtain ⟨v, z, h1, h2, h3⟩ := evCmp_sound (ox := x) (oy := y) hE hS (opd_ok hT rfl (dfd_ne h.1.1)) (opd_ok hT rfl (dfd_ne h.1.2)) (fun v hv => by subst hv; rfl) h.2
    exact ⟨v, z, h1, .inr (h2 _ _), hv _ _ h3⟩
  · rename_i op _ x
    by_cases hu : (St.opd E s) x = .undef
    · rw [hu] at h; cases op <;> exact h.elim
    · obtain ⟨v, z, h1, h2, h3⟩ := evUn_sound (opd_ok hT rfl hu) h
      exact ⟨v, z, h1, .inr (h2 _ _), hv _ _ h3⟩
  · rename_i src dst x
    rw [gd_iff] at h
    obtain ⟨v, z, h1, h2, h3⟩ := evConv_sound hE hS (opd_ok hT rfl (dfd_ne h.1)) h.2
    exact ⟨v, z, h1, .inr (h2 _ _), hv _ _ h3⟩
  · rename_i t x f
    rw [gd_iff] at h
    obtain ⟨v, z, h1, h2, h3⟩ := evFieldAddr_sound hE hS (opd_ok hT rfl (dfd_ne h.1)) h.2
    exact ⟨v, z, h1, .inr h2, hv _ _ h3⟩
  · rename_i t x f
    rw [gd_iff] at h
    obtain ⟨v, z, h1, h2, h3⟩ := evField_sound hE (opd_ok hT rfl (dfd_ne h.1)) h.2
    exact ⟨v, z, h1, .inr h2, hv _ _ h3⟩
  · rename_i t x i
    rw [gd_iff, Bool.and_eq_true] at h
    obtain ⟨v, z, h1, h2, h3⟩ := evIndexAddr_sound hE hS (opd_ok hT rfl (dfd_ne h.1.1)) (opd_ok hT rfl (dfd_ne h.1.2)) h.2
    exact ⟨v, z, h1, .inr h2, hv _ _ h3⟩
  · rename_i t x i
    rw [gd_iff, Bool.and_eq_true] at h
    obtain ⟨v, z, h1, h2, h3⟩ := evIndex_sound hE (opd_ok hT rfl (dfd_ne h.1.1)) (opd_ok hT rfl (dfd_ne h.1.2)) h.2
    exact ⟨v, z, h1, .inr h2, hv _ _ h3⟩
  · rename_i x i
    by_cases hu : (St.opd E s) x = .undef
    · rw [hu] at h; exact h.elim
    · obtain ⟨v, z, h1, h2, h3⟩ := evExtract_sound (opd_ok hT rfl hu) h
      exact ⟨v, z, h1, .inr h2, hv _ _ h3⟩
  · rename_i f cs
    rw [gd_iff] at h
    refine ⟨_, .func (.func f) #[] (cs.map a.eval), h.2, .inr ?_, by simp [execOp, Instr.makeFunc, run_bind, run_pure]⟩
    simp only [Rel]
    exact ⟨_, rfl, by rw [Array.toList_map]; exact opdL_rel hT _ (dfdL_ne h.1)⟩
  · rename_i t x lo hi mx
    rw [gd_iff] at h
    simp only [Bool.and_eq_true] at h
    obtain ⟨⟨d1, d2, d3, d4⟩, h⟩ := h
    have ho : ∀ (q : Option Operand), dfdO (q.map (St.opd E s)) = true → ORel ρ w (q.map (St.opd E s)) (q.map a.eval) := by
      intro q hq
      cases q with
      | none => trivial
      | some q => exact opd_ok hT rfl (dfd_ne hq)
    obtain ⟨v, z, h1, h2, h3⟩ := evSlice_sound hE hS (opd_ok hT rfl (dfd_ne d1)) (ho lo d2) (ho hi d3) (ho mx d4) h
    exact ⟨v, z, h1, .inr h2, hv _ _ h3⟩
  · rename_i x t
    rw [gd_iff] at h
    obtain ⟨v, z, h1, h2, h3⟩ := evLen_sound (ty := ty) hE (opd_ok hT rfl (dfd_ne h.1)) h.2
    refine ⟨v, z, h1, .inr (h2 _ _), ?_⟩
    simp only [execOp, resolve, run_bind, run_pure, invoke, builtin]
    have : (⟨[x]⟩ : Array Operand).map a.eval = #[a.eval x] := by simp
    rw [this, h3]
  · rename_i xs ts
    rw [gd_iff] at h
    obtain ⟨v, z, y, ys', h1, h2, h3, h4⟩ := evMM_sound (P := P) (f2 := Builtin.max2) max2_run (opdL_rel hT xs.toList (dfdL_ne h.1)) h.2
    refine ⟨v, z, h1, .inr h2, ?_⟩
    simp only [execOp, resolve, run_bind, run_pure, invoke, builtin]
    have : (Builtin.max_ ts ty (xs.map a.eval)).run P w = .ok z w := by
      simp only [Builtin.max_, Array.toList_map, h3]
      exact h4
    rw [this]
  · rename_i xs ts
    rw [gd_iff] at h
    obtain ⟨v, z, y, ys', h1, h2, h3, h4⟩ := evMM_sound (P := P) (f2 := Builtin.min2) min2_run (opdL_rel hT xs.toList (dfdL_ne h.1)) h.2
    refine ⟨v, z, h1, .inr h2, ?_⟩
    simp only [execOp, resolve, run_bind, run_pure, invoke, builtin]
    have : (Builtin.min_ ts ty (xs.map a.eval)).run P w = .ok z w := by
      simp only [Builtin.min_, Array.toList_map, h3]
      exact h4
    rw [this]
  · rename_i x
    rw [gd_iff] at h
    have hx := opd_ok hT (x := x) rfl (dfd_ne h.1)
    rcases evNil_sound hS hx h.2 with ⟨h1, b, h2⟩ | ⟨h1, f, fs, vs, h2⟩ | ⟨h1, t, y, h2⟩
    · exact ⟨_, a.eval x, h1, .inr hx, by simp only [execOp]; rw [h2]; rfl⟩
    · exact ⟨_, a.eval x, h1, .inr hx, by simp only [execOp]; rw [h2]; rfl⟩
    · exact ⟨_, a.eval x, h1, .inr hx, by simp only [execOp]; rw [h2]; rfl⟩
  · rename_i f fs _
    rw [gd_iff] at h
    refine ⟨_, .func (.func f) (fs.map a.eval) #[], h.2, .inr ?_, by simp [execOp, Instr.makeFunc, run_bind, run_pure]⟩
    simp only [Rel]
    exact ⟨_, rfl, by rw [Array.toList_map]; exact opdL_rel hT _ (dfdL_ne h.1)⟩
  · exact h.elim
theorem evOp_sound {ρ : Ren} {w : World} {s : St} {a : Act} {o : Oper} {K : EV → Heap → Prop} {next : Act → World → Prop} {Q : Exit → Act → World → Prop}
    (hE : ∀ t ti, E.ty t = some ti → OkTI P t ti) (hFn : OkFn P E) (hT : RelT E.gl ρ w s.tmps a.tmps) (hS : Sim ρ s.heap w) (h : evOp E o.op s K)
    (hn : ∀ v H ρ' w' x, K v H → (v = .undef ∨ Rel ρ' w' v x) → Sim ρ' H w' → Ext ρ w ρ' w' → ρ'.F = ρ.F → next (a.put o.dst x) w') : o.wp P a w next Q := by
  obtain ⟨dst, op, ty, pos, after, guard⟩ := o
  simp only at h hn
  unfold evOp at h
  have hv : ∀ (m : Sem Value) (x : Value) (w' : World), m.run P w = .ok x w' → ((do pure (.value (← m)) : Sem Next)).run P w = .ok (.value x) w' := by
    intro m x w' hm
    simp only [run_bind, hm, run_pure]
  split at h
  · rename_i t
    split at h
    · rename_i ti ht
      obtain ⟨d, it, z, h1, h2, h3, h4, h5, h6, h7⟩ := hE t ti ht
      obtain ⟨u, H', ρ', w', y, k1, k2, k3, k4, k5, k6⟩ := evNew_sound (P := P) t hS (encV_rel ti.zero z h7) h
      have hr : (execOp a.eval { dst, op := .alloc t, type := ty, pos, after, guard }).run P w = .ok (.value (.pointer (some y))) w' := by
        refine hv _ _ _ ?_
        simp only [Instr.alloc, run_bind, run_zeroValue h2 h6, k6, run_pure]
      simp only [Oper.wp, hr, Oper.upon]
      exact hn _ _ _ _ _ k1 (.inr k5) k2 k3 k4
    · exact h.elim
  · rename_i t x
    have hx : (St.opd E s) x ≠ .undef := by
      intro e; rw [e] at h; exact h.elim
    have h' : evNew s.heap ((St.opd E s) x) K := by
      revert h
      cases hq : (St.opd E s) x <;> intro h <;> first | exact absurd hq hx | exact h
    obtain ⟨u, H', ρ', w', y, k1, k2, k3, k4, k5, k6⟩ := evNew_sound (P := P) t hS (opd_ok hT rfl hx) h'
    have hr : (execOp a.eval { dst, op := .box t x, type := ty, pos, after, guard }).run P w = .ok (.value (.pointer (some y))) w' := by
      refine hv _ _ _ ?_
      simp only [Instr.box, run_bind, k6, run_pure]
    simp only [Oper.wp, hr, Oper.upon]
    exact hn _ _ _ _ _ k1 (.inr k5) k2 k3 k4
  · rename_i t n ps
    rw [gd_iff] at h
    obtain ⟨hd, h⟩ := h
    obtain ⟨u, H', ρ', w', y, k1, k2, k3, k4, k5, k6⟩ := evBuildSlice_sound (qs := ps.toList.map fun p => (p.1, a.eval p.2)) hE hS (by rw [List.map_map, List.map_map]; rfl) (parts_rel hT hd) h
    have e1 : (ps.map fun (p : Nat × Operand) => (p.1, a.eval p.2)) = (ps.toList.map fun p => (p.1, a.eval p.2)).toArray := by
      apply Array.ext'; rw [Array.toList_map]
    have hr : (execOp a.eval { dst, op := .buildSlice t n ps, type := ty, pos, after, guard }).run P w = .ok (.value y) w' := by
      have h4 := hv _ _ _ k6
      rw [← e1] at h4
      exact h4
    simp only [Oper.wp, hr, Oper.upon]
    exact hn _ _ _ _ _ k1 (.inr k5) k2 k3 k4
  · rename_i t x y
    have hx : (St.opd E s) x ≠ .undef := by
      intro e; rw [e] at h; exact h.elim
    have hy : (St.opd E s) y ≠ .undef := by
      intro e
      rw [e] at h
      revert h
      cases (St.opd E s) x <;> intro h <;> try exact h.elim
      simp only [evStore] at h
      split at h
      · split at h
        · simp [gd, EV.storable] at h
        · exact h.elim
      · exact h.elim
    obtain ⟨H', w', k1, k2, k3, k4⟩ := evStore_sound hE hS (opd_ok hT rfl hx) (opd_ok hT rfl hy) h
    have hr : (execOp a.eval { dst, op := .store t x y, type := ty, pos, after, guard }).run P w = .ok .skip w' := by
      show ((do Instr.storeAt t (a.eval x) (a.eval y); pure .skip : Sem Next)).run P w = _
      simp only [run_bind, k4, run_pure]
    simp only [Oper.wp, hr, Oper.upon]
    exact hn _ _ _ _ undef k1 (.inl rfl) k2 k3 rfl
  · rename_i t ln cp
    rw [gd_iff, Bool.and_eq_true] at h
    obtain ⟨⟨d1, d2⟩, h⟩ := h
    obtain ⟨u, H', ρ', w', y, k1, k2, k3, k4, k5, k6⟩ := evMakeSlice_sound (P := P) hE hS (opd_ok hT rfl (dfd_ne d1)) (opd_ok hT rfl (dfd_ne d2)) h
    have hr : (execOp a.eval { dst, op := .makeSlice t ln cp, type := ty, pos, after, guard }).run P w = .ok (.value y) w' := hv _ _ _ k6
    simp only [Oper.wp, hr, Oper.upon]
    exact hn _ _ _ _ _ k1 (.inr k5) k2 k3 k4
  · rename_i f xs ts
    have hf : (St.opd E s) f ≠ .undef := by
      intro e; rw [e] at h; exact h.elim
    have hxs : ∀ v ∈ xs.toList.map (St.opd E s), v ≠ .undef := by
      have key : ∀ (g : FuncId) (l : List EV) (K : EV → Heap → Prop), evCallF E g l s.heap K → ∀ v ∈ l, v ≠ .undef := by
        intro g l K h
        unfold evCallF at h
        split at h
        · rename_i en he
          rw [cd_iff] at h
          intro v hv'
          cases hl : en.lend with
          | true =>
            have h' := h.1 hl
            unfold evCallL at h'
            rw [gd_iff, Bool.and_eq_true] at h'
            exact roArgs_dfd _ _ h'.1.1 v hv'
          | false =>
            have h' := h.2 hl
            rw [gd_iff] at h'
            exact roArgs_undef _ _ h'.1 v hv'
        · exact h.elim
      revert h
      cases hq : (St.opd E s) f <;> intro h <;> try exact h.elim
      · intro v hv'; exact key _ _ _ h v (List.mem_append.2 (.inl hv'))
      · intro v hv'; exact key _ _ _ h v (List.mem_append.2 (.inr hv'))
    obtain ⟨g, ys, k1, k2⟩ := evCall_sound (xs := xs.map a.eval) hFn hS hT.2.2 (opd_ok hT rfl hf) (by rw [Array.toList_map]; exact opdL_rel hT _ hxs) h
    have hr : (execOp a.eval { dst, op := .call { callee := .value f, args := xs, argTypes := ts }, type := ty, pos, after, guard }).run P w = .ok (.enter g ys) w := k1
    simp only [Oper.wp, hr, Oper.upon]
    refine k2.mono ?_
    rintro e w' ⟨v, x, H', ρ', rfl, q1, q2, q3, q4, q5⟩
    exact hn _ _ _ _ _ q1 (.inr q5) q2 q3 q4
  · rename_i x y t u
    rw [gd_iff, Bool.and_eq_true] at h
    obtain ⟨⟨d1, d2⟩, h⟩ := h
    obtain ⟨u', H', ρ', w', z, k1, k2, k3, k4, k5, k6⟩ := evAppend_sound (P := P) (ty := ty) hE hS (opd_ok hT rfl (dfd_ne d1)) (opd_ok hT rfl (dfd_ne d2)) h
    have hr : (execOp a.eval { dst, op := .call { callee := .builtin .append, args := ⟨[x, y]⟩, argTypes := ⟨[t, u]⟩ }, type := ty, pos, after, guard }).run P w = .ok (.value z) w' := by
      simp only [execOp, resolve, run_bind, run_pure, invoke, builtin]
      have : (⟨[x, y]⟩ : Array Operand).map a.eval = #[a.eval x, a.eval y] := by simp
      rw [this, k6]
    simp only [Oper.wp, hr, Oper.upon]
    exact hn _ _ _ _ _ k1 (.inr k5) k2 k3 k4
  · rename_i x y t u
    rw [gd_iff, Bool.and_eq_true] at h
    obtain ⟨⟨d1, d2⟩, h⟩ := h
    obtain ⟨u', H', w', z, k1, k2, k3, k4, k5⟩ := evCopy_sound (P := P) (t' := u) (ty := ty) hE hS (opd_ok hT rfl (dfd_ne d1)) (opd_ok hT rfl (dfd_ne d2)) h
    have hr : (execOp a.eval { dst, op := .call { callee := .builtin .copy, args := ⟨[x, y]⟩, argTypes := ⟨[t, u]⟩ }, type := ty, pos, after, guard }).run P w = .ok (.value z) w' := by
      simp only [execOp, resolve, run_bind, run_pure, invoke, builtin]
      have : (⟨[x, y]⟩ : Array Operand).map a.eval = #[a.eval x, a.eval y] := by simp
      rw [this, k5]
    simp only [Oper.wp, hr, Oper.upon]
    exact hn _ _ _ _ _ k1 (.inr k4) k2 k3 rfl
  · obtain ⟨v, x, k1, k2, k3⟩ := evV_sound (o := { dst, op, type := ty, pos, after, guard }) hE hT hS h
    simp only [Oper.wp, k3, Oper.upon]
    exact hn _ _ _ _ _ k1 k2 hS (Ext.refl _ _) rfl
end sound
def evOne (E : Env) (ops : List Oper) (o : Oper) (s : St) (K : St → Prop) : Prop :=
  match o.guard with
  | none => evOp E o.op s fun v H => K (s.put o.dst v H)
  | some (j, want) => match ops[j]? with
    | some oj => match oj.dst with
      | some d => match s.slot d with
        | .bool b => br b
            (cond (beqB true want) (evOp E o.op (s.put (some d) (.bool true) s.heap) fun v H => K ((s.put (some d) (.bool true) s.heap).put o.dst v H)) (K ((s.put (some d) (.bool true) s.heap).put o.dst (.tuple []) s.heap)))
            (cond (beqB false want) (evOp E o.op (s.put (some d) (.bool false) s.heap) fun v H => K ((s.put (some d) (.bool false) s.heap).put o.dst v H)) (K ((s.put (some d) (.bool false) s.heap).put o.dst (.tuple []) s.heap)))
        | .tuple [] => K (s.put o.dst (.tuple []) s.heap)
        | _ => False
      | none => False
    | none => False
def evOps (E : Env) (ops : List Oper) : List Oper → St → (St → Prop) → Prop
  | [], s, K => K s
  | o :: r, s, K => evOne E ops o s fun s' => evOps E ops r s' K
section sound
variable {P : Program} {E : Env}
theorem put_same {s : List EV} {d : Nat} {v : EV} (h : s[d]? = some v) : s.set d v = s := by
  apply List.ext_getElem?
  intro i
  by_cases hi : i = d
  · subst hi
    have hlt : i < s.length := by
      rcases Nat.lt_or_ge i s.length with hh | hh
      · exact hh
      · rw [List.getElem?_eq_none hh] at h; cases h
    rw [List.getElem?_set_self hlt, h]
  · rw [map_some_ne _ _ _ _ hi]
theorem slot_some {s : St} {d : Nat} {v : EV} (h : s.slot d = v) (hv : v ≠ .undef) : s.tmps[d]? = some v := by
  unfold St.slot at h
  cases hs : s.tmps[d]? with
  | none => rw [hs] at h; exact absurd h.symm hv
  | some u => rw [hs] at h; simpa using h
theorem evOp_defer {c : Call} {s : St} {K : EV → Heap → Prop} (h : evOp E (.defer c) s K) : False := by
  unfold evOp evV at h
  exact h
theorem evOne_gen {ρ : Ren} {w : World} {s : St} {a : Act} {ops : Array Oper} {i : Nat} {o : Oper} {K : St → Prop} {next : Act → World → Prop} {Q : Exit → Act → World → Prop}
    (hE : ∀ t ti, E.ty t = some ti → OkTI P t ti) (hFn : OkFn P E) (hi : ops[i]? = some o) (hT : RelT E.gl ρ w s.tmps a.tmps) (hS : Sim ρ s.heap w) (h : evOne E ops.toList o s K)
    (hn : ∀ s' ρ' w' a', K s' → RelT E.gl ρ' w' s'.tmps a'.tmps → a'.defers = a.defers → Sim ρ' s'.heap w' → Ext ρ w ρ' w' → ρ'.F = ρ.F → next a' w') :
    (Region.wanted o (yielded ops a.tmps) = true ∧ (∀ c, o.op ≠ .defer c) ∧ o.wp P a w next Q) ∨ (Region.wanted o (yielded ops a.tmps) = false ∧ next (a.put o.dst undef) w) := by
  have hput : ∀ (x : Value), (a.put o.dst x).defers = a.defers := by intro x; cases o.dst <;> rfl
  have run : ∀ (s1 : St), s1.heap = s.heap → RelT E.gl ρ w s1.tmps a.tmps → (evOp E o.op s1 fun v H => K (s1.put o.dst v H)) → (∀ c, o.op ≠ .defer c) ∧ o.wp P a w next Q := by
    intro s1 hh hT1 h1
    refine ⟨fun c hc => evOp_defer (hc ▸ h1), ?_⟩
    refine evOp_sound hE hFn hT1 (hh ▸ hS) h1 ?_
    intro v H ρ' w' x hK hv hS' hX hF
    refine hn _ _ _ _ hK ((hT1.ext hX).put o.dst v x H hv) (hput x) ?_ hX hF
    cases o.dst <;> exact hS'
  unfold evOne at h
  split at h
  · rename_i hg
    have : Region.wanted o (yielded ops a.tmps) = true := by simp [Region.wanted, hg]
    exact .inl ⟨this, run s rfl hT h⟩
  · rename_i j want hg
    split at h
    · rename_i oj hj
      split at h
      · rename_i d hd
        split at h
        · rename_i b hb
          have hsl := slot_some hb (by simp)
          have hby : yielded ops a.tmps j = some b := by
            rcases hT.2.1 d _ hsl with h' | ⟨x, hx, hr⟩
            · cases h'
            · simp only [Rel] at hr; subst hr
              have hj' : ops[j]? = some oj := by rw [Array.getElem?_toList] at hj; exact hj
              simp [yielded, hj', hd, hx]
          have hw : Region.wanted o (yielded ops a.tmps) = beqB b want := by
            simp only [Region.wanted, hg, hby]
            cases b <;> cases want <;> rfl
          have hset : s.put (some d) (.bool b) s.heap = s := by
            simp only [St.put, put_same hsl]
          rw [br_iff] at h
          have h2 : cond (beqB b want) (evOp E o.op s fun v H => K (s.put o.dst v H)) (K (s.put o.dst (.tuple []) s.heap)) := by
            cases b with
            | true => have := h.1 rfl; rw [hset] at this; exact this
            | false => have := h.2 rfl; rw [hset] at this; exact this
          rw [cd_iff] at h2
          rw [hw]
          cases hbw : beqB b want with
          | true => exact .inl ⟨rfl, run s rfl hT (h2.1 hbw)⟩
          | false =>
            refine .inr ⟨rfl, ?_⟩
            refine hn _ ρ w _ (h2.2 hbw) (hT.put o.dst (.tuple []) undef s.heap (.inr ⟨#[], rfl, rfl⟩)) (hput _) ?_ (Ext.refl _ _) rfl
            cases o.dst <;> exact hS
        · rename_i hb
          have hsl := slot_some hb (by simp)
          have hby : yielded ops a.tmps j = none := by
            rcases hT.2.1 d _ hsl with h' | ⟨x, hx, hr⟩
            · cases h'
            · simp only [Rel, RelL] at hr
              obtain ⟨vs, rfl, hv⟩ := hr
              have hj' : ops[j]? = some oj := by rw [Array.getElem?_toList] at hj; exact hj
              simp [yielded, hj', hd, hx]
          have hw : Region.wanted o (yielded ops a.tmps) = false := by
            simp only [Region.wanted, hg, hby]
            rfl
          rw [hw]
          refine .inr ⟨rfl, ?_⟩
          refine hn _ ρ w _ h (hT.put o.dst (.tuple []) undef s.heap (.inr ⟨#[], rfl, rfl⟩)) (hput _) ?_ (Ext.refl _ _) rfl
          cases o.dst <;> exact hS
        · exact h.elim
      · exact h.elim
    · exact h.elim
theorem evOne_sound {ρ : Ren} {w : World} {s : St} {a : Act} {ops : Array Oper} {i : Nat} {o : Oper} {K : St → Prop} {next : Act → World → Prop} {Q : Exit → Act → World → Prop}
    (hE : ∀ t ti, E.ty t = some ti → OkTI P t ti) (hFn : OkFn P E) (hi : ops[i]? = some o) (hT : RelT E.gl ρ w s.tmps a.tmps) (hS : Sim ρ s.heap w) (h : evOne E ops.toList o s K)
    (hn : ∀ s' ρ' w' a', K s' → RelT E.gl ρ' w' s'.tmps a'.tmps → a'.defers = a.defers → Sim ρ' s'.heap w' → Ext ρ w ρ' w' → ρ'.F = ρ.F → next a' w') : wpOp P ops Q i next a w := by
  unfold wpOp
  simp only [hi]
  rcases evOne_gen (next := next) (Q := Q) hE hFn hi hT hS h hn with ⟨h1, _, h2⟩ | ⟨h1, h2⟩
  · rw [if_pos h1]; exact .inl h2
  · rw [if_neg (by rw [h1]; exact Bool.false_ne_true)]; exact h2
theorem evOps_sound {ops : Array Oper} {Q : Exit → Act → World → Prop} (hE : ∀ t ti, E.ty t = some ti → OkTI P t ti) (hFn : OkFn P E) :
    ∀ (r : List Oper) (i : Nat), ops.toList.drop i = r → ∀ (ρ : Ren) (w : World) (s : St) (a : Act) (K : St → Prop), RelT E.gl ρ w s.tmps a.tmps → Sim ρ s.heap w → evOps E ops.toList r s K →
      (∀ s' ρ' w' a', K s' → RelT E.gl ρ' w' s'.tmps a'.tmps → a'.defers = a.defers → Sim ρ' s'.heap w' → Ext ρ w ρ' w' → ρ'.F = ρ.F → Q .normal a' w') →
      wpOps P ops Q (List.range' i r.length) a w
  | [], i, hd, ρ, w, s, a, K, hT, hS, h, hn => by
    simp only [List.length_nil, List.range'_zero, wpOps]
    exact hn s ρ w a h hT rfl hS (Ext.refl _ _) rfl
  | o :: r, i, hd, ρ, w, s, a, K, hT, hS, h, hn => by
    have hio : ops[i]? = some o := by
      have := congrArg (fun l => l[0]?) hd
      simpa using this
    have hdr : ops.toList.drop (i + 1) = r := by
      rw [← List.drop_drop, hd]; rfl
    rw [List.length_cons, List.range'_succ, wpOps_cons]
    simp only [evOps] at h
    refine evOne_sound hE hFn hio hT hS h ?_
    intro s' ρ' w' a' hK hT' hD hS' hX hF
    refine evOps_sound hE hFn r (i + 1) hdr ρ' w' s' a' K hT' hS' hK ?_
    intro s'' ρ'' w'' a'' hK' hT'' hD' hS'' hX' hF'
    exact hn s'' ρ'' w'' a'' hK' hT'' (hD'.trans hD) hS'' (hX.trans hX') (hF'.trans hF)
end sound
end Go.Ev

/- The evaluator: what it comes to is one thing alone. -/
set_option linter.unusedVariables false
set_option linter.unusedSimpArgs false
namespace Go.Ev
open Go
def Det {α : Type} (T : (α → Prop) → Prop) : Prop := ∀ K, T K → ∃ v, K v ∧ ∀ K', K' v → T K'
def Det2 {α β : Type} (T : (α → β → Prop) → Prop) : Prop := ∀ K, T K → ∃ v u, K v u ∧ ∀ K', K' v u → T K'
theorem Det.mono {α : Type} {T : (α → Prop) → Prop} (h : Det T) {K K' : α → Prop} (hT : T K) (hK : ∀ v, K v → K' v) : T K' := by
  obtain ⟨v, h1, h2⟩ := h K hT
  exact h2 K' (hK v h1)
theorem det_false {α : Type} : Det (fun _ : α → Prop => False) := fun _ h => h.elim
theorem det_pure {α : Type} (v : α) : Det (fun K => K v) := fun K h => ⟨v, h, fun _ h => h⟩
theorem det_gd {α : Type} {c : Bool} {T : (α → Prop) → Prop} (h : Det T) : Det (fun K => gd c (T K)) := by
  cases c
  · exact det_false
  · exact h
theorem det_and {α : Type} {c : Bool} {T : (α → Prop) → Prop} (h : Det T) : Det (fun K => c = true ∧ T K) := by
  intro K hK
  obtain ⟨v, h1, h2⟩ := h K hK.2
  exact ⟨v, h1, fun K' h' => ⟨hK.1, h2 K' h'⟩⟩
theorem det_br {α : Type} {c : Bool} {T U : (α → Prop) → Prop} (h : Det T) (k : Det U) : Det (fun K => br c (T K) (U K)) := by
  cases c
  · exact k
  · exact h
theorem det_cond {α : Type} {c : Bool} {T U : (α → Prop) → Prop} (h : Det T) (k : Det U) : Det (fun K => cond c (T K) (U K)) := by
  cases c
  · exact k
  · exact h
theorem det_bind {α β : Type} {T : (α → Prop) → Prop} {U : α → (β → Prop) → Prop} (h : Det T) (k : ∀ v, Det (U v)) : Det (fun K => T fun v => U v K) := by
  intro K hT
  obtain ⟨v, h1, h2⟩ := h _ hT
  obtain ⟨u, h3, h4⟩ := k v K h1
  exact ⟨u, h3, fun K' hk => h2 _ (h4 K' hk)⟩
theorem det_map {α β : Type} {T : (α → Prop) → Prop} (f : α → β) (h : Det T) : Det (fun K : β → Prop => T fun v => K (f v)) :=
  det_bind h fun v => det_pure (f v)
variable {E : Env}
theorem det_evLoad {t : TypeId} {v : EV} {H : Heap} : Det (evLoad E t v H) := by
  intro K h
  unfold evLoad at h
  split at h
  · rw [gd_iff] at h
    exact ⟨_, h.2, fun K' hk => by simp only [evLoad, gd_iff]; exact ⟨h.1, hk⟩⟩
  · split at h
    · split at h
      · rename_i h1 _ _ h2
        rw [gd_iff] at h
        exact ⟨_, h.2, fun K' hk => by simp only [evLoad, h1, h2, gd_iff]; exact ⟨h.1, hk⟩⟩
      · exact h.elim
    · exact h.elim
  · exact h.elim
theorem det_intBin {op : BinOp} {k : IntKind} {a b : Int} : Det (intBin op k a b) := by
  cases op
  all_goals first
    | exact det_pure _
    | exact det_gd (det_pure _)
theorem det_strBin {op : BinOp} {a b : List UInt8} : Det (strBin op a b) := by
  cases op
  all_goals first
    | exact det_pure _
    | exact det_gd (det_pure _)
    | exact det_false
theorem det_evBin {op : BinOp} {t : TypeId} {x y : EV} : Det (evBin E op t x y) := by
  have hd : Det (fun K : EV → Prop => match op with
    | .eql => match eqT E 100 t x y with
      | some b => K (.bool b)
      | none => False
    | .neq => match eqT E 100 t x y with
      | some b => K (.bool (!b))
      | none => False
    | _ => False) := by
    generalize eqT E 100 t x y = o
    cases op <;> cases o
    all_goals first
      | exact det_false
      | exact det_pure _
  cases x <;> cases y
  case int.int k a k' b =>
    cases op
    all_goals first
      | exact det_gd (det_pure _)
      | exact det_cond det_intBin det_false
  case str.str => exact det_strBin
  all_goals exact hd
theorem det_evUn {op : UnOp} {x : EV} : Det (evUn op x) := by
  cases op <;> cases x
  all_goals first
    | exact det_false
    | exact det_pure _
theorem det_evConv {src dst : TypeId} {x : EV} {H : Heap} : Det (evConv E src dst x H) := by
  unfold evConv
  cases E.ty src with
  | none => exact det_false
  | some si =>
    cases E.ty dst with
    | none => exact det_false
    | some di =>
      obtain ⟨td, _, _, _⟩ := di
      obtain ⟨sd, _, _, _⟩ := si
      cases td
      case int k => cases x <;> first | exact det_false | exact det_pure _
      case str =>
        cases x
        case str => exact det_pure _
        all_goals
          dsimp only
          cases sd
          case slice e =>
            refine det_cond ?_ det_false
            generalize evWin H _ = o
            rcases o with _ | ⟨k, n, g⟩
            · first | exact det_false | exact det_pure _
            · cases k <;> first | exact det_pure _ | exact det_false
          all_goals exact det_false
      all_goals exact det_false
theorem det_pickL {f : Nat → EV → (EV → Prop) → Prop} (hf : ∀ j u, Det (f j u)) : ∀ (l : List EV) (j : Nat) (i : Int), Det (fun K => pickL (fun j u => f j u K) l j i)
  | [], _, _ => det_false
  | u :: l, j, i => det_br (hf j u) (det_pickL hf l (j + 1) i)
theorem det_evIndex {t : TypeId} {x i : EV} : Det (evIndex E t x i) := by
  unfold evIndex
  cases E.ty t with
  | none => exact det_false
  | some ti =>
    cases i
    case int k i =>
      obtain ⟨td, _, _, _⟩ := ti
      cases td <;> cases x
      case array.arr => exact det_cond (det_gd (det_pure _)) det_false
      case array.agg => exact det_cond (det_pickL (fun _ u => det_gd (det_pure u)) _ _ _) det_false
      case str.str => exact det_gd (det_pure _)
      all_goals exact det_false
    all_goals exact det_false
theorem det_evField {t : TypeId} {x : EV} {f : Nat} : Det (evField E t x f) := by
  unfold evField
  cases E.ty t with
  | none => exact det_false
  | some ti =>
    obtain ⟨td, _, _, _⟩ := ti
    cases td <;> cases x
    case struct.agg fs l =>
      dsimp only
      cases fs[f]? with
      | none => exact det_false
      | some p =>
        obtain ⟨o, ft⟩ := p
        cases l[f]? with
        | none => exact det_false
        | some u => exact det_gd (det_pure _)
    all_goals exact det_false
theorem det_nilEq {op : BinOp} {b : Bool} : Det (nilEq op b) := by
  unfold nilEq
  cases op <;> first | exact det_pure _ | exact det_false
theorem det_evNil {x : EV} {H : Heap} : Det (evNil x H) := by
  unfold evNil
  cases x
  case ptr b p =>
    dsimp only
    cases H[b]? with
    | none => exact det_false
    | some q =>
      cases q with
      | none => exact det_false
      | some c =>
        dsimp only
        cases EV.get p c with
        | none => exact det_false
        | some _ => exact det_pure _
  case rref v => exact det_pure _
  case func f l => exact det_pure _
  case bnd f l => exact det_pure _
  case iface t v => exact det_pure _
  all_goals exact det_false
theorem det_evCmp {op : BinOp} {t : TypeId} {o : Operand} {x y : EV} {H : Heap} : Det (evCmp E op t o x y H) := by
  unfold evCmp
  refine det_cond ?_ (det_cond ?_ det_evBin)
  · unfold evPN
    cases x
    case nilPtr => exact det_cond det_nilEq det_false
    case ptr b q => exact det_cond (fun K hK => by
      obtain ⟨v, h1, h2⟩ := det_evNil _ hK
      obtain ⟨u, h3, h4⟩ := det_nilEq _ h1
      exact ⟨u, h3, fun K' hk => h2 _ (h4 _ hk)⟩) det_false
    all_goals exact det_false
  · unfold evIN
    cases x
    case nilIface => exact det_cond det_nilEq det_false
    case iface => exact det_cond det_nilEq det_false
    all_goals exact det_false
theorem det_evFieldAddr {t : TypeId} {x : EV} {f : Nat} {H : Heap} : Det (evFieldAddr E t x f H) := by
  unfold evFieldAddr
  cases E.ty t with
  | none => exact det_false
  | some ti =>
    obtain ⟨td, _, _, _⟩ := ti
    cases td
    case struct fs =>
      dsimp only
      cases fs[f]? with
      | none => exact det_false
      | some p =>
        obtain ⟨o, ft⟩ := p
        dsimp only
        cases E.ty ft with
        | none => exact det_false
        | some fi =>
          cases x
          case ptr b p =>
            dsimp only
            rcases H[b]? with _ | _ | c
            · exact det_false
            · exact det_false
            · dsimp only
              cases EV.get p c with
              | none => exact det_false
              | some u => exact det_gd (det_pure _)
          case rref v =>
            cases v
            case agg l =>
              dsimp only
              cases l[f]? with
              | none => exact det_false
              | some u => exact det_gd (det_pure _)
            all_goals exact det_false
          all_goals exact det_false
    all_goals exact det_false
theorem det_evIndexAddr {t : TypeId} {x i : EV} {H : Heap} : Det (evIndexAddr E t x i H) := by
  unfold evIndexAddr
  cases E.ty t with
  | none => exact det_false
  | some ti =>
    cases i
    case int k i =>
      obtain ⟨td, _, _, _⟩ := ti
      cases td
      case array n e =>
        dsimp only
        cases E.ty e with
        | none => exact det_false
        | some ei =>
          cases x
          case ptr b p =>
            dsimp only
            rcases H[b]? with _ | _ | c
            · exact det_false
            · exact det_false
            · dsimp only
              rcases EV.get p c with _ | u
              · exact det_false
              · cases u
                case arr => exact det_cond (det_gd (det_pure _)) det_false
                case agg => exact det_cond (det_pickL (fun j _ => det_pure (EV.ptr b (p ++ [j]))) _ _ _) det_false
                all_goals exact det_false
          case rref u =>
            cases u
            case arr => exact det_cond (det_and (det_pure _)) det_false
            all_goals exact det_false
          all_goals exact det_false
      case slice e =>
        dsimp only
        cases E.ty e with
        | none => exact det_false
        | some ei =>
          cases x
          case slice b off len cap es =>
            dsimp only
            rcases H[b]? with _ | _ | c
            · exact det_false
            · exact det_false
            · refine det_gd ?_
              cases c
              case agg => exact det_pickL (fun j _ => det_pure (EV.ptr b [off + j])) _ _ _
              all_goals exact det_pure _
          case rsI => exact det_gd (det_pure _)
          all_goals exact det_false
      all_goals exact det_false
    all_goals exact det_false
theorem det_evExtract {x : EV} {i : Nat} : Det (evExtract x i) := by
  cases x
  case tuple l =>
    unfold evExtract
    dsimp only
    cases l[i]? with
    | none => exact det_false
    | some v => exact det_pure _
  all_goals exact det_false
theorem det_evBuild {t : TypeId} {ps : List (Nat × EV)} : Det (evBuild E t ps) := by
  unfold evBuild
  cases E.ty t with
  | none => exact det_false
  | some ti =>
    obtain ⟨td, _, _, z⟩ := ti
    refine det_gd ?_
    cases td
    case struct fs =>
      dsimp only
      generalize evParts _ ps z = o
      cases o with
      | none => exact det_false
      | some v => exact det_gd (det_pure _)
    case array n e =>
      dsimp only
      cases szOf E e with
      | none => exact det_false
      | some n =>
        dsimp only
        generalize evParts _ ps z = o
        cases o with
        | none => exact det_false
        | some v => exact det_pure _
    all_goals exact det_false
theorem det_evLen {t : TypeId} {x : EV} : Det (evLen E t x) := by
  unfold evLen
  cases E.ty t with
  | none => exact det_false
  | some ti =>
    obtain ⟨td, _, _, _⟩ := ti
    cases td <;> cases x
    all_goals first
      | exact det_false
      | exact det_pure _
theorem det_evMM {f : Int → Int → Int} {xs : List EV} : Det (evMM f xs) := by
  unfold evMM
  cases xs with
  | nil => exact det_false
  | cons x r =>
    dsimp only
    cases foldMM f x r with
    | none => exact det_false
    | some v => exact det_pure _
theorem det_evSlice {t : TypeId} {x : EV} {lo hi mx : Option EV} {H : Heap} : Det (evSlice E t x lo hi mx H) := by
  unfold evSlice
  split
  case h_2 => exact det_false
  split
  · split
    · exact det_gd (det_pure _)
    · exact det_false
  · split
    · exact det_gd (det_pure _)
    · exact det_false
  · split
    · exact det_gd (det_pure _)
    · exact det_false
  · split
    · exact det_gd (det_pure _)
    · exact det_false
  · split
    · exact det_gd (det_pure _)
    · exact det_false
  · exact det_false
theorem det_evV {o : Op} {s : St} : Det (evV E o s) := by
  unfold evV
  split
  case h_1 => exact det_pure _
  case h_2 => exact det_pure _
  case h_3 c a b =>
    cases (St.opd E s) c
    case bool t => exact det_br (det_pure _) (det_pure _)
    all_goals exact det_false
  case h_4 => exact det_gd det_evBuild
  case h_5 => exact det_evLoad
  case h_6 => exact det_gd det_evCmp
  case h_7 => exact det_evUn
  case h_8 => exact det_gd det_evConv
  case h_9 => exact det_gd det_evFieldAddr
  case h_10 => exact det_gd det_evField
  case h_11 => exact det_gd det_evIndexAddr
  case h_12 => exact det_gd det_evIndex
  case h_13 => exact det_evExtract
  case h_14 => exact det_gd (det_pure _)
  case h_15 => exact det_gd det_evSlice
  case h_16 => exact det_gd det_evLen
  case h_17 => exact det_gd det_evMM
  case h_18 => exact det_gd det_evMM
  case h_19 => exact det_gd det_evNil
  case h_20 => exact det_gd (det_pure _)
  case h_21 => exact det_false
theorem Det2.of {α β : Type} {T : (α → β → Prop) → Prop} (h : Det (fun K : α × β → Prop => T fun a b => K (a, b))) : Det2 T := by
  intro K hT
  obtain ⟨⟨v, u⟩, h1, h2⟩ := h (fun p => K p.1 p.2) hT
  exact ⟨v, u, h1, fun K' hk => h2 (fun p => K' p.1 p.2) hk⟩
theorem Det2.to {α β : Type} {T : (α → β → Prop) → Prop} (h : Det2 T) : Det (fun K : α × β → Prop => T fun a b => K (a, b)) := by
  intro K hT
  obtain ⟨v, u, h1, h2⟩ := h _ hT
  exact ⟨(v, u), h1, fun K' hk => h2 _ hk⟩
theorem Det2.mono {α β : Type} {T : (α → β → Prop) → Prop} (h : Det2 T) {K K' : α → β → Prop} (hT : T K) (hK : ∀ v u, K v u → K' v u) : T K' := by
  obtain ⟨v, u, h1, h2⟩ := h K hT
  exact h2 K' (hK v u h1)
theorem det_evBuildSlice {t : TypeId} {n : Nat} {ps : List (Nat × EV)} {H : Heap} : Det2 (evBuildSlice E t n ps H) := by
  refine Det2.of ?_
  unfold evBuildSlice
  cases E.ty t with
  | none => exact det_false
  | some ti =>
    obtain ⟨td, _, _, _⟩ := ti
    cases td
    case slice e =>
      dsimp only
      cases E.ty e with
      | none => exact det_false
      | some ei =>
        obtain ⟨_, sz, _, z⟩ := ei
        refine det_gd ?_
        cases z
        all_goals
          refine det_gd ?_
          generalize evParts _ ps _ = o
          cases o with
          | none => exact det_false
          | some v => exact det_pure (_, _)
    all_goals exact det_false
theorem det_evStore {t : TypeId} {a v : EV} {H : Heap} : Det (evStore E t a v H) := by
  unfold evStore
  cases a
  case ptr b p =>
    dsimp only
    rcases H[b]? with _ | _ | c
    · exact det_false
    · exact det_false
    · dsimp only
      cases EV.set p c v with
      | none => exact det_false
      | some c' => exact det_gd (det_pure _)
  all_goals exact det_false
theorem det_evMakeSlice {t : TypeId} {l c : EV} {H : Heap} : Det2 (evMakeSlice E t l c H) := by
  refine Det2.of ?_
  unfold evMakeSlice
  split
  case h_2 => exact det_false
  split
  case h_2 => exact det_false
  split
  case h_2 => exact det_false
  split
  case h_2 => exact det_false
  exact det_gd (det_pure (_, _))
theorem det_evCopy {t : TypeId} {d x : EV} {H : Heap} : Det2 (evCopy E t d x H) := by
  refine Det2.of ?_
  unfold evCopy
  split
  case h_2 => exact det_false
  split
  case h_2 => exact det_false
  exact det_gd (det_pure (_, _))
theorem det_evAppend {t t' : TypeId} {s x : EV} {H : Heap} : Det2 (evAppend E t t' s x H) := by
  refine Det2.of ?_
  unfold evAppend
  split
  case h_2 => exact det_false
  split
  case h_2 => exact det_false
  split
  case h_2 => exact det_false
  split
  case h_2 => exact det_false
  refine det_gd ?_
  split
  · exact det_gd (det_br (det_pure (_, _)) (det_pure (_, _)))
  · split
    · exact det_gd (det_pure (_, _))
    · exact det_false
  · exact det_false
def DetFn (E : Env) : Prop := ∀ f en, E.fn f = some en → ∀ args H, Det2 (en.spec args H)
theorem det_evCallF (hD : DetFn E) {f : FuncId} {args : List EV} {H : Heap} : Det2 (evCallF E f args H) := by
    refine Det2.of ?_
    unfold evCallF
    cases he : E.fn f with
    | none => exact det_false
    | some en =>
      refine det_cond ?_ ?_
      · unfold evCallL
        refine det_gd ?_
        intro K hK
        obtain ⟨v, u, h1, h2⟩ := hD f en he _ _ _ hK
        rw [gd_iff] at h1
        refine ⟨_, h1.2, fun K' hk => h2 _ ?_⟩
        rw [gd_iff]
        exact ⟨h1.1, hk⟩
      · refine det_gd ?_
        intro K hK
        obtain ⟨v, u, h1, h2⟩ := hD f en he _ _ _ hK
        rw [gd_iff] at h1
        cases hv : v.noRS with
        | true =>
          rw [hv] at h1
          refine ⟨_, h1.2, fun K' hk => h2 _ ?_⟩
          rw [gd_iff, hv]
          exact ⟨h1.1, hk⟩
        | false =>
          rw [hv] at h1
          refine ⟨_, h1.2, fun K' hk => h2 _ ?_⟩
          rw [gd_iff, hv]
          exact ⟨h1.1, hk⟩
theorem det_evCall (hD : DetFn E) {f : EV} {args : List EV} {H : Heap} : Det2 (evCall E f args H) := by
  refine Det2.of ?_
  unfold evCall
  cases f
  case func f cap => exact (det_evCallF hD).to
  case bnd f l => exact (det_evCallF hD).to
  all_goals exact det_false
theorem det_evOp (hD : DetFn E) {o : Op} {s : St} : Det2 (evOp E o s) := by
  refine Det2.of ?_
  unfold evOp
  split
  · cases E.ty _ with
    | none => exact det_false
    | some ti => exact det_pure (_, _)
  · cases (St.opd E s) _
    case undef => exact det_false
    all_goals exact det_pure (_, _)
  · exact det_gd det_evBuildSlice.to
  · exact det_map (fun H => (EV.undef, H)) det_evStore
  · exact det_gd det_evMakeSlice.to
  · exact (det_evCall hD).to
  · exact det_gd det_evAppend.to
  · exact det_gd det_evCopy.to
  · exact det_map (fun v => (v, s.heap)) det_evV
theorem det_evOne (hD : DetFn E) {ops : List Oper} {o : Oper} {s : St} : Det (evOne E ops o s) := by
  unfold evOne
  cases o.guard with
  | none => exact det_map (fun p : EV × Heap => s.put o.dst p.1 p.2) (det_evOp hD).to
  | some g =>
    obtain ⟨j, want⟩ := g
    dsimp only
    cases ops[j]? with
    | none => exact det_false
    | some oj =>
      dsimp only
      cases oj.dst with
      | none => exact det_false
      | some d =>
        dsimp only
        cases s.slot d
        case bool b =>
          exact det_br (det_cond (det_map (fun p : EV × Heap => (s.put (some d) (.bool true) s.heap).put o.dst p.1 p.2) (det_evOp hD).to) (det_pure _))
            (det_cond (det_map (fun p : EV × Heap => (s.put (some d) (.bool false) s.heap).put o.dst p.1 p.2) (det_evOp hD).to) (det_pure _))
        case tuple l =>
          cases l with
          | nil => exact det_pure _
          | cons _ _ => exact det_false
        all_goals exact det_false
theorem det_evOps (hD : DetFn E) {ops : List Oper} : ∀ (r : List Oper) (s : St), Det (evOps E ops r s)
  | [], s => det_pure s
  | o :: r, s => by
    show Det (fun K => evOne E ops o s fun s' => evOps E ops r s' K)
    exact det_bind (det_evOne hD) fun s' => det_evOps hD r s'
end Go.Ev

/- The evaluator: the blocks' numbers, others: what it comes to is the same, with the other numbers. -/
set_option linter.unusedVariables false
set_option linter.unusedSimpArgs false
namespace Go.Ev
open Go
structure Shf (n m : Nat) (f : Nat → Nat) : Prop where
  inj : ∀ a b, f a = f b → a = b
  low : ∀ b, b < n → f b = b
  high : ∀ b, m ≤ b → f b = b
theorem Shf.lt {n m : Nat} {f : Nat → Nat} (h : Shf n m f) {b : Nat} (hb : b < m) : f b < m := by
  rcases Nat.lt_or_ge (f b) m with h1 | h1
  · exact h1
  · have := h.inj _ _ (h.high (f b) h1)
    omega
theorem Shf.lt' {n m : Nat} {f : Nat → Nat} (h : Shf n m f) {b : Nat} (hb : f b < m) : b < m := by
  rcases Nat.lt_or_ge b m with h1 | h1
  · exact h1
  · rw [h.high b h1] at hb; exact hb
theorem Shf.mono {n m m' : Nat} {f : Nat → Nat} (h : Shf n m f) (hm : m ≤ m') : Shf n m' f := ⟨h.inj, h.low, fun b hb => h.high b (by omega)⟩
theorem Shf.comp {n m : Nat} {f g : Nat → Nat} (h : Shf n m f) (k : Shf n m g) : Shf n m (fun b => g (f b)) :=
  ⟨fun a b e => h.inj _ _ (k.inj _ _ e), fun b hb => by rw [h.low b hb, k.low b hb], fun b hb => by rw [h.high b hb, k.high b hb]⟩
theorem Shf.id (n m : Nat) : Shf n m (fun b => b) := ⟨fun _ _ h => h, fun _ _ => rfl, fun _ _ => rfl⟩
def swp (n b : Nat) : Nat := if b = n then n + 1 else if b = n + 1 then n else b
theorem Shf.swp (k n m : Nat) (hk : k ≤ n) (hm : n + 2 ≤ m) : Shf k m (swp n) := by
  refine ⟨fun a b h => ?_, fun b hb => ?_, fun b hb => ?_⟩
  · unfold Ev.swp at h; split at h <;> split at h <;> (try split at h) <;> (try split at h) <;> omega
  · unfold Ev.swp; rw [if_neg (by omega), if_neg (by omega)]
  · unfold Ev.swp; rw [if_neg (by omega), if_neg (by omega)]
theorem renL_map (f : Nat → Nat) : ∀ (l : List EV), EV.renL f l = l.map (EV.ren f)
  | [] => rfl
  | v :: l => by simp only [EV.renL, List.map_cons, renL_map f l]
mutual
theorem ren_ren (f g : Nat → Nat) : ∀ (v : EV), (v.ren f).ren g = v.ren (fun b => g (f b))
  | .ptr _ _ => rfl
  | .slice _ _ _ _ _ => rfl
  | .rref v => by simp only [EV.ren, ren_ren f g v]
  | .agg l => by simp only [EV.ren, renL_renL f g l]
  | .tuple l => by simp only [EV.ren, renL_renL f g l]
  | .func _ l => by simp only [EV.ren, renL_renL f g l]
  | .bnd _ l => by simp only [EV.ren, renL_renL f g l]
  | .iface _ v => by simp only [EV.ren, ren_ren f g v]
  | .rsI _ _ _ => rfl | .undef => rfl
  | .bool _ => rfl | .int _ _ => rfl | .str _ => rfl | .nilPtr => rfl | .nilSlice => rfl | .nilFunc => rfl | .arr _ _ _ => rfl | .nilIface => rfl
theorem renL_renL (f g : Nat → Nat) : ∀ (l : List EV), EV.renL g (EV.renL f l) = EV.renL (fun b => g (f b)) l
  | [] => rfl
  | v :: l => by simp only [EV.renL, ren_ren f g v, renL_renL f g l]
end
mutual
theorem ren_id : ∀ (v : EV), v.ren (fun b => b) = v
  | .ptr _ _ => rfl
  | .slice _ _ _ _ _ => rfl
  | .rref v => by simp only [EV.ren, ren_id v]
  | .agg l => by simp only [EV.ren, renL_id l]
  | .tuple l => by simp only [EV.ren, renL_id l]
  | .func _ l => by simp only [EV.ren, renL_id l]
  | .bnd _ l => by simp only [EV.ren, renL_id l]
  | .iface _ v => by simp only [EV.ren, ren_id v]
  | .rsI _ _ _ => rfl | .undef => rfl
  | .bool _ => rfl | .int _ _ => rfl | .str _ => rfl | .nilPtr => rfl | .nilSlice => rfl | .nilFunc => rfl | .arr _ _ _ => rfl | .nilIface => rfl
theorem renL_id : ∀ (l : List EV), EV.renL (fun b => b) l = l
  | [] => rfl
  | v :: l => by simp only [EV.renL, ren_id v, renL_id l]
end
structure HR (f : Nat → Nat) (H H' : Heap) : Prop where
  len : H'.length = H.length
  get : ∀ (b : Nat), H'[f b]? = (H[b]?).map (renO f)
theorem HR.id (H : Heap) : HR (fun b => b) H H := ⟨rfl, fun b => by
  cases H[b]? with
  | none => rfl
  | some o => cases o <;> simp [renO, ren_id]⟩
theorem renO_renO (f g : Nat → Nat) (o : Option EV) : renO g (renO f o) = renO (fun b => g (f b)) o := by
  cases o <;> simp [renO, ren_ren]
theorem HR.comp {f g : Nat → Nat} {H H' H'' : Heap} (h : HR f H H') (k : HR g H' H'') : HR (fun b => g (f b)) H H'' := by
  refine ⟨k.len.trans h.len, fun b => ?_⟩
  rw [k.get, h.get]
  cases H[b]? with
  | none => rfl
  | some o => simp [renO_renO]
theorem HR.live {f : Nat → Nat} {H H' : Heap} (h : HR f H H') {b : Nat} {c : EV} (hb : H[b]? = some (some c)) : H'[f b]? = some (some (c.ren f)) := by
  rw [h.get, hb]; rfl
theorem HR.set {f : Nat → Nat} {H H' : Heap} (h : HR f H H') (hi : ∀ a b, f a = f b → a = b) (b : Nat) (o : Option EV) : HR f (H.set b o) (H'.set (f b) (renO f o)) := by
  refine ⟨by simp [h.len], fun c => ?_⟩
  by_cases hc : c = b
  · subst hc
    have := h.get c
    rw [List.getElem?_set, List.getElem?_set]
    simp only [if_true]
    by_cases hl : c < H.length
    · have h2 : f c < H'.length := by
        rcases Nat.lt_or_ge (f c) H'.length with h3 | h3
        · exact h3
        · rw [List.getElem?_eq_none h3, List.getElem?_eq_getElem hl] at this; cases this
      simp [hl, h2]
    · have h2 : ¬ f c < H'.length := by
        intro h3
        rw [List.getElem?_eq_getElem h3, List.getElem?_eq_none (by omega)] at this; cases this
      simp [hl, h2]
  · rw [List.getElem?_set_ne (fun e => hc e.symm), List.getElem?_set_ne (fun e => hc (hi _ _ e.symm)), h.get]
theorem HR.push {n : Nat} {f : Nat → Nat} {H H' : Heap} (h : HR f H H') (hs : Shf n H.length f) (o : Option EV) : HR f (H ++ [o]) (H' ++ [renO f o]) := by
  refine ⟨by simp [h.len], fun b => ?_⟩
  rcases Nat.lt_or_ge b H.length with hb | hb
  · rw [List.getElem?_append_left hb, List.getElem?_append_left (by rw [h.len]; exact hs.lt hb), h.get]
  · rw [hs.high b hb, List.getElem?_append_right hb, List.getElem?_append_right (by rw [h.len]; exact hb), h.len]
    cases hq : b - H.length with
    | zero => simp
    | succ k => simp
def KV (f : Nat → Nat) (K : EV → Prop) : EV → Prop := fun v' => ∃ v, v' = v.ren f ∧ K v
def KR (f : Nat → Nat) (n : Nat) (K : EV → Heap → Prop) : EV → Heap → Prop := fun v' H' => ∃ v H, v' = v.ren f ∧ HR f H H' ∧ n ≤ H.length ∧ K v H
def KH (f : Nat → Nat) (n : Nat) (K : Heap → Prop) : Heap → Prop := fun H' => ∃ H, HR f H H' ∧ n ≤ H.length ∧ K H
theorem renL_get (f : Nat → Nat) (l : List EV) (i : Nat) : (EV.renL f l)[i]? = (l[i]?).map (EV.ren f) := by rw [renL_map, List.getElem?_map]
theorem renL_length (f : Nat → Nat) (l : List EV) : (EV.renL f l).length = l.length := by rw [renL_map, List.length_map]
theorem renL_set (f : Nat → Nat) (l : List EV) (i : Nat) (y : EV) : (EV.renL f l).set i (y.ren f) = EV.renL f (l.set i y) := by rw [renL_map, renL_map, List.map_set]
theorem renL_append (f : Nat → Nat) (l r : List EV) : EV.renL f (l ++ r) = EV.renL f l ++ EV.renL f r := by simp [renL_map]
theorem aggLike_ren (f : Nat → Nat) (v : EV) : aggLike (v.ren f) = aggLike v := by cases v <;> rfl
theorem dfd_ren (f : Nat → Nat) (v : EV) : (v.ren f).dfd = v.dfd := by cases v <;> rfl
theorem dfdL_ren (f : Nat → Nat) : ∀ (l : List EV), dfdL (l.map (EV.ren f)) = dfdL l
  | [] => rfl
  | v :: l => by simp only [List.map_cons, dfdL, dfd_ren, dfdL_ren f l]
mutual
theorem storable_ren (f : Nat → Nat) : ∀ (v : EV), (v.ren f).storable = v.storable
  | .agg l => by simp only [EV.ren, EV.storable, storableL_ren f l]
  | .ptr _ _ => rfl | .slice _ _ _ _ _ => rfl | .rref _ => rfl | .tuple _ => rfl | .func _ _ => rfl | .bnd _ _ => rfl | .iface _ _ => rfl
  | .rsI _ _ _ => rfl | .undef => rfl
  | .bool _ => rfl | .int _ _ => rfl | .str _ => rfl | .nilPtr => rfl | .nilSlice => rfl | .nilFunc => rfl | .arr _ _ _ => rfl | .nilIface => rfl
theorem storableL_ren (f : Nat → Nat) : ∀ (l : List EV), EV.storableL (EV.renL f l) = EV.storableL l
  | [] => rfl
  | v :: l => by simp only [EV.renL, EV.storableL, storable_ren f v, storableL_ren f l]
end
mutual
theorem free_ren (f : Nat → Nat) : ∀ (v : EV), (v.ren f).free = v.free
  | .agg l => by simp only [EV.ren, EV.free, freeL_ren f l]
  | .tuple l => by simp only [EV.ren, EV.free, freeL_ren f l]
  | .func _ l => by simp only [EV.ren, EV.free, freeL_ren f l]
  | .bnd _ l => by simp only [EV.ren, EV.free, freeL_ren f l]
  | .iface _ v => by simp only [EV.ren, EV.free, free_ren f v]
  | .ptr _ _ => rfl | .slice _ _ _ _ _ => rfl | .rref _ => rfl
  | .rsI _ _ _ => rfl | .undef => rfl
  | .bool _ => rfl | .int _ _ => rfl | .str _ => rfl | .nilPtr => rfl | .nilSlice => rfl | .nilFunc => rfl | .arr _ _ _ => rfl | .nilIface => rfl
theorem freeL_ren (f : Nat → Nat) : ∀ (l : List EV), EV.freeL (EV.renL f l) = EV.freeL l
  | [] => rfl
  | v :: l => by simp only [EV.renL, EV.freeL, free_ren f v, freeL_ren f l]
end
theorem get_ren (f : Nat → Nat) : ∀ (p : List Nat) (v : EV), EV.get p (v.ren f) = (EV.get p v).map (EV.ren f)
  | [], v => by simp [EV.get]
  | i :: p, .agg l => by
    simp only [EV.ren, EV.get, renL_get]
    cases l[i]? with
    | none => rfl
    | some u => simp only [Option.map_some]; exact get_ren f p u
  | [i], .arr k n g => rfl
  | i :: j :: p, .arr k n g => rfl
  | i :: p, .undef => rfl
  | i :: p, .bool _ => rfl
  | i :: p, .int _ _ => rfl
  | i :: p, .str _ => rfl
  | i :: p, .nilPtr => rfl
  | i :: p, .ptr _ _ => rfl
  | i :: p, .rref _ => rfl
  | i :: p, .nilSlice => rfl
  | i :: p, .slice _ _ _ _ _ => rfl
  | i :: p, .rsI _ _ _ => rfl
  | i :: p, .nilFunc => rfl
  | i :: p, .func _ _ => rfl
  | i :: p, .bnd _ _ => rfl
  | i :: p, .tuple _ => rfl
  | i :: p, .nilIface => rfl
  | i :: p, .iface _ _ => rfl
theorem set_ren (f : Nat → Nat) : ∀ (p : List Nat) (v u : EV), EV.set p (v.ren f) (u.ren f) = (EV.set p v u).map (EV.ren f)
  | [], v, u => by
    simp only [EV.set, shape_ren]
    cases v.shape.beq u.shape <;> rfl
  | i :: p, .agg l, u => by
    simp only [EV.ren, EV.set, renL_get]
    cases l[i]? with
    | none => rfl
    | some x =>
      simp only [Option.map_some, set_ren f p x u]
      cases EV.set p x u with
      | none => rfl
      | some y => simp only [Option.map_some, renL_set, EV.ren]
  | [i], .arr k n g, u => by
    cases u <;> try rfl
    rename_i k' x
    simp only [EV.ren, EV.set]
    cases decide (k = k') <;> rfl
  | i :: j :: p, .arr k n g, u => rfl
  | i :: p, .undef, u => rfl
  | i :: p, .bool _, u => rfl
  | i :: p, .int _ _, u => rfl
  | i :: p, .str _, u => rfl
  | i :: p, .nilPtr, u => rfl
  | i :: p, .ptr _ _, u => rfl
  | i :: p, .rref _, u => rfl
  | i :: p, .nilSlice, u => rfl
  | i :: p, .slice _ _ _ _ _, u => rfl
  | i :: p, .rsI _ _ _, u => rfl
  | i :: p, .nilFunc, u => rfl
  | i :: p, .func _ _, u => rfl
  | i :: p, .bnd _ _, u => rfl
  | i :: p, .tuple _, u => rfl
  | i :: p, .nilIface, u => rfl
  | i :: p, .iface _ _, u => rfl
section eqv
variable {E : Env} {f : Nat → Nat}
theorem conf_ren (t : TypeId) (u : EV) : conf E t (u.ren f) = conf E t u := by simp only [conf, aggLike_ren, shape_ren]
theorem evLoad_eqv {t : TypeId} {v : EV} {H H' : Heap} {K : EV → Prop} (hH : HR f H H') (h : evLoad E t v H K) : evLoad E t (v.ren f) H' (KV f K) := by
  cases v <;> simp only [evLoad, EV.ren] at h ⊢
  case rref u =>
    rw [gd_iff] at h ⊢
    exact ⟨by rw [conf_ren]; exact h.1, _, rfl, h.2⟩
  case ptr b p =>
    split at h
    case h_2 => exact h.elim
    rename_i c hb
    rw [hH.live hb]
    simp only [get_ren]
    split at h
    case h_2 => exact h.elim
    rename_i u hu
    simp only [hu, Option.map_some]
    rw [gd_iff] at h ⊢
    exact ⟨by rw [conf_ren]; exact h.1, _, rfl, h.2⟩
theorem evStore_eqv {n : Nat} {t : TypeId} {a v : EV} {H H' : Heap} {K : Heap → Prop} (hs : Shf n H.length f) (hH : HR f H H') (h : evStore E t a v H K) : evStore E t (a.ren f) (v.ren f) H' (KH f H.length K) := by
  cases a <;> simp only [evStore, EV.ren] at h ⊢
  case ptr b p =>
    split at h
    case h_2 => exact h.elim
    rename_i c hb
    rw [hH.live hb]
    simp only [set_ren]
    split at h
    case h_2 => exact h.elim
    rename_i u hu
    simp only [hu, Option.map_some]
    rw [gd_iff] at h ⊢
    refine ⟨?_, H.set b (some u), hH.set hs.inj b (some u), by simp, h.2⟩
    rw [storable_ren, shape_ren]; exact h.1
theorem evNew_eqv {n : Nat} {v : EV} {H H' : Heap} {K : EV → Heap → Prop} (hs : Shf n H.length f) (hH : HR f H H') (h : evNew H v K) : evNew H' (v.ren f) (KR f H.length K) :=
  ⟨.ptr H.length [], H ++ [some v], by rw [EV.ren, hs.high _ (Nat.le_refl _), hH.len], hH.push hs (some v), by simp, h⟩
theorem eqL_ren {eq : TypeId → EV → EV → Option Bool} (he : ∀ t x y, eq t (x.ren f) (y.ren f) = eq t x y) : ∀ (fs : List (Nat × TypeId)) (o : Nat) (xs ys : List EV),
    eqL E eq fs o (EV.renL f xs) (EV.renL f ys) = eqL E eq fs o xs ys
  | [], _, [], [] => rfl
  | [], _, [], _ :: _ => rfl
  | [], _, _ :: _, [] => rfl
  | [], _, _ :: _, _ :: _ => rfl
  | _ :: _, _, [], [] => rfl
  | _ :: _, _, [], _ :: _ => rfl
  | _ :: _, _, _ :: _, [] => rfl
  | (o, t) :: fs, off, x :: xs, y :: ys => by
    simp only [EV.renL, eqL, shape_ren, conf_ren, he, eqL_ren he fs]
theorem renL_len : ∀ l : List EV, (EV.renL f l).length = l.length
  | [] => rfl
  | v :: l => by simp only [EV.renL, List.length_cons, renL_len l]
theorem eqA_ren {eq : TypeId → EV → EV → Option Bool} (he : ∀ t x y, eq t (x.ren f) (y.ren f) = eq t x y) (e : TypeId) (sz : Nat) : ∀ (xs ys : List EV),
    eqA E eq e sz (EV.renL f xs) (EV.renL f ys) = eqA E eq e sz xs ys
  | [], [] => rfl
  | [], _ :: _ => rfl
  | _ :: _, [] => rfl
  | x :: xs, y :: ys => by
    simp only [EV.renL, eqA, shape_ren, conf_ren, he, eqA_ren he e sz xs]
    cases xs <;> rfl
theorem eqT_ren : ∀ (d : Nat) (t : TypeId) (x y : EV), eqT E d t (x.ren f) (y.ren f) = eqT E d t x y
  | 0, _, _, _ => rfl
  | d + 1, t, x, y => by
    simp only [eqT]
    cases E.ty t with
    | none => rfl
    | some ti =>
      simp only
      cases ti.td
      case struct fs =>
        cases x <;> cases y <;> simp only [EV.ren]
        exact eqL_ren (eqT_ren d) fs 0 _ _
      case array n e =>
        cases x <;> cases y <;> simp only [EV.ren]
        cases E.ty e with
        | none => rfl
        | some ei => simp only [renL_len, eqA_ren (eqT_ren d)]
      all_goals (cases x <;> cases y <;> rfl)
theorem intBin_eqv {op : BinOp} {k : IntKind} {a b : Int} {K : EV → Prop} (h : intBin op k a b K) : intBin op k a b (KV f K) := by
  cases op <;> simp only [intBin, gd_iff] at h ⊢ <;> first | exact ⟨_, rfl, h⟩ | exact ⟨h.1, _, rfl, h.2⟩
theorem strBin_eqv {op : BinOp} {a b : List UInt8} {K : EV → Prop} (h : strBin op a b K) : strBin op a b (KV f K) := by
  cases op <;> simp only [strBin, gd_iff] at h ⊢ <;> first | exact h.elim | exact ⟨_, rfl, h⟩ | exact ⟨h.1, _, rfl, h.2⟩
theorem ren_int {x : EV} {k : IntKind} {a : Int} (h : x.ren f = .int k a) : x = .int k a := by cases x <;> simp [EV.ren] at h ⊢ <;> exact h
theorem ren_str {x : EV} {s : List UInt8} (h : x.ren f = .str s) : x = .str s := by cases x <;> simp [EV.ren] at h ⊢ <;> exact h
def eqRest (E : Env) (op : BinOp) (t : TypeId) (x y : EV) (K : EV → Prop) : Prop :=
  match op with
  | .eql => match eqT E 100 t x y with
    | some b => K (.bool b)
    | none => False
  | .neq => match eqT E 100 t x y with
    | some b => K (.bool (!b))
    | none => False
  | _ => False
theorem evBin_rest {op : BinOp} {t : TypeId} {x y : EV} {K : EV → Prop} (h1 : ∀ k a k' b, x = .int k a → y = .int k' b → False) (h2 : ∀ a b, x = .str a → y = .str b → False) :
    evBin E op t x y K = eqRest E op t x y K := by
  unfold evBin eqRest
  split
  · exact (h1 _ _ _ _ rfl rfl).elim
  · exact (h2 _ _ rfl rfl).elim
  · rfl
theorem eqRest_eqv {op : BinOp} {t : TypeId} {x y : EV} {K : EV → Prop} (h : eqRest E op t x y K) : eqRest E op t (x.ren f) (y.ren f) (KV f K) := by
  cases op <;> simp only [eqRest, eqT_ren] at h ⊢ <;> try exact h
  · cases hb : eqT E 100 t x y with
    | none => rw [hb] at h; exact h.elim
    | some b => rw [hb] at h; exact ⟨_, rfl, h⟩
  · cases hb : eqT E 100 t x y with
    | none => rw [hb] at h; exact h.elim
    | some b => rw [hb] at h; exact ⟨_, rfl, h⟩
theorem evBin_eqv {op : BinOp} {t : TypeId} {x y : EV} {K : EV → Prop} (h : evBin E op t x y K) : evBin E op t (x.ren f) (y.ren f) (KV f K) := by
  by_cases h1 : ∃ k a k' b, x = .int k a ∧ y = .int k' b
  · obtain ⟨k, a, k', b, rfl, rfl⟩ := h1
    cases op <;> simp only [evBin, EV.ren] at h ⊢
    all_goals first
      | (rw [gd_iff] at h ⊢; exact ⟨h.1, _, rfl, h.2⟩)
      | (rw [cd_iff] at h ⊢; exact ⟨fun e => intBin_eqv (h.1 e), h.2⟩)
  · by_cases h2 : ∃ a b, x = .str a ∧ y = .str b
    · obtain ⟨a, b, rfl, rfl⟩ := h2
      exact strBin_eqv h
    · rw [evBin_rest (fun k a k' b e1 e2 => h1 ⟨k, a, k', b, e1, e2⟩) (fun a b e1 e2 => h2 ⟨a, b, e1, e2⟩)] at h
      rw [evBin_rest (fun k a k' b e1 e2 => h1 ⟨k, a, k', b, ren_int e1, ren_int e2⟩) (fun a b e1 e2 => h2 ⟨a, b, ren_str e1, ren_str e2⟩)]
      exact eqRest_eqv h
theorem evUn_eqv {op : UnOp} {x : EV} {K : EV → Prop} (h : evUn op x K) : evUn op (x.ren f) (KV f K) := by
  cases op <;> cases x <;> simp only [evUn, EV.ren] at h ⊢ <;> first | exact h.elim | exact ⟨_, rfl, h⟩
theorem evWin_ren {H H' : Heap} (hH : HR f H H') (x : EV) : evWin H' (x.ren f) = evWin H x := by
  cases x <;> simp only [EV.ren, evWin]
  rename_i b off len cap e
  rw [hH.get]
  cases H[b]? with
  | none => rfl
  | some o =>
    cases o with
    | none => rfl
    | some c => cases c <;> rfl
def convRest (E : Env) (si : TI) (x : EV) (H : Heap) (K : EV → Prop) : Prop :=
  match si.td with
  | .slice e => cond (isIntTy E e .u8) (match evWin H x with
    | some (.u8, n, g) => K (.str (bytesOf n g))
    | _ => match x with
      | .nilSlice => K (.str [])
      | _ => False) False
  | _ => False
theorem convRest_eqv {si : TI} {x : EV} {H H' : Heap} {K : EV → Prop} (hH : HR f H H') (h : convRest E si x H K) : convRest E si (x.ren f) H' (KV f K) := by
  unfold convRest at h ⊢
  rw [evWin_ren hH]
  split at h
  case h_2 => exact h.elim
  rename_i e he
  rw [cd_iff] at h
  cases hi : isIntTy E e .u8 with
  | false => exact (h.2 hi).elim
  | true =>
    have h' := h.1 hi
    simp only [cond_true]
    split at h'
    · exact ⟨_, rfl, h'⟩
    · rename_i hw
      split at h'
      · exact ⟨_, rfl, h'⟩
      · exact h'.elim
theorem evConv_eqv {src dst : TypeId} {x : EV} {H H' : Heap} {K : EV → Prop} (hH : HR f H H') (h : evConv E src dst x H K) : evConv E src dst (x.ren f) H' (KV f K) := by
  unfold evConv at h ⊢
  cases hs : E.ty src with
  | none => rw [hs] at h; exact h.elim
  | some si =>
    cases hd : E.ty dst with
    | none => rw [hs, hd] at h; exact h.elim
    | some di =>
      rw [hs, hd] at h
      simp only at h ⊢
      cases htd : di.td <;> simp only [htd] at h ⊢ <;> try exact h.elim
      · cases x <;> simp only [EV.ren] at h ⊢ <;> first | exact h.elim | exact ⟨_, rfl, h⟩
      · rcases (show (∃ s, x = .str s ∧ K (.str s)) ∨ ((∀ s, x ≠ .str s) ∧ convRest E si x H K) from by
          cases x <;> first | exact .inl ⟨_, rfl, h⟩ | exact .inr ⟨(fun s e => by cases e), h⟩) with ⟨s, rfl, h⟩ | ⟨hne, h⟩
        · exact ⟨_, rfl, h⟩
        · have := convRest_eqv hH h
          revert this hne
          cases x <;> intro hne this <;> first | exact this | exact absurd rfl (hne _)
theorem pickL_eqv {F G : Nat → EV → Prop} (hF : ∀ j u, F j u → G j (u.ren f)) : ∀ (l : List EV) (j : Nat) (i : Int), pickL F l j i → pickL G (EV.renL f l) j i
  | [], _, _, h => h
  | u :: l, j, i, h => by
    simp only [pickL, EV.renL, br_iff] at h ⊢
    exact ⟨fun e => hF j u (h.1 e), fun e => pickL_eqv hF l (j + 1) i (h.2 e)⟩
theorem allSize_ren (n : Nat) : ∀ (l : List EV), allSize n (EV.renL f l) = allSize n l
  | [] => rfl
  | u :: l => by simp only [EV.renL, allSize, shape_ren, allSize_ren n l]
theorem evIndex_eqv {t : TypeId} {x i : EV} {K : EV → Prop} (h : evIndex E t x i K) : evIndex E t (x.ren f) (i.ren f) (KV f K) := by
  unfold evIndex at h ⊢
  split at h
  case h_2 => exact h.elim
  rename_i ti k i ht
  simp only [ht, EV.ren]
  split at h
  · rename_i n e k m g hq
    simp only [hq, EV.ren]
    rw [cd_iff] at h ⊢
    refine ⟨fun hc => ?_, fun hc => (h.2 hc).elim⟩
    have := h.1 hc
    rw [gd_iff] at this ⊢
    exact ⟨this.1, _, rfl, this.2⟩
  · rename_i n e l hq
    simp only [hq, EV.ren, renL_length]
    cases he : E.ty e <;> simp only [he, allSize_ren] at h ⊢ <;> rw [cd_iff] at h ⊢
    · exact ⟨fun hc => by simp at hc, fun hc => (h.2 hc).elim⟩
    refine ⟨fun hc => ?_, fun hc => (h.2 hc).elim⟩
    refine pickL_eqv (fun j u hu => ?_) l 0 i (h.1 hc)
    rw [gd_iff] at hu ⊢
    exact ⟨by rw [conf_ren]; exact hu.1, _, rfl, hu.2⟩
  · rename_i s hq
    simp only [hq, EV.ren]
    rw [gd_iff] at h ⊢
    exact ⟨h.1, _, rfl, h.2⟩
  · exact h.elim
theorem evField_eqv {t : TypeId} {x : EV} {i : Nat} {K : EV → Prop} (h : evField E t x i K) : evField E t (x.ren f) i (KV f K) := by
  unfold evField at h ⊢
  split at h
  case h_2 => exact h.elim
  rename_i ti ht
  split at h
  case h_2 => exact h.elim
  rename_i fs l hq
  simp only [hq, EV.ren, renL_get]
  split at h
  case h_2 => exact h.elim
  rename_i o ft u hf hl
  simp only [hf, hl, Option.map_some]
  rw [gd_iff] at h ⊢
  refine ⟨?_, _, rfl, h.2⟩
  rw [conf_ren]
  have : EV.shapeL ((EV.renL f l).take i) = EV.shapeL (l.take i) := by
    rw [renL_map, ← List.map_take, ← renL_map, shapeL_ren]
  rw [this]; exact h.1
theorem evFieldAddr_eqv {t : TypeId} {x : EV} {i : Nat} {H H' : Heap} {K : EV → Prop} (hH : HR f H H') (h : evFieldAddr E t x i H K) : evFieldAddr E t (x.ren f) i H' (KV f K) := by
  unfold evFieldAddr at h ⊢
  cases ht : E.ty t with
  | none => rw [ht] at h; exact h.elim
  | some ti =>
    rw [ht] at h
    simp only at h ⊢
    cases htd : ti.td <;> simp only [htd] at h ⊢ <;> try exact h.elim
    rename_i fs
    cases hf : fs[i]? with
    | none => rw [hf] at h; exact h.elim
    | some q =>
      obtain ⟨o, ft⟩ := q
      rw [hf] at h
      simp only at h ⊢
      cases hft : E.ty ft with
      | none => rw [hft] at h; exact h.elim
      | some fi =>
        rw [hft] at h
        simp only at h ⊢
        cases x <;> simp only [EV.ren] at h ⊢ <;> try exact h.elim
        case ptr b p =>
          cases hb : H[b]? with
          | none => rw [hb] at h; exact h.elim
          | some oc =>
            cases oc with
            | none => rw [hb] at h; exact h.elim
            | some c =>
              rw [hb] at h
              rw [hH.live hb]
              simp only [get_ren] at h ⊢
              cases hg : EV.get p c with
              | none => rw [hg] at h; exact h.elim
              | some u =>
                rw [hg] at h
                simp only [Option.map_some] at h ⊢
                rw [gd_iff] at h ⊢
                refine ⟨?_, _, rfl, h.2⟩
                rw [shape_ren]; exact h.1
        case rref v =>
          cases v <;> simp only [EV.ren] at h ⊢ <;> try exact h.elim
          rename_i l
          rw [renL_get]
          cases hl : l[i]? with
          | none => rw [hl] at h; exact h.elim
          | some u =>
            rw [hl] at h
            simp only [Option.map_some] at h ⊢
            rw [gd_iff] at h ⊢
            refine ⟨?_, _, rfl, h.2⟩
            have : EV.shapeL ((EV.renL f l).take i) = EV.shapeL (l.take i) := by
              rw [renL_map, ← List.map_take, ← renL_map, shapeL_ren]
            rw [this]; exact h.1
theorem evNil_eqv {x : EV} {H H' : Heap} {K : EV → Prop} (hH : HR f H H') (h : evNil x H K) : evNil (x.ren f) H' (KV f K) := by
  unfold evNil at h ⊢
  cases x <;> simp only [EV.ren] at h ⊢ <;> try exact h.elim
  case ptr b p =>
    cases hb : H[b]? with
    | none => rw [hb] at h; exact h.elim
    | some oc =>
      cases oc with
      | none => rw [hb] at h; exact h.elim
      | some c =>
        rw [hb] at h
        rw [hH.live hb]
        simp only [get_ren] at h ⊢
        cases hg : EV.get p c with
        | none => rw [hg] at h; exact h.elim
        | some u =>
          rw [hg] at h
          exact ⟨.ptr b p, rfl, h⟩
  case rref v => exact ⟨.rref v, rfl, h⟩
  case func g l => exact ⟨.func g l, rfl, h⟩
  case bnd g l => exact ⟨.bnd g l, rfl, h⟩
  case iface t v => exact ⟨.iface t v, rfl, h⟩
theorem nilEq_eqv {op : BinOp} {b : Bool} {K : EV → Prop} (h : nilEq op b K) : nilEq op b (KV f K) := by
  cases op <;> first | exact ⟨_, rfl, h⟩ | exact h.elim
theorem evCmp_eqv {op : BinOp} {t : TypeId} {o : Operand} {x y : EV} {H H' : Heap} {K : EV → Prop} (hH : HR f H H') (h : evCmp E op t o x y H K) : evCmp E op t o (x.ren f) (y.ren f) H' (KV f K) := by
  unfold evCmp at h ⊢
  cases h1 : Nat.beq (nilK o) 1 with
  | true =>
    rw [h1] at h
    simp only [cond_true] at h ⊢
    unfold evPN at h ⊢
    cases x <;> simp only [EV.ren] at h ⊢ <;> try exact h.elim
    · cases h2 : tdIs E t 1 with
      | true => rw [h2] at h; exact nilEq_eqv h
      | false => rw [h2] at h; exact h.elim
    · rename_i b q
      cases h2 : tdIs E t 1 with
      | true =>
        rw [h2] at h
        simp only [cond_true] at h ⊢
        have := evNil_eqv hH h
        simp only [EV.ren] at this
        unfold evNil at this ⊢
        simp only at this ⊢
        split at this
        · split at this
          · obtain ⟨_, _, hk⟩ := this
            exact nilEq_eqv hk
          · exact this.elim
        · exact this.elim
      | false => rw [h2] at h; exact h.elim
  | false =>
    rw [h1] at h
    simp only [cond_false] at h ⊢
    cases h2 : Nat.beq (nilK o) 2 with
    | true =>
      rw [h2] at h
      simp only [cond_true] at h ⊢
      unfold evIN at h ⊢
      cases x <;> simp only [EV.ren] at h ⊢ <;> try exact h.elim
      all_goals
        cases h3 : tdIs E t 0 with
        | true => rw [h3] at h; exact nilEq_eqv h
        | false => rw [h3] at h; exact h.elim
    | false => rw [h2] at h; exact evBin_eqv h
theorem evIndexAddr_eqv {t : TypeId} {x i : EV} {H H' : Heap} {K : EV → Prop} (hH : HR f H H') (h : evIndexAddr E t x i H K) : evIndexAddr E t (x.ren f) (i.ren f) H' (KV f K) := by
  unfold evIndexAddr at h ⊢
  cases ht : E.ty t with
  | none => rw [ht] at h; exact h.elim
  | some ti =>
    rw [ht] at h
    cases i <;> simp only [EV.ren] at h ⊢ <;> try exact h.elim
    rename_i ki i
    cases htd : ti.td <;> simp only [htd] at h ⊢ <;> try exact h.elim
    case slice e =>
      cases he : E.ty e with
      | none => rw [he] at h; exact h.elim
      | some ei =>
        rw [he] at h
        simp only at h ⊢
        cases x <;> simp only [EV.ren] at h ⊢ <;> try exact h.elim
        case slice b off len cap es =>
          cases hb : H[b]? with
          | none => rw [hb] at h; exact h.elim
          | some oc =>
            cases oc with
            | none => rw [hb] at h; exact h.elim
            | some c =>
              rw [hb] at h
              rw [hH.live hb]
              simp only at h ⊢
              rw [gd_iff] at h ⊢
              refine ⟨h.1, ?_⟩
              have h2 := h.2
              cases c <;> simp only [EV.ren] at h2 ⊢ <;> first | exact ⟨_, rfl, h2⟩ | skip
              rw [renL_map, ← List.map_drop, ← renL_map]
              exact pickL_eqv (fun j u hu => ⟨_, rfl, hu⟩) _ 0 i h2
        case rsI k n g =>
          rw [gd_iff] at h ⊢
          exact ⟨h.1, _, rfl, h.2⟩
    case array n e =>
      cases he : E.ty e with
      | none => rw [he] at h; exact h.elim
      | some ei =>
        rw [he] at h
        simp only at h ⊢
        cases x <;> simp only [EV.ren] at h ⊢ <;> try exact h.elim
        case ptr b p =>
          cases hb : H[b]? with
          | none => rw [hb] at h; exact h.elim
          | some oc =>
            cases oc with
            | none => rw [hb] at h; exact h.elim
            | some c =>
              rw [hb] at h
              rw [hH.live hb]
              simp only [get_ren] at h ⊢
              cases hg : EV.get p c with
              | none => rw [hg] at h; exact h.elim
              | some u =>
                rw [hg] at h
                simp only [Option.map_some] at h ⊢
                cases u <;> simp only [EV.ren] at h ⊢ <;> try exact h.elim
                case arr k m g =>
                  rw [cd_iff] at h ⊢
                  refine ⟨fun hc => ?_, h.2⟩
                  have := h.1 hc
                  rw [gd_iff] at this ⊢
                  exact ⟨this.1, _, rfl, this.2⟩
                case agg l =>
                  rw [renL_length, allSize_ren]
                  rw [cd_iff] at h ⊢
                  exact ⟨fun hc => pickL_eqv (fun j u hu => ⟨_, rfl, hu⟩) l 0 i (h.1 hc), h.2⟩
        case rref v =>
          cases v <;> simp only [EV.ren] at h ⊢ <;> try exact h.elim
          rename_i k m g
          rw [cd_iff] at h ⊢
          exact ⟨fun hc => ⟨(h.1 hc).1, _, rfl, (h.1 hc).2⟩, h.2⟩
theorem evExtract_eqv {x : EV} {i : Nat} {K : EV → Prop} (h : evExtract x i K) : evExtract (x.ren f) i (KV f K) := by
  cases x <;> simp only [evExtract, EV.ren] at h ⊢ <;> try exact h.elim
  rename_i l
  rw [renL_get]
  cases hl : l[i]? with
  | none => rw [hl] at h; exact h.elim
  | some u => rw [hl] at h; exact ⟨_, rfl, h⟩
def renP (f : Nat → Nat) (ps : List (Nat × EV)) : List (Nat × EV) := ps.map fun p => (p.1, p.2.ren f)
theorem evParts_ren (place : Nat → Option (Nat × Nat)) : ∀ (ps : List (Nat × EV)) (z : EV), evParts place (renP f ps) (z.ren f) = (evParts place ps z).map (EV.ren f)
  | [], z => rfl
  | (i, x) :: r, z => by
    have ih := fun z' => evParts_ren place r z'
    simp only [renP, List.map_cons, evParts, shape_ren, set_ren] at ih ⊢
    cases place i with
    | none => rfl
    | some q =>
      cases Shape.off [i] z.shape with
      | none => rfl
      | some o' =>
        cases EV.set [i] z x with
        | none => rfl
        | some z' =>
          simp only [Option.map_some]
          cases (Nat.beq q.fst o' && Nat.beq q.snd x.shape.size) with
          | false => rfl
          | true => simp only [cond_true, ih]
structure Closed (E : Env) : Prop where
  ty : ∀ t ti, E.ty t = some ti → ti.zero.inI [] = true
  gl : ∀ g v, E.gl g = some v → v.inI [] = true
theorem evBuild_eqv (hC : Closed E) {t : TypeId} {ps : List (Nat × EV)} {K : EV → Prop} (h : evBuild E t ps K) : evBuild E t (renP f ps) (KV f K) := by
  unfold evBuild at h ⊢
  cases ht : E.ty t with
  | none => rw [ht] at h; exact h.elim
  | some ti =>
    rw [ht] at h
    simp only at h ⊢
    have hz := ren_in (f := f) ti.zero (hC.ty t ti ht)
    rw [gd_iff] at h ⊢
    refine ⟨h.1, ?_⟩
    have h := h.2
    have hp : ∀ place, evParts place (renP f ps) ti.zero = (evParts place ps ti.zero).map (EV.ren f) := fun place => by
      have := evParts_ren (f := f) place ps ti.zero
      rwa [hz] at this
    cases htd : ti.td <;> simp only [htd] at h ⊢ <;> try exact h.elim
    case struct fs =>
      rw [hp]
      split at h
      · rename_i v hv
        simp only [hv, Option.map_some]
        rw [gd_iff] at h ⊢
        exact ⟨h.1, _, rfl, h.2⟩
      · exact h.elim
    case array n e =>
      split at h
      case h_2 => exact h.elim
      rename_i n he
      rw [hp]
      split at h
      · rename_i v hv
        simp only [hv, Option.map_some]
        exact ⟨_, rfl, h⟩
      · exact h.elim
theorem evBuildSlice_eqv (hC : Closed E) {k : Nat} {t : TypeId} {n : Nat} {ps : List (Nat × EV)} {H H' : Heap} {K : EV → Heap → Prop} (hs : Shf k H.length f) (hH : HR f H H') (h : evBuildSlice E t n ps H K) :
    evBuildSlice E t n (renP f ps) H' (KR f H.length K) := by
  have push : ∀ (v : EV) (off len : Nat) (cap : Option Nat) (e : Nat), K (.slice H.length off len cap e) (H ++ [some v]) → KR f H.length K (.slice H'.length off len cap e) (H' ++ [some (v.ren f)]) := fun v off len cap e hK =>
    ⟨.slice H.length off len cap e, H ++ [some v], by rw [EV.ren, hs.high _ (Nat.le_refl _), hH.len], hH.push hs (some v), by simp, hK⟩
  unfold evBuildSlice at h ⊢
  cases ht : E.ty t with
  | none => rw [ht] at h; exact h.elim
  | some ti =>
    rw [ht] at h
    simp only at h ⊢
    cases htd : ti.td <;> simp only [htd] at h ⊢ <;> try exact h.elim
    rename_i e
    cases he : E.ty e with
    | none => rw [he] at h; exact h.elim
    | some ei =>
      rw [he] at h
      simp only at h ⊢
      rw [gd_iff] at h ⊢
      refine ⟨h.1, ?_⟩
      have h := h.2
      have hz := ren_in (f := f) ei.zero (hC.ty e ei he)
      by_cases hi : ∃ q z, ei.zero = .int q z
      · obtain ⟨q, z, hi⟩ := hi
        simp only [hi] at h ⊢
        rw [gd_iff] at h ⊢
        refine ⟨h.1, ?_⟩
        have h := h.2
        have hp := evParts_ren (f := f) (fun i => some (i * 1, 1)) ps (.arr q n (fun _ => z))
        simp only [EV.ren] at hp
        rw [hp]
        split at h
        · rename_i v hv
          simp only [hv, Option.map_some]
          exact push v _ _ _ _ h
        · exact h.elim
      · have key : ∀ (X : Prop) (A : EV → Prop), (match ei.zero with | .int k z => X | z => A z) → A ei.zero := by
          intro X A hX
          split at hX
          · rename_i q z hq; exact (hi ⟨q, z, hq⟩).elim
          · exact hX
        have back : ∀ (X : IntKind → Int → Prop) (A : EV → Prop), A ei.zero → (match ei.zero with | .int k z => X k z | z => A z) := by
          intro X A hA
          split
          · rename_i q z hq; exact (hi ⟨q, z, hq⟩).elim
          · exact hA
        have key : ∀ (X : IntKind → Int → Prop) (A : EV → Prop), (match ei.zero with | .int k z => X k z | z => A z) → A ei.zero := by
          intro X A hX
          split at hX
          · rename_i q z hq; exact (hi ⟨q, z, hq⟩).elim
          · exact hX
        have h := key _ _ h
        refine back _ _ ?_
        rw [gd_iff] at h ⊢
        refine ⟨h.1, ?_⟩
        have h := h.2
        have hp := evParts_ren (f := f) (fun i => some (i * ei.size, ei.size)) ps (.agg (List.replicate n ei.zero))
        simp only [EV.ren, renL_map, List.map_replicate, hz] at hp
        rw [hp]
        split at h
        · rename_i v hv
          simp only [hv, Option.map_some]
          exact push v _ _ _ _ h
        · exact h.elim
theorem evLen_eqv {t : TypeId} {x : EV} {K : EV → Prop} (h : evLen E t x K) : evLen E t (x.ren f) (KV f K) := by
  unfold evLen at h ⊢
  cases ht : E.ty t with
  | none => rw [ht] at h; exact h.elim
  | some ti =>
    rw [ht] at h
    simp only at h ⊢
    cases htd : ti.td <;> simp only [htd] at h ⊢ <;> try exact h.elim
    all_goals (cases x <;> simp only [EV.ren] at h ⊢ <;> first | exact h.elim | exact ⟨_, rfl, h⟩)
theorem foldMM_ren (g : Int → Int → Int) : ∀ (l : List EV) (x : EV), foldMM g (x.ren f) (l.map (EV.ren f)) = (foldMM g x l).map (EV.ren f)
  | [], x => by cases x <;> rfl
  | y :: r, x => by
    cases x <;> cases y <;> first | rfl | exact foldMM_ren g r (.int _ (g _ _))
theorem evMM_eqv {g : Int → Int → Int} {xs : List EV} {K : EV → Prop} (h : evMM g xs K) : evMM g (xs.map (EV.ren f)) (KV f K) := by
  cases xs with
  | nil => exact h
  | cons x r =>
    simp only [evMM, List.map_cons, foldMM_ren] at h ⊢
    split at h
    · rename_i v hv
      simp only [hv, Option.map_some]
      exact ⟨_, rfl, h⟩
    · exact h.elim
theorem oInt_ren (d : Nat) (o : Option EV) : oInt d (o.map (EV.ren f)) = oInt d o := by
  cases o with
  | none => rfl
  | some v => cases v <;> rfl
theorem evSlice_eqv {t : TypeId} {x : EV} {lo hi mx : Option EV} {H H' : Heap} {K : EV → Prop} (hH : HR f H H') (h : evSlice E t x lo hi mx H K) :
    evSlice E t (x.ren f) (lo.map (EV.ren f)) (hi.map (EV.ren f)) (mx.map (EV.ren f)) H' (KV f K) := by
  unfold evSlice at h ⊢
  cases mx with
  | some m => exact h.elim
  | none =>
    cases ht : E.ty t with
    | none => rw [ht] at h; exact h.elim
    | some ti =>
      rw [ht] at h
      simp only [Option.map_none, oInt_ren] at h ⊢
      cases htd : ti.td <;> simp only [htd] at h ⊢ <;> try exact h.elim
      case str =>
        cases x <;> simp only [EV.ren] at h ⊢ <;> try exact h.elim
        rename_i s
        cases hl : oInt 0 lo with
        | none => rw [hl] at h; exact h.elim
        | some l =>
          cases hh : oInt s.length hi with
          | none => rw [hl, hh] at h; exact h.elim
          | some q =>
            rw [hl, hh] at h
            simp only at h ⊢
            rw [gd_iff] at h ⊢
            exact ⟨h.1, _, rfl, h.2⟩
      case slice e =>
        cases x <;> simp only [EV.ren] at h ⊢ <;> try exact h.elim
        case slice b off len cap es =>
          cases hl : oInt 0 lo with
          | none => rw [hl] at h; exact h.elim
          | some l =>
            cases hh : oInt len hi with
            | none => rw [hl, hh] at h; exact h.elim
            | some q =>
              cases hb : H[b]? with
              | none => rw [hl, hh, hb] at h; exact h.elim
              | some oc =>
                cases oc with
                | none => rw [hl, hh, hb] at h; exact h.elim
                | some c =>
                  rw [hl, hh, hb] at h
                  rw [hH.live hb]
                  simp only at h ⊢
                  rw [gd_iff] at h ⊢
                  exact ⟨h.1, _, rfl, h.2⟩
        case rsI k n g =>
          cases hl : oInt 0 lo with
          | none => rw [hl] at h; exact h.elim
          | some l =>
            cases hh : oInt n hi with
            | none => rw [hl, hh] at h; exact h.elim
            | some q =>
              rw [hl, hh] at h
              simp only at h ⊢
              rw [gd_iff] at h ⊢
              exact ⟨h.1, _, rfl, h.2⟩
        case nilSlice =>
          cases hl : oInt 0 lo with
          | none => rw [hl] at h; exact h.elim
          | some l =>
            cases hh : oInt 0 hi with
            | none => rw [hl, hh] at h; exact h.elim
            | some q =>
              rw [hl, hh] at h
              simp only at h ⊢
              rw [gd_iff] at h ⊢
              exact ⟨h.1, _, rfl, h.2⟩
      case array na e =>
        cases x <;> simp only [EV.ren] at h ⊢ <;> try exact h.elim
        rename_i b p
        cases p with
        | cons _ _ => exact h.elim
        | nil =>
          simp only at h ⊢
          cases hl : oInt 0 lo with
          | none => rw [hl] at h; exact h.elim
          | some l =>
            cases hh : oInt na hi with
            | none => rw [hl, hh] at h; exact h.elim
            | some q =>
              cases hb : H[b]? with
              | none => rw [hl, hh, hb] at h; exact h.elim
              | some oc =>
                cases oc with
                | none => rw [hl, hh, hb] at h; exact h.elim
                | some c =>
                  rw [hl, hh, hb] at h
                  rw [hH.live hb]
                  cases c <;> simp only [EV.ren] at h ⊢ <;> try exact h.elim
                  rw [gd_iff] at h ⊢
                  exact ⟨h.1, _, rfl, h.2⟩
theorem evMakeSlice_eqv (hC : Closed E) {k : Nat} {t : TypeId} {ln cp : EV} {H H' : Heap} {K : EV → Heap → Prop} (hs : Shf k H.length f) (hH : HR f H H') (h : evMakeSlice E t ln cp H K) :
    evMakeSlice E t (ln.ren f) (cp.ren f) H' (KR f H.length K) := by
  unfold evMakeSlice at h ⊢
  cases ht : E.ty t with
  | none => rw [ht] at h; exact h.elim
  | some ti =>
    rw [ht] at h
    cases ln <;> simp only [EV.ren] at h ⊢ <;> try exact h.elim
    cases cp <;> simp only [EV.ren] at h ⊢ <;> try exact h.elim
    cases htd : ti.td <;> simp only [htd] at h ⊢ <;> try exact h.elim
    rename_i e
    cases he : E.ty e with
    | none => rw [he] at h; exact h.elim
    | some ei =>
      rw [he] at h
      simp only at h ⊢
      cases hz : ei.zero <;> simp only [hz] at h ⊢ <;> try exact h.elim
      rw [gd_iff] at h ⊢
      exact ⟨h.1, _, _, by rw [EV.ren, hs.high _ (Nat.le_refl _), hH.len], hH.push hs (some _), by simp, h.2⟩
theorem evCopy_eqv {k : Nat} {t : TypeId} {d x : EV} {H H' : Heap} {K : EV → Heap → Prop} (hs : Shf k H.length f) (hH : HR f H H') (h : evCopy E t d x H K) :
    evCopy E t (d.ren f) (x.ren f) H' (KR f H.length K) := by
  unfold evCopy at h ⊢
  cases ht : E.ty t with
  | none => rw [ht] at h; exact h.elim
  | some ti =>
    rw [ht] at h
    cases d <;> simp only [EV.ren] at h ⊢ <;> try exact h.elim
    rename_i b off len cap e
    by_cases he : e = 1
    · subst he
      simp only [evWin_ren hH] at h ⊢
      cases htd : ti.td <;> simp only [htd] at h ⊢ <;> try exact h.elim
      cases hb : H[b]? with
      | none => rw [hb] at h; exact h.elim
      | some oc =>
        cases oc with
        | none => rw [hb] at h; exact h.elim
        | some c =>
          rw [hb] at h
          rw [hH.live hb]
          cases c <;> simp only [EV.ren] at h ⊢ <;> try exact h.elim
          cases hw : evWin H x with
          | none => rw [hw] at h; exact h.elim
          | some q =>
            obtain ⟨k', m, g'⟩ := q
            rw [hw] at h
            simp only at h ⊢
            rw [gd_iff] at h ⊢
            exact ⟨h.1, _, _, rfl, hH.set hs.inj b (some _), by simp, h.2⟩
    · split at h
      · rename_i q1 q2 q3; simp at q3; exact absurd q3.2.2.2.2 he
      · exact h.elim
theorem evAppend_eqv {k : Nat} {t t' : TypeId} {s x : EV} {H H' : Heap} {K : EV → Heap → Prop} (hs : Shf k H.length f) (hH : HR f H H') (h : evAppend E t t' s x H K) :
    evAppend E t t' (s.ren f) (x.ren f) H' (KR f H.length K) := by
  unfold evAppend at h ⊢
  cases ht : E.ty t with
  | none => rw [ht] at h; exact h.elim
  | some ti =>
    cases ht' : E.ty t' with
    | none => rw [ht, ht'] at h; exact h.elim
    | some ti' =>
      rw [ht, ht'] at h
      simp only [evWin_ren hH] at h ⊢
      cases htd : ti.td <;> simp only [htd] at h ⊢ <;> try exact h.elim
      rename_i e
      cases htd' : ti'.td <;> simp only [htd'] at h ⊢ <;> try exact h.elim
      cases hw : evWin H x with
      | none => rw [hw] at h; exact h.elim
      | some q =>
        obtain ⟨kk, m, g'⟩ := q
        rw [hw] at h
        simp only at h ⊢
        cases he : E.ty e with
        | none => rw [he] at h; exact h.elim
        | some ei =>
          rw [he] at h
          simp only at h ⊢
          cases hz : ei.zero <;> simp only [hz] at h ⊢ <;> try exact h.elim
          rw [gd_iff] at h ⊢
          refine ⟨h.1, ?_⟩
          replace h := h.2
          have hp : ∀ (o : Option EV) off len cap e, K (.slice H.length off len cap e) (H ++ [o]) → KR f H.length K (.slice H'.length off len cap e) (H' ++ [renO f o]) := fun o off len cap e hK =>
            ⟨_, _, by rw [EV.ren, hs.high _ (Nat.le_refl _), hH.len], hH.push hs o, by simp, hK⟩
          cases s <;> simp only [EV.ren] at h ⊢ <;> try exact h.elim
          case nilSlice =>
            rw [gd_iff] at h ⊢
            refine ⟨h.1, ?_⟩
            replace h := h.2
            rw [br_iff] at h ⊢
            exact ⟨fun e => ⟨_, _, rfl, hH, Nat.le_refl _, h.1 e⟩, fun e => hp _ _ _ _ _ (h.2 e)⟩
          case slice b off len cap es =>
            by_cases hes : es = 1
            · subst hes
              simp only at h ⊢
              cases hb : H[b]? with
              | none => rw [hb] at h; exact h.elim
              | some oc =>
                cases oc with
                | none => rw [hb] at h; exact h.elim
                | some c =>
                  rw [hb] at h
                  rw [hH.live hb]
                  cases c <;> try exact h.elim
                  show gd _ _
                  replace h : gd _ _ := h
                  rw [gd_iff] at h ⊢
                  refine ⟨h.1, _, _, by rw [EV.ren, hs.high _ (Nat.le_refl _), hH.len], (hH.set hs.inj b none).push (n := k) (by rw [List.length_set]; exact hs) (some _), by simp, h.2⟩
            · exfalso
              match es, hes, h with
              | 0, _, h => exact h
              | 1, hes, _ => exact hes rfl
              | n + 2, _, h => exact h
end eqv
section call
variable {E : Env} {f : Nat → Nat}
theorem beq_map (hi : ∀ a b, f a = f b → a = b) (a b : Nat) : Nat.beq (f a) (f b) = Nat.beq a b := by
  by_cases h : a = b
  · subst h; rw [Nat.beq_refl, Nat.beq_refl]
  · have e1 : Nat.beq a b = false := by rw [Bool.eq_false_iff]; intro e; exact h (Nat.eq_of_beq_eq_true e)
    have e2 : Nat.beq (f a) (f b) = false := by rw [Bool.eq_false_iff]; intro e; exact h (hi _ _ (Nat.eq_of_beq_eq_true e))
    rw [e1, e2]
theorem memN_map (hi : ∀ a b, f a = f b → a = b) (b : Nat) : ∀ (l : List Nat), memN (f b) (l.map f) = memN b l
  | [] => rfl
  | c :: l => by
    simp only [List.map_cons, memN, memN_map hi b l]
    congr 1
    exact beq_map hi b c
mutual
theorem inI_ren (hi : ∀ a b, f a = f b → a = b) (idx : List Nat) : ∀ (v : EV), (v.ren f).inI (idx.map f) = v.inI idx
  | .ptr b _ => by simp only [EV.ren, EV.inI, memN_map hi]
  | .slice b _ _ _ _ => by simp only [EV.ren, EV.inI, memN_map hi]
  | .rref v => by simp only [EV.ren, EV.inI, inI_ren hi idx v]
  | .agg l => by simp only [EV.ren, EV.inI, inIL_ren hi idx l]
  | .tuple l => by simp only [EV.ren, EV.inI, inIL_ren hi idx l]
  | .func _ l => by simp only [EV.ren, EV.inI, inIL_ren hi idx l]
  | .bnd _ l => by simp only [EV.ren, EV.inI, inIL_ren hi idx l]
  | .iface _ v => by simp only [EV.ren, EV.inI, inI_ren hi idx v]
  | .rsI _ _ _ => rfl | .undef => rfl
  | .bool _ => rfl | .int _ _ => rfl | .str _ => rfl | .nilPtr => rfl | .nilSlice => rfl | .nilFunc => rfl | .arr _ _ _ => rfl | .nilIface => rfl
theorem inIL_ren (hi : ∀ a b, f a = f b → a = b) (idx : List Nat) : ∀ (l : List EV), EV.inIL (idx.map f) (EV.renL f l) = EV.inIL idx l
  | [] => rfl
  | v :: l => by simp only [EV.renL, EV.inIL, inI_ren hi idx v, inIL_ren hi idx l]
end
theorem inIH_ren (hi : ∀ a b, f a = f b → a = b) {H H' : Heap} (hH : HR f H H') (idx : List Nat) : ∀ (l : List Nat), inIH (idx.map f) H' (l.map f) = inIH idx H l
  | [] => rfl
  | b :: l => by
    simp only [List.map_cons, inIH, inIH_ren hi hH idx l, hH.get]
    cases H[b]? with
    | none => rfl
    | some o =>
      cases o with
      | none => rfl
      | some v => simp only [Option.map_some, renO, inI_ren hi]
theorem allLt_ren {k m : Nat} (hs : Shf k m f) : ∀ (l : List Nat), allLt m (l.map f) = allLt m l
  | [] => rfl
  | b :: l => by
    simp only [List.map_cons, allLt, allLt_ren hs l]
    congr 1
    by_cases h : b < m
    · rw [show Nat.blt b m = true from by simpa using h, show Nat.blt (f b) m = true from by simpa using hs.lt h]
    · have h' : ¬ f b < m := fun e => h (hs.lt' e)
      have e1 : Nat.blt b m = false := by rw [Bool.eq_false_iff]; intro e; exact h (by simpa using e)
      have e2 : Nat.blt (f b) m = false := by rw [Bool.eq_false_iff]; intro e; exact h' (by simpa using e)
      rw [e1, e2]
theorem noneIn_ren (hi : ∀ a b, f a = f b → a = b) (idx : List Nat) : ∀ (l : List Nat), noneIn (idx.map f) (l.map f) = noneIn idx l
  | [] => rfl
  | b :: l => by simp only [List.map_cons, noneIn, memN_map hi, noneIn_ren hi idx l]
mutual
theorem blkL_ren : ∀ (v : EV), (v.ren f).blkL = v.blkL.map f
  | .ptr b _ => rfl
  | .slice b _ _ _ _ => rfl
  | .rref v => by simp only [EV.ren, EV.blkL, blkL_ren v]
  | .agg l => by simp only [EV.ren, EV.blkL, blkLL_ren l]
  | .tuple l => by simp only [EV.ren, EV.blkL, blkLL_ren l]
  | .func _ l => by simp only [EV.ren, EV.blkL, blkLL_ren l]
  | .bnd _ l => by simp only [EV.ren, EV.blkL, blkLL_ren l]
  | .iface _ v => by simp only [EV.ren, EV.blkL, blkL_ren v]
  | .rsI _ _ _ => rfl | .undef => rfl
  | .bool _ => rfl | .int _ _ => rfl | .str _ => rfl | .nilPtr => rfl | .nilSlice => rfl | .nilFunc => rfl | .arr _ _ _ => rfl | .nilIface => rfl
theorem blkLL_ren : ∀ (l : List EV), EV.blkLL (EV.renL f l) = (EV.blkLL l).map f
  | [] => rfl
  | v :: l => by simp only [EV.renL, EV.blkLL, blkL_ren v, blkLL_ren l, List.map_append]
end
theorem addN_map (hi : ∀ a b, f a = f b → a = b) : ∀ (l idx : List Nat), addN (idx.map f) (l.map f) = (addN idx l).map f
  | [], idx => rfl
  | b :: l, idx => by
    simp only [List.map_cons, addN, memN_map hi]
    cases memN b idx with
    | true => exact addN_map hi l idx
    | false =>
      have := addN_map hi l (idx ++ [b])
      rw [List.map_append] at this
      exact this
theorem heapL_map {H H' : Heap} (hH : HR f H H') : ∀ (l : List Nat), heapL H' (l.map f) = (heapL H l).map f
  | [] => rfl
  | b :: l => by
    simp only [List.map_cons, heapL, heapL_map hH l, hH.get]
    cases H[b]? with
    | none => rfl
    | some o =>
      cases o with
      | none => rfl
      | some v => simp only [Option.map_some, renO, blkL_ren, List.map_append]
theorem closeI_map (hi : ∀ a b, f a = f b → a = b) {H H' : Heap} (hH : HR f H H') : ∀ (n : Nat) (idx : List Nat), closeI H' n (idx.map f) = (closeI H n idx).map f
  | 0, idx => rfl
  | n + 1, idx => by simp only [closeI, heapL_map hH, addN_map hi, closeI_map hi hH n]
theorem canI_map (hi : ∀ a b, f a = f b → a = b) {H H' : Heap} (hH : HR f H H') (vs : List EV) : canI 0 (EV.renL f vs) H' = (canI 0 vs H).map f := by
  unfold canI
  rw [blkLL_ren]
  have := addN_map hi (EV.blkLL vs) (upTo 0)
  rw [show (upTo 0).map f = upTo 0 from rfl] at this
  rw [this, closeI_map hi hH]
theorem pos_map (hi : ∀ a b, f a = f b → a = b) (b : Nat) : ∀ (l : List Nat), pos (l.map f) (f b) = pos l b
  | [] => rfl
  | c :: l => by
    simp only [List.map_cons, pos, pos_map hi b l]
    congr 1
    exact beq_map hi c b
theorem roArg_ren {H H' : Heap} (hH : HR f H H') (m : Option IntKind) (v : EV) : roArg H' m (v.ren f) = (roArg H m v).ren f := by
  cases m with
  | none => cases v <;> rfl
  | some k =>
    cases v <;> try rfl
    rename_i b off len cap e
    simp only [EV.ren, roArg, hH.get]
    cases H[b]? with
    | none => rfl
    | some o =>
      cases o with
      | none => rfl
      | some c =>
        cases c <;> try rfl
        rename_i k' n g
        simp only [Option.map_some, renO, EV.ren]
        cases decide (k = k') <;> rfl
theorem roArgs_renL {H H' : Heap} (hH : HR f H H') : ∀ (ms : List (Option IntKind)) (vs : List EV), roArgs H' ms (EV.renL f vs) = EV.renL f (roArgs H ms vs)
  | [], vs => by cases vs <;> rfl
  | _ :: _, [] => rfl
  | m :: ms, v :: vs => by simp only [EV.renL, roArgs, roArg_ren hH, roArgs_renL hH ms vs]
theorem roDead_ren : ∀ (ms : List (Option IntKind)) (vs : List EV), roDead ms (EV.renL f vs) = (roDead ms vs).map f
  | [], vs => by cases vs <;> rfl
  | _ :: _, [] => by rename_i m ms; cases m <;> rfl
  | m :: ms, v :: vs => by
    have ih := roDead_ren ms vs
    cases m with
    | none => cases v <;> simp only [EV.renL, EV.ren, roDead] <;> exact ih
    | some k => cases v <;> simp only [EV.renL, EV.ren, roDead, List.map_cons] <;> first | exact ih | rw [ih]
theorem subHI_map {H H' : Heap} (hH : HR f H H') (g : Nat → Nat) : ∀ (l : List Nat), subHI H' g (l.map f) = subHI H (fun b => g (f b)) l
  | [] => rfl
  | b :: l => by
    simp only [List.map_cons, subHI, subHI_map hH g l, hH.get]
    cases H[b]? with
    | none => rfl
    | some o =>
      cases o with
      | none => rfl
      | some v => simp only [Option.map_some, renO, ren_ren]
theorem subH_map (hi : ∀ a b, f a = f b → a = b) {H H' : Heap} (hH : HR f H H') (idx : List Nat) : subH H' (idx.map f) = subH H idx := by
  unfold subH
  rw [subHI_map hH]
  congr 1
  funext b
  exact pos_map hi b idx
theorem backN_map {k m : Nat} (hs : Shf k m f) (idx : List Nat) (j : Nat) : backN (idx.map f) m j = f (backN idx m j) := by
  unfold backN
  rw [List.getElem?_map]
  cases idx[j]? with
  | none => simp only [Option.map_none, List.length_map]; rw [hs.high _ (by omega)]
  | some b => rfl
theorem HR.append {k : Nat} {H H' : Heap} (hH : HR f H H') (hs : Shf k H.length f) : ∀ (r : Heap), HR f (H ++ r) (H' ++ r.map (renO f)) := by
  intro r
  induction r generalizing H H' with
  | nil => simpa using hH
  | cons o r ih =>
    have := ih (hH.push hs o) (hs.mono (by simp))
    simpa using this
theorem HR.putB {k : Nat} : ∀ (idx : List Nat) (r : Heap) {H H' : Heap}, HR f H H' → Shf k H.length f → HR f (putB idx r H) (Ev.putB (idx.map f) (r.map (renO f)) H')
  | [], r, H, H', hH, hs => hH.append hs r
  | b :: l, [], H, H', hH, hs => hH
  | b :: l, o :: r, H, H', hH, hs => by
    simp only [List.map_cons, Ev.putB]
    exact HR.putB l r (hH.set hs.inj b o) (by rw [List.length_set]; exact hs)
theorem HR.killN (hi : ∀ a b, f a = f b → a = b) : ∀ (l : List Nat) {H H' : Heap}, HR f H H' → HR f (killN l H) (Ev.killN (l.map f) H')
  | [], H, H', hH => hH
  | b :: l, H, H', hH => HR.killN hi l (hH.set hi b Option.none)
theorem putB_ge {α : Type} : ∀ (idx : List Nat) (r H : List α), H.length ≤ (putB idx r H).length
  | [], r, H => by simp [putB]
  | _ :: _, [], H => Nat.le_refl _
  | b :: l, v :: r, H => by
    have := putB_ge l r (H.set b v)
    rw [List.length_set] at this
    exact this
theorem renH_map (g : Nat → Nat) : ∀ (H : Heap), renH g H = H.map (renO g)
  | [] => rfl
  | o :: H => by simp only [renH, List.map_cons, renH_map g H]
theorem evCallL_eqv {k : Nat} {en : Entry} {args : List EV} {dead idx : List Nat} {H H' : Heap} {K : EV → Heap → Prop} (hD : Det2 (en.spec (EV.renL (pos idx) args) (subH H idx))) (hs : Shf k H.length f) (hH : HR f H H')
    (h : evCallL en args dead idx H K) : evCallL en (EV.renL f args) (dead.map f) (idx.map f) H' (KR f H.length K) := by
  unfold evCallL at h ⊢
  rw [gd_iff] at h ⊢
  have e1 : EV.renL (pos (idx.map f)) (EV.renL f args) = EV.renL (pos idx) args := by
    rw [renL_renL]
    congr 1
    funext b
    exact pos_map hs.inj b idx
  rw [e1, subH_map hs.inj hH, inIL_ren hs.inj, inIH_ren hs.inj hH, hH.len, allLt_ren hs, noneIn_ren hs.inj, renL_map, dfdL_ren]
  refine ⟨h.1, hD.mono h.2 ?_⟩
  intro v H2 hK
  rw [gd_iff] at hK ⊢
  rw [List.length_map]
  refine ⟨hK.1, v.ren (backN idx H.length), _, ?_, ?_, ?_, hK.2⟩
  · rw [ren_ren]
    congr 1
    funext j
    exact backN_map hs idx j
  · have e2 : cond (v.noRS && noRSH H2) [] (dead.map f) = (cond (v.noRS && noRSH H2) [] dead).map f := by cases (v.noRS && noRSH H2) <;> rfl
    rw [e2]
    refine HR.killN hs.inj _ ?_
    have e3 : renH (backN (idx.map f) H.length) H2 = (renH (backN idx H.length) H2).map (renO f) := by
      rw [renH_map, renH_map, List.map_map]
      refine List.map_congr_left fun o _ => ?_
      simp only [Function.comp, renO_renO]
      congr 1
      funext j
      exact backN_map hs idx j
    rw [e3]
    exact HR.putB idx _ hH hs
  · rw [killN_length]; exact putB_ge _ _ _
theorem killArgs_eqv (hi : ∀ a b, f a = f b → a = b) : ∀ (vs : List EV) {H H' : Heap}, HR f H H' → HR f (killArgs vs H) (killArgs (EV.renL f vs) H')
  | [], H, H', hH => hH
  | v :: vs, H, H', hH => by
    cases v
    case slice b off len cap e => exact killArgs_eqv hi vs (hH.set hi b none)
    all_goals exact killArgs_eqv hi vs hH
theorem killArgs_length : ∀ (vs : List EV) (H : Heap), (killArgs vs H).length = H.length
  | [], H => rfl
  | v :: vs, H => by
    cases v
    case slice b off len cap e => rw [killArgs, killArgs_length vs, List.length_set]
    all_goals exact killArgs_length vs H
theorem freeL_ren_id : ∀ (l : List EV), EV.freeL l = true → EV.renL f l = l := by
  have one : ∀ (v : EV), v.free = true → v.inI [] = true := by
    intro v
    exact (go v)
  intro l h
  refine renL_in l ?_
  induction l with
  | nil => rfl
  | cons v l ih =>
    simp only [EV.freeL, Bool.and_eq_true] at h
    simp only [EV.inIL, Bool.and_eq_true]
    exact ⟨one v h.1, ih h.2⟩
where
  go : ∀ (v : EV), v.free = true → v.inI [] = true := fun v => (goBoth v)
  goBoth : ∀ (v : EV), v.free = true → v.inI [] = true
    | .ptr _ _, h => by simp [EV.free] at h
    | .slice _ _ _ _ _, h => by simp [EV.free] at h
    | .rref _, h => by simp [EV.free] at h
    | .agg l, h => by simp only [EV.free] at h; simp only [EV.inI]; exact goL l h
    | .tuple l, h => by simp only [EV.free] at h; simp only [EV.inI]; exact goL l h
    | .func _ l, h => by simp only [EV.free] at h; simp only [EV.inI]; exact goL l h
    | .bnd _ l, h => by simp only [EV.free] at h; simp only [EV.inI]; exact goL l h
    | .iface _ v, h => by simp only [EV.free] at h; simp only [EV.inI]; exact goBoth v h
    | .rsI _ _ _, _ => rfl | .undef, h => by simp [EV.free] at h
    | .bool _, _ => rfl | .int _ _, _ => rfl | .str _, _ => rfl | .nilPtr, _ => rfl | .nilSlice, _ => rfl | .nilFunc, _ => rfl | .arr _ _ _, _ => rfl | .nilIface, _ => rfl
  goL : ∀ (l : List EV), EV.freeL l = true → EV.inIL [] l = true
    | [], _ => rfl
    | v :: l, h => by
      simp only [EV.freeL, Bool.and_eq_true] at h
      simp only [EV.inIL, Bool.and_eq_true]
      exact ⟨goBoth v h.1, goL l h.2⟩
theorem evCallF_eqv (hD : DetFn E) {k : Nat} {g : FuncId} {args : List EV} {H H' : Heap} {K : EV → Heap → Prop} (hs : Shf k H.length f) (hH : HR f H H')
    (h : evCallF E g args H K) : evCallF E g (EV.renL f args) H' (KR f H.length K) := by
  simp only [evCallF] at h ⊢
  cases he : E.fn g with
  | none => rw [he] at h; exact h.elim
  | some en =>
    rw [he] at h
    simp only at h ⊢
    rw [roArgs_renL hH, roDead_ren, canI_map hs.inj hH, freeL_ren]
    cases hl : en.lend with
    | true =>
      rw [hl] at h
      simp only [cond_true] at h ⊢
      exact evCallL_eqv (hD g en he _ _) hs hH h
    | false =>
      rw [hl] at h
      simp only [cond_false] at h ⊢
      rw [gd_iff] at h ⊢
      refine ⟨h.1, ?_⟩
      rw [freeL_ren_id _ h.1]
      refine (hD g en he _ _).mono h.2 ?_
      intro v H2 hK
      rw [gd_iff] at hK ⊢
      refine ⟨hK.1, ?_⟩
      have hv := ren_in (f := f) v (Bool.and_eq_true _ _ ▸ hK.1 : _ ∧ _).2
      have hK := hK.2
      rw [cd_iff] at hK ⊢
      exact ⟨fun e => ⟨v, H, hv.symm, hH, Nat.le_refl _, hK.1 e⟩, fun e => ⟨v, _, hv.symm, killArgs_eqv hs.inj _ hH, by rw [killArgs_length]; exact Nat.le_refl _, hK.2 e⟩⟩
theorem evCall_eqv (hD : DetFn E) {k : Nat} {fv : EV} {args : List EV} {H H' : Heap} {K : EV → Heap → Prop} (hs : Shf k H.length f) (hH : HR f H H')
    (h : evCall E fv args H K) : evCall E (fv.ren f) (EV.renL f args) H' (KR f H.length K) := by
  cases fv <;> simp only [evCall, EV.ren] at h ⊢ <;> try exact h.elim
  · rw [← renL_append]; exact evCallF_eqv hD hs hH h
  · rw [← renL_append]; exact evCallF_eqv hD hs hH h
end call
section op
variable {E : Env} {f : Nat → Nat}
structure StR (f : Nat → Nat) (s s' : St) : Prop where
  tmps : s'.tmps = s.tmps.map (EV.ren f)
  heap : HR f s.heap s'.heap
theorem StR.slot {s s' : St} (h : StR f s s') (t : Nat) : s'.slot t = (s.slot t).ren f := by
  unfold St.slot
  rw [h.tmps, List.getElem?_map]
  cases s.tmps[t]? <;> rfl
theorem constV_ren (v : Value) : (constV v).ren f = constV v := by
  unfold constV
  split <;> rfl
theorem opd_eqv (hC : Closed E) {s s' : St} (h : StR f s s') (x : Operand) : St.opd E s' x = (St.opd E s x).ren f := by
  cases x with
  | tmp t => exact h.slot t
  | const v => exact (constV_ren v).symm
  | global g =>
    simp only [St.opd]
    cases hg : E.gl g with
    | none => rfl
    | some v => simp only [EV.ren, ren_in v (hC.gl g v hg)]
  | func g => rfl
theorem opdL_eqv (hC : Closed E) {s s' : St} (h : StR f s s') (l : List Operand) : l.map (St.opd E s') = (l.map (St.opd E s)).map (EV.ren f) := by
  rw [List.map_map]
  exact List.map_congr_left fun x _ => opd_eqv hC h x
theorem opdP_eqv (hC : Closed E) {s s' : St} (h : StR f s s') (l : List (Nat × Operand)) : (l.map fun p => (p.1, St.opd E s' p.2)) = renP f (l.map fun p => (p.1, St.opd E s p.2)) := by
  unfold renP
  rw [List.map_map]
  exact List.map_congr_left fun x _ => by simp only [Function.comp, opd_eqv hC h x.2]
theorem opdP2_eqv (hC : Closed E) {s s' : St} (h : StR f s s') (l : List (Nat × Operand)) : (l.map fun p => St.opd E s' p.2) = (l.map fun p => St.opd E s p.2).map (EV.ren f) := by
  rw [List.map_map]
  exact List.map_congr_left fun x _ => opd_eqv hC h x.2
theorem opdO_eqv (hC : Closed E) {s s' : St} (h : StR f s s') (o : Option Operand) : o.map (St.opd E s') = (o.map (St.opd E s)).map (EV.ren f) := by
  cases o with
  | none => rfl
  | some x => simp only [Option.map_some, opd_eqv hC h x]
theorem dfdO_ren (o : Option EV) : dfdO (o.map (EV.ren f)) = dfdO o := by
  cases o with
  | none => rfl
  | some v => exact dfd_ren f v
theorem evV_eqv (hC : Closed E) {o : Op} {s s' : St} {K : EV → Prop} (h : StR f s s') (hk : evV E o s K) : evV E o s' (KV f K) := by
  have ho := opd_eqv hC h
  unfold evV at hk ⊢
  split at hk
  · rename_i x; simp only [ho]; exact ⟨_, rfl, hk⟩
  · rename_i x; simp only [ho]; exact ⟨_, rfl, hk⟩
  · rename_i c a b
    simp only [ho]
    cases hc : St.opd E s c <;> rw [hc] at hk <;> try exact hk.elim
    simp only [EV.ren] at hk ⊢
    rw [br_iff] at hk ⊢
    exact ⟨fun e => ⟨_, rfl, hk.1 e⟩, fun e => ⟨_, rfl, hk.2 e⟩⟩
  · rename_i t ps
    simp only [opdP_eqv hC h, opdP2_eqv hC h, dfdL_ren]
    rw [gd_iff] at hk ⊢
    exact ⟨hk.1, evBuild_eqv hC hk.2⟩
  · rename_i t a; simp only [ho]; exact evLoad_eqv h.heap hk
  · rename_i op t x y z
    simp only [ho, dfd_ren]
    rw [gd_iff] at hk ⊢
    exact ⟨hk.1, evCmp_eqv h.heap hk.2⟩
  · rename_i op z x; simp only [ho]; exact evUn_eqv hk
  · rename_i src dst x
    simp only [ho, dfd_ren]
    rw [gd_iff] at hk ⊢
    exact ⟨hk.1, evConv_eqv h.heap hk.2⟩
  · rename_i t x i
    simp only [ho, dfd_ren]
    rw [gd_iff] at hk ⊢
    exact ⟨hk.1, evFieldAddr_eqv h.heap hk.2⟩
  · rename_i t x i
    simp only [ho, dfd_ren]
    rw [gd_iff] at hk ⊢
    exact ⟨hk.1, evField_eqv hk.2⟩
  · rename_i t x i
    simp only [ho, dfd_ren]
    rw [gd_iff] at hk ⊢
    exact ⟨hk.1, evIndexAddr_eqv h.heap hk.2⟩
  · rename_i t x i
    simp only [ho, dfd_ren]
    rw [gd_iff] at hk ⊢
    exact ⟨hk.1, evIndex_eqv hk.2⟩
  · rename_i x i; simp only [ho]; exact evExtract_eqv hk
  · rename_i g cs
    simp only [opdL_eqv hC h, dfdL_ren]
    rw [gd_iff] at hk ⊢
    exact ⟨hk.1, _, by rw [EV.ren, renL_map], hk.2⟩
  · rename_i t x lo hi mx
    simp only [ho, dfd_ren, opdO_eqv hC h, dfdO_ren]
    rw [gd_iff] at hk ⊢
    exact ⟨hk.1, evSlice_eqv h.heap hk.2⟩
  · rename_i x t
    simp only [ho, dfd_ren]
    rw [gd_iff] at hk ⊢
    exact ⟨hk.1, evLen_eqv hk.2⟩
  · rename_i xs t
    simp only [opdL_eqv hC h, dfdL_ren]
    rw [gd_iff] at hk ⊢
    exact ⟨hk.1, evMM_eqv hk.2⟩
  · rename_i xs t
    simp only [opdL_eqv hC h, dfdL_ren]
    rw [gd_iff] at hk ⊢
    exact ⟨hk.1, evMM_eqv hk.2⟩
  · rename_i x
    simp only [ho, dfd_ren]
    rw [gd_iff] at hk ⊢
    exact ⟨hk.1, evNil_eqv h.heap hk.2⟩
  · rename_i g fs _
    simp only [opdL_eqv hC h, dfdL_ren]
    rw [gd_iff] at hk ⊢
    exact ⟨hk.1, _, by rw [EV.ren, renL_map], hk.2⟩
  · exact hk.elim
theorem evOp_eqv (hC : Closed E) (hD : DetFn E) {k : Nat} {o : Op} {s s' : St} {K : EV → Heap → Prop} (hs : Shf k s.heap.length f) (h : StR f s s') (hk : evOp E o s K) : evOp E o s' (KR f s.heap.length K) := by
  have ho := opd_eqv hC h
  unfold evOp at hk ⊢
  split at hk
  · rename_i t
    cases ht : E.ty t with
    | none => rw [ht] at hk; exact hk.elim
    | some ti =>
      rw [ht] at hk
      have := evNew_eqv hs h.heap hk
      rw [ren_in _ (hC.ty t ti ht)] at this
      exact this
  · rename_i t x
    simp only [ho]
    have hu : St.opd E s x ≠ .undef := by intro e; rw [e] at hk; exact hk.elim
    have h1 : evNew s.heap (St.opd E s x) K := by
      revert hk
      cases hq : St.opd E s x <;> intro hk <;> first | exact absurd hq hu | exact hk
    have h2 := evNew_eqv hs h.heap h1
    revert h2
    cases hq : St.opd E s x <;> intro h2 <;> first | exact absurd hq hu | exact h2
  · rename_i t n ps
    simp only [opdP_eqv hC h, opdP2_eqv hC h, dfdL_ren]
    rw [gd_iff] at hk ⊢
    exact ⟨hk.1, evBuildSlice_eqv hC hs h.heap hk.2⟩
  · rename_i t a x
    simp only [ho]
    refine det_evStore.mono (evStore_eqv hs h.heap hk) ?_
    rintro H' ⟨H, h1, h2, h3⟩
    exact ⟨.undef, H, rfl, h1, h2, h3⟩
  · rename_i t ln cp
    simp only [ho, dfd_ren]
    rw [gd_iff] at hk ⊢
    exact ⟨hk.1, evMakeSlice_eqv hC hs h.heap hk.2⟩
  · rename_i g xs ts
    simp only [ho, opdL_eqv hC h, ← renL_map]
    exact evCall_eqv hD hs h.heap hk
  · rename_i x y t u
    simp only [ho, dfd_ren]
    rw [gd_iff] at hk ⊢
    exact ⟨hk.1, evAppend_eqv hs h.heap hk.2⟩
  · rename_i x y t u
    simp only [ho, dfd_ren]
    rw [gd_iff] at hk ⊢
    exact ⟨hk.1, evCopy_eqv hs h.heap hk.2⟩
  · refine det_evV.mono (evV_eqv hC h hk) ?_
    rintro v' ⟨v, rfl, hv⟩
    exact ⟨v, s.heap, rfl, h.heap, Nat.le_refl _, hv⟩
theorem StR.put {s s' : St} (h : StR f s s') (d : Option Nat) (v : EV) {H H' : Heap} (hH : HR f H H') : StR f (s.put d v H) (s'.put d (v.ren f) H') := by
  cases d with
  | none => exact ⟨h.tmps, hH⟩
  | some d => exact ⟨by simp only [St.put, h.tmps, List.map_set], hH⟩
def KS (f : Nat → Nat) (n : Nat) (K : St → Prop) : St → Prop := fun s' => ∃ s, StR f s s' ∧ n ≤ s.heap.length ∧ K s
theorem put_heap' {s : St} {d : Option Nat} {v : EV} {H : Heap} : (s.put d v H).heap = H := by cases d <;> rfl
theorem evOne_eqv (hC : Closed E) (hD : DetFn E) {k : Nat} {ops : List Oper} {o : Oper} {s s' : St} {K : St → Prop} (hs : Shf k s.heap.length f) (h : StR f s s') (hk : evOne E ops o s K) :
    evOne E ops o s' (KS f s.heap.length K) := by
  have run : ∀ (s1 s1' : St), s1.heap = s.heap → StR f s1 s1' → (evOp E o.op s1 fun v H => K (s1.put o.dst v H)) → evOp E o.op s1' fun v H => KS f s.heap.length K (s1'.put o.dst v H) := by
    intro s1 s1' he h1 hk
    refine (det_evOp hD).mono (evOp_eqv hC hD (by rw [he]; exact hs) h1 hk) ?_
    rintro v' H' ⟨v, H, rfl, h2, h3, h4⟩
    exact ⟨_, h1.put o.dst v h2, by rw [put_heap', ← he]; exact h3, h4⟩
  have skip : ∀ (s1 s1' : St), StR f s1 s1' → K (s1.put o.dst (.tuple []) s.heap) → KS f s.heap.length K (s1'.put o.dst (.tuple []) s'.heap) := by
    intro s1 s1' h1 hk
    exact ⟨_, h1.put o.dst (.tuple []) h.heap, by rw [put_heap']; exact Nat.le_refl _, hk⟩
  unfold evOne at hk ⊢
  cases hg : o.guard with
  | none => rw [hg] at hk; exact run s s' rfl h hk
  | some g =>
    obtain ⟨j, want⟩ := g
    rw [hg] at hk
    simp only at hk ⊢
    cases hj : ops[j]? with
    | none => rw [hj] at hk; exact hk.elim
    | some oj =>
      rw [hj] at hk
      simp only at hk ⊢
      cases hd : oj.dst with
      | none => rw [hd] at hk; exact hk.elim
      | some d =>
        rw [hd] at hk
        simp only [h.slot] at hk ⊢
        cases hb : s.slot d <;> rw [hb] at hk <;> try exact hk.elim
        case bool b =>
          simp only [EV.ren] at hk ⊢
          rw [br_iff] at hk ⊢
          refine ⟨fun e => ?_, fun e => ?_⟩
          · have hk := hk.1 e
            have hp := h.put (some d) (.bool true) h.heap
            cases hq : beqB true want <;> rw [hq] at hk <;> simp only [cond_true, cond_false] at hk ⊢
            · exact skip _ _ hp hk
            · exact run _ _ (put_heap') hp hk
          · have hk := hk.2 e
            have hp := h.put (some d) (.bool false) h.heap
            cases hq : beqB false want <;> rw [hq] at hk <;> simp only [cond_true, cond_false] at hk ⊢
            · exact skip _ _ hp hk
            · exact run _ _ (put_heap') hp hk
        case tuple l =>
          cases l with
          | nil => exact skip _ _ h hk
          | cons _ _ => exact hk.elim
theorem evOps_eqv (hC : Closed E) (hD : DetFn E) {k : Nat} {ops : List Oper} : ∀ (r : List Oper) {s s' : St} {K : St → Prop}, Shf k s.heap.length f → StR f s s' → evOps E ops r s K →
    evOps E ops r s' (KS f s.heap.length K)
  | [], s, s', K, hs, h, hk => ⟨s, h, Nat.le_refl _, hk⟩
  | o :: r, s, s', K, hs, h, hk => by
    simp only [evOps] at hk ⊢
    refine (det_evOne hD).mono (evOne_eqv hC hD hs h hk) ?_
    rintro s1' ⟨s1, h1, h2, h3⟩
    refine (det_evOps hD r s1').mono (evOps_eqv hC hD r (hs.mono h2) h1 h3) ?_
    rintro s2' ⟨s2, h4, h5, h6⟩
    exact ⟨s2, h4, Nat.le_trans h2 h5, h6⟩
end op
end Go.Ev

/- The evaluator: values that name no block but those that there are. -/
set_option linter.unusedVariables false
set_option linter.unusedSimpArgs false
namespace Go.Ev
open Go
def Cl (n : Nat) (v : EV) : Prop := ∀ f : Nat → Nat, (∀ b, b < n → f b = b) → v.ren f = v
def ClL (n : Nat) (l : List EV) : Prop := ∀ v ∈ l, Cl n v
def ClH (n : Nat) (H : Heap) : Prop := ∀ (b : Nat) c, H[b]? = some (some c) → Cl n c
theorem Cl.mono {n m : Nat} {v : EV} (h : Cl n v) (hm : n ≤ m) : Cl m v := fun f hf => h f fun b hb => hf b (by omega)
theorem Cl.of {n : Nat} {v : EV} (h : v.inI [] = true) : Cl n v := fun f _ => ren_in v h
theorem Cl.get {n : Nat} {p : List Nat} {v u : EV} (h : Cl n v) (hg : EV.get p v = some u) : Cl n u := by
  intro f hf
  have := get_ren f p v
  rw [h f hf, hg] at this
  exact (Option.some.inj this).symm
theorem Cl.part {n : Nat} {l : List EV} {i : Nat} {u : EV} (h : ∀ f : Nat → Nat, (∀ b, b < n → f b = b) → EV.renL f l = l) (hl : l[i]? = some u) : Cl n u := by
  intro f hf
  have := renL_get f l i
  rw [h f hf, hl] at this
  exact (Option.some.inj this).symm
theorem Cl.agg {n : Nat} {l : List EV} (h : Cl n (.agg l)) : ∀ f : Nat → Nat, (∀ b, b < n → f b = b) → EV.renL f l = l := fun f hf => by
  have := h f hf; simpa [EV.ren] using this
theorem Cl.tuple {n : Nat} {l : List EV} (h : Cl n (.tuple l)) : ∀ f : Nat → Nat, (∀ b, b < n → f b = b) → EV.renL f l = l := fun f hf => by
  have := h f hf; simpa [EV.ren] using this
theorem ClL.ren {n : Nat} {l : List EV} (h : ClL n l) (f : Nat → Nat) (hf : ∀ b, b < n → f b = b) : l.map (EV.ren f) = l := by
  induction l with
  | nil => rfl
  | cons v l ih => rw [List.map_cons, h v List.mem_cons_self f hf, ih fun u hu => h u (List.mem_cons_of_mem _ hu)]
theorem Cl.ptr {n b : Nat} {p q : List Nat} (h : Cl n (.ptr b p)) : Cl n (.ptr b q) := fun f hf => by
  have := h f hf; simp only [EV.ren, EV.ptr.injEq] at this ⊢; exact ⟨this.1, trivial⟩
section clo
variable {E : Env} {n : Nat}
theorem evLoad_cl {t : TypeId} {v : EV} {H : Heap} {K : EV → Prop} (hv : Cl n v) (hH : ClH n H) (h : evLoad E t v H K) : evLoad E t v H fun u => K u ∧ Cl n u := by
  cases v <;> simp only [evLoad] at h ⊢ <;> try exact h.elim
  case rref u =>
    rw [gd_iff] at h ⊢
    refine ⟨h.1, h.2, fun f hf => ?_⟩
    have := hv f hf; simpa [EV.ren] using this
  case ptr b p =>
    split at h
    case h_2 => exact h.elim
    rename_i c hb
    split at h
    case h_2 => exact h.elim
    rename_i u hu
    try simp only [hb, hu]
    rw [gd_iff] at h ⊢
    exact ⟨h.1, h.2, (hH b c hb).get hu⟩
theorem intBin_cl {op : BinOp} {k : IntKind} {a b : Int} {K : EV → Prop} (h : intBin op k a b K) : intBin op k a b fun u => K u ∧ Cl n u := by
  cases op <;> simp only [intBin, gd_iff] at h ⊢ <;> first | exact ⟨h, fun _ _ => rfl⟩ | exact ⟨h.1, h.2, fun _ _ => rfl⟩
theorem strBin_cl {op : BinOp} {a b : List UInt8} {K : EV → Prop} (h : strBin op a b K) : strBin op a b fun u => K u ∧ Cl n u := by
  cases op <;> simp only [strBin, gd_iff] at h ⊢ <;> first | exact h.elim | exact ⟨h, fun _ _ => rfl⟩ | exact ⟨h.1, h.2, fun _ _ => rfl⟩
theorem evBin_cl {op : BinOp} {t : TypeId} {x y : EV} {K : EV → Prop} (h : evBin E op t x y K) : evBin E op t x y fun u => K u ∧ Cl n u := by
  by_cases h1 : ∃ k a k' b, x = .int k a ∧ y = .int k' b
  · obtain ⟨k, a, k', b, rfl, rfl⟩ := h1
    cases op <;> simp only [evBin] at h ⊢
    all_goals first
      | (rw [gd_iff] at h ⊢; exact ⟨h.1, h.2, fun _ _ => rfl⟩)
      | (rw [cd_iff] at h ⊢; exact ⟨fun e => intBin_cl (h.1 e), h.2⟩)
  · by_cases h2 : ∃ a b, x = .str a ∧ y = .str b
    · obtain ⟨a, b, rfl, rfl⟩ := h2
      exact strBin_cl h
    · rw [evBin_rest (fun k a k' b e1 e2 => h1 ⟨k, a, k', b, e1, e2⟩) (fun a b e1 e2 => h2 ⟨a, b, e1, e2⟩)] at h ⊢
      cases op <;> simp only [eqRest] at h ⊢ <;> try exact h
      · cases hb : eqT E 100 t x y with
        | none => rw [hb] at h; exact h.elim
        | some b => rw [hb] at h; exact ⟨h, fun _ _ => rfl⟩
      · cases hb : eqT E 100 t x y with
        | none => rw [hb] at h; exact h.elim
        | some b => rw [hb] at h; exact ⟨h, fun _ _ => rfl⟩
theorem evUn_cl {op : UnOp} {x : EV} {K : EV → Prop} (h : evUn op x K) : evUn op x fun u => K u ∧ Cl n u := by
  cases op <;> cases x <;> simp only [evUn] at h ⊢ <;> first | exact h.elim | exact ⟨h, fun _ _ => rfl⟩
theorem convRest_cl {si : TI} {x : EV} {H : Heap} {K : EV → Prop} (h : convRest E si x H K) : convRest E si x H fun u => K u ∧ Cl n u := by
  unfold convRest at h ⊢
  split at h
  case h_2 => exact h.elim
  rename_i e he
  rw [cd_iff] at h
  cases hi : isIntTy E e .u8 with
  | false => exact (h.2 hi).elim
  | true =>
    have h' := h.1 hi
    simp only [cond_true]
    split at h'
    · exact ⟨h', fun _ _ => rfl⟩
    · rename_i hw
      split at h'
      · exact ⟨h', fun _ _ => rfl⟩
      · exact h'.elim
theorem evConv_cl {src dst : TypeId} {x : EV} {H : Heap} {K : EV → Prop} (h : evConv E src dst x H K) : evConv E src dst x H fun u => K u ∧ Cl n u := by
  unfold evConv at h ⊢
  cases hs : E.ty src with
  | none => rw [hs] at h; exact h.elim
  | some si =>
    cases hd : E.ty dst with
    | none => rw [hs, hd] at h; exact h.elim
    | some di =>
      rw [hs, hd] at h
      simp only at h ⊢
      cases htd : di.td <;> simp only [htd] at h ⊢ <;> try exact h.elim
      · cases x <;> simp only at h ⊢ <;> first | exact h.elim | exact ⟨h, fun _ _ => rfl⟩
      · rcases (show (∃ s, x = .str s ∧ K (.str s)) ∨ ((∀ s, x ≠ .str s) ∧ convRest E si x H K) from by
          cases x <;> first | exact .inl ⟨_, rfl, h⟩ | exact .inr ⟨(fun s e => by cases e), h⟩) with ⟨s, rfl, h⟩ | ⟨hne, h⟩
        · exact ⟨h, fun _ _ => rfl⟩
        · have := convRest_cl (n := n) h
          revert this hne
          cases x <;> intro hne this <;> first | exact this | exact absurd rfl (hne _)
theorem pickL_cl {F G : Nat → EV → Prop} : ∀ (l : List EV) (j : Nat) (i : Int), (∀ k u, l[k]? = some u → F (j + k) u → G (j + k) u) → pickL F l j i → pickL G l j i
  | [], _, _, _, h => h
  | u :: l, j, i, hF, h => by
    simp only [pickL, br_iff] at h ⊢
    refine ⟨fun e => hF 0 u rfl (h.1 e), fun e => pickL_cl l (j + 1) i (fun k u hk hf => ?_) (h.2 e)⟩
    rw [show j + 1 + k = j + (k + 1) from by omega] at hf ⊢
    exact hF (k + 1) u (by simpa using hk) hf
theorem evIndex_cl {t : TypeId} {x i : EV} {K : EV → Prop} (hx : Cl n x) (h : evIndex E t x i K) : evIndex E t x i fun u => K u ∧ Cl n u := by
  unfold evIndex at h ⊢
  cases ht : E.ty t with
  | none => rw [ht] at h; exact h.elim
  | some ti =>
    rw [ht] at h
    cases i <;> simp only at h ⊢ <;> try exact h.elim
    cases htd : ti.td <;> simp only [htd] at h ⊢ <;> try exact h.elim
    · cases x <;> simp only at h ⊢ <;> try exact h.elim
      rw [gd_iff] at h ⊢
      exact ⟨h.1, h.2, fun _ _ => rfl⟩
    · cases x <;> simp only at h ⊢ <;> try exact h.elim
      · rw [cd_iff] at h ⊢
        refine ⟨fun e => pickL_cl _ _ _ (fun k u hk hf => ?_) (h.1 e), h.2⟩
        rw [gd_iff] at hf ⊢
        exact ⟨hf.1, hf.2, Cl.part hx.agg hk⟩
      · rw [cd_iff] at h ⊢
        refine ⟨fun e => ?_, h.2⟩
        have := h.1 e
        rw [gd_iff] at this ⊢
        exact ⟨this.1, this.2, fun _ _ => rfl⟩
theorem evField_cl {t : TypeId} {x : EV} {i : Nat} {K : EV → Prop} (hx : Cl n x) (h : evField E t x i K) : evField E t x i fun u => K u ∧ Cl n u := by
  unfold evField at h ⊢
  split at h
  case h_2 => exact h.elim
  rename_i ti ht
  split at h
  case h_2 => exact h.elim
  rename_i fs l hq
  simp only [hq]
  split at h
  case h_2 => exact h.elim
  rename_i o ft u hf hl
  try simp only [hf, hl]
  rw [gd_iff] at h ⊢
  exact ⟨h.1, h.2, Cl.part hx.agg hl⟩
theorem evNil_cl {x : EV} {H : Heap} {K : EV → Prop} (hx : Cl n x) (h : evNil x H K) : evNil x H fun u => K u ∧ Cl n u := by
  unfold evNil at h ⊢
  cases x <;> simp only at h ⊢ <;> try exact h
  · rename_i b p
    cases hb : H[b]? with
    | none => rw [hb] at h; exact h.elim
    | some q =>
      cases q with
      | none => rw [hb] at h; exact h.elim
      | some c =>
        rw [hb] at h
        simp only at h ⊢
        cases hg : EV.get p c with
        | none => rw [hg] at h; exact h.elim
        | some u => rw [hg] at h; exact ⟨h, hx⟩
  all_goals exact ⟨h, hx⟩
theorem nilEq_cl {op : BinOp} {b : Bool} {K : EV → Prop} (h : nilEq op b K) : nilEq op b fun u => K u ∧ Cl n u := by
  cases op <;> first | exact ⟨h, fun f _ => rfl⟩ | exact h.elim
theorem evCmp_cl {op : BinOp} {t : TypeId} {o : Operand} {x y : EV} {H : Heap} {K : EV → Prop} (hx : Cl n x) (h : evCmp E op t o x y H K) : evCmp E op t o x y H fun u => K u ∧ Cl n u := by
  unfold evCmp at h ⊢
  cases h1 : Nat.beq (nilK o) 1 with
  | true =>
    rw [h1] at h
    simp only [cond_true] at h ⊢
    unfold evPN at h ⊢
    cases x <;> simp only at h ⊢ <;> try exact h.elim
    · cases h2 : tdIs E t 1 with
      | true => rw [h2] at h; exact nilEq_cl h
      | false => rw [h2] at h; exact h.elim
    · cases h2 : tdIs E t 1 with
      | true =>
        rw [h2] at h
        simp only [cond_true] at h ⊢
        unfold evNil at h ⊢
        simp only at h ⊢
        split at h
        · split at h
          · exact nilEq_cl h
          · exact h.elim
        · exact h.elim
      | false => rw [h2] at h; exact h.elim
  | false =>
    rw [h1] at h
    simp only [cond_false] at h ⊢
    cases h2 : Nat.beq (nilK o) 2 with
    | true =>
      rw [h2] at h
      simp only [cond_true] at h ⊢
      unfold evIN at h ⊢
      cases x <;> simp only at h ⊢ <;> try exact h.elim
      all_goals
        cases h3 : tdIs E t 0 with
        | true => rw [h3] at h; exact nilEq_cl h
        | false => rw [h3] at h; exact h.elim
    | false => rw [h2] at h; exact evBin_cl h
theorem evFieldAddr_cl {t : TypeId} {x : EV} {i : Nat} {H : Heap} {K : EV → Prop} (hx : Cl n x) (h : evFieldAddr E t x i H K) : evFieldAddr E t x i H fun u => K u ∧ Cl n u := by
  unfold evFieldAddr at h ⊢
  cases ht : E.ty t with
  | none => rw [ht] at h; exact h.elim
  | some ti =>
    rw [ht] at h
    simp only at h ⊢
    cases htd : ti.td <;> simp only [htd] at h ⊢ <;> try exact h.elim
    rename_i fs
    cases hf : fs[i]? with
    | none => rw [hf] at h; exact h.elim
    | some q =>
      obtain ⟨o, ft⟩ := q
      rw [hf] at h
      simp only at h ⊢
      cases hft : E.ty ft with
      | none => rw [hft] at h; exact h.elim
      | some fi =>
        rw [hft] at h
        simp only at h ⊢
        cases x <;> try simp only at h ⊢ <;> try exact h.elim
        case ptr b p =>
          cases hb : H[b]? with
          | none => rw [hb] at h; exact h.elim
          | some oc =>
            cases oc with
            | none => rw [hb] at h; exact h.elim
            | some c =>
              rw [hb] at h
              simp only at h ⊢
              cases hg : EV.get p c with
              | none => rw [hg] at h; exact h.elim
              | some u =>
                rw [hg] at h
                simp only at h ⊢
                rw [gd_iff] at h ⊢
                exact ⟨h.1, h.2, hx.ptr⟩
        case rref v =>
          cases v <;> simp only at h ⊢ <;> try exact h.elim
          rename_i l
          cases hl : l[i]? with
          | none => rw [hl] at h; exact h.elim
          | some u =>
            rw [hl] at h
            simp only at h ⊢
            rw [gd_iff] at h ⊢
            refine ⟨h.1, h.2, fun f hf' => ?_⟩
            have hl2 : ∀ f : Nat → Nat, (∀ b, b < n → f b = b) → EV.renL f l = l := fun f hf => by
              have := hx f hf; simpa [EV.ren] using this
            simp only [EV.ren, Cl.part hl2 hl f hf']
theorem evIndexAddr_cl {t : TypeId} {x i : EV} {H : Heap} {K : EV → Prop} (hx : Cl n x) (h : evIndexAddr E t x i H K) : evIndexAddr E t x i H fun u => K u ∧ Cl n u := by
  have sl : ∀ {b off len cap e p}, x = .slice b off len cap e → Cl n (.ptr b p) := by
    intro b off len cap e p hq f hf
    have := hx f hf
    rw [hq] at this
    simp only [EV.ren, EV.slice.injEq] at this
    simp only [EV.ren, this.1]
  unfold evIndexAddr at h ⊢
  cases ht : E.ty t with
  | none => rw [ht] at h; exact h.elim
  | some ti =>
    rw [ht] at h
    cases i <;> simp only at h ⊢ <;> try exact h.elim
    rename_i ki i
    cases htd : ti.td <;> simp only [htd] at h ⊢ <;> try exact h.elim
    case slice e =>
      cases he : E.ty e with
      | none => rw [he] at h; exact h.elim
      | some ei =>
        rw [he] at h
        simp only at h ⊢
        cases x <;> simp only at h ⊢ <;> try exact h.elim
        case slice b off len cap es =>
          cases hb : H[b]? with
          | none => rw [hb] at h; exact h.elim
          | some oc =>
            cases oc with
            | none => rw [hb] at h; exact h.elim
            | some c =>
              rw [hb] at h
              simp only at h ⊢
              rw [gd_iff] at h ⊢
              refine ⟨h.1, ?_⟩
              have h2 := h.2
              cases c <;> simp only at h2 ⊢ <;> first | exact ⟨h2, sl rfl⟩ | skip
              exact pickL_cl _ _ _ (fun k u hk hf => ⟨hf, sl rfl⟩) h2
        case rsI k n g =>
          rw [gd_iff] at h ⊢
          exact ⟨h.1, h.2, fun _ _ => rfl⟩
    case array m e =>
      cases he : E.ty e with
      | none => rw [he] at h; exact h.elim
      | some ei =>
        rw [he] at h
        simp only at h ⊢
        cases x <;> try simp only at h ⊢ <;> try exact h.elim
        case ptr b p =>
          cases hb : H[b]? with
          | none => rw [hb] at h; exact h.elim
          | some oc =>
            cases oc with
            | none => rw [hb] at h; exact h.elim
            | some c =>
              rw [hb] at h
              simp only at h ⊢
              cases hg : EV.get p c with
              | none => rw [hg] at h; exact h.elim
              | some u =>
                rw [hg] at h
                try simp only at h ⊢
                cases u <;> simp only at h ⊢ <;> try exact h.elim
                case arr k m g =>
                  rw [cd_iff] at h ⊢
                  refine ⟨fun hc => ?_, h.2⟩
                  have := h.1 hc
                  rw [gd_iff] at this ⊢
                  exact ⟨this.1, this.2, hx.ptr⟩
                case agg l =>
                  rw [cd_iff] at h ⊢
                  exact ⟨fun hc => pickL_cl _ _ _ (fun k u hk hf => ⟨hf, hx.ptr⟩) (h.1 hc), h.2⟩
        case rref v =>
          cases v <;> simp only at h ⊢ <;> try exact h.elim
          rename_i k m g
          rw [cd_iff] at h ⊢
          exact ⟨fun hc => ⟨(h.1 hc).1, (h.1 hc).2, fun _ _ => rfl⟩, h.2⟩
theorem evExtract_cl {x : EV} {i : Nat} {K : EV → Prop} (hx : Cl n x) (h : evExtract x i K) : evExtract x i fun u => K u ∧ Cl n u := by
  cases x <;> simp only [evExtract] at h ⊢ <;> try exact h.elim
  rename_i l
  cases hl : l[i]? with
  | none => rw [hl] at h; exact h.elim
  | some u => rw [hl] at h; exact ⟨h, Cl.part hx.tuple hl⟩
theorem evParts_cl {place : Nat → Option (Nat × Nat)} {ps : List (Nat × EV)} {z v : EV} (hp : ∀ p ∈ ps, Cl n p.2) (hz : Cl n z) (h : evParts place ps z = some v) : Cl n v := by
  intro f hf
  have h1 := evParts_ren (f := f) place ps z
  have h2 : renP f ps = ps := by
    unfold renP
    have : ∀ p ∈ ps, (fun p : Nat × EV => (p.1, p.2.ren f)) p = id p := fun p hp' => by
      show (p.1, p.2.ren f) = p
      rw [hp p hp' f hf]
    rw [List.map_congr_left this, List.map_id]
  rw [h2, hz f hf, h] at h1
  exact (Option.some.inj h1).symm
theorem evBuild_cl (hC : Closed E) {t : TypeId} {ps : List (Nat × EV)} {K : EV → Prop} (hp : ∀ p ∈ ps, Cl n p.2) (h : evBuild E t ps K) : evBuild E t ps fun u => K u ∧ Cl n u := by
  unfold evBuild at h ⊢
  cases ht : E.ty t with
  | none => rw [ht] at h; exact h.elim
  | some ti =>
    rw [ht] at h
    simp only at h ⊢
    have hz : Cl n ti.zero := Cl.of (hC.ty t ti ht)
    rw [gd_iff] at h ⊢
    refine ⟨h.1, ?_⟩
    replace h := h.2
    cases htd : ti.td <;> simp only [htd] at h ⊢ <;> try exact h.elim
    case struct fs =>
      split at h
      · rename_i v hv
        try simp only [hv]
        rw [gd_iff] at h ⊢
        exact ⟨h.1, h.2, evParts_cl hp hz hv⟩
      · exact h.elim
    case array m e =>
      split at h
      case h_2 => exact h.elim
      rename_i k he
      split at h
      · rename_i v hv
        try simp only [hv]
        exact ⟨h, evParts_cl hp hz hv⟩
      · exact h.elim
theorem evLen_cl {t : TypeId} {x : EV} {K : EV → Prop} (h : evLen E t x K) : evLen E t x fun u => K u ∧ Cl n u := by
  unfold evLen at h ⊢
  cases ht : E.ty t with
  | none => rw [ht] at h; exact h.elim
  | some ti =>
    rw [ht] at h
    simp only at h ⊢
    cases htd : ti.td <;> simp only [htd] at h ⊢ <;> try exact h.elim
    all_goals (cases x <;> simp only at h ⊢ <;> first | exact h.elim | exact ⟨h, fun _ _ => rfl⟩)
theorem evMM_cl {g : Int → Int → Int} {xs : List EV} {K : EV → Prop} (hx : ClL n xs) (h : evMM g xs K) : evMM g xs fun u => K u ∧ Cl n u := by
  cases xs with
  | nil => exact h
  | cons x r =>
    simp only [evMM] at h ⊢
    cases hv : foldMM g x r with
    | none => rw [hv] at h; exact h.elim
    | some v =>
      rw [hv] at h
      refine ⟨h, fun f hf => ?_⟩
      have h1 := foldMM_ren (f := f) g r x
      rw [hx x List.mem_cons_self f hf, ClL.ren (fun u hu => hx u (List.mem_cons_of_mem _ hu)) f hf, hv] at h1
      exact (Option.some.inj h1).symm
theorem evSlice_cl {t : TypeId} {x : EV} {lo hi mx : Option EV} {H : Heap} {K : EV → Prop} (hx : Cl n x) (h : evSlice E t x lo hi mx H K) : evSlice E t x lo hi mx H fun u => K u ∧ Cl n u := by
  unfold evSlice at h ⊢
  cases mx with
  | some m => exact h.elim
  | none =>
    cases ht : E.ty t with
    | none => rw [ht] at h; exact h.elim
    | some ti =>
      rw [ht] at h
      simp only at h ⊢
      cases htd : ti.td <;> simp only [htd] at h ⊢ <;> try exact h.elim
      case str =>
        cases x <;> simp only at h ⊢ <;> try exact h.elim
        rename_i s
        cases hl : oInt 0 lo with
        | none => rw [hl] at h; exact h.elim
        | some l =>
          cases hh : oInt s.length hi with
          | none => rw [hl, hh] at h; exact h.elim
          | some q =>
            rw [hl, hh] at h
            simp only at h ⊢
            rw [gd_iff] at h ⊢
            exact ⟨h.1, h.2, fun _ _ => rfl⟩
      case slice e =>
        cases x <;> simp only at h ⊢ <;> try exact h.elim
        case slice b off len cap es =>
          cases hl : oInt 0 lo with
          | none => rw [hl] at h; exact h.elim
          | some l =>
            cases hh : oInt len hi with
            | none => rw [hl, hh] at h; exact h.elim
            | some q =>
              cases hb : H[b]? with
              | none => rw [hl, hh, hb] at h; exact h.elim
              | some oc =>
                cases oc with
                | none => rw [hl, hh, hb] at h; exact h.elim
                | some c =>
                  rw [hl, hh, hb] at h
                  simp only at h ⊢
                  rw [gd_iff] at h ⊢
                  refine ⟨h.1, h.2, fun f hf => ?_⟩
                  have := hx f hf
                  simp only [EV.ren, EV.slice.injEq] at this
                  simp only [EV.ren, this.1]
        case rsI k m g =>
          cases hl : oInt 0 lo with
          | none => rw [hl] at h; exact h.elim
          | some l =>
            cases hh : oInt m hi with
            | none => rw [hl, hh] at h; exact h.elim
            | some q =>
              rw [hl, hh] at h
              simp only at h ⊢
              rw [gd_iff] at h ⊢
              exact ⟨h.1, h.2, fun _ _ => rfl⟩
        case nilSlice =>
          cases hl : oInt 0 lo with
          | none => rw [hl] at h; exact h.elim
          | some l =>
            cases hh : oInt 0 hi with
            | none => rw [hl, hh] at h; exact h.elim
            | some q =>
              rw [hl, hh] at h
              simp only at h ⊢
              rw [gd_iff] at h ⊢
              exact ⟨h.1, h.2, fun _ _ => rfl⟩
      case array na e =>
        cases x <;> try simp only at h ⊢ <;> try exact h.elim
        rename_i b p
        cases p with
        | cons _ _ => exact h.elim
        | nil =>
          simp only at h ⊢
          cases hl : oInt 0 lo with
          | none => rw [hl] at h; exact h.elim
          | some l =>
            cases hh : oInt na hi with
            | none => rw [hl, hh] at h; exact h.elim
            | some q =>
              cases hb : H[b]? with
              | none => rw [hl, hh, hb] at h; exact h.elim
              | some oc =>
                cases oc with
                | none => rw [hl, hh, hb] at h; exact h.elim
                | some c =>
                  rw [hl, hh, hb] at h
                  cases c <;> simp only at h ⊢ <;> try exact h.elim
                  rw [gd_iff] at h ⊢
                  refine ⟨h.1, h.2, fun f hf => ?_⟩
                  have := hx f hf
                  simp only [EV.ren, EV.ptr.injEq] at this
                  simp only [EV.ren, this.1]
structure ClS (s : St) : Prop where
  tmps : ClL s.heap.length s.tmps
  heap : ClH s.heap.length s.heap
theorem opd_cl (hC : Closed E) {s : St} (h : ClS s) (x : Operand) : Cl s.heap.length (St.opd E s x) := by
  cases x with
  | tmp t =>
    simp only [St.opd, St.slot]
    cases ht : s.tmps[t]? with
    | none => exact fun _ _ => rfl
    | some v => exact h.tmps v (List.mem_of_getElem? ht)
  | const v => exact fun f _ => constV_ren v
  | global g =>
    simp only [St.opd]
    cases hg : E.gl g with
    | none => exact fun _ _ => rfl
    | some v => exact fun f _ => by simp only [EV.ren, ren_in v (hC.gl g v hg)]
  | func g => exact fun _ _ => rfl
theorem opdL_cl (hC : Closed E) {s : St} (h : ClS s) (l : List Operand) : ClL s.heap.length (l.map (St.opd E s)) := by
  intro v hv
  obtain ⟨x, _, rfl⟩ := List.mem_map.1 hv
  exact opd_cl hC h x
theorem opdP_cl (hC : Closed E) {s : St} (h : ClS s) (l : List (Nat × Operand)) : ∀ p ∈ (l.map fun p => (p.1, St.opd E s p.2)), Cl s.heap.length p.2 := by
  intro p hp
  obtain ⟨x, _, rfl⟩ := List.mem_map.1 hp
  exact opd_cl hC h x.2
theorem evV_cl (hC : Closed E) {o : Op} {s : St} {K : EV → Prop} (h : ClS s) (hk : evV E o s K) : evV E o s fun u => K u ∧ Cl s.heap.length u := by
  have ho := opd_cl hC h
  unfold evV at hk ⊢
  split at hk
  · exact ⟨hk, ho _⟩
  · exact ⟨hk, ho _⟩
  · rename_i c a b
    simp only
    cases hc : St.opd E s c <;> rw [hc] at hk <;> try exact hk.elim
    simp only at hk ⊢
    rw [br_iff] at hk ⊢
    exact ⟨fun e => ⟨hk.1 e, ho _⟩, fun e => ⟨hk.2 e, ho _⟩⟩
  · rw [gd_iff] at hk ⊢; exact ⟨hk.1, evBuild_cl hC (opdP_cl hC h _) hk.2⟩
  · exact evLoad_cl (ho _) h.heap hk
  · rw [gd_iff] at hk ⊢; exact ⟨hk.1, evCmp_cl (ho _) hk.2⟩
  · exact evUn_cl hk
  · rw [gd_iff] at hk ⊢; exact ⟨hk.1, evConv_cl hk.2⟩
  · rw [gd_iff] at hk ⊢; exact ⟨hk.1, evFieldAddr_cl (ho _) hk.2⟩
  · rw [gd_iff] at hk ⊢; exact ⟨hk.1, evField_cl (ho _) hk.2⟩
  · rw [gd_iff] at hk ⊢; exact ⟨hk.1, evIndexAddr_cl (ho _) hk.2⟩
  · rw [gd_iff] at hk ⊢; exact ⟨hk.1, evIndex_cl (ho _) hk.2⟩
  · exact evExtract_cl (ho _) hk
  · rename_i g cs
    rw [gd_iff] at hk ⊢
    exact ⟨hk.1, hk.2, fun f hf => by simp only [EV.ren, renL_map, ClL.ren (opdL_cl hC h cs.toList) f hf]⟩
  · rw [gd_iff] at hk ⊢; exact ⟨hk.1, evSlice_cl (ho _) hk.2⟩
  · rw [gd_iff] at hk ⊢; exact ⟨hk.1, evLen_cl hk.2⟩
  · rw [gd_iff] at hk ⊢; exact ⟨hk.1, evMM_cl (opdL_cl hC h _) hk.2⟩
  · rw [gd_iff] at hk ⊢; exact ⟨hk.1, evMM_cl (opdL_cl hC h _) hk.2⟩
  · rw [gd_iff] at hk ⊢; exact ⟨hk.1, evNil_cl (ho _) hk.2⟩
  · rename_i g fs _
    rw [gd_iff] at hk ⊢
    exact ⟨hk.1, hk.2, fun f hf => by simp only [EV.ren, renL_map, ClL.ren (opdL_cl hC h fs.toList) f hf]⟩
  · exact hk.elim
theorem ClS.put {s : St} (h : ClS s) (d : Option Nat) {v : EV} {H : Heap} (hl : s.heap.length ≤ H.length) (hv : Cl H.length v) (hH : ClH H.length H) : ClS (s.put d v H) := by
  have ht : ClL H.length s.tmps := fun u hu => (h.tmps u hu).mono hl
  cases d with
  | none => exact ⟨ht, hH⟩
  | some d =>
    refine ⟨?_, hH⟩
    intro u hu
    simp only [St.put] at hu ⊢
    rcases List.mem_or_eq_of_mem_set hu with h1 | rfl
    · exact ht u h1
    · exact hv
mutual
theorem rel_cl {ρ : Ren} {w : World} {f : Nat → Nat} (hf : ∀ b, b < ρ.bs.length → f b = b) : ∀ (v : EV) (x : Value), Rel ρ w v x → v.ren f = v
  | .undef, _, hr => hr.elim
  | .bool _, _, _ => rfl
  | .int _ _, _, _ => rfl
  | .str _, _, _ => rfl
  | .nilPtr, _, _ => rfl
  | .nilSlice, _, _ => rfl
  | .nilFunc, _, _ => rfl
  | .arr _ _ _, _, _ => rfl
  | .nilIface, _, _ => rfl
  | .rsI _ _ _, _, _ => rfl
  | .ptr b p, x, hr => by
    simp only [Rel] at hr
    obtain ⟨a, _, r, h1, _⟩ := hr
    have : b < ρ.bs.length := by
      rcases Nat.lt_or_ge b ρ.bs.length with hh | hh
      · exact hh
      · rw [List.getElem?_eq_none hh] at h1; cases h1
    simp only [EV.ren, hf b this]
  | .slice b off len cap e, x, hr => by
    simp only [Rel] at hr
    obtain ⟨a, c, _, r, h1, _⟩ := hr
    have : b < ρ.bs.length := by
      rcases Nat.lt_or_ge b ρ.bs.length with hh | hh
      · exact hh
      · rw [List.getElem?_eq_none hh] at h1; cases h1
    simp only [EV.ren, hf b this]
  | .rref v, x, hr => by
    simp only [Rel] at hr
    obtain ⟨b, o, y, _, h2, _⟩ := hr
    simp only [EV.ren, rel_cl hf v y h2]
  | .func g cap, x, hr => by
    simp only [Rel] at hr
    obtain ⟨vs, _, h2⟩ := hr
    simp only [EV.ren, relL_cl hf cap _ h2]
  | .bnd g cap, x, hr => by
    simp only [Rel] at hr
    obtain ⟨vs, _, h2⟩ := hr
    simp only [EV.ren, relL_cl hf cap _ h2]
  | .agg l, x, hr => by
    simp only [Rel] at hr
    obtain ⟨vs, _, h2⟩ := hr
    simp only [EV.ren, relF_cl hf l _ h2]
  | .tuple l, x, hr => by
    simp only [Rel] at hr
    obtain ⟨vs, _, h2⟩ := hr
    simp only [EV.ren, relL_cl hf l _ h2]
  | .iface t v, x, hr => by
    simp only [Rel] at hr
    obtain ⟨y, _, h2⟩ := hr
    simp only [EV.ren, rel_cl hf v y h2]
theorem relL_cl {ρ : Ren} {w : World} {f : Nat → Nat} (hf : ∀ b, b < ρ.bs.length → f b = b) : ∀ (l : List EV) (xs : List Value), RelL ρ w l xs → EV.renL f l = l
  | [], _, _ => rfl
  | v :: l, xs, hr => by
    simp only [RelL] at hr
    obtain ⟨x, ys, _, h2, h3⟩ := hr
    simp only [EV.renL, rel_cl hf v x h2, relL_cl hf l ys h3]
theorem relF_cl {ρ : Ren} {w : World} {f : Nat → Nat} (hf : ∀ b, b < ρ.bs.length → f b = b) : ∀ (l : List EV) (xs : List Value), RelF ρ w l xs → EV.renL f l = l
  | [], _, _ => rfl
  | v :: l, xs, hr => by
    simp only [RelF] at hr
    obtain ⟨x, ys, _, h2, h3⟩ := hr
    simp only [EV.renL, rel_cl hf v x h2, relF_cl hf l ys h3]
end
theorem ClS.of {gl : Nat → Option EV} {ρ : Ren} {w : World} {s : St} {a : Array Value} (hT : RelT gl ρ w s.tmps a) (hS : Sim ρ s.heap w) : ClS s := by
  refine ⟨fun v hv f hf => ?_, fun b c hb f hf => ?_⟩
  · obtain ⟨i, hi⟩ := List.mem_iff_getElem?.1 hv
    rcases hT.2.1 i v hi with rfl | ⟨x, _, hr⟩
    · rfl
    · exact rel_cl (fun b hb => hf b (by rw [← hS.len]; exact hb)) v x hr
  · obtain ⟨r, _, _, cs, e, fz, x, _, _, h5, _⟩ := hS.live b c hb
    exact rel_cl (fun b hb => hf b (by rw [← hS.len]; exact hb)) c x h5
end clo
end Go.Ev
