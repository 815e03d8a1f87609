/- The evaluator: operations, regions, code, calls; and that it is sound. -/
import Derived.Test.YtfglhfahphncdaaGreatDoorEvA
set_option linter.unusedVariables false
set_option linter.unusedSimpArgs false
namespace Go.Ev
open Go
def EV.dfd : EV → Bool
 | .undef => false
 | .bool _ => true | .int _ _ => true | .str _ => true | .nilPtr => true | .ptr _ _ => true | .rref _ => true | .nilSlice => true | .slice _ _ _ _ _ => true
 | .rsI _ _ _ => true | .nilFunc => true | .func _ _ => true | .bnd _ _ => true | .agg _ => true | .arr _ _ _ => true | .tuple _ => true | .nilIface => true | .iface _ _ => true
def yfT : List EV → Bool
 | [] => true
 | v :: l => v.dfd && yfT l
theorem ybs {v : EV} (h : v.dfd = true) : v ≠ .undef := by intro e; subst e; cases h
theorem yex : ∀ {l : List EV}, yfT l = true → ∀ v ∈ l, v ≠ .undef
 | v :: l, h, u, hu => by
  simp only [yfT, Bool.and_eq_true] at h
  rcases List.mem_cons.1 hu with rfl | hu
  ·exact ybs h.1
  ·exact yex h.2 u hu
def yoU : Option EV → Bool
 | some v => v.dfd
 | none => true
def yi4 : Operand → Nat
 | .const (.pointer none) => 1
 | .const .nilIface => 2
 | _ => 0
def yig (E : Env) (t : TypeId) (d : Nat) : Bool :=
 match E.ty t with
 | some ti => match ti.td with
  | .iface => Nat.beq d 0
  | .ptr => Nat.beq d 1
  | _ => false
 | none => false
def yfl (op : BinOp) (b : Bool) (K : EV → Prop) : Prop :=
 match op with
 | .eql => K (.bool b)
 | .neq => K (.bool (!b))
 | _ => False
def yqw (E : Env) (op : BinOp) (t : TypeId) (x : EV) (H : yaf) (K : EV → Prop) : Prop :=
 match x with
 | .nilPtr => cond (yig E t 1) (yfl op true K) False
 | .ptr b q => cond (yig E t 1) (ycQ (.ptr b q) H fun _ => yfl op false K) False
 | _ => False
def yqJ (E : Env) (op : BinOp) (t : TypeId) (x : EV) (K : EV → Prop) : Prop :=
 match x with
 | .nilIface => cond (yig E t 0) (yfl op true K) False
 | .iface _ _ => cond (yig E t 0) (yfl op false K) False
 | _ => False
def ydR (E : Env) (op : BinOp) (t : TypeId) (o : Operand) (x y : EV) (H : yaf) (K : EV → Prop) : Prop :=
 cond (Nat.beq (yi4 o) 1) (yqw E op t x H K) (cond (Nat.beq (yi4 o) 2) (yqJ E op t x K) (yeZ E op t x y K))
def evV (E : Env) (o : Op) (s : St) (K : EV → Prop) : Prop :=
 match o with
 | .move x => K ((St.opd E s) x)
 | .assign x => K ((St.opd E s) x)
 | .pick c a b => match (St.opd E s) c with
  | .bool t => br t (K ((St.opd E s) a)) (K ((St.opd E s) b))
  | _ => False
 | .build t ps => gd (yfT (ps.toList.map fun p => (St.opd E s) p.2)) (yb6 E t (ps.toList.map fun p => (p.1, (St.opd E s) p.2)) K)
 | .load t a => ybo E t ((St.opd E s) a) s.heap K
 | .binOp op t x y _ => gd (((St.opd E s) x).dfd && ((St.opd E s) y).dfd) (ydR E op t y ((St.opd E s) x) ((St.opd E s) y) s.heap K)
 | .unOp op _ x => ynp op ((St.opd E s) x) K
 | .convert src dst x => gd ((St.opd E s) x).dfd (ybP E src dst ((St.opd E s) x) s.heap K)
 | .fieldAddr t x f => gd ((St.opd E s) x).dfd (yaF E t ((St.opd E s) x) f s.heap K)
 | .field t x f => gd ((St.opd E s) x).dfd (yb7 E t ((St.opd E s) x) f K)
 | .indexAddr t x i => gd (((St.opd E s) x).dfd && ((St.opd E s) i).dfd) (yaG E t ((St.opd E s) x) ((St.opd E s) i) s.heap K)
 | .index t x i => gd (((St.opd E s) x).dfd && ((St.opd E s) i).dfd) (yca E t ((St.opd E s) x) ((St.opd E s) i) K)
 | .extract x i => ybc ((St.opd E s) x) i K
 | .makeFunc (.func f) ⟨[]⟩ cs => gd (yfT (cs.toList.map (St.opd E s))) (K (.func f (cs.toList.map (St.opd E s))))
 | .slice t x lo hi mx => gd (((St.opd E s) x).dfd && (yoU (lo.map (St.opd E s)) && (yoU (hi.map (St.opd E s)) && yoU (mx.map (St.opd E s))))) (ybh E t ((St.opd E s) x) (lo.map (St.opd E s)) (hi.map (St.opd E s)) (mx.map (St.opd E s)) s.heap K)
 | .call { callee := .builtin .len, args := ⟨[x]⟩, argTypes := ⟨[t]⟩ } => gd ((St.opd E s) x).dfd (yf3 E t ((St.opd E s) x) K)
 | .call { callee := .builtin .max, args := xs, argTypes := _ } => gd (yfT (xs.toList.map (St.opd E s))) (ylN yhm (xs.toList.map (St.opd E s)) K)
 | .call { callee := .builtin .min, args := xs, argTypes := _ } => gd (yfT (xs.toList.map (St.opd E s))) (ylN ym6 (xs.toList.map (St.opd E s)) K)
 | .nilCheck x => gd ((St.opd E s) x).dfd (ycQ ((St.opd E s) x) s.heap K)
 | .makeFunc (.func f) fs ⟨[]⟩ => gd (yfT (fs.toList.map (St.opd E s))) (K (.bnd f (fs.toList.map (St.opd E s))))
 | _ => False
mutual
def EV.free : EV → Bool
 | .ptr _ _ => false
 | .slice _ _ _ _ _ => false
 | .rref _ => false
 | .undef => false
 | .rsI _ _ _ => true
 | .bool _ => true | .int _ _ => true | .str _ => true | .nilPtr => true | .nilSlice => true | .nilFunc => true | .arr _ _ _ => true | .nilIface => true
 | .agg l => EV.freeL l
 | .tuple l => EV.freeL l
 | .func _ l => EV.freeL l
 | .bnd _ l => EV.freeL l
 | .iface _ v => v.free
def EV.freeL : List EV → Bool
 | [] => true
 | v :: l => v.free && EV.freeL l
end
def ydm (H : yaf) : Option IntKind → EV → EV
 | some k, .nilSlice => .rsI k 0 (fun _ => 0)
 | some k, .slice b off len _ _ => match H[b]? with
  | some (some (.arr k' _ g)) => cond (decide (k = k')) (.rsI k len (shift off g)) .undef
  | _ => .undef
 | _, v => v
def yaP (H : yaf) : List (Option IntKind) → List EV → List EV
 | m :: ms, v :: vs => ydm H m v :: yaP H ms vs
 | _, vs => vs
def ybj : List EV → yaf → yaf
 | [], H => H
 | .slice b _ _ _ _ :: vs, H => ybj vs (H.set b none)
 | _ :: vs, H => ybj vs H
def ycs : List (Option IntKind) → List EV → List Nat
 | some _ :: ms, .slice b _ _ _ _ :: vs => b :: ycs ms vs
 | _ :: ms, _ :: vs => ycs ms vs
 | _, _ => []
def ydn (en : yan) (args : List EV) (dead idx : List Nat) (H : yaf) (K : EV → yaf → Prop) : Prop :=
 gd (yfT args && (EV.inIL idx args && (ymq idx H idx && (yjb H.length idx && ye7 idx dead))))
  (en.spec (EV.renL (pos idx) args) (yl1 H idx) fun v H' =>
   gd (v.inI (yhn H'.length) && (ymq (yhn H'.length) H' (yhn H'.length) && Nat.ble idx.length H'.length))
    (K (v.ren (ybQ idx H.length)) (killN (cond (v.noRS && yey H') [] dead) (putB idx (yms (ybQ idx H.length) H') H))))
def ybF (E : Env) (f : FuncId) (args : List EV) (H : yaf) (K : EV → yaf → Prop) : Prop :=
 match E.fn f with
 | some en => cond en.lend
   (ydn en (yaP H en.ro args) (ycs en.ro args) (ym9 0 (yaP H en.ro args) H) H K)
   (gd (EV.freeL (yaP H en.ro args)) (en.spec (yaP H en.ro args) [] fun v H' =>
    gd (Nat.beq H'.length 0 && v.inI []) (cond v.noRS (K v H) (K v (ybj args H)))))
 | none => False
def ydt (E : Env) (f : EV) (args : List EV) (H : yaf) (K : EV → yaf → Prop) : Prop :=
 match f with
 | .func f cap => ybF E f (args ++ cap) H K
 | .bnd f l => ybF E f (l ++ args) H K
 | _ => False
def ycp (E : Env) (o : Op) (s : St) (K : EV → yaf → Prop) : Prop :=
 match o with
 | .alloc t => match E.ty t with
  | some ti => yg6 s.heap ti.zero K
  | none => False
 | .box t x => match (St.opd E s) x with
  | .undef => False
  | v => yg6 s.heap v K
 | .buildSlice t n ps => gd (yfT (ps.toList.map fun p => (St.opd E s) p.2)) (yaJ E t n (ps.toList.map fun p => (p.1, (St.opd E s) p.2)) s.heap K)
 | .store t a x => ycc E t ((St.opd E s) a) ((St.opd E s) x) s.heap (fun H => K .undef H)
 | .makeSlice t ln cp => gd (((St.opd E s) ln).dfd && ((St.opd E s) cp).dfd) (yaS E t ((St.opd E s) ln) ((St.opd E s) cp) s.heap K)
 | .call { callee := .value f, args := xs, argTypes := _ } => ydt E ((St.opd E s) f) (xs.toList.map (St.opd E s)) s.heap K
 | .call { callee := .builtin .append, args := ⟨[x, y]⟩, argTypes := ⟨[t, u]⟩ } => gd (((St.opd E s) x).dfd && ((St.opd E s) y).dfd) (ych E t u ((St.opd E s) x) ((St.opd E s) y) s.heap K)
 | .call { callee := .builtin .copy, args := ⟨[x, y]⟩, argTypes := ⟨[t, _]⟩ } => gd (((St.opd E s) x).dfd && ((St.opd E s) y).dfd) (yeP E t ((St.opd E s) x) ((St.opd E s) y) s.heap K)
 | o => evV E o s (fun v => K v s.heap)
section sound
variable {P : Program} {E : Env}
def GOk (gl : Nat → Option EV) (ρ : Ren) (w : World) : Prop := ∀ g v, gl g = some v → v.inI [] = true ∧ Rel ρ w (.rref v) (.pointer (some ⟨g, 0, none⟩)) ∧
 ∀ k n f, v = .arr k n f → ∃ cs t fz, w.heap[g]? = some (.cells cs t fz) ∧ cs.size = n
theorem GOk.ext {gl : Nat → Option EV} {ρ ρ' : Ren} {w w' : World} (h : GOk gl ρ w) (he : Ext ρ w ρ' w') : GOk gl ρ' w' := fun g v hg => ⟨(h g v hg).1, Rel.ext he _ _ (h g v hg).2.1, fun k n f hv => by
 obtain ⟨cs, t, fz, h1, h2⟩ := (h g v hg).2.2 k n f hv
 obtain ⟨b, o, y, e, _, hb, hm, _⟩ := (h g v hg).2.1
 cases e
 exact ⟨cs, t, fz, (he.out g hb fun hh => hm (List.mem_append.2 (.inr hh))).trans h1, h2⟩⟩
mutual
theorem ydz {f : Nat → Nat} : ∀ (v : EV), v.inI [] = true → v.ren f = v
 | .ptr b _, h => by simp [EV.inI, yhB] at h
 | .slice b _ _ _ _, h => by simp [EV.inI, yhB] at h
 | .rref v, h => by simp only [EV.ren, ydz v (by simpa [EV.inI] using h)]
 | .agg l, h => by simp only [EV.ren, yfx l (by simpa [EV.inI] using h)]
 | .tuple l, h => by simp only [EV.ren, yfx l (by simpa [EV.inI] using h)]
 | .func _ l, h => by simp only [EV.ren, yfx l (by simpa [EV.inI] using h)]
 | .bnd _ l, h => by simp only [EV.ren, yfx l (by simpa [EV.inI] using h)]
 | .iface _ v, h => by simp only [EV.ren, ydz v (by simpa [EV.inI] using h)]
 | .rsI _ _ _, _ => rfl | .undef, _ => rfl
 | .bool _, _ => rfl | .int _ _, _ => rfl | .str _, _ => rfl | .nilPtr, _ => rfl | .nilSlice, _ => rfl | .nilFunc, _ => rfl | .arr _ _ _, _ => rfl | .nilIface, _ => rfl
theorem yfx {f : Nat → Nat} : ∀ (l : List EV), EV.inIL [] l = true → EV.renL f l = l
 | [], _ => rfl
 | v :: l, h => by
  simp only [EV.inIL, Bool.and_eq_true] at h
  simp only [EV.renL, ydz v h.1, yfx l h.2]
end
theorem GOk.sub {gl : Nat → Option EV} {ρ ρ' : Ren} {w : World} (h : GOk gl ρ w) (hm : ∀ b, b ∈ ρ'.mbs → b ∈ ρ.mbs) : GOk gl ρ' w := by
 intro g v hg
 obtain ⟨h1, h2, h4⟩ := h g v hg
 refine ⟨h1, ?_, h4⟩
 have h3 : (EV.rref v).inI [] = true := by simpa [EV.inI] using h1
 have := Rel.ren (ρ' := ρ') (f := id) (idx := []) (fun b r hb _ => by cases hb) (.rref v) _ h3 (.inr fun b _ hn hb => hn (hm b hb)) h2
 rwa [ydz _ h3] at this
def SoundF (P : Program) (gl : Nat → Option EV) (f : FuncId) (en : yan) : Prop :=
 ∀ (ρ : Ren) (H : yaf) (w : World) (args : List EV) (xs : List Value) (K : EV → yaf → Prop), en.spec args H K → RelL ρ w args xs → Sim ρ H w → GOk gl ρ w →
  Calls P f xs.toArray w fun e w' => ∃ v x H' ρ', e = .returned x ∧ K v H' ∧ Rel ρ' w' v x ∧ Sim ρ' H' w' ∧ Ext ρ w ρ' w' ∧ ρ'.F = ρ.F
theorem SoundF.plain {gl : Nat → Option EV} {f : FuncId} {en : yan} (h : SoundF P gl f en) {F : List Nat} {w : World} {args : List EV} {xs : List Value} {K : EV → Prop} (hs : en.spec args [] fun v H' => gd (Nat.beq H'.length 0) (K v))
  (hr : RelL ⟨F, []⟩ w args xs) (hF : ∀ b, b ∈ F → b < w.heap.size) (hG : GOk gl ⟨F, []⟩ w) : Calls P f xs.toArray w fun e w' => ∃ v x, e = .returned x ∧ K v ∧ Rel ⟨F, []⟩ w' v x ∧ Ext ⟨F, []⟩ w ⟨F, []⟩ w' := by
 refine (h ⟨F, []⟩ [] w args xs _ hs hr ⟨rfl, hF, by intro b r h; simp at h, by intro b r h; simp at h, by intro b c r s h; simp at h, by intro b v h; simp at h⟩ hG).mono ?_
 rintro e w' ⟨v, x, H', ρ', rfl, hK, hv, hS, hX, hf⟩
 rw [yac] at hK
 have h0 := Nat.eq_of_beq_eq_true hK.1
 have h1 : ρ' = ⟨F, []⟩ := by
  have := hS.len
  rw [h0] at this
  have h2 := List.length_eq_zero_iff.1 this
  cases ρ'
  simp only at hf h2
  rw [hf, h2]
 subst h1
 exact ⟨v, x, rfl, hK.2, hv, hX⟩
theorem SoundF.plainC {gl : Nat → Option EV} {f : FuncId} {en : yan} (h : SoundF P gl f en) {F : List Nat} {w : World} {args : List EV} {xs : List Value} {K : EV → Prop} (hs : en.spec args [] fun v H' => gd (Nat.beq H'.length 0 && v.inI []) (K v))
  (hr : RelL ⟨F, []⟩ w args xs) (hF : ∀ b, b ∈ F → b < w.heap.size) (hG : GOk gl ⟨F, []⟩ w) : Calls P f xs.toArray w fun e w' => ∃ v x, e = .returned x ∧ K v ∧ Rel ⟨F, []⟩ w' v x ∧ Ext ⟨F, []⟩ w ⟨F, []⟩ w' := by
 refine (h ⟨F, []⟩ [] w args xs _ hs hr ⟨rfl, hF, by intro b r h; simp at h, by intro b r h; simp at h, by intro b c r s h; simp at h, by intro b v h; simp at h⟩ hG).mono ?_
 rintro e w' ⟨v, x, H', ρ', rfl, hK, hv, hS, hX, hf⟩
 rw [yac, Bool.and_eq_true] at hK
 have h0 := Nat.eq_of_beq_eq_true hK.1.1
 have h1 : ρ' = ⟨F, []⟩ := by
  have := hS.len
  rw [h0] at this
  have h2 := List.length_eq_zero_iff.1 this
  cases ρ'
  simp only at hf h2
  rw [hf, h2]
 subst h1
 exact ⟨v, x, rfl, hK.2, hv, hX⟩
mutual
theorem Rel.toFree {ρ ρ' : Ren} {w : World} (hm : ∀ b, b ∈ ρ'.mbs → b ∈ ρ.mbs) : ∀ (v : EV) (x : Value), v.free = true → Rel ρ w v x → Rel ρ' w v x
 | .undef, _, _, hr => hr.elim
 | .bool _, _, _, hr => hr
 | .int _ _, _, _, hr => hr
 | .str _, _, _, hr => hr
 | .nilPtr, _, _, hr => hr
 | .ptr _ _, _, h, _ => by simp [EV.free] at h
 | .rref _, _, h, _ => by simp [EV.free] at h
 | .nilSlice, _, _, hr => hr
 | .slice _ _ _ _ _, _, h, _ => by simp [EV.free] at h
 | .rsI k n g, x, _, hr => by
  simp only [Rel] at hr ⊢
  obtain ⟨a, c, h1, h2, h3⟩ := hr
  refine ⟨a, c, h1, h2, h3.imp id ?_⟩
  rintro ⟨b, o, h4, h5, h6, h7⟩
  exact ⟨b, o, h4, h5, fun h => h6 (hm b h), h7⟩
 | .nilFunc, _, _, hr => hr
 | .func f cap, x, h, hr => by
  simp only [Rel] at hr ⊢
  obtain ⟨vs, h1, h2⟩ := hr
  exact ⟨vs, h1, RelL.toFree hm cap _ (by simpa [EV.free] using h) h2⟩
 | .bnd f cap, x, h, hr => by
  simp only [Rel] at hr ⊢
  obtain ⟨vs, h1, h2⟩ := hr
  exact ⟨vs, h1, RelL.toFree hm cap _ (by simpa [EV.free] using h) h2⟩
 | .agg l, x, h, hr => by
  simp only [Rel] at hr ⊢
  obtain ⟨cs, h1, h2⟩ := hr
  exact ⟨cs, h1, RelF.toFree hm l _ (by simpa [EV.free] using h) h2⟩
 | .arr _ _ _, _, _, hr => hr
 | .tuple l, x, h, hr => by
  simp only [Rel] at hr ⊢
  obtain ⟨vs, h1, h2⟩ := hr
  exact ⟨vs, h1, RelL.toFree hm l _ (by simpa [EV.free] using h) h2⟩
 | .nilIface, _, _, hr => hr
 | .iface t v, x, h, hr => by
  simp only [Rel] at hr ⊢
  obtain ⟨y, h1, h2⟩ := hr
  exact ⟨y, h1, Rel.toFree hm v y (by simpa [EV.free] using h) h2⟩
theorem RelL.toFree {ρ ρ' : Ren} {w : World} (hm : ∀ b, b ∈ ρ'.mbs → b ∈ ρ.mbs) : ∀ (l : List EV) (xs : List Value), EV.freeL l = true → RelL ρ w l xs → RelL ρ' w l xs
 | [], _, _, hr => hr
 | v :: l, xs, h, hr => by
  simp only [EV.freeL, Bool.and_eq_true] at h
  simp only [RelL] at hr ⊢
  obtain ⟨x, ys, h1, h2, h3⟩ := hr
  exact ⟨x, ys, h1, Rel.toFree hm v x h.1 h2, RelL.toFree hm l ys h.2 h3⟩
theorem RelF.toFree {ρ ρ' : Ren} {w : World} (hm : ∀ b, b ∈ ρ'.mbs → b ∈ ρ.mbs) : ∀ (l : List EV) (xs : List Value), EV.freeL l = true → RelF ρ w l xs → RelF ρ' w l xs
 | [], _, _, hr => hr
 | v :: l, xs, h, hr => by
  simp only [EV.freeL, Bool.and_eq_true] at h
  simp only [RelF] at hr ⊢
  obtain ⟨x, ys, h1, h2, h3⟩ := hr
  exact ⟨x, ys, h1, Rel.toFree hm v x h.1 h2, RelF.toFree hm l ys h.2 h3⟩
end
mutual
theorem Rel.ofFree {F : List Nat} {ρ : Ren} {w : World} : ∀ (v : EV) (x : Value), (v.noRS = true ∨ ∀ b, b ∈ ρ.mbs → b ∈ F) → Rel ⟨F, []⟩ w v x → Rel ρ w v x
 | .undef, _, _, hr => hr.elim
 | .bool _, _, _, hr => hr
 | .int _ _, _, _, hr => hr
 | .str _, _, _, hr => hr
 | .nilPtr, _, _, hr => hr
 | .ptr _ _, _, _, hr => by simp only [Rel] at hr; obtain ⟨_, _, _, h, _⟩ := hr; simp at h
 | .rref v, x, h, hr => by
  simp only [Rel] at hr ⊢
  obtain ⟨b, o, y, h1, h2, h3, h4, h5⟩ := hr
  rcases h with h | h
  ·simp [EV.noRS] at h
  ·exact ⟨b, o, y, h1, Rel.ofFree v y (.inr h) h2, h3, fun hb => h4 (List.mem_append.2 (.inl (h b hb))), h5⟩
 | .nilSlice, _, _, hr => hr
 | .slice _ _ _ _ _, _, _, hr => by simp only [Rel] at hr; obtain ⟨_, _, _, _, h, _⟩ := hr; simp at h
 | .rsI k n g, x, h, hr => by
  simp only [Rel] at hr ⊢
  obtain ⟨a, c, h1, h2, h3⟩ := hr
  rcases h with h | h
  ·simp [EV.noRS] at h
  ·refine ⟨a, c, h1, h2, h3.imp id ?_⟩
   rintro ⟨b, o, h4, h5, h6, h7⟩
   exact ⟨b, o, h4, h5, fun hb => h6 (List.mem_append.2 (.inl (h b hb))), h7⟩
 | .nilFunc, _, _, hr => hr
 | .func f cap, x, h, hr => by
  simp only [Rel] at hr ⊢
  obtain ⟨vs, h1, h2⟩ := hr
  exact ⟨vs, h1, RelL.ofFree cap _ (h.imp (by simp [EV.noRS]) id) h2⟩
 | .bnd f cap, x, h, hr => by
  simp only [Rel] at hr ⊢
  obtain ⟨vs, h1, h2⟩ := hr
  exact ⟨vs, h1, RelL.ofFree cap _ (h.imp (by simp [EV.noRS]) id) h2⟩
 | .agg l, x, h, hr => by
  simp only [Rel] at hr ⊢
  obtain ⟨cs, h1, h2⟩ := hr
  exact ⟨cs, h1, RelF.ofFree l _ (h.imp (by simp [EV.noRS]) id) h2⟩
 | .arr _ _ _, _, _, hr => hr
 | .tuple l, x, h, hr => by
  simp only [Rel] at hr ⊢
  obtain ⟨vs, h1, h2⟩ := hr
  exact ⟨vs, h1, RelL.ofFree l _ (h.imp (by simp [EV.noRS]) id) h2⟩
 | .nilIface, _, _, hr => hr
 | .iface t v, x, h, hr => by
  simp only [Rel] at hr ⊢
  obtain ⟨y, h1, h2⟩ := hr
  exact ⟨y, h1, Rel.ofFree v y (h.imp (by simp [EV.noRS]) id) h2⟩
theorem RelL.ofFree {F : List Nat} {ρ : Ren} {w : World} : ∀ (l : List EV) (xs : List Value), (EV.noRSL l = true ∨ ∀ b, b ∈ ρ.mbs → b ∈ F) → RelL ⟨F, []⟩ w l xs → RelL ρ w l xs
 | [], _, _, hr => hr
 | v :: l, xs, h, hr => by
  simp only [RelL] at hr ⊢
  obtain ⟨x, ys, h1, h2, h3⟩ := hr
  refine ⟨x, ys, h1, Rel.ofFree v x (h.imp ?_ id) h2, RelL.ofFree l ys (h.imp ?_ id) h3⟩ <;> simp +contextual [EV.noRSL]
theorem RelF.ofFree {F : List Nat} {ρ : Ren} {w : World} : ∀ (l : List EV) (xs : List Value), (EV.noRSL l = true ∨ ∀ b, b ∈ ρ.mbs → b ∈ F) → RelF ⟨F, []⟩ w l xs → RelF ρ w l xs
 | [], _, _, hr => hr
 | v :: l, xs, h, hr => by
  simp only [RelF] at hr ⊢
  obtain ⟨x, ys, h1, h2, h3⟩ := hr
  refine ⟨x, ys, h1, Rel.ofFree v x (h.imp ?_ id) h2, RelF.ofFree l ys (h.imp ?_ id) h3⟩ <;> simp +contextual [EV.noRSL]
end
theorem Ext.quiet {F : List Nat} {ρ : Ren} {w w' : World} (h : Ext ⟨F, []⟩ w ⟨F, []⟩ w') : Ext ρ w ρ w' :=
 ⟨h.os, h.tape, h.output, h.size, fun b hb _ => h.out b hb (by simp [Ren.own]), fun _ _ h => h, fun _ _ h => h, fun _ _ h => .inl h, h.row⟩
theorem Sim.quiet {F : List Nat} {ρ : Ren} {H : yaf} {w w' : World} (hS : Sim ρ H w) (h : Ext ⟨F, []⟩ w ⟨F, []⟩ w') : Sim ρ H w' := by
 have hE : Ext ρ w ρ w' := h.quiet
 refine ⟨hS.len, fun b hb => Nat.lt_of_lt_of_le (hS.fl b hb) h.size, fun b r hb => Nat.lt_of_lt_of_le (hS.lt b r hb) h.size, hS.sep, hS.nodup, ?_⟩
 intro b v hb
 obtain ⟨r, h1, h2, cs, e, fz, x, h3, h4, h5, h6, h7⟩ := hS.live b v hb
 have heq := h.out r.mb (hS.lt b r h1) (by simp [Ren.own])
 exact ⟨r, h1, h2, cs, e, fz, x, heq.trans h3, h4, Rel.ext hE _ _ h5, h6, h7.keep heq⟩
def Ren.kill (ρ : Ren) (b : Nat) : Ren := { ρ with bs := ρ.bs.set b none }
theorem yll {ρ : Ren} {b m : Nat} (h : m ∈ (ρ.kill b).own) : m ∈ ρ.own := by
 obtain ⟨c, r, h1, h2⟩ := ybX h
 simp only [Ren.kill] at h1
 by_cases hc : c = b
 ·subst hc
  rw [List.getElem?_set] at h1
  simp at h1
 ·rw [yaH _ _ _ _ hc] at h1
  exact h2 ▸ ybg h1
theorem ylH {ρ : Ren} {b m : Nat} (h : m ∈ (ρ.kill b).mbs) : m ∈ ρ.mbs := by
 rcases List.mem_append.1 h with h | h
 ·exact List.mem_append.2 (.inl h)
 ·exact ybT (yll h)
theorem Ext.kill (ρ : Ren) (w : World) (b : Nat) : Ext ρ w (ρ.kill b) w :=
 ⟨rfl, rfl, rfl, Nat.le_refl _, fun _ _ _ => rfl, fun c _ h hm => h (ylH hm), fun c _ h hm => h (yll hm), fun c r hc => by
  by_cases hcb : c = b
  ·subst hcb
   refine .inr ?_
   simp only [Ren.kill]
   have hlt : c < ρ.bs.length := by
    rcases Nat.lt_or_ge c ρ.bs.length with hh | hh
    ·exact hh
    ·rw [List.getElem?_eq_none hh] at hc; cases hc
   rw [List.getElem?_set_self hlt]
  ·exact .inl (by simp only [Ren.kill]; rw [yaH _ _ _ _ hcb]; exact hc),
  fun _ cs e fz h => ⟨cs, e, fz, h, rfl⟩⟩
theorem Sim.kill {ρ : Ren} {H : yaf} {w : World} (hS : Sim ρ H w) (b : Nat) : Sim (ρ.kill b) (H.set b none) w := by
 have hk : ∀ (c : Nat) r, (ρ.kill b).bs[c]? = some (some r) → ρ.bs[c]? = some (some r) := by
  intro c r h1
  simp only [Ren.kill] at h1
  by_cases hc : c = b
  ·subst hc
   rw [List.getElem?_set] at h1
   simp at h1
  ·rw [yaH _ _ _ _ hc] at h1; exact h1
 refine ⟨by simp [Ren.kill, hS.len], hS.fl, fun c r hc => hS.lt c r (hk c r hc), fun c r hc => hS.sep c r (hk c r hc), fun c d r s hc hd => hS.nodup c d r s (hk c r hc) (hk d s hd), ?_⟩
 intro c v hc
 by_cases hcb : c = b
 ·subst hcb
  rw [List.getElem?_set] at hc
  simp at hc
 ·rw [yaH _ _ _ _ hcb] at hc
  obtain ⟨r, h1, h2, cs, e, fz, x, h3, h4, h5, h6, h7⟩ := hS.live c v hc
  exact ⟨r, by simp only [Ren.kill]; rw [yaH _ _ _ _ hcb]; exact h1, h2, cs, e, fz, x, h3, h4, Rel.ext (Ext.kill ρ w b) _ _ h5, h6, h7⟩
def Ren.kills : List EV → Ren → Ren
 | [], ρ => ρ
 | .slice b _ _ _ _ :: vs, ρ => Ren.kills vs (ρ.kill b)
 | _ :: vs, ρ => Ren.kills vs ρ
theorem yc0 : ∀ (vs : List EV) (ρ : Ren) (H : yaf) (w : World), Sim ρ H w →
  Sim (Ren.kills vs ρ) (ybj vs H) w ∧ Ext ρ w (Ren.kills vs ρ) w ∧ (∀ m, m ∈ (Ren.kills vs ρ).mbs → m ∈ ρ.mbs) ∧ (Ren.kills vs ρ).F = ρ.F
 | [], ρ, H, w, hS => ⟨hS, Ext.refl _ _, fun _ h => h, rfl⟩
 | v :: vs, ρ, H, w, hS => by
  cases v
  case slice b off len cap e =>
   simp only [Ren.kills, ybj]
   obtain ⟨h1, h2, h3, h4⟩ := yc0 vs (ρ.kill b) (H.set b none) w (hS.kill b)
   exact ⟨h1, (Ext.kill ρ w b).trans h2, fun m hm => ylH (h3 m hm), h4⟩
  all_goals exact yc0 vs ρ H w hS
theorem yfv : ∀ (vs : List EV) (ρ : Ren) (H : yaf) (w : World), Sim ρ H w → ∀ b off len cap e, EV.slice b off len cap e ∈ vs → ∀ r, ρ.bs[b]? = some (some r) → r.mb ∉ (Ren.kills vs ρ).own
 | v :: vs, ρ, H, w, hS, b, off, len, cap, e, hm, r, hr => by
  rcases List.mem_cons.1 hm with hm' | hm'
  ·subst hm'
   simp only [Ren.kills]
   intro hin
   have hin' : r.mb ∈ (ρ.kill b).own := by
    have := (yc0 vs (ρ.kill b) (H.set b none) w (hS.kill b)).2.1.newOwn r.mb (hS.lt b r hr)
    exact Classical.byContradiction fun h => this h hin
   obtain ⟨c, s, h1, h2⟩ := ybX hin'
   simp only [Ren.kill] at h1
   by_cases hc : c = b
   ·subst hc
    rw [List.getElem?_set] at h1
    simp at h1
   ·rw [yaH _ _ _ _ hc] at h1
    exact hc (hS.nodup c b s r h1 hr h2)
  ·cases v
   case slice b' off' len' cap' e' =>
    simp only [Ren.kills]
    by_cases hbb : b = b'
    ·subst hbb
     intro hin
     have hin' : r.mb ∈ (ρ.kill b).own := by
      have := (yc0 vs (ρ.kill b) (H.set b none) w (hS.kill b)).2.1.newOwn r.mb (hS.lt b r hr)
      exact Classical.byContradiction fun h => this h hin
     obtain ⟨c, s, h1, h2⟩ := ybX hin'
     simp only [Ren.kill] at h1
     by_cases hc : c = b
     ·subst hc
      rw [List.getElem?_set] at h1
      simp at h1
     ·rw [yaH _ _ _ _ hc] at h1
      exact hc (hS.nodup c b s r h1 hr h2)
    ·exact yfv vs (ρ.kill b') (H.set b' none) w (hS.kill b') b off len cap e hm' r (by simp only [Ren.kill]; rw [yaH _ _ _ _ hbb]; exact hr)
   all_goals exact yfv vs ρ H w hS b off len cap e hm' r hr
theorem yko {ρ : Ren} {H : yaf} {w : World} {F : List Nat} (hS : Sim ρ H w) (hF : ∀ b, b ∈ F → b ∈ ρ.mbs) {m : Option IntKind} {v : EV} {x : Value}
  (hd : ∀ b off len cap e, v = EV.slice b off len cap e → ∀ r, ρ.bs[b]? = some (some r) → r.mb ∉ F) (hf : (ydm H m v).free = true) (hr : Rel ρ w v x) : Rel ⟨F, []⟩ w (ydm H m v) x := by
 have hmb : ∀ b, b ∈ (⟨F, []⟩ : Ren).mbs → b ∈ ρ.mbs := by
  intro b hb
  rcases List.mem_append.1 hb with hb | hb
  ·exact hF b hb
  ·simp [Ren.own] at hb
 unfold ydm at hf ⊢
 split at hf
 ·rename_i k
  simp only [Rel] at hr ⊢; subst hr
  exact ⟨none, 0, rfl, Nat.le_refl _, by simp⟩
 ·rename_i k b off len cap e
  split at hf
  ·rename_i k' n' g hb
   by_cases hk : k = k'
   ·subst hk
    simp only [hb, decide_true, cond_true] at hf ⊢
    simp only [Rel] at hr
    obtain ⟨a, c, rfl, r, hr', hi⟩ := hr
    obtain ⟨r', h1, h2, cs, e', fz, x, h3, h4, h5, h6, h7⟩ := hS.live b _ hb
    rw [h1] at hr'; cases hr'
    obtain ⟨n, h8, h9, h10, h11, h12⟩ := hi r' rfl
    simp only [Rel]
    refine ⟨a, c, rfl, h10, ?_⟩
    rcases h12 with ⟨h12, _⟩ | ⟨h12, _⟩
    ·have hsh : r'.sh = .row n' := by rw [← h2]; rfl
     have he : e = 1 ∧ n = n' := by
      rcases h8 with ⟨h8, h13⟩ | ⟨l, h8, _⟩
      ·rw [hsh] at h8; cases h8; exact ⟨h13, rfl⟩
      ·rw [hsh] at h8; cases h8
     obtain ⟨rfl, rfl⟩ := he
     have hnF : r'.mb ∉ (⟨F, []⟩ : Ren).mbs := by
      intro hb'
      rcases List.mem_append.1 hb' with hb' | hb'
      ·exact hd b off len cap 1 rfl r' h1 hb'
      ·simp [Ren.own] at hb'
     refine .inr ⟨_, _, h12, hS.lt b r' h1, hnF, ?_⟩
     simp only [Rel] at h5; subst h5
     have := h7.sub off len
     simp only [yaw] at this
     intro i hi
     simp only [yai] at hi
     have h14 := this i (by simp [yai]; omega)
     rw [Nat.mul_one, h14, List.getElem?_take_of_lt hi, List.getElem?_drop, yau _ _ _ _ (by omega), yau _ _ _ _ hi, yct]
    ·exact .inl h12
   ·simp [hk, EV.free] at hf
  ·simp [EV.free] at hf
 ·exact Rel.toFree hmb _ _ hf hr
theorem yhS {ρ : Ren} {H : yaf} {w : World} {F : List Nat} (hS : Sim ρ H w) (hF : ∀ b, b ∈ F → b ∈ ρ.mbs) : ∀ (ms : List (Option IntKind)) (vs : List EV) (xs : List Value),
  (∀ b off len cap e, EV.slice b off len cap e ∈ vs → ∀ r, ρ.bs[b]? = some (some r) → r.mb ∉ F) → EV.freeL (yaP H ms vs) = true → RelL ρ w vs xs → RelL ⟨F, []⟩ w (yaP H ms vs) xs
 | m :: ms, v :: vs, xs, hd, hf, hr => by
  simp only [yaP, EV.freeL, Bool.and_eq_true] at hf ⊢
  simp only [RelL] at hr ⊢
  obtain ⟨x, ys, rfl, h1, h2⟩ := hr
  exact ⟨x, ys, rfl, yko hS hF (fun b off len cap e he => hd b off len cap e (by rw [← he]; exact List.mem_cons_self)) hf.1 h1,
   yhS hS hF ms vs ys (fun b off len cap e he => hd b off len cap e (List.mem_cons_of_mem _ he)) hf.2 h2⟩
 | [], vs, xs, hd, hf, hr => by
  have hmb : ∀ b, b ∈ (⟨F, []⟩ : Ren).mbs → b ∈ ρ.mbs := by
   intro b hb
   rcases List.mem_append.1 hb with hb | hb
   ·exact hF b hb
   ·simp [Ren.own] at hb
  cases vs <;> exact RelL.toFree hmb _ _ hf hr
 | _ :: _, [], xs, hd, hf, hr => by
  simp only [yaP, RelL] at hr ⊢; exact hr
theorem RelL.append {ρ : Ren} {w : World} : ∀ {l r : List EV} {xs ys : List Value}, RelL ρ w l xs → RelL ρ w r ys → RelL ρ w (l ++ r) (xs ++ ys)
 | [], r, xs, ys, h1, h2 => by simp only [RelL] at h1; subst h1; exact h2
 | v :: l, r, xs, ys, h1, h2 => by
  simp only [RelL] at h1
  obtain ⟨x, zs, rfl, h3, h4⟩ := h1
  simp only [List.cons_append, RelL]
  exact ⟨x, zs ++ ys, rfl, h3, h4.append h2⟩
def yoJ (P : Program) (E : Env) : Prop :=
 ∀ f en, E.fn f = some en → SoundF P E.gl f en ∧ ∃ fn, P.funcs[f]? = some fn ∧ fn.body.isNone = false ∧ (fn.name == "runtime.NumGoroutine") = false
theorem yia {ρ ρ' : Ren} {H : yaf} {w : World} {f : Nat → Nat} {idx : List Nat} (hS : Sim ρ H w) (hb : ∀ (b : Nat) r, b ∈ idx → ρ.bs[b]? = some r → ρ'.bs[f b]? = some r ∨ ρ'.bs[f b]? = some none)
  (hmb : ∀ b, b ∈ ρ'.mbs → b ∈ ρ.mbs) : ∀ (ms : List (Option IntKind)) (vs : List EV) (xs : List Value), (∀ b, b ∈ ycs ms vs → ∀ r, ρ.bs[b]? = some (some r) → r.mb ∉ ρ'.mbs) →
   yfT (yaP H ms vs) = true → EV.inIL idx (yaP H ms vs) = true → RelL ρ w vs xs → RelL ρ' w (EV.renL f (yaP H ms vs)) xs := by
 have hq : ∀ b, b < w.heap.size → b ∉ ρ.mbs → b ∉ ρ'.mbs := fun b _ hn hm => hn (hmb b hm)
 have one : ∀ (m : Option IntKind) (v : EV) (x : Value), (∀ k b off len cap e, m = some k → v = EV.slice b off len cap e → ∀ r, ρ.bs[b]? = some (some r) → r.mb ∉ ρ'.mbs) → (ydm H m v).dfd = true →
   (ydm H m v).inI idx = true → Rel ρ w v x → Rel ρ' w ((ydm H m v).ren f) x := by
  intro m v x hd hdf hi hr
  have free : (ydm H m v).free = true → (∀ b off len cap e, v = EV.slice b off len cap e → ∀ r, ρ.bs[b]? = some (some r) → r.mb ∉ ρ'.mbs) → Rel ρ' w (ydm H m v) x := by
   intro hf hd'
   have := yko (F := ρ'.mbs) hS hmb hd' hf hr
   refine Rel.toFree ?_ _ _ hf this
   intro b hb'
   exact List.mem_append.2 (.inl hb')
  cases m with
  | none =>
   have e : ydm H none v = v := by cases v <;> rfl
   rw [e] at hi ⊢
   exact Rel.ren hb v x hi (.inr hq) hr
  | some k =>
   cases v
   case slice b off len cap e =>
    have hre : (ydm H (some k) (.slice b off len cap e)).free = true ∧ (ydm H (some k) (.slice b off len cap e)).ren f = ydm H (some k) (.slice b off len cap e) := by
     revert hdf
     simp only [ydm]
     split
     ·rename_i k' n g hq
      by_cases hk : k = k'
      ·simp [hk, EV.free, EV.ren]
      ·simp [hk, EV.dfd]
     ·simp [EV.dfd]
    rw [hre.2]
    exact free hre.1 fun b' off' len' cap' e' he r hr' => hd k b' off' len' cap' e' rfl he r hr'
   case nilSlice =>
    simp only [Rel] at hr; subst hr
    exact ⟨none, 0, rfl, Nat.le_refl _, .inl rfl⟩
   all_goals exact Rel.ren hb _ x hi (.inr hq) hr
 intro ms
 induction ms with
 | nil =>
  intro vs xs hd hdf hi hr
  have e : yaP H [] vs = vs := by cases vs <;> rfl
  rw [e] at hi ⊢
  exact RelL.ren hb vs xs hi (.inr hq) hr
 | cons m ms ih =>
  intro vs xs hd hdf hi hr
  cases vs with
  | nil => exact hr
  | cons v vs =>
   simp only [yaP, yfT, EV.inIL, Bool.and_eq_true] at hdf hi
   simp only [RelL] at hr
   obtain ⟨x, ys, rfl, h1, h2⟩ := hr
   simp only [yaP, EV.renL, RelL]
   refine ⟨x, ys, rfl, one m v x ?_ hdf.1 hi.1 h1, ih vs ys ?_ hdf.2 hi.2 h2⟩
   ·intro k b off len cap e hm hv r hr
    subst hm; subst hv
    exact hd b (by simp [ycs]) r hr
   ·intro b hb' r hr
    refine hd b ?_ r hr
    cases m with
    | none => simpa [ycs] using hb'
    | some k => cases v <;> simp [ycs, hb']
theorem yid {ρ : Ren} {w : World} {H : yaf} {f : FuncId} {en : yan} {args : List EV} {xs : List Value} {K : EV → yaf → Prop} (hs : SoundF P E.gl f en) (hS : Sim ρ H w) (hG : GOk E.gl ρ w)
  (hr : RelL ρ w args xs) {idx : List Nat} (hn : idx.Nodup) (h : ydn en (yaP H en.ro args) (ycs en.ro args) idx H K) :
  Calls P f xs.toArray w fun e w' => ∃ v x H' ρ', e = .returned x ∧ K v H' ∧ Sim ρ' H' w' ∧ Ext ρ w ρ' w' ∧ ρ'.F = ρ.F ∧ Rel ρ' w' v x := by
 unfold ydn at h
 rw [yac] at h
 simp only [Bool.and_eq_true] at h
 obtain ⟨⟨hd, hi, hcl, hlt, hno⟩, h⟩ := h
 generalize hdd : ycs en.ro args = dead at hno h
 have hno' := yej hno
 have hlt' := yh9 hlt
 generalize hsm : (⟨[], ycm ρ.bs idx⟩ : Ren).own = sm
 generalize hdm : (⟨[], ycm ρ.bs dead⟩ : Ren).own = dm
 have sm_of : ∀ (b : Nat) (r : BI), b ∈ idx → ρ.bs[b]? = some (some r) → r.mb ∈ sm := fun b r h1 h2 => hsm ▸ yjS h1 h2
 have of_sm : ∀ m, m ∈ sm → ∃ b r, b ∈ idx ∧ ρ.bs[b]? = some (some r) ∧ r.mb = m := fun m hm => ycB (F := []) (hsm ▸ hm)
 have dm_of : ∀ (b : Nat) (r : BI), b ∈ dead → ρ.bs[b]? = some (some r) → r.mb ∈ dm := fun b r h1 h2 => hdm ▸ yjS h1 h2
 have of_dm : ∀ m, m ∈ dm → ∃ b r, b ∈ dead ∧ ρ.bs[b]? = some (some r) ∧ r.mb = m := fun m hm => ycB (F := []) (hdm ▸ hm)
 generalize hFs : ρ.mbs.filter (fun m => !yhB m sm && !yhB m dm) = Fs
 have mem_F : ∀ m, m ∈ Fs ↔ m ∈ ρ.mbs ∧ m ∉ sm ∧ m ∉ dm := by
  intro m
  rw [← hFs, List.mem_filter, Bool.and_eq_true, Bool.not_eq_true', Bool.not_eq_true', yf8, yf8]
 have hown : (⟨Fs, ycm ρ.bs idx⟩ : Ren).own = sm := hsm
 have hsub : ∀ b, b ∈ (⟨Fs, ycm ρ.bs idx⟩ : Ren).mbs → b ∈ ρ.mbs := by
  intro b hb
  rcases List.mem_append.1 hb with hb | hb
  ·exact ((mem_F b).1 hb).1
  ·obtain ⟨c, r, _, h2, h3⟩ := ycB hb
   exact h3 ▸ ybT (ybg h2)
 have mlt : ∀ b, b ∈ ρ.mbs → b < w.heap.size := by
  intro b hb
  rcases List.mem_append.1 hb with hb | hb
  ·exact hS.fl b hb
  ·obtain ⟨c, r, g1, g2⟩ := ybX hb
   exact g2 ▸ hS.lt c r g1
 have FF : ∀ b, b ∈ ρ.F → b ∈ Fs := by
  intro b hb
  refine (mem_F b).2 ⟨List.mem_append.2 (.inl hb), fun hm => ?_, fun hm => ?_⟩
  ·obtain ⟨c, r, _, h2, h3⟩ := of_sm b hm
   exact hS.sep c r h2 (h3 ▸ hb)
  ·obtain ⟨c, r, _, h2, h3⟩ := of_dm b hm
   exact hS.sep c r h2 (h3 ▸ hb)
 have FO : ∀ (c : Nat) (r : BI), ρ.bs[c]? = some (some r) → c ∉ idx → c ∉ dead → r.mb ∈ Fs := by
  intro c r h1 h2 h3
  refine (mem_F r.mb).2 ⟨ybT (ybg h1), fun hm => ?_, fun hm => ?_⟩
  ·obtain ⟨d, s, g1, g2, g3⟩ := of_sm _ hm
   exact h2 (hS.nodup d c s r g2 h1 g3 ▸ g1)
  ·obtain ⟨d, s, g1, g2, g3⟩ := of_dm _ hm
   exact h3 (hS.nodup d c s r g2 h1 g3 ▸ g1)
 have hSs : Sim ⟨Fs, ycm ρ.bs idx⟩ (yl1 H idx) w := by
  refine hS.sub hn (fun b hb => mlt b ((mem_F b).1 hb).1) ?_ hcl fun b hb hnb hm => hnb (hsub b hm)
  intro b r h1 h2 h3
  exact ((mem_F _).1 h3).2.1 (sm_of b r h1 h2)
 have hrel : RelL ⟨Fs, ycm ρ.bs idx⟩ w (EV.renL (pos idx) (yaP H en.ro args)) xs := by
  refine yia hS (fun b r h1 h2 => .inl (ycV h1 h2)) hsub en.ro args xs ?_ hd hi hr
  rw [hdd]
  intro b hb r h1 h2
  rcases List.mem_append.1 h2 with h2 | h2
  ·exact ((mem_F _).1 h2).2.2 (dm_of b r hb h1)
  ·obtain ⟨c, s, g1, g2, g3⟩ := ycB h2
   exact hno' b hb (hS.nodup c b s r g2 h1 g3 ▸ g1)
 refine (hs _ _ w _ _ _ h hrel hSs (hG.sub hsub)).mono ?_
 rintro e w' ⟨v, x, H', ρ', rfl, hK, hv, hS', hX, hF'⟩
 rw [yac, Bool.and_eq_true, Bool.and_eq_true] at hK
 obtain ⟨⟨hvi, hHi, hle⟩, hK⟩ := hK
 have hle' : idx.length ≤ H'.length := Nat.le_of_ble_eq_true hle
 have hlen := hS'.len
 have hleb : idx.length ≤ ρ'.bs.length := by omega
 have hltb : ∀ b ∈ idx, b < ρ.bs.length := fun b hb => by rw [hS.len]; exact hlt' b hb
 simp only at hF'
 generalize hD : cond (v.noRS && yey H') [] dead = D at hK
 have hDn : ∀ b, b ∈ D → b ∉ idx := by
  intro b hb
  cases hc : (v.noRS && yey H') with
  | true => rw [hc] at hD; simp at hD; subst hD; cases hb
  | false => rw [hc] at hD; simp at hD; subst hD; exact hno' b hb
 have inv : ∀ (c : Nat) (r : BI), (killN D (putB idx ρ'.bs ρ.bs))[c]? = some (some r) → c ∉ D ∧ ((∃ j, ρ'.bs[j]? = some (some r) ∧ ybQ idx ρ.bs.length j = c) ∨ (c ∉ idx ∧ ρ.bs[c]? = some (some r))) := by
  intro c r hc
  obtain ⟨h1, h2⟩ := ydS hc
  exact ⟨h1, ylq hn hltb hleb h2⟩
 have newLt : ∀ (j : Nat) (r : BI), ρ'.bs[j]? = some (some r) → r.mb < w.heap.size → r.mb ∈ sm := by
  intro j r hj hlt
  apply Classical.byContradiction
  intro hns
  exact hX.newOwn r.mb hlt (by rw [hown]; exact hns) (ybg hj)
 have smO : ∀ m, m ∈ sm → m ∈ ρ.own := by
  intro m hm
  obtain ⟨b, r, _, h2, h3⟩ := of_sm m hm
  exact h3 ▸ ybg h2
 have hE : Ext ρ w ⟨ρ.F, killN D (putB idx ρ'.bs ρ.bs)⟩ w' := by
  refine ⟨hX.os, hX.tape, hX.output, hX.size, ?_, ?_, ?_, ?_, hX.row⟩
  ·intro b hb hnb
   exact hX.out b hb (by rw [hown]; exact fun hm => hnb (smO b hm))
  ·intro b hb hnb hm
   rcases List.mem_append.1 hm with hm | hm
   ·exact hnb (List.mem_append.2 (.inl hm))
   ·obtain ⟨c, r, h1, rfl⟩ := ybX hm
    rcases (inv c r h1).2 with ⟨j, h2, _⟩ | ⟨_, h2⟩
    ·exact hnb (ybT (smO _ (newLt j r h2 hb)))
    ·exact hnb (ybT (ybg h2))
  ·intro b hb hnb hm
   obtain ⟨c, r, h1, rfl⟩ := ybX hm
   rcases (inv c r h1).2 with ⟨j, h2, _⟩ | ⟨_, h2⟩
   ·exact hnb (smO _ (newLt j r h2 hb))
   ·exact hnb (ybg h2)
  ·intro b r hb
   have hlt : b < ρ.bs.length := by
    rcases Nat.lt_or_ge b ρ.bs.length with hh | hh
    ·exact hh
    ·rw [List.getElem?_eq_none hh] at hb; cases hb
   simp only
   by_cases hbD : b ∈ D
   ·exact .inr (yfa _ _ _ (.inl hbD) (by rw [ycy _ _ _ hleb]; omega))
   ·rw [yb2 _ _ _ hbD]
    by_cases hbi : b ∈ idx
    ·have hp := yij hbi
     have hpl : pos idx b < idx.length := by
      rcases Nat.lt_or_ge (pos idx b) idx.length with hh | hh
      ·exact hh
      ·rw [List.getElem?_eq_none hh] at hp; cases hp
     have := yfu idx ρ'.bs ρ.bs (pos idx b) hn hltb hleb (by omega)
     rw [show ybQ idx ρ.bs.length (pos idx b) = b from by simp [ybQ, hp]] at this
     rw [this]
     exact hX.keep (pos idx b) r (ycV hbi hb)
    ·rw [yeY _ _ _ _ hbi hlt]; exact .inl hb
 have hback : ∀ (b : Nat) r, b ∈ yhn H'.length → ρ'.bs[b]? = some r → (killN D (putB idx ρ'.bs ρ.bs))[ybQ idx H.length b]? = some r ∨ (killN D (putB idx ρ'.bs ρ.bs))[ybQ idx H.length b]? = some none := by
  intro b r hb hr'
  have hbl : b < ρ'.bs.length := by rw [hlen]; exact (ygj _ _).1 hb
  have := yfu idx ρ'.bs ρ.bs b hn hltb hleb hbl
  rw [hS.len, hr'] at this
  by_cases hbD : ybQ idx H.length b ∈ D
  ·refine .inr (yfa _ _ _ (.inl hbD) ?_)
   rcases Nat.lt_or_ge (ybQ idx H.length b) (putB idx ρ'.bs ρ.bs).length with hh | hh
   ·exact hh
   ·rw [List.getElem?_eq_none hh] at this; cases this
  ·rw [yb2 _ _ _ hbD]; exact .inl this
 have hq : ∀ u : EV, ((v.noRS && yey H') = true → u.noRS = true) → u.noRS = true ∨ ∀ b, b < w'.heap.size → b ∉ ρ'.mbs → b ∉ (⟨ρ.F, killN D (putB idx ρ'.bs ρ.bs)⟩ : Ren).mbs := by
  intro u hu
  cases hc : (v.noRS && yey H') with
  | true => exact .inl (hu hc)
  | false =>
   right
   rw [hc] at hD; simp at hD; subst hD
   intro b hb hnb hm
   rcases List.mem_append.1 hm with hm | hm
   ·exact hnb (List.mem_append.2 (.inl (hF' ▸ FF b hm)))
   ·obtain ⟨c, r, h1, rfl⟩ := ybX hm
    obtain ⟨g1, g2⟩ := inv c r h1
    rcases g2 with ⟨j, h2, _⟩ | ⟨h3, h2⟩
    ·exact hnb (ybT (ybg h2))
    ·exact hnb (List.mem_append.2 (.inl (hF' ▸ FO c r h2 h3 g1)))
 refine ⟨_, x, _, ⟨ρ.F, killN D (putB idx ρ'.bs ρ.bs)⟩, rfl, hK, ?_, hE, rfl, ?_⟩
 ·refine ⟨?_, fun b hb => Nat.lt_of_lt_of_le (hS.fl b hb) hX.size, ?_, ?_, ?_, ?_⟩
  ·rw [yaA, yaA, ycy _ _ _ hleb, ycy _ _ _ (by rw [yc7]; exact hle'), yc7, hS.len, hlen]
  ·intro c r hc
   rcases (inv c r hc).2 with ⟨j, h2, _⟩ | ⟨_, h2⟩
   ·exact hS'.lt j r h2
   ·exact Nat.lt_of_lt_of_le (hS.lt c r h2) hX.size
  ·intro c r hc hm
   rcases (inv c r hc).2 with ⟨j, h2, _⟩ | ⟨_, h2⟩
   ·exact hS'.sep j r h2 (hF' ▸ FF _ hm)
   ·exact hS.sep c r h2 hm
  ·have mixed : ∀ (j d : Nat) (r s : BI), ρ'.bs[j]? = some (some r) → d ∉ idx → ρ.bs[d]? = some (some s) → r.mb = s.mb → False := by
    intro j d r s h1 h2 h3 h4
    obtain ⟨b, r0, g1, g2, g3⟩ := of_sm _ (newLt j r h1 (h4 ▸ hS.lt d s h3))
    exact h2 (hS.nodup b d r0 s g2 h3 (g3.trans h4) ▸ g1)
   intro c d r s hc hd' he
   rcases (inv c r hc).2 with ⟨j, h2, h3⟩ | ⟨h3, h2⟩
   ·rcases (inv d s hd').2 with ⟨k, h4, h5⟩ | ⟨h5, h4⟩
    ·have := hS'.nodup j k r s h2 h4 he
     subst this
     exact h3.symm.trans h5
    ·exact (mixed j d r s h2 h5 h4 he).elim
   ·rcases (inv d s hd').2 with ⟨k, h4, h5⟩ | ⟨h5, h4⟩
    ·exact (mixed k c s r h4 h3 h2 he.symm).elim
    ·exact hS.nodup c d r s h2 h4 he
  ·intro c u hc
   obtain ⟨hcD, hc⟩ := ydS hc
   rcases ylq hn hlt' (by rw [yc7]; exact hle') hc with ⟨j, h1, h2⟩ | ⟨h1, h2⟩
   ·rw [ylQ] at h1
    cases hj : H'[j]? with
    | none => simp [hj] at h1
    | some o =>
     cases o with
     | none => simp [hj, ygk] at h1
     | some u' =>
      simp only [hj, Option.map_some, ygk, Option.some.injEq] at h1
      subst h1
      obtain ⟨r, k1, k2, cs, e, fz, y, k3, k4, k5, k6, k7⟩ := hS'.live j u' hj
      have hjl : j < ρ'.bs.length := by
       rcases Nat.lt_or_ge j ρ'.bs.length with hh | hh
       ·exact hh
       ·rw [List.getElem?_eq_none hh] at k1; cases k1
      refine ⟨r, ?_, (ybm _ _).trans k2, cs, e, fz, y, k3, k4, Rel.ren hback u' y (ygt hHi j ((ygj _ _).2 (by omega)) u' hj) (hq u' fun hc' => ?_) k5, k6, k7⟩
      ·simp only
       rw [yb2 _ _ _ hcD, ← h2, ← hS.len, yfu idx ρ'.bs ρ.bs j hn hltb hleb hjl]
       exact k1
      ·simp only [Bool.and_eq_true] at hc'
       exact yfh hc'.2 j u' hj
   ·obtain ⟨r, k1, k2, cs, e, fz, y, k3, k4, k5, k6, k7⟩ := hS.live c u h2
    have hclt : c < ρ.bs.length := by
     rcases Nat.lt_or_ge c ρ.bs.length with hh | hh
     ·exact hh
     ·rw [List.getElem?_eq_none hh] at k1; cases k1
    have hout : w'.heap[r.mb]? = w.heap[r.mb]? := by
     refine hX.out r.mb (hS.lt c r k1) ?_
     rw [hown]
     intro hm
     obtain ⟨b, r0, g1, g2, g3⟩ := of_sm _ hm
     exact h1 (hS.nodup b c r0 r g2 k1 g3 ▸ g1)
    exact ⟨r, by simp only; rw [yb2 _ _ _ hcD, yeY _ _ _ _ h1 hclt]; exact k1, k2, cs, e, fz, y, hout.trans k3, k4, Rel.ext hE u y k5, k6, k7.keep hout⟩
 ·exact Rel.ren hback v x hvi (hq v fun hc' => by simp only [Bool.and_eq_true] at hc'; exact hc'.1) hv
theorem ye9 {ρ : Ren} {w : World} {H : yaf} {f : FuncId} {args : List EV} {xs : List Value} {K : EV → yaf → Prop} (hFn : yoJ P E) (hS : Sim ρ H w) (hG : GOk E.gl ρ w)
  (hr : RelL ρ w args xs) (h : ybF E f args H K) :
  ∃ fn, P.funcs[f]? = some fn ∧ fn.body.isNone = false ∧ (fn.name == "runtime.NumGoroutine") = false ∧
   Calls P f xs.toArray w fun e w' => ∃ v x H' ρ', e = .returned x ∧ K v H' ∧ Sim ρ' H' w' ∧ Ext ρ w ρ' w' ∧ ρ'.F = ρ.F ∧ Rel ρ' w' v x := by
 unfold ybF at h
 split at h
 ·rename_i en he
  obtain ⟨hs, fn, hfn, hb, hn⟩ := hFn f en he
  refine ⟨fn, hfn, hb, hn, ?_⟩
  cases hl : en.lend with
  | true =>
   rw [hl] at h
   simp only [cond_true] at h
   exact yid hs hS hG hr (ygA _ _ _).1 h
  | false =>
  rw [hl] at h
  simp only [cond_false] at h
  rw [yac] at h
  obtain ⟨hfree, h⟩ := h
  obtain ⟨k1, k2, k3, k4⟩ := yc0 args ρ H w hS
  have hrel := yhS (F := (Ren.kills args ρ).mbs) hS k3 en.ro args xs (by
   intro b off len cap' e hm r hr' hin
   rcases List.mem_append.1 hin with hin | hin
   ·rw [k4] at hin; exact hS.sep b r hr' hin
   ·exact yfv args ρ H w hS b off len cap' e hm r hr' hin) hfree hr
  have hlt : ∀ b, b ∈ (Ren.kills args ρ).mbs → b < w.heap.size := by
   intro b hb'
   rcases List.mem_append.1 hb' with hb' | hb'
   ·exact k1.fl b hb'
   ·obtain ⟨c, r, g1, g2⟩ := ybX hb'
    exact g2 ▸ k1.lt c r g1
  refine (hs.plainC h hrel hlt (hG.sub fun b hb => by
   rcases List.mem_append.1 hb with hb | hb
   ·exact k3 b hb
   ·simp [Ren.own] at hb)).mono ?_
  rintro e w' ⟨v, x, rfl, hK, hv, hE⟩
  rw [ybA] at hK
  cases hrs : v.noRS with
  | true =>
   exact ⟨v, x, H, ρ, rfl, hK.1 hrs, hS.quiet hE, hE.quiet, rfl, Rel.ofFree v x (.inl hrs) hv⟩
  | false =>
   refine ⟨v, x, _, _, rfl, hK.2 hrs, k1.quiet hE, k2.trans hE.quiet, k4, Rel.ofFree v x (.inr fun b hb => hb) hv⟩
 ·exact h.elim
theorem yjf {ρ : Ren} {w : World} {H : yaf} {fv : EV} {Fv : Value} {args : List EV} {xs : Array Value} {K : EV → yaf → Prop} (hFn : yoJ P E) (hS : Sim ρ H w) (hG : GOk E.gl ρ w)
  (hf : Rel ρ w fv Fv) (hr : RelL ρ w args xs.toList) (h : ydt E fv args H K) :
  ∃ f ys, (do let d ← Deferred.ofValue Fv xs; invoke d.target d.args : Sem Next).run P w = .ok (.enter f ys) w ∧
   Calls P f ys w fun e w' => ∃ v x H' ρ', e = .returned x ∧ K v H' ∧ Sim ρ' H' w' ∧ Ext ρ w ρ' w' ∧ ρ'.F = ρ.F ∧ Rel ρ' w' v x := by
 unfold ydt at h
 split at h
 ·rename_i f cap
  simp only [Rel] at hf
  obtain ⟨vs, rfl, hcap⟩ := hf
  obtain ⟨fn, hfn, hb, hn, hc⟩ := ye9 hFn hS hG (hr.append hcap) h
  refine ⟨f, xs ++ vs, ?_, ?_⟩
  ·simp only [Deferred.ofValue, yad, yak, invoke, callFunc, yc9, hfn]
   rw [hn, hb]
   simp only [Bool.false_eq_true, if_false, yak]
   simp
  ·rw [show (xs ++ vs) = (xs.toList ++ vs.toList).toArray from by simp]
   exact hc
 ·rename_i f l
  simp only [Rel] at hf
  obtain ⟨vs, rfl, hcap⟩ := hf
  obtain ⟨fn, hfn, hb, hn, hc⟩ := ye9 hFn hS hG (hcap.append hr) h
  refine ⟨f, vs ++ xs, ?_, ?_⟩
  ·simp only [Deferred.ofValue, yad, yak, invoke, callFunc, yc9, hfn]
   rw [hn, hb]
   simp only [Bool.false_eq_true, if_false, yak]
   simp
  ·rw [show (vs ++ xs) = (vs.toList ++ xs.toList).toArray from by simp]
   exact hc
 ·exact h.elim
end sound
end Go.Ev

/- The evaluator: regions, code, functions; and that it is sound. -/
set_option linter.unusedVariables false
set_option linter.unusedSimpArgs false
namespace Go.Ev
open Go
def RelT (gl : Nat → Option EV) (ρ : Ren) (w : World) (s : List EV) (a : Array Value) : Prop :=
 s.length = a.size ∧ (∀ (i : Nat) v, s[i]? = some v → v = .undef ∨ ∃ x, a[i]? = some x ∧ Rel ρ w v x) ∧ GOk gl ρ w
section sound
variable {P : Program} {E : Env}
theorem RelT.slot {ρ : Ren} {w : World} {s : St} {a : Act} (h : RelT E.gl ρ w s.tmps a.tmps) (t : Nat) : s.slot t = .undef ∨ Rel ρ w (s.slot t) (a.eval (.tmp t)) := by
 unfold St.slot
 cases hs : s.tmps[t]? with
 | none => exact .inl rfl
 | some v =>
  rcases h.2.1 t v hs with rfl | ⟨x, hx, hr⟩
  ·exact .inl rfl
  ·refine .inr ?_
   simp only [Option.getD_some, Act.eval, Array.getD_eq_getD_getElem?, hx]
   exact hr
theorem ymx {ρ : Ren} {w : World} (v : Value) : yfU v = .undef ∨ Rel ρ w (yfU v) v := by
 unfold yfU
 split
 all_goals first
  | exact .inl rfl
  | exact .inr rfl
  | (refine .inr ?_; rename_i s; show Value.string s = .string ⟨s.data.toList.toArray⟩; simp)
theorem ygU {ρ : Ren} {w : World} {s : St} {a : Act} (h : RelT E.gl ρ w s.tmps a.tmps) (x : Operand) : (St.opd E s) x = .undef ∨ Rel ρ w ((St.opd E s) x) (a.eval x) := by
 cases x with
 | tmp t => exact h.slot t
 | const v => exact ymx v
 | global g =>
  simp only [St.opd]
  cases hg : E.gl g with
  | none => exact .inl rfl
  | some v => exact .inr (h.2.2 g v hg).2.1
 | func f => refine .inr ?_; simp only [St.opd, Rel, Act.eval]; exact ⟨#[], rfl, rfl⟩
theorem ya2 {ρ : Ren} {w : World} {s : St} {a : Act} (h : RelT E.gl ρ w s.tmps a.tmps) {x : Operand} {v : EV} (he : (St.opd E s) x = v) (hv : v ≠ .undef) : Rel ρ w v (a.eval x) := by
 rcases ygU h x with h' | h'
 ·exact absurd (he.symm.trans h') hv
 ·exact he ▸ h'
theorem ye0 {w : World} {op : BinOp} {t : TypeId} {X Y : Value} {b : Bool} {K : EV → Prop} (h1 : ∀ k n, X ≠ .int k n) (h2 : ∀ s, X ≠ .string s) (h3 : ∀ k n, X ≠ .float k n) (h4 : ∀ k n m, X ≠ .complex k n m)
  (he : (Op.equalIn 10000 t X Y).run P w = .ok b w) (h : yfl op b K) : ∃ v z, K v ∧ (∀ ρ w, Rel ρ w v z) ∧ (binOp op t X Y).run P w = .ok z w := by
 cases op <;> simp only [yfl] at h
 case eql => exact ⟨_, _, h, fun ρ w => rfl, ye4 h1 h2 h3 h4 he⟩
 case neq => exact ⟨_, _, h, fun ρ w => rfl, ye1 h1 h2 h3 h4 he⟩
theorem nilK_of {o : Operand} : (yi4 o = 1 → o = .const (.pointer none)) ∧ (yi4 o = 2 → o = .const .nilIface) := by
 unfold yi4
 split <;> simp
theorem ypN {t : TypeId} (hE : ∀ t ti, E.ty t = some ti → OkTI P t ti) (h : yig E t 1 = true) : ∃ e, P.underlying t = some (.pointer e) := by
 unfold yig at h
 split at h
 ·rename_i ti ht
  obtain ⟨d, i, z, h1, h2, h3, _⟩ := hE t ti ht
  split at h
  ·exact absurd h (by decide)
  ·rename_i htd; rw [htd] at h3; cases d <;> simp only [yci] at h3
   exact ⟨_, h1⟩
  ·cases h
 ·cases h
theorem ypU {t : TypeId} (hE : ∀ t ti, E.ty t = some ti → OkTI P t ti) (h : yig E t 0 = true) : ∃ e, P.underlying t = some (.interface e) := by
 unfold yig at h
 split at h
 ·rename_i ti ht
  obtain ⟨d, i, z, h1, h2, h3, _⟩ := hE t ti ht
  split at h
  ·rename_i htd; rw [htd] at h3; cases d <;> simp only [yci] at h3
   exact ⟨_, h1⟩
  ·exact absurd h (by decide)
  ·cases h
 ·cases h
theorem ykI {ρ : Ren} {w : World} {op : BinOp} {t : TypeId} {x y : EV} {X Y : Value} {H : yaf} {K : EV → Prop} {ox oy : Operand} (hE : ∀ t ti, E.ty t = some ti → OkTI P t ti) (hS : Sim ρ H w)
  (hx : Rel ρ w x X) (hy : Rel ρ w y Y) (hY : ∀ v, oy = .const v → Y = v) (h : ydR E op t oy x y H K) :
  ∃ v z, K v ∧ (∀ ρ w, Rel ρ w v z) ∧ (do eqGuard op t ox oy X Y; binOp op t X Y : Sem Value).run P w = .ok z w := by
 unfold ydR at h
 cases h1 : Nat.beq (yi4 oy) 1 with
 | true =>
  rw [h1] at h
  simp only [cond_true] at h
  have ho := nilK_of.1 (Nat.eq_of_beq_eq_true h1)
  obtain rfl := hY _ ho
  unfold yqw at h
  split at h
  ·cases h2 : yig E t 1 with
   | false => rw [h2] at h; exact h.elim
   | true =>
    rw [h2] at h
    obtain ⟨e, hu⟩ := ypN hE h2
    simp only [Rel] at hx; subst hx
    have hg : (eqGuard op t ox oy (.pointer none) (.pointer none)).run P w = .ok () w := yaD (by simp)
    simp only [yad, hg]
    exact ye0 (by simp) (by simp) (by simp) (by simp) (by rw [Op.equalIn]; simp only [yad, yah hu]; rfl) h
  ·cases h2 : yig E t 1 with
   | false => rw [h2] at h; exact h.elim
   | true =>
    rw [h2] at h
    simp only [cond_true] at h
    obtain ⟨e, hu⟩ := ypN hE h2
    rcases yg4 (K := fun _ => yfl op false K) hS hx h with ⟨h3, a, rfl⟩ | ⟨h3, f, fs, vs, rfl⟩ | ⟨h3, t', y', rfl⟩
    ·have hg : (eqGuard op t ox oy (.pointer (some a)) (.pointer none)).run P w = .ok () w := yaD (by simp)
     simp only [yad, hg]
     exact ye0 (by simp) (by simp) (by simp) (by simp) (by rw [Op.equalIn]; simp only [yad, yah hu]; rfl) h3
    ·simp only [Rel] at hx; obtain ⟨_, hx, _⟩ := hx; cases hx
    ·simp only [Rel] at hx; obtain ⟨_, hx, _⟩ := hx; cases hx
  ·exact h.elim
 | false =>
  rw [h1] at h
  simp only [cond_false] at h
  cases h2 : Nat.beq (yi4 oy) 2 with
  | false => rw [h2] at h; exact yks hE hx hy h
  | true =>
   rw [h2] at h
   simp only [cond_true] at h
   have ho := nilK_of.2 (Nat.eq_of_beq_eq_true h2)
   obtain rfl := hY _ ho
   unfold yqJ at h
   split at h
   ·cases h3 : yig E t 0 with
    | false => rw [h3] at h; exact h.elim
    | true =>
     rw [h3] at h
     obtain ⟨e, hu⟩ := ypU hE h3
     simp only [Rel] at hx; subst hx
     have hg : (eqGuard op t ox oy .nilIface .nilIface).run P w = .ok () w := by
      subst ho
      unfold eqGuard
      cases op <;> first | rfl | (cases ox <;> rfl)
     simp only [yad, hg]
     exact ye0 (by simp) (by simp) (by simp) (by simp) (by rw [Op.equalIn]; simp only [yad, yah hu]; rfl) h
   ·cases h3 : yig E t 0 with
    | false => rw [h3] at h; exact h.elim
    | true =>
     rw [h3] at h
     obtain ⟨e, hu⟩ := ypU hE h3
     simp only [Rel] at hx; obtain ⟨y', rfl, _⟩ := hx
     have hg : ∀ t' , (eqGuard op t ox oy (.iface t' y') .nilIface).run P w = .ok () w := fun t' => yaD (by simp)
     simp only [yad, hg]
     exact ye0 (by simp) (by simp) (by simp) (by simp) (by rw [Op.equalIn]; simp only [yad, yah hu]; rfl) h
   ·exact h.elim
theorem RelT.ext {ρ ρ' : Ren} {w w' : World} {s : List EV} {a : Array Value} (h : RelT E.gl ρ w s a) (he : Ext ρ w ρ' w') : RelT E.gl ρ' w' s a :=
 ⟨h.1, fun i v hv => (h.2.1 i v hv).imp id fun ⟨x, hx, hr⟩ => ⟨x, hx, hr.ext he⟩, h.2.2.ext he⟩
theorem RelT.set {ρ : Ren} {w : World} {s : List EV} {a : Array Value} (h : RelT E.gl ρ w s a) (d : Nat) (v : EV) (x : Value) (hv : v = .undef ∨ Rel ρ w v x) : RelT E.gl ρ w (s.set d v) (a.setIfInBounds d x) := by
 refine ⟨by simp [h.1], fun i u hu => ?_, h.2.2⟩
 by_cases hi : i = d
 ·subst hi
  rw [List.getElem?_set] at hu
  simp at hu
  obtain ⟨hlt, rfl⟩ := hu
  refine hv.imp id fun hr => ⟨x, ?_, hr⟩
  rw [Array.getElem?_setIfInBounds_self_of_lt (by rw [← h.1]; exact hlt)]
 ·rw [yaH _ _ _ _ hi] at hu
  refine (h.2.1 i u hu).imp id fun ⟨y, hy, hr⟩ => ⟨y, ?_, hr⟩
  rw [Array.getElem?_setIfInBounds_ne (fun e => hi e.symm)]; exact hy
theorem RelT.put {ρ : Ren} {w : World} {s : St} {a : Act} (h : RelT E.gl ρ w s.tmps a.tmps) (d : Option Nat) (v : EV) (x : Value) (H : yaf) (hv : v = .undef ∨ Rel ρ w v x) :
  RelT E.gl ρ w (s.put d v H).tmps (a.put d x).tmps := by
 cases d with
 | none => exact h
 | some d => exact h.set d v x hv
theorem yd0 {ρ : Ren} {w : World} {s : St} {a : Act} (h : RelT E.gl ρ w s.tmps a.tmps) : ∀ (xs : List Operand), (∀ v ∈ xs.map (St.opd E s), v ≠ .undef) → RelL ρ w (xs.map (St.opd E s)) (xs.map a.eval)
 | [], _ => rfl
 | x :: xs, hu => by
  simp only [List.map_cons, RelL]
  exact ⟨_, _, rfl, ya2 h rfl (hu _ (by simp)), yd0 h xs fun v hv => hu v (by simp at hv ⊢; exact .inr hv)⟩
theorem ygw : ∀ (l : List EV), EV.freeL l = true → ∀ v ∈ l, v ≠ .undef
 | v :: l, h, u, hu => by
  simp only [EV.freeL, Bool.and_eq_true] at h
  rcases List.mem_cons.1 hu with rfl | hu
  ·intro e; subst e; simp [EV.free] at h
  ·exact ygw l h.2 u hu
theorem yfz {H : yaf} : ∀ (ms : List (Option IntKind)) (vs : List EV), EV.freeL (yaP H ms vs) = true → ∀ v ∈ vs, v ≠ .undef
 | m :: ms, v :: vs, h, u, hu => by
  simp only [yaP, EV.freeL, Bool.and_eq_true] at h
  rcases List.mem_cons.1 hu with rfl | hu
  ·intro e; subst e
   cases m <;> simp [ydm, EV.free] at h
  ·exact yfz ms vs h.2 u hu
 | [], vs, h, u, hu => by
  cases vs with
  | nil => cases hu
  | cons v vs => exact ygw _ (by simpa [yaP] using h) u hu
 | _ :: _, [], h, u, hu => by cases hu
theorem yhY {H : yaf} : ∀ (ms : List (Option IntKind)) (vs : List EV), yfT (yaP H ms vs) = true → ∀ v ∈ vs, v ≠ .undef
 | m :: ms, v :: vs, h, u, hu => by
  simp only [yaP, yfT, Bool.and_eq_true] at h
  rcases List.mem_cons.1 hu with rfl | hu
  ·intro e; subst e
   cases m <;> simp [ydm, EV.dfd] at h
  ·exact yhY ms vs h.2 u hu
 | [], vs, h, u, hu => by
  cases vs with
  | nil => cases hu
  | cons v vs => exact yex (by simpa [yaP] using h) u hu
 | _ :: _, [], h, u, hu => by cases hu
theorem ykg {ρ : Ren} {w : World} {s : St} {a : Act} (hT : RelT E.gl ρ w s.tmps a.tmps) {ps : List (Nat × Operand)} (hd : yfT (ps.map fun p => (St.opd E s) p.2) = true) :
  ∀ (i : Nat) (u : Nat × EV) (y : Nat × Value), (ps.map fun p => (p.1, (St.opd E s) p.2))[i]? = some u → (ps.map fun p => (p.1, a.eval p.2))[i]? = some y → Rel ρ w u.2 y.2 := by
 intro i u y hu hy
 rw [List.getElem?_map] at hu hy
 cases hp : ps[i]? with
 | none => simp [hp] at hu
 | some p =>
  simp [hp] at hu hy
  subst hu; subst hy
  exact ya2 hT rfl (yex hd _ (List.mem_map.2 ⟨p, List.mem_of_getElem? hp, rfl⟩))
theorem ynQ {ρ : Ren} {w : World} {s : St} {a : Act} {o : Oper} {K : EV → Prop} (hE : ∀ t ti, E.ty t = some ti → OkTI P t ti)
  (hT : RelT E.gl ρ w s.tmps a.tmps) (hS : Sim ρ s.heap w) (h : evV E o.op s K) :
  ∃ v x, K v ∧ (v = .undef ∨ Rel ρ w v x) ∧ (execOp a.eval o).run P w = .ok (.value x) w := by
 obtain ⟨dst, op, ty, pos, after, guard⟩ := o
 simp only at h
 unfold evV at h
 have hv : ∀ (m : Sem Value) (x : Value), m.run P w = .ok x w → ((do pure (.value (← m)) : Sem Next)).run P w = .ok (.value x) w := by
  intro m x hm
  simp only [yad, hm, yak]
 split at h
 ·exact ⟨_, _, h, ygU hT _, rfl⟩
 ·exact ⟨_, _, h, ygU hT _, rfl⟩
 ·rename_i c xa xb
  split at h
  ·rename_i t ht
   have hc := ya2 hT ht (by simp)
   simp only [Rel] at hc
   rw [yds] at h
   cases t with
   | true => exact ⟨_, _, h.1 rfl, ygU hT xa, by simp [execOp, hc, asBool, yad, yak]⟩
   | false => exact ⟨_, _, h.2 rfl, ygU hT xb, by simp [execOp, hc, asBool, yad, yak]⟩
  ·exact h.elim
 ·rename_i t ps
  rw [yac] at h
  obtain ⟨hd, h⟩ := h
  obtain ⟨v, z, h1, h2, h3⟩ := yiX (qs := ps.toList.map fun p => (p.1, a.eval p.2)) hE (by rw [List.map_map, List.map_map]; rfl) (ykg hT hd) h
  refine ⟨v, z, h1, .inr h2, ?_⟩
  have : (ps.map fun (p : Nat × Operand) => (p.1, a.eval p.2)) = (ps.toList.map fun p => (p.1, a.eval p.2)).toArray := by
   apply Array.ext'; rw [Array.toList_map]
  have h4 := hv _ _ h3
  rw [← this] at h4
  exact h4
 ·rename_i t x
  by_cases hu : (St.opd E s) x = .undef
  ·rw [hu] at h; exact h.elim
  ·obtain ⟨u, y, h1, h2, h3⟩ := yfI hE hS (ya2 hT rfl hu) h
   exact ⟨u, y, h1, .inr h2, hv _ _ h3⟩
 ·rename_i op t x y _
  rw [yac, Bool.and_eq_true] at h
  obtain ⟨v, z, h1, h2, h3⟩ := ykI (ox := x) (oy := y) hE hS (ya2 hT rfl (ybs h.1.1)) (ya2 hT rfl (ybs h.1.2)) (fun v hv => by subst hv; rfl) h.2
  exact ⟨v, z, h1, .inr (h2 _ _), hv _ _ h3⟩
 ·rename_i op _ x
  by_cases hu : (St.opd E s) x = .undef
  ·rw [hu] at h; cases op <;> exact h.elim
  ·obtain ⟨v, z, h1, h2, h3⟩ := ymn (ya2 hT rfl hu) h
   exact ⟨v, z, h1, .inr (h2 _ _), hv _ _ h3⟩
 ·rename_i src dst x
  rw [yac] at h
  obtain ⟨v, z, h1, h2, h3⟩ := ykc hE hS (ya2 hT rfl (ybs h.1)) h.2
  exact ⟨v, z, h1, .inr (h2 _ _), hv _ _ h3⟩
 ·rename_i t x f
  rw [yac] at h
  obtain ⟨v, z, h1, h2, h3⟩ := yfj hE hS (ya2 hT rfl (ybs h.1)) h.2
  exact ⟨v, z, h1, .inr h2, hv _ _ h3⟩
 ·rename_i t x f
  rw [yac] at h
  obtain ⟨v, z, h1, h2, h3⟩ := yiD hE (ya2 hT rfl (ybs h.1)) h.2
  exact ⟨v, z, h1, .inr h2, hv _ _ h3⟩
 ·rename_i t x i
  rw [yac, Bool.and_eq_true] at h
  obtain ⟨v, z, h1, h2, h3⟩ := yfi hE hS (ya2 hT rfl (ybs h.1.1)) (ya2 hT rfl (ybs h.1.2)) h.2
  exact ⟨v, z, h1, .inr h2, hv _ _ h3⟩
 ·rename_i t x i
  rw [yac, Bool.and_eq_true] at h
  obtain ⟨v, z, h1, h2, h3⟩ := yiv hE (ya2 hT rfl (ybs h.1.1)) (ya2 hT rfl (ybs h.1.2)) h.2
  exact ⟨v, z, h1, .inr h2, hv _ _ h3⟩
 ·rename_i x i
  by_cases hu : (St.opd E s) x = .undef
  ·rw [hu] at h; exact h.elim
  ·obtain ⟨v, z, h1, h2, h3⟩ := yhe (ya2 hT rfl hu) h
   exact ⟨v, z, h1, .inr h2, hv _ _ h3⟩
 ·rename_i f cs
  rw [yac] at h
  refine ⟨_, .func (.func f) #[] (cs.map a.eval), h.2, .inr ?_, by simp [execOp, Instr.makeFunc, yad, yak]⟩
  simp only [Rel]
  exact ⟨_, rfl, by rw [Array.toList_map]; exact yd0 hT _ (yex h.1)⟩
 ·rename_i t x lo hi mx
  rw [yac] at h
  simp only [Bool.and_eq_true] at h
  obtain ⟨⟨d1, d2, d3, d4⟩, h⟩ := h
  have ho : ∀ (q : Option Operand), yoU (q.map (St.opd E s)) = true → ypY ρ w (q.map (St.opd E s)) (q.map a.eval) := by
   intro q hq
   cases q with
   | none => trivial
   | some q => exact ya2 hT rfl (ybs hq)
  obtain ⟨v, z, h1, h2, h3⟩ := yir hE hS (ya2 hT rfl (ybs d1)) (ho lo d2) (ho hi d3) (ho mx d4) h
  exact ⟨v, z, h1, .inr h2, hv _ _ h3⟩
 ·rename_i x t
  rw [yac] at h
  obtain ⟨v, z, h1, h2, h3⟩ := ykV (ty := ty) hE (ya2 hT rfl (ybs h.1)) h.2
  refine ⟨v, z, h1, .inr (h2 _ _), ?_⟩
  simp only [execOp, resolve, yad, yak, invoke, builtin]
  have : (⟨[x]⟩ : Array Operand).map a.eval = #[a.eval x] := by simp
  rw [this, h3]
 ·rename_i xs ts
  rw [yac] at h
  obtain ⟨v, z, y, ys', h1, h2, h3, h4⟩ := yhQ (P := P) (f2 := Builtin.max2) yoP (yd0 hT xs.toList (yex h.1)) h.2
  refine ⟨v, z, h1, .inr h2, ?_⟩
  simp only [execOp, resolve, yad, yak, invoke, builtin]
  have : (Builtin.max_ ts ty (xs.map a.eval)).run P w = .ok z w := by
   simp only [Builtin.max_, Array.toList_map, h3]
   exact h4
  rw [this]
 ·rename_i xs ts
  rw [yac] at h
  obtain ⟨v, z, y, ys', h1, h2, h3, h4⟩ := yhQ (P := P) (f2 := Builtin.min2) yo1 (yd0 hT xs.toList (yex h.1)) h.2
  refine ⟨v, z, h1, .inr h2, ?_⟩
  simp only [execOp, resolve, yad, yak, invoke, builtin]
  have : (Builtin.min_ ts ty (xs.map a.eval)).run P w = .ok z w := by
   simp only [Builtin.min_, Array.toList_map, h3]
   exact h4
  rw [this]
 ·rename_i x
  rw [yac] at h
  have hx := ya2 hT (x := x) rfl (ybs h.1)
  rcases yg4 hS hx h.2 with ⟨h1, b, h2⟩ | ⟨h1, f, fs, vs, h2⟩ | ⟨h1, t, y, h2⟩
  ·exact ⟨_, a.eval x, h1, .inr hx, by simp only [execOp]; rw [h2]; rfl⟩
  ·exact ⟨_, a.eval x, h1, .inr hx, by simp only [execOp]; rw [h2]; rfl⟩
  ·exact ⟨_, a.eval x, h1, .inr hx, by simp only [execOp]; rw [h2]; rfl⟩
 ·rename_i f fs _
  rw [yac] at h
  refine ⟨_, .func (.func f) (fs.map a.eval) #[], h.2, .inr ?_, by simp [execOp, Instr.makeFunc, yad, yak]⟩
  simp only [Rel]
  exact ⟨_, rfl, by rw [Array.toList_map]; exact yd0 hT _ (yex h.1)⟩
 ·exact h.elim
theorem yme {ρ : Ren} {w : World} {s : St} {a : Act} {o : Oper} {K : EV → yaf → Prop} {next : Act → World → Prop} {Q : Exit → Act → World → Prop}
  (hE : ∀ t ti, E.ty t = some ti → OkTI P t ti) (hFn : yoJ P E) (hT : RelT E.gl ρ w s.tmps a.tmps) (hS : Sim ρ s.heap w) (h : ycp E o.op s K)
  (hn : ∀ v H ρ' w' x, K v H → (v = .undef ∨ Rel ρ' w' v x) → Sim ρ' H w' → Ext ρ w ρ' w' → ρ'.F = ρ.F → next (a.put o.dst x) w') : o.wp P a w next Q := by
 obtain ⟨dst, op, ty, pos, after, guard⟩ := o
 simp only at h hn
 unfold ycp at h
 have hv : ∀ (m : Sem Value) (x : Value) (w' : World), m.run P w = .ok x w' → ((do pure (.value (← m)) : Sem Next)).run P w = .ok (.value x) w' := by
  intro m x w' hm
  simp only [yad, hm, yak]
 split at h
 ·rename_i t
  split at h
  ·rename_i ti ht
   obtain ⟨d, it, z, h1, h2, h3, h4, h5, h6, h7⟩ := hE t ti ht
   obtain ⟨u, H', ρ', w', y, k1, k2, k3, k4, k5, k6⟩ := ygC (P := P) t hS (yga ti.zero z h7) h
   have hr : (execOp a.eval { dst, op := .alloc t, type := ty, pos, after, guard }).run P w = .ok (.value (.pointer (some y))) w' := by
    refine hv _ _ _ ?_
    simp only [Instr.alloc, yad, ycj h2 h6, k6, yak]
   simp only [Oper.wp, hr, Oper.upon]
   exact hn _ _ _ _ _ k1 (.inr k5) k2 k3 k4
  ·exact h.elim
 ·rename_i t x
  have hx : (St.opd E s) x ≠ .undef := by
   intro e; rw [e] at h; exact h.elim
  have h' : yg6 s.heap ((St.opd E s) x) K := by
   revert h
   cases hq : (St.opd E s) x <;> intro h <;> first | exact absurd hq hx | exact h
  obtain ⟨u, H', ρ', w', y, k1, k2, k3, k4, k5, k6⟩ := ygC (P := P) t hS (ya2 hT rfl hx) h'
  have hr : (execOp a.eval { dst, op := .box t x, type := ty, pos, after, guard }).run P w = .ok (.value (.pointer (some y))) w' := by
   refine hv _ _ _ ?_
   simp only [Instr.box, yad, k6, yak]
  simp only [Oper.wp, hr, Oper.upon]
  exact hn _ _ _ _ _ k1 (.inr k5) k2 k3 k4
 ·rename_i t n ps
  rw [yac] at h
  obtain ⟨hd, h⟩ := h
  obtain ⟨u, H', ρ', w', y, k1, k2, k3, k4, k5, k6⟩ := ye3 (qs := ps.toList.map fun p => (p.1, a.eval p.2)) hE hS (by rw [List.map_map, List.map_map]; rfl) (ykg hT hd) h
  have e1 : (ps.map fun (p : Nat × Operand) => (p.1, a.eval p.2)) = (ps.toList.map fun p => (p.1, a.eval p.2)).toArray := by
   apply Array.ext'; rw [Array.toList_map]
  have hr : (execOp a.eval { dst, op := .buildSlice t n ps, type := ty, pos, after, guard }).run P w = .ok (.value y) w' := by
   have h4 := hv _ _ _ k6
   rw [← e1] at h4
   exact h4
  simp only [Oper.wp, hr, Oper.upon]
  exact hn _ _ _ _ _ k1 (.inr k5) k2 k3 k4
 ·rename_i t x y
  have hx : (St.opd E s) x ≠ .undef := by
   intro e; rw [e] at h; exact h.elim
  have hy : (St.opd E s) y ≠ .undef := by
   intro e
   rw [e] at h
   revert h
   cases (St.opd E s) x <;> intro h <;> try exact h.elim
   simp only [ycc] at h
   split at h
   ·split at h
    ·simp [gd, EV.storable] at h
    ·exact h.elim
   ·exact h.elim
  obtain ⟨H', w', k1, k2, k3, k4⟩ := yiu hE hS (ya2 hT rfl hx) (ya2 hT rfl hy) h
  have hr : (execOp a.eval { dst, op := .store t x y, type := ty, pos, after, guard }).run P w = .ok .skip w' := by
   show ((do Instr.storeAt t (a.eval x) (a.eval y); pure .skip : Sem Next)).run P w = _
   simp only [yad, k4, yak]
  simp only [Oper.wp, hr, Oper.upon]
  exact hn _ _ _ _ undef k1 (.inl rfl) k2 k3 rfl
 ·rename_i t ln cp
  rw [yac, Bool.and_eq_true] at h
  obtain ⟨⟨d1, d2⟩, h⟩ := h
  obtain ⟨u, H', ρ', w', y, k1, k2, k3, k4, k5, k6⟩ := yfw (P := P) hE hS (ya2 hT rfl (ybs d1)) (ya2 hT rfl (ybs d2)) h
  have hr : (execOp a.eval { dst, op := .makeSlice t ln cp, type := ty, pos, after, guard }).run P w = .ok (.value y) w' := hv _ _ _ k6
  simp only [Oper.wp, hr, Oper.upon]
  exact hn _ _ _ _ _ k1 (.inr k5) k2 k3 k4
 ·rename_i f xs ts
  have hf : (St.opd E s) f ≠ .undef := by
   intro e; rw [e] at h; exact h.elim
  have hxs : ∀ v ∈ xs.toList.map (St.opd E s), v ≠ .undef := by
   have key : ∀ (g : FuncId) (l : List EV) (K : EV → yaf → Prop), ybF E g l s.heap K → ∀ v ∈ l, v ≠ .undef := by
    intro g l K h
    unfold ybF at h
    split at h
    ·rename_i en he
     rw [ybA] at h
     intro v hv'
     cases hl : en.lend with
     | true =>
      have h' := h.1 hl
      unfold ydn at h'
      rw [yac, Bool.and_eq_true] at h'
      exact yhY _ _ h'.1.1 v hv'
     | false =>
      have h' := h.2 hl
      rw [yac] at h'
      exact yfz _ _ h'.1 v hv'
    ·exact h.elim
   revert h
   cases hq : (St.opd E s) f <;> intro h <;> try exact h.elim
   ·intro v hv'; exact key _ _ _ h v (List.mem_append.2 (.inl hv'))
   ·intro v hv'; exact key _ _ _ h v (List.mem_append.2 (.inr hv'))
  obtain ⟨g, ys, k1, k2⟩ := yjf (xs := xs.map a.eval) hFn hS hT.2.2 (ya2 hT rfl hf) (by rw [Array.toList_map]; exact yd0 hT _ hxs) h
  have hr : (execOp a.eval { dst, op := .call { callee := .value f, args := xs, argTypes := ts }, type := ty, pos, after, guard }).run P w = .ok (.enter g ys) w := k1
  simp only [Oper.wp, hr, Oper.upon]
  refine k2.mono ?_
  rintro e w' ⟨v, x, H', ρ', rfl, q1, q2, q3, q4, q5⟩
  exact hn _ _ _ _ _ q1 (.inr q5) q2 q3 q4
 ·rename_i x y t u
  rw [yac, Bool.and_eq_true] at h
  obtain ⟨⟨d1, d2⟩, h⟩ := h
  obtain ⟨u', H', ρ', w', z, k1, k2, k3, k4, k5, k6⟩ := yhp (P := P) (ty := ty) hE hS (ya2 hT rfl (ybs d1)) (ya2 hT rfl (ybs d2)) h
  have hr : (execOp a.eval { dst, op := .call { callee := .builtin .append, args := ⟨[x, y]⟩, argTypes := ⟨[t, u]⟩ }, type := ty, pos, after, guard }).run P w = .ok (.value z) w' := by
   simp only [execOp, resolve, yad, yak, invoke, builtin]
   have : (⟨[x, y]⟩ : Array Operand).map a.eval = #[a.eval x, a.eval y] := by simp
   rw [this, k6]
  simp only [Oper.wp, hr, Oper.upon]
  exact hn _ _ _ _ _ k1 (.inr k5) k2 k3 k4
 ·rename_i x y t u
  rw [yac, Bool.and_eq_true] at h
  obtain ⟨⟨d1, d2⟩, h⟩ := h
  obtain ⟨u', H', w', z, k1, k2, k3, k4, k5⟩ := yjB (P := P) (t' := u) (ty := ty) hE hS (ya2 hT rfl (ybs d1)) (ya2 hT rfl (ybs d2)) h
  have hr : (execOp a.eval { dst, op := .call { callee := .builtin .copy, args := ⟨[x, y]⟩, argTypes := ⟨[t, u]⟩ }, type := ty, pos, after, guard }).run P w = .ok (.value z) w' := by
   simp only [execOp, resolve, yad, yak, invoke, builtin]
   have : (⟨[x, y]⟩ : Array Operand).map a.eval = #[a.eval x, a.eval y] := by simp
   rw [this, k5]
  simp only [Oper.wp, hr, Oper.upon]
  exact hn _ _ _ _ _ k1 (.inr k4) k2 k3 rfl
 ·obtain ⟨v, x, k1, k2, k3⟩ := ynQ (o := { dst, op, type := ty, pos, after, guard }) hE hT hS h
  simp only [Oper.wp, k3, Oper.upon]
  exact hn _ _ _ _ _ k1 k2 hS (Ext.refl _ _) rfl
end sound
def yba (E : Env) (ops : List Oper) (o : Oper) (s : St) (K : St → Prop) : Prop :=
 match o.guard with
 | none => ycp E o.op s fun v H => K (s.put o.dst v H)
 | some (j, want) => match ops[j]? with
  | some oj => match oj.dst with
   | some d => match s.slot d with
    | .bool b => br b
      (cond (ygS true want) (ycp E o.op (s.put (some d) (.bool true) s.heap) fun v H => K ((s.put (some d) (.bool true) s.heap).put o.dst v H)) (K ((s.put (some d) (.bool true) s.heap).put o.dst (.tuple []) s.heap)))
      (cond (ygS false want) (ycp E o.op (s.put (some d) (.bool false) s.heap) fun v H => K ((s.put (some d) (.bool false) s.heap).put o.dst v H)) (K ((s.put (some d) (.bool false) s.heap).put o.dst (.tuple []) s.heap)))
    | .tuple [] => K (s.put o.dst (.tuple []) s.heap)
    | _ => False
   | none => False
  | none => False
def ybV (E : Env) (ops : List Oper) : List Oper → St → (St → Prop) → Prop
 | [], s, K => K s
 | o :: r, s, K => yba E ops o s fun s' => ybV E ops r s' K
section sound
variable {P : Program} {E : Env}
theorem ylJ {s : List EV} {d : Nat} {v : EV} (h : s[d]? = some v) : s.set d v = s := by
 apply List.ext_getElem?
 intro i
 by_cases hi : i = d
 ·subst hi
  have hlt : i < s.length := by
   rcases Nat.lt_or_ge i s.length with hh | hh
   ·exact hh
   ·rw [List.getElem?_eq_none hh] at h; cases h
  rw [List.getElem?_set_self hlt, h]
 ·rw [yaH _ _ _ _ hi]
theorem ygO {s : St} {d : Nat} {v : EV} (h : s.slot d = v) (hv : v ≠ .undef) : s.tmps[d]? = some v := by
 unfold St.slot at h
 cases hs : s.tmps[d]? with
 | none => rw [hs] at h; exact absurd h.symm hv
 | some u => rw [hs] at h; simpa using h
theorem ygr {ρ : Ren} {w : World} {s : St} {a : Act} {ops : Array Oper} {i : Nat} {o : Oper} {K : St → Prop} {next : Act → World → Prop} {Q : Exit → Act → World → Prop}
  (hE : ∀ t ti, E.ty t = some ti → OkTI P t ti) (hFn : yoJ P E) (hi : ops[i]? = some o) (hT : RelT E.gl ρ w s.tmps a.tmps) (hS : Sim ρ s.heap w) (h : yba E ops.toList o s K)
  (hn : ∀ s' ρ' w' a', K s' → RelT E.gl ρ' w' s'.tmps a'.tmps → a'.defers = a.defers → Sim ρ' s'.heap w' → Ext ρ w ρ' w' → ρ'.F = ρ.F → next a' w') : wpOp P ops Q i next a w := by
 unfold wpOp
 simp only [hi]
 have hput : ∀ (x : Value), (a.put o.dst x).defers = a.defers := by intro x; cases o.dst <;> rfl
 have run : ∀ (s1 : St), s1.heap = s.heap → RelT E.gl ρ w s1.tmps a.tmps → (ycp E o.op s1 fun v H => K (s1.put o.dst v H)) → o.wp P a w next Q := by
  intro s1 hh hT1 h1
  refine yme hE hFn hT1 (hh ▸ hS) h1 ?_
  intro v H ρ' w' x hK hv hS' hX hF
  refine hn _ _ _ _ hK ((hT1.ext hX).put o.dst v x H hv) (hput x) ?_ hX hF
  cases o.dst <;> exact hS'
 unfold yba at h
 split at h
 ·rename_i hg
  have : Region.wanted o (yielded ops a.tmps) = true := by simp [Region.wanted, hg]
  rw [if_pos this]
  exact .inl (run s rfl hT h)
 ·rename_i j want hg
  split at h
  ·rename_i oj hj
   split at h
   ·rename_i d hd
    split at h
    ·rename_i b hb
     have hsl := ygO hb (by simp)
     have hby : yielded ops a.tmps j = some b := by
      rcases hT.2.1 d _ hsl with h' | ⟨x, hx, hr⟩
      ·cases h'
      ·simp only [Rel] at hr; subst hr
       have hj' : ops[j]? = some oj := by rw [Array.getElem?_toList] at hj; exact hj
       simp [yielded, hj', hd, hx]
     have hw : Region.wanted o (yielded ops a.tmps) = ygS b want := by
      simp only [Region.wanted, hg, hby]
      cases b <;> cases want <;> rfl
     have hset : s.put (some d) (.bool b) s.heap = s := by
      simp only [St.put, ylJ hsl]
     rw [yds] at h
     have h2 : cond (ygS b want) (ycp E o.op s fun v H => K (s.put o.dst v H)) (K (s.put o.dst (.tuple []) s.heap)) := by
      cases b with
      | true => have := h.1 rfl; rw [hset] at this; exact this
      | false => have := h.2 rfl; rw [hset] at this; exact this
     rw [ybA] at h2
     rw [hw]
     cases hbw : ygS b want with
     | true => simp only [if_true]; exact .inl (run s rfl hT (h2.1 hbw))
     | false =>
      simp only [Bool.false_eq_true, if_false]
      refine hn _ ρ w _ (h2.2 hbw) (hT.put o.dst (.tuple []) undef s.heap (.inr ⟨#[], rfl, rfl⟩)) (hput _) ?_ (Ext.refl _ _) rfl
      cases o.dst <;> exact hS
    ·rename_i hb
     have hsl := ygO hb (by simp)
     have hby : yielded ops a.tmps j = none := by
      rcases hT.2.1 d _ hsl with h' | ⟨x, hx, hr⟩
      ·cases h'
      ·simp only [Rel, RelL] at hr
       obtain ⟨vs, rfl, hv⟩ := hr
       have hj' : ops[j]? = some oj := by rw [Array.getElem?_toList] at hj; exact hj
       simp [yielded, hj', hd, hx]
     have hw : Region.wanted o (yielded ops a.tmps) = false := by
      simp only [Region.wanted, hg, hby]
      rfl
     rw [hw]
     simp only [Bool.false_eq_true, if_false]
     refine hn _ ρ w _ h (hT.put o.dst (.tuple []) undef s.heap (.inr ⟨#[], rfl, rfl⟩)) (hput _) ?_ (Ext.refl _ _) rfl
     cases o.dst <;> exact hS
    ·exact h.elim
   ·exact h.elim
  ·exact h.elim
theorem yhd {ops : Array Oper} {Q : Exit → Act → World → Prop} (hE : ∀ t ti, E.ty t = some ti → OkTI P t ti) (hFn : yoJ P E) :
  ∀ (r : List Oper) (i : Nat), ops.toList.drop i = r → ∀ (ρ : Ren) (w : World) (s : St) (a : Act) (K : St → Prop), RelT E.gl ρ w s.tmps a.tmps → Sim ρ s.heap w → ybV E ops.toList r s K →
   (∀ s' ρ' w' a', K s' → RelT E.gl ρ' w' s'.tmps a'.tmps → a'.defers = a.defers → Sim ρ' s'.heap w' → Ext ρ w ρ' w' → ρ'.F = ρ.F → Q .normal a' w') →
   wpOps P ops Q (List.range' i r.length) a w
 | [], i, hd, ρ, w, s, a, K, hT, hS, h, hn => by
  simp only [List.length_nil, List.range'_zero, wpOps]
  exact hn s ρ w a h hT rfl hS (Ext.refl _ _) rfl
 | o :: r, i, hd, ρ, w, s, a, K, hT, hS, h, hn => by
  have hio : ops[i]? = some o := by
   have := congrArg (fun l => l[0]?) hd
   simpa using this
  have hdr : ops.toList.drop (i + 1) = r := by
   rw [← List.drop_drop, hd]; rfl
  rw [List.length_cons, List.range'_succ, wpOps_cons]
  simp only [ybV] at h
  refine ygr hE hFn hio hT hS h ?_
  intro s' ρ' w' a' hK hT' hD hS' hX hF
  refine yhd hE hFn r (i + 1) hdr ρ' w' s' a' K hT' hS' hK ?_
  intro s'' ρ'' w'' a'' hK' hT'' hD' hS'' hX' hF'
  exact hn s'' ρ'' w'' a'' hK' hT'' (hD'.trans hD) hS'' (hX.trans hX') (hF'.trans hF)
end sound
end Go.Ev

/- The evaluator: what it comes to is one thing alone. -/
set_option linter.unusedVariables false
set_option linter.unusedSimpArgs false
namespace Go.Ev
open Go
def Det {α : Type} (T : (α → Prop) → Prop) : Prop := ∀ K, T K → ∃ v, K v ∧ ∀ K', K' v → T K'
def Det2 {α β : Type} (T : (α → β → Prop) → Prop) : Prop := ∀ K, T K → ∃ v u, K v u ∧ ∀ K', K' v u → T K'
theorem Det.mono {α : Type} {T : (α → Prop) → Prop} (h : Det T) {K K' : α → Prop} (hT : T K) (hK : ∀ v, K v → K' v) : T K' := by
 obtain ⟨v, h1, h2⟩ := h K hT
 exact h2 K' (hK v h1)
theorem yaa {α : Type} : Det (fun _ : α → Prop => False) := fun _ h => h.elim
theorem yam {α : Type} (v : α) : Det (fun K => K v) := fun K h => ⟨v, h, fun _ h => h⟩
theorem yaz {α : Type} {c : Bool} {T : (α → Prop) → Prop} (h : Det T) : Det (fun K => gd c (T K)) := by
 cases c
 ·exact yaa
 ·exact h
theorem yqh {α : Type} {c : Bool} {T : (α → Prop) → Prop} (h : Det T) : Det (fun K => c = true ∧ T K) := by
 intro K hK
 obtain ⟨v, h1, h2⟩ := h K hK.2
 exact ⟨v, h1, fun K' h' => ⟨hK.1, h2 K' h'⟩⟩
theorem yju {α : Type} {c : Bool} {T U : (α → Prop) → Prop} (h : Det T) (k : Det U) : Det (fun K => br c (T K) (U K)) := by
 cases c
 ·exact k
 ·exact h
theorem ya1 {α : Type} {c : Bool} {T U : (α → Prop) → Prop} (h : Det T) (k : Det U) : Det (fun K => cond c (T K) (U K)) := by
 cases c
 ·exact k
 ·exact h
theorem yb0 {α β : Type} {T : (α → Prop) → Prop} {U : α → (β → Prop) → Prop} (h : Det T) (k : ∀ v, Det (U v)) : Det (fun K => T fun v => U v K) := by
 intro K hT
 obtain ⟨v, h1, h2⟩ := h _ hT
 obtain ⟨u, h3, h4⟩ := k v K h1
 exact ⟨u, h3, fun K' hk => h2 _ (h4 K' hk)⟩
theorem ycD {α β : Type} {T : (α → Prop) → Prop} (f : α → β) (h : Det T) : Det (fun K : β → Prop => T fun v => K (f v)) :=
 yb0 h fun v => yam (f v)
variable {E : Env}
theorem yh7 {t : TypeId} {v : EV} {H : yaf} : Det (ybo E t v H) := by
 intro K h
 unfold ybo at h
 split at h
 ·rw [yac] at h
  exact ⟨_, h.2, fun K' hk => by simp only [ybo, yac]; exact ⟨h.1, hk⟩⟩
 ·split at h
  ·split at h
   ·rename_i h1 _ _ h2
    rw [yac] at h
    exact ⟨_, h.2, fun K' hk => by simp only [ybo, h1, h2, yac]; exact ⟨h.1, hk⟩⟩
   ·exact h.elim
  ·exact h.elim
 ·exact h.elim
theorem ym0 {op : BinOp} {k : IntKind} {a b : Int} : Det (ydG op k a b) := by
 cases op
 all_goals first
  | exact yam _
  | exact yaz (yam _)
theorem yl3 {op : BinOp} {a b : List UInt8} : Det (ydJ op a b) := by
 cases op
 all_goals first
  | exact yam _
  | exact yaz (yam _)
  | exact yaa
theorem yn9 {op : BinOp} {t : TypeId} {x y : EV} : Det (yeZ E op t x y) := by
 have hd : Det (fun K : EV → Prop => match op with
  | .eql => match eqT E 100 t x y with
   | some b => K (.bool b)
   | none => False
  | .neq => match eqT E 100 t x y with
   | some b => K (.bool (!b))
   | none => False
  | _ => False) := by
  generalize eqT E 100 t x y = o
  cases op <;> cases o
  all_goals first
   | exact yaa
   | exact yam _
 cases x <;> cases y
 case int.int k a k' b =>
  cases op
  all_goals first
   | exact yaz (yam _)
   | exact ya1 ym0 yaa
 case str.str => exact yl3
 all_goals exact hd
theorem ypm {op : UnOp} {x : EV} : Det (ynp op x) := by
 cases op <;> cases x
 all_goals first
  | exact yaa
  | exact yam _
theorem ymG {src dst : TypeId} {x : EV} {H : yaf} : Det (ybP E src dst x H) := by
 unfold ybP
 cases E.ty src with
 | none => exact yaa
 | some si =>
  cases E.ty dst with
  | none => exact yaa
  | some di =>
   obtain ⟨td, _, _, _⟩ := di
   obtain ⟨sd, _, _, _⟩ := si
   cases td
   case int k => cases x <;> first | exact yaa | exact yam _
   case str =>
    cases x
    case str => exact yam _
    all_goals
     dsimp only
     cases sd
     case slice e =>
      refine ya1 ?_ yaa
      generalize ycX H _ = o
      rcases o with _ | ⟨k, n, g⟩
      ·first | exact yaa | exact yam _
      ·cases k <;> first | exact yam _ | exact yaa
     all_goals exact yaa
   all_goals exact yaa
theorem yeX {f : Nat → EV → (EV → Prop) → Prop} (hf : ∀ j u, Det (f j u)) : ∀ (l : List EV) (j : Nat) (i : Int), Det (fun K => yfo (fun j u => f j u K) l j i)
 | [], _, _ => yaa
 | u :: l, j, i => yju (hf j u) (yeX hf l (j + 1) i)
theorem ylf {t : TypeId} {x i : EV} : Det (yca E t x i) := by
 unfold yca
 cases E.ty t with
 | none => exact yaa
 | some ti =>
  cases i
  case int k i =>
   obtain ⟨td, _, _, _⟩ := ti
   cases td <;> cases x
   case array.arr => exact ya1 (yaz (yam _)) yaa
   case array.agg => exact ya1 (yeX (fun _ u => yaz (yam u)) _ _ _) yaa
   case str.str => exact yaz (yam _)
   all_goals exact yaa
  all_goals exact yaa
theorem ykE {t : TypeId} {x : EV} {f : Nat} : Det (yb7 E t x f) := by
 unfold yb7
 cases E.ty t with
 | none => exact yaa
 | some ti =>
  obtain ⟨td, _, _, _⟩ := ti
  cases td <;> cases x
  case struct.agg fs l =>
   dsimp only
   cases fs[f]? with
   | none => exact yaa
   | some p =>
    obtain ⟨o, ft⟩ := p
    cases l[f]? with
    | none => exact yaa
    | some u => exact yaz (yam _)
  all_goals exact yaa
theorem yeT {op : BinOp} {b : Bool} : Det (yfl op b) := by
 unfold yfl
 cases op <;> first | exact yam _ | exact yaa
theorem yjE {x : EV} {H : yaf} : Det (ycQ x H) := by
 unfold ycQ
 cases x
 case ptr b p =>
  dsimp only
  cases H[b]? with
  | none => exact yaa
  | some q =>
   cases q with
   | none => exact yaa
   | some c =>
    dsimp only
    cases EV.get p c with
    | none => exact yaa
    | some _ => exact yam _
 case rref v => exact yam _
 case func f l => exact yam _
 case bnd f l => exact yam _
 case iface t v => exact yam _
 all_goals exact yaa
theorem ynP {op : BinOp} {t : TypeId} {o : Operand} {x y : EV} {H : yaf} : Det (ydR E op t o x y H) := by
 unfold ydR
 refine ya1 ?_ (ya1 ?_ yn9)
 ·unfold yqw
  cases x
  case nilPtr => exact ya1 yeT yaa
  case ptr b q => exact ya1 (fun K hK => by
   obtain ⟨v, h1, h2⟩ := yjE _ hK
   obtain ⟨u, h3, h4⟩ := yeT _ h1
   exact ⟨u, h3, fun K' hk => h2 _ (h4 _ hk)⟩) yaa
  all_goals exact yaa
 ·unfold yqJ
  cases x
  case nilIface => exact ya1 yeT yaa
  case iface => exact ya1 yeT yaa
  all_goals exact yaa
theorem yhh {t : TypeId} {x : EV} {f : Nat} {H : yaf} : Det (yaF E t x f H) := by
 unfold yaF
 cases E.ty t with
 | none => exact yaa
 | some ti =>
  obtain ⟨td, _, _, _⟩ := ti
  cases td
  case struct fs =>
   dsimp only
   cases fs[f]? with
   | none => exact yaa
   | some p =>
    obtain ⟨o, ft⟩ := p
    dsimp only
    cases E.ty ft with
    | none => exact yaa
    | some fi =>
     cases x
     case ptr b p =>
      dsimp only
      rcases H[b]? with _ | _ | c
      ·exact yaa
      ·exact yaa
      ·dsimp only
       cases EV.get p c with
       | none => exact yaa
       | some u => exact yaz (yam _)
     case rref v =>
      cases v
      case agg l =>
       dsimp only
       cases l[f]? with
       | none => exact yaa
       | some u => exact yaz (yam _)
      all_goals exact yaa
     all_goals exact yaa
  all_goals exact yaa
theorem ygG {t : TypeId} {x i : EV} {H : yaf} : Det (yaG E t x i H) := by
 unfold yaG
 cases E.ty t with
 | none => exact yaa
 | some ti =>
  cases i
  case int k i =>
   obtain ⟨td, _, _, _⟩ := ti
   cases td
   case array n e =>
    dsimp only
    cases E.ty e with
    | none => exact yaa
    | some ei =>
     cases x
     case ptr b p =>
      dsimp only
      rcases H[b]? with _ | _ | c
      ·exact yaa
      ·exact yaa
      ·dsimp only
       rcases EV.get p c with _ | u
       ·exact yaa
       ·cases u
        case arr => exact ya1 (yaz (yam _)) yaa
        case agg => exact ya1 (yeX (fun j _ => yam (EV.ptr b (p ++ [j]))) _ _ _) yaa
        all_goals exact yaa
     case rref u =>
      cases u
      case arr => exact ya1 (yqh (yam _)) yaa
      all_goals exact yaa
     all_goals exact yaa
   case slice e =>
    dsimp only
    cases E.ty e with
    | none => exact yaa
    | some ei =>
     cases x
     case slice b off len cap es =>
      dsimp only
      rcases H[b]? with _ | _ | c
      ·exact yaa
      ·exact yaa
      ·refine yaz ?_
       cases c
       case agg => exact yeX (fun j _ => yam (EV.ptr b [off + j])) _ _ _
       all_goals exact yam _
     case rsI => exact yaz (yam _)
     all_goals exact yaa
   all_goals exact yaa
  all_goals exact yaa
theorem yiK {x : EV} {i : Nat} : Det (ybc x i) := by
 cases x
 case tuple l =>
  unfold ybc
  dsimp only
  cases l[i]? with
  | none => exact yaa
  | some v => exact yam _
 all_goals exact yaa
theorem ykW {t : TypeId} {ps : List (Nat × EV)} : Det (yb6 E t ps) := by
 unfold yb6
 cases E.ty t with
 | none => exact yaa
 | some ti =>
  obtain ⟨td, _, _, z⟩ := ti
  refine yaz ?_
  cases td
  case struct fs =>
   dsimp only
   generalize ya4 _ ps z = o
   cases o with
   | none => exact yaa
   | some v => exact yaz (yam _)
  case array n e =>
   dsimp only
   cases yoK E e with
   | none => exact yaa
   | some n =>
    dsimp only
    generalize ya4 _ ps z = o
    cases o with
    | none => exact yaa
    | some v => exact yam _
  all_goals exact yaa
theorem ynC {t : TypeId} {x : EV} : Det (yf3 E t x) := by
 unfold yf3
 cases E.ty t with
 | none => exact yaa
 | some ti =>
  obtain ⟨td, _, _, _⟩ := ti
  cases td <;> cases x
  all_goals first
   | exact yaa
   | exact yam _
theorem ylx {f : Int → Int → Int} {xs : List EV} : Det (ylN f xs) := by
 unfold ylN
 cases xs with
 | nil => exact yaa
 | cons x r =>
  dsimp only
  cases yfc f x r with
  | none => exact yaa
  | some v => exact yam _
theorem ykY {t : TypeId} {x : EV} {lo hi mx : Option EV} {H : yaf} : Det (ybh E t x lo hi mx H) := by
 unfold ybh
 split
 case h_2 => exact yaa
 split
 ·split
  ·exact yaz (yam _)
  ·exact yaa
 ·split
  ·exact yaz (yam _)
  ·exact yaa
 ·split
  ·exact yaz (yam _)
  ·exact yaa
 ·split
  ·exact yaz (yam _)
  ·exact yaa
 ·split
  ·exact yaz (yam _)
  ·exact yaa
 ·exact yaa
theorem det_evV {o : Op} {s : St} : Det (evV E o s) := by
 unfold evV
 split
 case h_1 => exact yam _
 case h_2 => exact yam _
 case h_3 c a b =>
  cases (St.opd E s) c
  case bool t => exact yju (yam _) (yam _)
  all_goals exact yaa
 case h_4 => exact yaz ykW
 case h_5 => exact yh7
 case h_6 => exact yaz ynP
 case h_7 => exact ypm
 case h_8 => exact yaz ymG
 case h_9 => exact yaz yhh
 case h_10 => exact yaz ykE
 case h_11 => exact yaz ygG
 case h_12 => exact yaz ylf
 case h_13 => exact yiK
 case h_14 => exact yaz (yam _)
 case h_15 => exact yaz ykY
 case h_16 => exact yaz ynC
 case h_17 => exact yaz ylx
 case h_18 => exact yaz ylx
 case h_19 => exact yaz yjE
 case h_20 => exact yaz (yam _)
 case h_21 => exact yaa
theorem Det2.of {α β : Type} {T : (α → β → Prop) → Prop} (h : Det (fun K : α × β → Prop => T fun a b => K (a, b))) : Det2 T := by
 intro K hT
 obtain ⟨⟨v, u⟩, h1, h2⟩ := h (fun p => K p.1 p.2) hT
 exact ⟨v, u, h1, fun K' hk => h2 (fun p => K' p.1 p.2) hk⟩
theorem Det2.to {α β : Type} {T : (α → β → Prop) → Prop} (h : Det2 T) : Det (fun K : α × β → Prop => T fun a b => K (a, b)) := by
 intro K hT
 obtain ⟨v, u, h1, h2⟩ := h _ hT
 exact ⟨(v, u), h1, fun K' hk => h2 _ hk⟩
theorem Det2.mono {α β : Type} {T : (α → β → Prop) → Prop} (h : Det2 T) {K K' : α → β → Prop} (hT : T K) (hK : ∀ v u, K v u → K' v u) : T K' := by
 obtain ⟨v, u, h1, h2⟩ := h K hT
 exact h2 K' (hK v u h1)
theorem det_evBuildSlice {t : TypeId} {n : Nat} {ps : List (Nat × EV)} {H : yaf} : Det2 (yaJ E t n ps H) := by
 refine Det2.of ?_
 unfold yaJ
 cases E.ty t with
 | none => exact yaa
 | some ti =>
  obtain ⟨td, _, _, _⟩ := ti
  cases td
  case slice e =>
   dsimp only
   cases E.ty e with
   | none => exact yaa
   | some ei =>
    obtain ⟨_, sz, _, z⟩ := ei
    refine yaz ?_
    cases z
    all_goals
     refine yaz ?_
     generalize ya4 _ ps _ = o
     cases o with
     | none => exact yaa
     | some v => exact yam (_, _)
  all_goals exact yaa
theorem det_evStore {t : TypeId} {a v : EV} {H : yaf} : Det (ycc E t a v H) := by
 unfold ycc
 cases a
 case ptr b p =>
  dsimp only
  rcases H[b]? with _ | _ | c
  ·exact yaa
  ·exact yaa
  ·dsimp only
   cases EV.set p c v with
   | none => exact yaa
   | some c' => exact yaz (yam _)
 all_goals exact yaa
theorem det_evMakeSlice {t : TypeId} {l c : EV} {H : yaf} : Det2 (yaS E t l c H) := by
 refine Det2.of ?_
 unfold yaS
 split
 case h_2 => exact yaa
 split
 case h_2 => exact yaa
 split
 case h_2 => exact yaa
 split
 case h_2 => exact yaa
 exact yaz (yam (_, _))
theorem det_evCopy {t : TypeId} {d x : EV} {H : yaf} : Det2 (yeP E t d x H) := by
 refine Det2.of ?_
 unfold yeP
 split
 case h_2 => exact yaa
 split
 case h_2 => exact yaa
 exact yaz (yam (_, _))
theorem det_evAppend {t t' : TypeId} {s x : EV} {H : yaf} : Det2 (ych E t t' s x H) := by
 refine Det2.of ?_
 unfold ych
 split
 case h_2 => exact yaa
 split
 case h_2 => exact yaa
 split
 case h_2 => exact yaa
 split
 case h_2 => exact yaa
 refine yaz ?_
 split
 ·exact yaz (yju (yam (_, _)) (yam (_, _)))
 ·split
  ·exact yaz (yam (_, _))
  ·exact yaa
 ·exact yaa
def ybB (E : Env) : Prop := ∀ f en, E.fn f = some en → ∀ args H, Det2 (en.spec args H)
theorem yhk (hD : ybB E) {f : FuncId} {args : List EV} {H : yaf} : Det2 (ybF E f args H) := by
  refine Det2.of ?_
  unfold ybF
  cases he : E.fn f with
  | none => exact yaa
  | some en =>
   refine ya1 ?_ ?_
   ·unfold ydn
    refine yaz ?_
    intro K hK
    obtain ⟨v, u, h1, h2⟩ := hD f en he _ _ _ hK
    rw [yac] at h1
    refine ⟨_, h1.2, fun K' hk => h2 _ ?_⟩
    rw [yac]
    exact ⟨h1.1, hk⟩
   ·refine yaz ?_
    intro K hK
    obtain ⟨v, u, h1, h2⟩ := hD f en he _ _ _ hK
    rw [yac] at h1
    cases hv : v.noRS with
    | true =>
     rw [hv] at h1
     refine ⟨_, h1.2, fun K' hk => h2 _ ?_⟩
     rw [yac, hv]
     exact ⟨h1.1, hk⟩
    | false =>
     rw [hv] at h1
     refine ⟨_, h1.2, fun K' hk => h2 _ ?_⟩
     rw [yac, hv]
     exact ⟨h1.1, hk⟩
theorem ymE (hD : ybB E) {f : EV} {args : List EV} {H : yaf} : Det2 (ydt E f args H) := by
 refine Det2.of ?_
 unfold ydt
 cases f
 case func f cap => exact (yhk hD).to
 case bnd f l => exact (yhk hD).to
 all_goals exact yaa
theorem yb1 (hD : ybB E) {o : Op} {s : St} : Det2 (ycp E o s) := by
 refine Det2.of ?_
 unfold ycp
 split
 ·cases E.ty _ with
  | none => exact yaa
  | some ti => exact yam (_, _)
 ·cases (St.opd E s) _
  case undef => exact yaa
  all_goals exact yam (_, _)
 ·exact yaz det_evBuildSlice.to
 ·exact ycD (fun H => (EV.undef, H)) det_evStore
 ·exact yaz det_evMakeSlice.to
 ·exact (ymE hD).to
 ·exact yaz det_evAppend.to
 ·exact yaz det_evCopy.to
 ·exact ycD (fun v => (v, s.heap)) det_evV
theorem ybN (hD : ybB E) {ops : List Oper} {o : Oper} {s : St} : Det (yba E ops o s) := by
 unfold yba
 cases o.guard with
 | none => exact ycD (fun p : EV × yaf => s.put o.dst p.1 p.2) (yb1 hD).to
 | some g =>
  obtain ⟨j, want⟩ := g
  dsimp only
  cases ops[j]? with
  | none => exact yaa
  | some oj =>
   dsimp only
   cases oj.dst with
   | none => exact yaa
   | some d =>
    dsimp only
    cases s.slot d
    case bool b =>
     exact yju (ya1 (ycD (fun p : EV × yaf => (s.put (some d) (.bool true) s.heap).put o.dst p.1 p.2) (yb1 hD).to) (yam _))
      (ya1 (ycD (fun p : EV × yaf => (s.put (some d) (.bool false) s.heap).put o.dst p.1 p.2) (yb1 hD).to) (yam _))
    case tuple l =>
     cases l with
     | nil => exact yam _
     | cons _ _ => exact yaa
    all_goals exact yaa
theorem ybd (hD : ybB E) {ops : List Oper} : ∀ (r : List Oper) (s : St), Det (ybV E ops r s)
 | [], s => yam s
 | o :: r, s => by
  show Det (fun K => yba E ops o s fun s' => ybV E ops r s' K)
  exact yb0 (ybN hD) fun s' => ybd hD r s'
end Go.Ev

/- The evaluator: the blocks' numbers, others: what it comes to is the same, with the other numbers. -/
set_option linter.unusedVariables false
set_option linter.unusedSimpArgs false
namespace Go.Ev
open Go
structure Shf (n m : Nat) (f : Nat → Nat) : Prop where
 inj : ∀ a b, f a = f b → a = b
 low : ∀ b, b < n → f b = b
 high : ∀ b, m ≤ b → f b = b
theorem Shf.lt {n m : Nat} {f : Nat → Nat} (h : Shf n m f) {b : Nat} (hb : b < m) : f b < m := by
 rcases Nat.lt_or_ge (f b) m with h1 | h1
 ·exact h1
 ·have := h.inj _ _ (h.high (f b) h1)
  omega
theorem Shf.lt' {n m : Nat} {f : Nat → Nat} (h : Shf n m f) {b : Nat} (hb : f b < m) : b < m := by
 rcases Nat.lt_or_ge b m with h1 | h1
 ·exact h1
 ·rw [h.high b h1] at hb; exact hb
theorem Shf.mono {n m m' : Nat} {f : Nat → Nat} (h : Shf n m f) (hm : m ≤ m') : Shf n m' f := ⟨h.inj, h.low, fun b hb => h.high b (by omega)⟩
theorem Shf.comp {n m : Nat} {f g : Nat → Nat} (h : Shf n m f) (k : Shf n m g) : Shf n m (fun b => g (f b)) :=
 ⟨fun a b e => h.inj _ _ (k.inj _ _ e), fun b hb => by rw [h.low b hb, k.low b hb], fun b hb => by rw [h.high b hb, k.high b hb]⟩
theorem Shf.id (n m : Nat) : Shf n m (fun b => b) := ⟨fun _ _ h => h, fun _ _ => rfl, fun _ _ => rfl⟩
def swp (n b : Nat) : Nat := if b = n then n + 1 else if b = n + 1 then n else b
theorem Shf.swp (k n m : Nat) (hk : k ≤ n) (hm : n + 2 ≤ m) : Shf k m (swp n) := by
 refine ⟨fun a b h => ?_, fun b hb => ?_, fun b hb => ?_⟩
 ·unfold Ev.swp at h; split at h <;> split at h <;> (try split at h) <;> (try split at h) <;> omega
 ·unfold Ev.swp; rw [if_neg (by omega), if_neg (by omega)]
 ·unfold Ev.swp; rw [if_neg (by omega), if_neg (by omega)]
theorem yaU (f : Nat → Nat) : ∀ (l : List EV), EV.renL f l = l.map (EV.ren f)
 | [] => rfl
 | v :: l => by simp only [EV.renL, List.map_cons, yaU f l]
mutual
theorem yeu (f g : Nat → Nat) : ∀ (v : EV), (v.ren f).ren g = v.ren (fun b => g (f b))
 | .ptr _ _ => rfl
 | .slice _ _ _ _ _ => rfl
 | .rref v => by simp only [EV.ren, yeu f g v]
 | .agg l => by simp only [EV.ren, ycS f g l]
 | .tuple l => by simp only [EV.ren, ycS f g l]
 | .func _ l => by simp only [EV.ren, ycS f g l]
 | .bnd _ l => by simp only [EV.ren, ycS f g l]
 | .iface _ v => by simp only [EV.ren, yeu f g v]
 | .rsI _ _ _ => rfl | .undef => rfl
 | .bool _ => rfl | .int _ _ => rfl | .str _ => rfl | .nilPtr => rfl | .nilSlice => rfl | .nilFunc => rfl | .arr _ _ _ => rfl | .nilIface => rfl
theorem ycS (f g : Nat → Nat) : ∀ (l : List EV), EV.renL g (EV.renL f l) = EV.renL (fun b => g (f b)) l
 | [] => rfl
 | v :: l => by simp only [EV.renL, yeu f g v, ycS f g l]
end
mutual
theorem yjt : ∀ (v : EV), v.ren (fun b => b) = v
 | .ptr _ _ => rfl
 | .slice _ _ _ _ _ => rfl
 | .rref v => by simp only [EV.ren, yjt v]
 | .agg l => by simp only [EV.ren, ygD l]
 | .tuple l => by simp only [EV.ren, ygD l]
 | .func _ l => by simp only [EV.ren, ygD l]
 | .bnd _ l => by simp only [EV.ren, ygD l]
 | .iface _ v => by simp only [EV.ren, yjt v]
 | .rsI _ _ _ => rfl | .undef => rfl
 | .bool _ => rfl | .int _ _ => rfl | .str _ => rfl | .nilPtr => rfl | .nilSlice => rfl | .nilFunc => rfl | .arr _ _ _ => rfl | .nilIface => rfl
theorem ygD : ∀ (l : List EV), EV.renL (fun b => b) l = l
 | [] => rfl
 | v :: l => by simp only [EV.renL, yjt v, ygD l]
end
structure HR (f : Nat → Nat) (H H' : yaf) : Prop where
 len : H'.length = H.length
 get : ∀ (b : Nat), H'[f b]? = (H[b]?).map (ygk f)
theorem HR.id (H : yaf) : HR (fun b => b) H H := ⟨rfl, fun b => by
 cases H[b]? with
 | none => rfl
 | some o => cases o <;> simp [ygk, yjt]⟩
theorem yjY (f g : Nat → Nat) (o : Option EV) : ygk g (ygk f o) = ygk (fun b => g (f b)) o := by
 cases o <;> simp [ygk, yeu]
theorem HR.comp {f g : Nat → Nat} {H H' H'' : yaf} (h : HR f H H') (k : HR g H' H'') : HR (fun b => g (f b)) H H'' := by
 refine ⟨k.len.trans h.len, fun b => ?_⟩
 rw [k.get, h.get]
 cases H[b]? with
 | none => rfl
 | some o => simp [yjY]
theorem HR.live {f : Nat → Nat} {H H' : yaf} (h : HR f H H') {b : Nat} {c : EV} (hb : H[b]? = some (some c)) : H'[f b]? = some (some (c.ren f)) := by
 rw [h.get, hb]; rfl
theorem HR.set {f : Nat → Nat} {H H' : yaf} (h : HR f H H') (hi : ∀ a b, f a = f b → a = b) (b : Nat) (o : Option EV) : HR f (H.set b o) (H'.set (f b) (ygk f o)) := by
 refine ⟨by simp [h.len], fun c => ?_⟩
 by_cases hc : c = b
 ·subst hc
  have := h.get c
  rw [List.getElem?_set, List.getElem?_set]
  simp only [if_true]
  by_cases hl : c < H.length
  ·have h2 : f c < H'.length := by
    rcases Nat.lt_or_ge (f c) H'.length with h3 | h3
    ·exact h3
    ·rw [List.getElem?_eq_none h3, List.getElem?_eq_getElem hl] at this; cases this
   simp [hl, h2]
  ·have h2 : ¬ f c < H'.length := by
    intro h3
    rw [List.getElem?_eq_getElem h3, List.getElem?_eq_none (by omega)] at this; cases this
   simp [hl, h2]
 ·rw [List.getElem?_set_ne (fun e => hc e.symm), List.getElem?_set_ne (fun e => hc (hi _ _ e.symm)), h.get]
theorem HR.push {n : Nat} {f : Nat → Nat} {H H' : yaf} (h : HR f H H') (hs : Shf n H.length f) (o : Option EV) : HR f (H ++ [o]) (H' ++ [ygk f o]) := by
 refine ⟨by simp [h.len], fun b => ?_⟩
 rcases Nat.lt_or_ge b H.length with hb | hb
 ·rw [List.getElem?_append_left hb, List.getElem?_append_left (by rw [h.len]; exact hs.lt hb), h.get]
 ·rw [hs.high b hb, List.getElem?_append_right hb, List.getElem?_append_right (by rw [h.len]; exact hb), h.len]
  cases hq : b - H.length with
  | zero => simp
  | succ k => simp
def KV (f : Nat → Nat) (K : EV → Prop) : EV → Prop := fun v' => ∃ v, v' = v.ren f ∧ K v
def KR (f : Nat → Nat) (n : Nat) (K : EV → yaf → Prop) : EV → yaf → Prop := fun v' H' => ∃ v H, v' = v.ren f ∧ HR f H H' ∧ n ≤ H.length ∧ K v H
def KH (f : Nat → Nat) (n : Nat) (K : yaf → Prop) : yaf → Prop := fun H' => ∃ H, HR f H H' ∧ n ≤ H.length ∧ K H
theorem yd3 (f : Nat → Nat) (l : List EV) (i : Nat) : (EV.renL f l)[i]? = (l[i]?).map (EV.ren f) := by rw [yaU, List.getElem?_map]
theorem ygJ (f : Nat → Nat) (l : List EV) : (EV.renL f l).length = l.length := by rw [yaU, List.length_map]
theorem yoO (f : Nat → Nat) (l : List EV) (i : Nat) (y : EV) : (EV.renL f l).set i (y.ren f) = EV.renL f (l.set i y) := by rw [yaU, yaU, List.map_set]
theorem ygK (f : Nat → Nat) (l r : List EV) : EV.renL f (l ++ r) = EV.renL f l ++ EV.renL f r := by simp [yaU]
theorem yla (f : Nat → Nat) (v : EV) : aggLike (v.ren f) = aggLike v := by cases v <;> rfl
theorem ybL (f : Nat → Nat) (v : EV) : (v.ren f).dfd = v.dfd := by cases v <;> rfl
theorem ycF (f : Nat → Nat) : ∀ (l : List EV), yfT (l.map (EV.ren f)) = yfT l
 | [] => rfl
 | v :: l => by simp only [List.map_cons, yfT, ybL, ycF f l]
mutual
theorem yfJ (f : Nat → Nat) : ∀ (v : EV), (v.ren f).storable = v.storable
 | .agg l => by simp only [EV.ren, EV.storable, yeS f l]
 | .ptr _ _ => rfl | .slice _ _ _ _ _ => rfl | .rref _ => rfl | .tuple _ => rfl | .func _ _ => rfl | .bnd _ _ => rfl | .iface _ _ => rfl
 | .rsI _ _ _ => rfl | .undef => rfl
 | .bool _ => rfl | .int _ _ => rfl | .str _ => rfl | .nilPtr => rfl | .nilSlice => rfl | .nilFunc => rfl | .arr _ _ _ => rfl | .nilIface => rfl
theorem yeS (f : Nat → Nat) : ∀ (l : List EV), EV.storableL (EV.renL f l) = EV.storableL l
 | [] => rfl
 | v :: l => by simp only [EV.renL, EV.storableL, yfJ f v, yeS f l]
end
mutual
theorem ylR (f : Nat → Nat) : ∀ (v : EV), (v.ren f).free = v.free
 | .agg l => by simp only [EV.ren, EV.free, yc3 f l]
 | .tuple l => by simp only [EV.ren, EV.free, yc3 f l]
 | .func _ l => by simp only [EV.ren, EV.free, yc3 f l]
 | .bnd _ l => by simp only [EV.ren, EV.free, yc3 f l]
 | .iface _ v => by simp only [EV.ren, EV.free, ylR f v]
 | .ptr _ _ => rfl | .slice _ _ _ _ _ => rfl | .rref _ => rfl
 | .rsI _ _ _ => rfl | .undef => rfl
 | .bool _ => rfl | .int _ _ => rfl | .str _ => rfl | .nilPtr => rfl | .nilSlice => rfl | .nilFunc => rfl | .arr _ _ _ => rfl | .nilIface => rfl
theorem yc3 (f : Nat → Nat) : ∀ (l : List EV), EV.freeL (EV.renL f l) = EV.freeL l
 | [] => rfl
 | v :: l => by simp only [EV.renL, EV.freeL, ylR f v, yc3 f l]
end
theorem yfn (f : Nat → Nat) : ∀ (p : List Nat) (v : EV), EV.get p (v.ren f) = (EV.get p v).map (EV.ren f)
 | [], v => by simp [EV.get]
 | i :: p, .agg l => by
  simp only [EV.ren, EV.get, yd3]
  cases l[i]? with
  | none => rfl
  | some u => simp only [Option.map_some]; exact yfn f p u
 | [i], .arr k n g => rfl
 | i :: j :: p, .arr k n g => rfl
 | i :: p, .undef => rfl
 | i :: p, .bool _ => rfl
 | i :: p, .int _ _ => rfl
 | i :: p, .str _ => rfl
 | i :: p, .nilPtr => rfl
 | i :: p, .ptr _ _ => rfl
 | i :: p, .rref _ => rfl
 | i :: p, .nilSlice => rfl
 | i :: p, .slice _ _ _ _ _ => rfl
 | i :: p, .rsI _ _ _ => rfl
 | i :: p, .nilFunc => rfl
 | i :: p, .func _ _ => rfl
 | i :: p, .bnd _ _ => rfl
 | i :: p, .tuple _ => rfl
 | i :: p, .nilIface => rfl
 | i :: p, .iface _ _ => rfl
theorem ykt (f : Nat → Nat) : ∀ (p : List Nat) (v u : EV), EV.set p (v.ren f) (u.ren f) = (EV.set p v u).map (EV.ren f)
 | [], v, u => by
  simp only [EV.set, ybm]
  cases v.shape.beq u.shape <;> rfl
 | i :: p, .agg l, u => by
  simp only [EV.ren, EV.set, yd3]
  cases l[i]? with
  | none => rfl
  | some x =>
   simp only [Option.map_some, ykt f p x u]
   cases EV.set p x u with
   | none => rfl
   | some y => simp only [Option.map_some, yoO, EV.ren]
 | [i], .arr k n g, u => by
  cases u <;> try rfl
  rename_i k' x
  simp only [EV.ren, EV.set]
  cases decide (k = k') <;> rfl
 | i :: j :: p, .arr k n g, u => rfl
 | i :: p, .undef, u => rfl
 | i :: p, .bool _, u => rfl
 | i :: p, .int _ _, u => rfl
 | i :: p, .str _, u => rfl
 | i :: p, .nilPtr, u => rfl
 | i :: p, .ptr _ _, u => rfl
 | i :: p, .rref _, u => rfl
 | i :: p, .nilSlice, u => rfl
 | i :: p, .slice _ _ _ _ _, u => rfl
 | i :: p, .rsI _ _ _, u => rfl
 | i :: p, .nilFunc, u => rfl
 | i :: p, .func _ _, u => rfl
 | i :: p, .bnd _ _, u => rfl
 | i :: p, .tuple _, u => rfl
 | i :: p, .nilIface, u => rfl
 | i :: p, .iface _ _, u => rfl
section eqv
variable {E : Env} {f : Nat → Nat}
theorem yeW (t : TypeId) (u : EV) : yjC E t (u.ren f) = yjC E t u := by simp only [yjC, yla, ybm]
theorem ymB {t : TypeId} {v : EV} {H H' : yaf} {K : EV → Prop} (hH : HR f H H') (h : ybo E t v H K) : ybo E t (v.ren f) H' (KV f K) := by
 cases v <;> simp only [ybo, EV.ren] at h ⊢
 case rref u =>
  rw [yac] at h ⊢
  exact ⟨by rw [yeW]; exact h.1, _, rfl, h.2⟩
 case ptr b p =>
  split at h
  case h_2 => exact h.elim
  rename_i c hb
  rw [hH.live hb]
  simp only [yfn]
  split at h
  case h_2 => exact h.elim
  rename_i u hu
  simp only [hu, Option.map_some]
  rw [yac] at h ⊢
  exact ⟨by rw [yeW]; exact h.1, _, rfl, h.2⟩
theorem ykZ {n : Nat} {t : TypeId} {a v : EV} {H H' : yaf} {K : yaf → Prop} (hs : Shf n H.length f) (hH : HR f H H') (h : ycc E t a v H K) : ycc E t (a.ren f) (v.ren f) H' (KH f H.length K) := by
 cases a <;> simp only [ycc, EV.ren] at h ⊢
 case ptr b p =>
  split at h
  case h_2 => exact h.elim
  rename_i c hb
  rw [hH.live hb]
  simp only [ykt]
  split at h
  case h_2 => exact h.elim
  rename_i u hu
  simp only [hu, Option.map_some]
  rw [yac] at h ⊢
  refine ⟨?_, H.set b (some u), hH.set hs.inj b (some u), by simp, h.2⟩
  rw [yfJ, ybm]; exact h.1
theorem yjM {n : Nat} {v : EV} {H H' : yaf} {K : EV → yaf → Prop} (hs : Shf n H.length f) (hH : HR f H H') (h : yg6 H v K) : yg6 H' (v.ren f) (KR f H.length K) :=
 ⟨.ptr H.length [], H ++ [some v], by rw [EV.ren, hs.high _ (Nat.le_refl _), hH.len], hH.push hs (some v), by simp, h⟩
theorem ynW {eq : TypeId → EV → EV → Option Bool} (he : ∀ t x y, eq t (x.ren f) (y.ren f) = eq t x y) : ∀ (fs : List (Nat × TypeId)) (o : Nat) (xs ys : List EV),
  eqL E eq fs o (EV.renL f xs) (EV.renL f ys) = eqL E eq fs o xs ys
 | [], _, [], [] => rfl
 | [], _, [], _ :: _ => rfl
 | [], _, _ :: _, [] => rfl
 | [], _, _ :: _, _ :: _ => rfl
 | _ :: _, _, [], [] => rfl
 | _ :: _, _, [], _ :: _ => rfl
 | _ :: _, _, _ :: _, [] => rfl
 | (o, t) :: fs, off, x :: xs, y :: ys => by
  simp only [EV.renL, eqL, ybm, yeW, he, ynW he fs]
theorem yoH : ∀ (d : Nat) (t : TypeId) (x y : EV), eqT E d t (x.ren f) (y.ren f) = eqT E d t x y
 | 0, _, _, _ => rfl
 | d + 1, t, x, y => by
  simp only [eqT]
  cases E.ty t with
  | none => rfl
  | some ti =>
   simp only
   cases ti.td
   case struct fs =>
    cases x <;> cases y <;> simp only [EV.ren]
    exact ynW (yoH d) fs 0 _ _
   all_goals (cases x <;> cases y <;> rfl)
theorem ymR {op : BinOp} {k : IntKind} {a b : Int} {K : EV → Prop} (h : ydG op k a b K) : ydG op k a b (KV f K) := by
 cases op <;> simp only [ydG, yac] at h ⊢ <;> first | exact ⟨_, rfl, h⟩ | exact ⟨h.1, _, rfl, h.2⟩
theorem ymV {op : BinOp} {a b : List UInt8} {K : EV → Prop} (h : ydJ op a b K) : ydJ op a b (KV f K) := by
 cases op <;> simp only [ydJ, yac] at h ⊢ <;> first | exact h.elim | exact ⟨_, rfl, h⟩ | exact ⟨h.1, _, rfl, h.2⟩
theorem yn3 {x : EV} {k : IntKind} {a : Int} (h : x.ren f = .int k a) : x = .int k a := by cases x <;> simp [EV.ren] at h ⊢ <;> exact h
theorem ynx {x : EV} {s : List UInt8} (h : x.ren f = .str s) : x = .str s := by cases x <;> simp [EV.ren] at h ⊢ <;> exact h
def yhV (E : Env) (op : BinOp) (t : TypeId) (x y : EV) (K : EV → Prop) : Prop :=
 match op with
 | .eql => match eqT E 100 t x y with
  | some b => K (.bool b)
  | none => False
 | .neq => match eqT E 100 t x y with
  | some b => K (.bool (!b))
  | none => False
 | _ => False
theorem yfk {op : BinOp} {t : TypeId} {x y : EV} {K : EV → Prop} (h1 : ∀ k a k' b, x = .int k a → y = .int k' b → False) (h2 : ∀ a b, x = .str a → y = .str b → False) :
  yeZ E op t x y K = yhV E op t x y K := by
 unfold yeZ yhV
 split
 ·exact (h1 _ _ _ _ rfl rfl).elim
 ·exact (h2 _ _ rfl rfl).elim
 ·rfl
theorem ymY {op : BinOp} {t : TypeId} {x y : EV} {K : EV → Prop} (h : yhV E op t x y K) : yhV E op t (x.ren f) (y.ren f) (KV f K) := by
 cases op <;> simp only [yhV, yoH] at h ⊢ <;> try exact h
 ·cases hb : eqT E 100 t x y with
  | none => rw [hb] at h; exact h.elim
  | some b => rw [hb] at h; exact ⟨_, rfl, h⟩
 ·cases hb : eqT E 100 t x y with
  | none => rw [hb] at h; exact h.elim
  | some b => rw [hb] at h; exact ⟨_, rfl, h⟩
theorem yoD {op : BinOp} {t : TypeId} {x y : EV} {K : EV → Prop} (h : yeZ E op t x y K) : yeZ E op t (x.ren f) (y.ren f) (KV f K) := by
 by_cases h1 : ∃ k a k' b, x = .int k a ∧ y = .int k' b
 ·obtain ⟨k, a, k', b, rfl, rfl⟩ := h1
  cases op <;> simp only [yeZ, EV.ren] at h ⊢
  all_goals first
   | (rw [yac] at h ⊢; exact ⟨h.1, _, rfl, h.2⟩)
   | (rw [ybA] at h ⊢; exact ⟨fun e => ymR (h.1 e), h.2⟩)
 ·by_cases h2 : ∃ a b, x = .str a ∧ y = .str b
  ·obtain ⟨a, b, rfl, rfl⟩ := h2
   exact ymV h
  ·rw [yfk (fun k a k' b e1 e2 => h1 ⟨k, a, k', b, e1, e2⟩) (fun a b e1 e2 => h2 ⟨a, b, e1, e2⟩)] at h
   rw [yfk (fun k a k' b e1 e2 => h1 ⟨k, a, k', b, yn3 e1, yn3 e2⟩) (fun a b e1 e2 => h2 ⟨a, b, ynx e1, ynx e2⟩)]
   exact ymY h
theorem ypj {op : UnOp} {x : EV} {K : EV → Prop} (h : ynp op x K) : ynp op (x.ren f) (KV f K) := by
 cases op <;> cases x <;> simp only [ynp, EV.ren] at h ⊢ <;> first | exact h.elim | exact ⟨_, rfl, h⟩
theorem ygI {H H' : yaf} (hH : HR f H H') (x : EV) : ycX H' (x.ren f) = ycX H x := by
 cases x <;> simp only [EV.ren, ycX]
 rename_i b off len cap e
 rw [hH.get]
 cases H[b]? with
 | none => rfl
 | some o =>
  cases o with
  | none => rfl
  | some c => cases c <;> rfl
def ybO (E : Env) (si : TI) (x : EV) (H : yaf) (K : EV → Prop) : Prop :=
 match si.td with
 | .slice e => cond (ybx E e .u8) (match ycX H x with
  | some (.u8, n, g) => K (.str (ybY n g))
  | _ => match x with
   | .nilSlice => K (.str [])
   | _ => False) False
 | _ => False
theorem yja {si : TI} {x : EV} {H H' : yaf} {K : EV → Prop} (hH : HR f H H') (h : ybO E si x H K) : ybO E si (x.ren f) H' (KV f K) := by
 unfold ybO at h ⊢
 rw [ygI hH]
 split at h
 case h_2 => exact h.elim
 rename_i e he
 rw [ybA] at h
 cases hi : ybx E e .u8 with
 | false => exact (h.2 hi).elim
 | true =>
  have h' := h.1 hi
  simp only [cond_true]
  split at h'
  ·exact ⟨_, rfl, h'⟩
  ·rename_i hw
   split at h'
   ·exact ⟨_, rfl, h'⟩
   ·exact h'.elim
theorem yl8 {src dst : TypeId} {x : EV} {H H' : yaf} {K : EV → Prop} (hH : HR f H H') (h : ybP E src dst x H K) : ybP E src dst (x.ren f) H' (KV f K) := by
 unfold ybP at h ⊢
 cases hs : E.ty src with
 | none => rw [hs] at h; exact h.elim
 | some si =>
  cases hd : E.ty dst with
  | none => rw [hs, hd] at h; exact h.elim
  | some di =>
   rw [hs, hd] at h
   simp only at h ⊢
   cases htd : di.td <;> simp only [htd] at h ⊢ <;> try exact h.elim
   ·cases x <;> simp only [EV.ren] at h ⊢ <;> first | exact h.elim | exact ⟨_, rfl, h⟩
   ·rcases (show (∃ s, x = .str s ∧ K (.str s)) ∨ ((∀ s, x ≠ .str s) ∧ ybO E si x H K) from by
     cases x <;> first | exact .inl ⟨_, rfl, h⟩ | exact .inr ⟨(fun s e => by cases e), h⟩) with ⟨s, rfl, h⟩ | ⟨hne, h⟩
    ·exact ⟨_, rfl, h⟩
    ·have := yja hH h
     revert this hne
     cases x <;> intro hne this <;> first | exact this | exact absurd rfl (hne _)
theorem yeM {F G : Nat → EV → Prop} (hF : ∀ j u, F j u → G j (u.ren f)) : ∀ (l : List EV) (j : Nat) (i : Int), yfo F l j i → yfo G (EV.renL f l) j i
 | [], _, _, h => h
 | u :: l, j, i, h => by
  simp only [yfo, EV.renL, yds] at h ⊢
  exact ⟨fun e => hF j u (h.1 e), fun e => yeM hF l (j + 1) i (h.2 e)⟩
theorem yew (n : Nat) : ∀ (l : List EV), ycP n (EV.renL f l) = ycP n l
 | [] => rfl
 | u :: l => by simp only [EV.renL, ycP, ybm, yew n l]
theorem ykM {t : TypeId} {x i : EV} {K : EV → Prop} (h : yca E t x i K) : yca E t (x.ren f) (i.ren f) (KV f K) := by
 unfold yca at h ⊢
 split at h
 case h_2 => exact h.elim
 rename_i ti k i ht
 simp only [ht, EV.ren]
 split at h
 ·rename_i n e k m g hq
  simp only [hq, EV.ren]
  rw [ybA] at h ⊢
  refine ⟨fun hc => ?_, fun hc => (h.2 hc).elim⟩
  have := h.1 hc
  rw [yac] at this ⊢
  exact ⟨this.1, _, rfl, this.2⟩
 ·rename_i n e l hq
  simp only [hq, EV.ren, ygJ]
  cases he : E.ty e <;> simp only [he, yew] at h ⊢ <;> rw [ybA] at h ⊢
  ·exact ⟨fun hc => by simp at hc, fun hc => (h.2 hc).elim⟩
  refine ⟨fun hc => ?_, fun hc => (h.2 hc).elim⟩
  refine yeM (fun j u hu => ?_) l 0 i (h.1 hc)
  rw [yac] at hu ⊢
  exact ⟨by rw [yeW]; exact hu.1, _, rfl, hu.2⟩
 ·rename_i s hq
  simp only [hq, EV.ren]
  rw [yac] at h ⊢
  exact ⟨h.1, _, rfl, h.2⟩
 ·exact h.elim
theorem yle {t : TypeId} {x : EV} {i : Nat} {K : EV → Prop} (h : yb7 E t x i K) : yb7 E t (x.ren f) i (KV f K) := by
 unfold yb7 at h ⊢
 split at h
 case h_2 => exact h.elim
 rename_i ti ht
 split at h
 case h_2 => exact h.elim
 rename_i fs l hq
 simp only [hq, EV.ren, yd3]
 split at h
 case h_2 => exact h.elim
 rename_i o ft u hf hl
 simp only [hf, hl, Option.map_some]
 rw [yac] at h ⊢
 refine ⟨?_, _, rfl, h.2⟩
 rw [yeW]
 have : EV.shapeL ((EV.renL f l).take i) = EV.shapeL (l.take i) := by
  rw [yaU, ← List.map_take, ← yaU, ydW]
 rw [this]; exact h.1
theorem ygV {t : TypeId} {x : EV} {i : Nat} {H H' : yaf} {K : EV → Prop} (hH : HR f H H') (h : yaF E t x i H K) : yaF E t (x.ren f) i H' (KV f K) := by
 unfold yaF at h ⊢
 cases ht : E.ty t with
 | none => rw [ht] at h; exact h.elim
 | some ti =>
  rw [ht] at h
  simp only at h ⊢
  cases htd : ti.td <;> simp only [htd] at h ⊢ <;> try exact h.elim
  rename_i fs
  cases hf : fs[i]? with
  | none => rw [hf] at h; exact h.elim
  | some q =>
   obtain ⟨o, ft⟩ := q
   rw [hf] at h
   simp only at h ⊢
   cases hft : E.ty ft with
   | none => rw [hft] at h; exact h.elim
   | some fi =>
    rw [hft] at h
    simp only at h ⊢
    cases x <;> simp only [EV.ren] at h ⊢ <;> try exact h.elim
    case ptr b p =>
     cases hb : H[b]? with
     | none => rw [hb] at h; exact h.elim
     | some oc =>
      cases oc with
      | none => rw [hb] at h; exact h.elim
      | some c =>
       rw [hb] at h
       rw [hH.live hb]
       simp only [yfn] at h ⊢
       cases hg : EV.get p c with
       | none => rw [hg] at h; exact h.elim
       | some u =>
        rw [hg] at h
        simp only [Option.map_some] at h ⊢
        rw [yac] at h ⊢
        refine ⟨?_, _, rfl, h.2⟩
        rw [ybm]; exact h.1
    case rref v =>
     cases v <;> simp only [EV.ren] at h ⊢ <;> try exact h.elim
     rename_i l
     rw [yd3]
     cases hl : l[i]? with
     | none => rw [hl] at h; exact h.elim
     | some u =>
      rw [hl] at h
      simp only [Option.map_some] at h ⊢
      rw [yac] at h ⊢
      refine ⟨?_, _, rfl, h.2⟩
      have : EV.shapeL ((EV.renL f l).take i) = EV.shapeL (l.take i) := by
       rw [yaU, ← List.map_take, ← yaU, ydW]
      rw [this]; exact h.1
theorem yjx {x : EV} {H H' : yaf} {K : EV → Prop} (hH : HR f H H') (h : ycQ x H K) : ycQ (x.ren f) H' (KV f K) := by
 unfold ycQ at h ⊢
 cases x <;> simp only [EV.ren] at h ⊢ <;> try exact h.elim
 case ptr b p =>
  cases hb : H[b]? with
  | none => rw [hb] at h; exact h.elim
  | some oc =>
   cases oc with
   | none => rw [hb] at h; exact h.elim
   | some c =>
    rw [hb] at h
    rw [hH.live hb]
    simp only [yfn] at h ⊢
    cases hg : EV.get p c with
    | none => rw [hg] at h; exact h.elim
    | some u =>
     rw [hg] at h
     exact ⟨.ptr b p, rfl, h⟩
 case rref v => exact ⟨.rref v, rfl, h⟩
 case func g l => exact ⟨.func g l, rfl, h⟩
 case bnd g l => exact ⟨.bnd g l, rfl, h⟩
 case iface t v => exact ⟨.iface t v, rfl, h⟩
theorem ygu {op : BinOp} {b : Bool} {K : EV → Prop} (h : yfl op b K) : yfl op b (KV f K) := by
 cases op <;> first | exact ⟨_, rfl, h⟩ | exact h.elim
theorem ynI {op : BinOp} {t : TypeId} {o : Operand} {x y : EV} {H H' : yaf} {K : EV → Prop} (hH : HR f H H') (h : ydR E op t o x y H K) : ydR E op t o (x.ren f) (y.ren f) H' (KV f K) := by
 unfold ydR at h ⊢
 cases h1 : Nat.beq (yi4 o) 1 with
 | true =>
  rw [h1] at h
  simp only [cond_true] at h ⊢
  unfold yqw at h ⊢
  cases x <;> simp only [EV.ren] at h ⊢ <;> try exact h.elim
  ·cases h2 : yig E t 1 with
   | true => rw [h2] at h; exact ygu h
   | false => rw [h2] at h; exact h.elim
  ·rename_i b q
   cases h2 : yig E t 1 with
   | true =>
    rw [h2] at h
    simp only [cond_true] at h ⊢
    have := yjx hH h
    simp only [EV.ren] at this
    unfold ycQ at this ⊢
    simp only at this ⊢
    split at this
    ·split at this
     ·obtain ⟨_, _, hk⟩ := this
      exact ygu hk
     ·exact this.elim
    ·exact this.elim
   | false => rw [h2] at h; exact h.elim
 | false =>
  rw [h1] at h
  simp only [cond_false] at h ⊢
  cases h2 : Nat.beq (yi4 o) 2 with
  | true =>
   rw [h2] at h
   simp only [cond_true] at h ⊢
   unfold yqJ at h ⊢
   cases x <;> simp only [EV.ren] at h ⊢ <;> try exact h.elim
   all_goals
    cases h3 : yig E t 0 with
    | true => rw [h3] at h; exact ygu h
    | false => rw [h3] at h; exact h.elim
  | false => rw [h2] at h; exact yoD h
theorem yg0 {t : TypeId} {x i : EV} {H H' : yaf} {K : EV → Prop} (hH : HR f H H') (h : yaG E t x i H K) : yaG E t (x.ren f) (i.ren f) H' (KV f K) := by
 unfold yaG at h ⊢
 cases ht : E.ty t with
 | none => rw [ht] at h; exact h.elim
 | some ti =>
  rw [ht] at h
  cases i <;> simp only [EV.ren] at h ⊢ <;> try exact h.elim
  rename_i ki i
  cases htd : ti.td <;> simp only [htd] at h ⊢ <;> try exact h.elim
  case slice e =>
   cases he : E.ty e with
   | none => rw [he] at h; exact h.elim
   | some ei =>
    rw [he] at h
    simp only at h ⊢
    cases x <;> simp only [EV.ren] at h ⊢ <;> try exact h.elim
    case slice b off len cap es =>
     cases hb : H[b]? with
     | none => rw [hb] at h; exact h.elim
     | some oc =>
      cases oc with
      | none => rw [hb] at h; exact h.elim
      | some c =>
       rw [hb] at h
       rw [hH.live hb]
       simp only at h ⊢
       rw [yac] at h ⊢
       refine ⟨h.1, ?_⟩
       have h2 := h.2
       cases c <;> simp only [EV.ren] at h2 ⊢ <;> first | exact ⟨_, rfl, h2⟩ | skip
       rw [yaU, ← List.map_drop, ← yaU]
       exact yeM (fun j u hu => ⟨_, rfl, hu⟩) _ 0 i h2
    case rsI k n g =>
     rw [yac] at h ⊢
     exact ⟨h.1, _, rfl, h.2⟩
  case array n e =>
   cases he : E.ty e with
   | none => rw [he] at h; exact h.elim
   | some ei =>
    rw [he] at h
    simp only at h ⊢
    cases x <;> simp only [EV.ren] at h ⊢ <;> try exact h.elim
    case ptr b p =>
     cases hb : H[b]? with
     | none => rw [hb] at h; exact h.elim
     | some oc =>
      cases oc with
      | none => rw [hb] at h; exact h.elim
      | some c =>
       rw [hb] at h
       rw [hH.live hb]
       simp only [yfn] at h ⊢
       cases hg : EV.get p c with
       | none => rw [hg] at h; exact h.elim
       | some u =>
        rw [hg] at h
        simp only [Option.map_some] at h ⊢
        cases u <;> simp only [EV.ren] at h ⊢ <;> try exact h.elim
        case arr k m g =>
         rw [ybA] at h ⊢
         refine ⟨fun hc => ?_, h.2⟩
         have := h.1 hc
         rw [yac] at this ⊢
         exact ⟨this.1, _, rfl, this.2⟩
        case agg l =>
         rw [ygJ, yew]
         rw [ybA] at h ⊢
         exact ⟨fun hc => yeM (fun j u hu => ⟨_, rfl, hu⟩) l 0 i (h.1 hc), h.2⟩
    case rref v =>
     cases v <;> simp only [EV.ren] at h ⊢ <;> try exact h.elim
     rename_i k m g
     rw [ybA] at h ⊢
     exact ⟨fun hc => ⟨(h.1 hc).1, _, rfl, (h.1 hc).2⟩, h.2⟩
theorem yip {x : EV} {i : Nat} {K : EV → Prop} (h : ybc x i K) : ybc (x.ren f) i (KV f K) := by
 cases x <;> simp only [ybc, EV.ren] at h ⊢ <;> try exact h.elim
 rename_i l
 rw [yd3]
 cases hl : l[i]? with
 | none => rw [hl] at h; exact h.elim
 | some u => rw [hl] at h; exact ⟨_, rfl, h⟩
def yo5 (f : Nat → Nat) (ps : List (Nat × EV)) : List (Nat × EV) := ps.map fun p => (p.1, p.2.ren f)
theorem ycu (place : Nat → Option (Nat × Nat)) : ∀ (ps : List (Nat × EV)) (z : EV), ya4 place (yo5 f ps) (z.ren f) = (ya4 place ps z).map (EV.ren f)
 | [], z => rfl
 | (i, x) :: r, z => by
  have ih := fun z' => ycu place r z'
  simp only [yo5, List.map_cons, ya4, ybm, ykt] at ih ⊢
  cases place i with
  | none => rfl
  | some q =>
   cases Shape.off [i] z.shape with
   | none => rfl
   | some o' =>
    cases EV.set [i] z x with
    | none => rfl
    | some z' =>
     simp only [Option.map_some]
     cases (Nat.beq q.fst o' && Nat.beq q.snd x.shape.size) with
     | false => rfl
     | true => simp only [cond_true, ih]
structure ya8 (E : Env) : Prop where
 ty : ∀ t ti, E.ty t = some ti → ti.zero.inI [] = true
 gl : ∀ g v, E.gl g = some v → v.inI [] = true
theorem ykH (hC : ya8 E) {t : TypeId} {ps : List (Nat × EV)} {K : EV → Prop} (h : yb6 E t ps K) : yb6 E t (yo5 f ps) (KV f K) := by
 unfold yb6 at h ⊢
 cases ht : E.ty t with
 | none => rw [ht] at h; exact h.elim
 | some ti =>
  rw [ht] at h
  simp only at h ⊢
  have hz := ydz (f := f) ti.zero (hC.ty t ti ht)
  rw [yac] at h ⊢
  refine ⟨h.1, ?_⟩
  have h := h.2
  have hp : ∀ place, ya4 place (yo5 f ps) ti.zero = (ya4 place ps ti.zero).map (EV.ren f) := fun place => by
   have := ycu (f := f) place ps ti.zero
   rwa [hz] at this
  cases htd : ti.td <;> simp only [htd] at h ⊢ <;> try exact h.elim
  case struct fs =>
   rw [hp]
   split at h
   ·rename_i v hv
    simp only [hv, Option.map_some]
    rw [yac] at h ⊢
    exact ⟨h.1, _, rfl, h.2⟩
   ·exact h.elim
  case array n e =>
   split at h
   case h_2 => exact h.elim
   rename_i n he
   rw [hp]
   split at h
   ·rename_i v hv
    simp only [hv, Option.map_some]
    exact ⟨_, rfl, h⟩
   ·exact h.elim
theorem yfZ (hC : ya8 E) {k : Nat} {t : TypeId} {n : Nat} {ps : List (Nat × EV)} {H H' : yaf} {K : EV → yaf → Prop} (hs : Shf k H.length f) (hH : HR f H H') (h : yaJ E t n ps H K) :
  yaJ E t n (yo5 f ps) H' (KR f H.length K) := by
 have push : ∀ (v : EV) (off len : Nat) (cap : Option Nat) (e : Nat), K (.slice H.length off len cap e) (H ++ [some v]) → KR f H.length K (.slice H'.length off len cap e) (H' ++ [some (v.ren f)]) := fun v off len cap e hK =>
  ⟨.slice H.length off len cap e, H ++ [some v], by rw [EV.ren, hs.high _ (Nat.le_refl _), hH.len], hH.push hs (some v), by simp, hK⟩
 unfold yaJ at h ⊢
 cases ht : E.ty t with
 | none => rw [ht] at h; exact h.elim
 | some ti =>
  rw [ht] at h
  simp only at h ⊢
  cases htd : ti.td <;> simp only [htd] at h ⊢ <;> try exact h.elim
  rename_i e
  cases he : E.ty e with
  | none => rw [he] at h; exact h.elim
  | some ei =>
   rw [he] at h
   simp only at h ⊢
   rw [yac] at h ⊢
   refine ⟨h.1, ?_⟩
   have h := h.2
   have hz := ydz (f := f) ei.zero (hC.ty e ei he)
   by_cases hi : ∃ q z, ei.zero = .int q z
   ·obtain ⟨q, z, hi⟩ := hi
    simp only [hi] at h ⊢
    rw [yac] at h ⊢
    refine ⟨h.1, ?_⟩
    have h := h.2
    have hp := ycu (f := f) (fun i => some (i * 1, 1)) ps (.arr q n (fun _ => z))
    simp only [EV.ren] at hp
    rw [hp]
    split at h
    ·rename_i v hv
     simp only [hv, Option.map_some]
     exact push v _ _ _ _ h
    ·exact h.elim
   ·have key : ∀ (X : Prop) (A : EV → Prop), (match ei.zero with | .int k z => X | z => A z) → A ei.zero := by
     intro X A hX
     split at hX
     ·rename_i q z hq; exact (hi ⟨q, z, hq⟩).elim
     ·exact hX
    have back : ∀ (X : IntKind → Int → Prop) (A : EV → Prop), A ei.zero → (match ei.zero with | .int k z => X k z | z => A z) := by
     intro X A hA
     split
     ·rename_i q z hq; exact (hi ⟨q, z, hq⟩).elim
     ·exact hA
    have key : ∀ (X : IntKind → Int → Prop) (A : EV → Prop), (match ei.zero with | .int k z => X k z | z => A z) → A ei.zero := by
     intro X A hX
     split at hX
     ·rename_i q z hq; exact (hi ⟨q, z, hq⟩).elim
     ·exact hX
    have h := key _ _ h
    refine back _ _ ?_
    rw [yac] at h ⊢
    refine ⟨h.1, ?_⟩
    have h := h.2
    have hp := ycu (f := f) (fun i => some (i * ei.size, ei.size)) ps (.agg (List.replicate n ei.zero))
    simp only [EV.ren, yaU, List.map_replicate, hz] at hp
    rw [hp]
    split at h
    ·rename_i v hv
     simp only [hv, Option.map_some]
     exact push v _ _ _ _ h
    ·exact h.elim
theorem ynN {t : TypeId} {x : EV} {K : EV → Prop} (h : yf3 E t x K) : yf3 E t (x.ren f) (KV f K) := by
 unfold yf3 at h ⊢
 cases ht : E.ty t with
 | none => rw [ht] at h; exact h.elim
 | some ti =>
  rw [ht] at h
  simp only at h ⊢
  cases htd : ti.td <;> simp only [htd] at h ⊢ <;> try exact h.elim
  all_goals (cases x <;> simp only [EV.ren] at h ⊢ <;> first | exact h.elim | exact ⟨_, rfl, h⟩)
theorem yfy (g : Int → Int → Int) : ∀ (l : List EV) (x : EV), yfc g (x.ren f) (l.map (EV.ren f)) = (yfc g x l).map (EV.ren f)
 | [], x => by cases x <;> rfl
 | y :: r, x => by
  cases x <;> cases y <;> first | rfl | exact yfy g r (.int _ (g _ _))
theorem ylh {g : Int → Int → Int} {xs : List EV} {K : EV → Prop} (h : ylN g xs K) : ylN g (xs.map (EV.ren f)) (KV f K) := by
 cases xs with
 | nil => exact h
 | cons x r =>
  simp only [ylN, List.map_cons, yfy] at h ⊢
  split at h
  ·rename_i v hv
   simp only [hv, Option.map_some]
   exact ⟨_, rfl, h⟩
  ·exact h.elim
theorem ypo (d : Nat) (o : Option EV) : ydq d (o.map (EV.ren f)) = ydq d o := by
 cases o with
 | none => rfl
 | some v => cases v <;> rfl
theorem ykS {t : TypeId} {x : EV} {lo hi mx : Option EV} {H H' : yaf} {K : EV → Prop} (hH : HR f H H') (h : ybh E t x lo hi mx H K) :
  ybh E t (x.ren f) (lo.map (EV.ren f)) (hi.map (EV.ren f)) (mx.map (EV.ren f)) H' (KV f K) := by
 unfold ybh at h ⊢
 cases mx with
 | some m => exact h.elim
 | none =>
  cases ht : E.ty t with
  | none => rw [ht] at h; exact h.elim
  | some ti =>
   rw [ht] at h
   simp only [Option.map_none, ypo] at h ⊢
   cases htd : ti.td <;> simp only [htd] at h ⊢ <;> try exact h.elim
   case str =>
    cases x <;> simp only [EV.ren] at h ⊢ <;> try exact h.elim
    rename_i s
    cases hl : ydq 0 lo with
    | none => rw [hl] at h; exact h.elim
    | some l =>
     cases hh : ydq s.length hi with
     | none => rw [hl, hh] at h; exact h.elim
     | some q =>
      rw [hl, hh] at h
      simp only at h ⊢
      rw [yac] at h ⊢
      exact ⟨h.1, _, rfl, h.2⟩
   case slice e =>
    cases x <;> simp only [EV.ren] at h ⊢ <;> try exact h.elim
    case slice b off len cap es =>
     cases hl : ydq 0 lo with
     | none => rw [hl] at h; exact h.elim
     | some l =>
      cases hh : ydq len hi with
      | none => rw [hl, hh] at h; exact h.elim
      | some q =>
       cases hb : H[b]? with
       | none => rw [hl, hh, hb] at h; exact h.elim
       | some oc =>
        cases oc with
        | none => rw [hl, hh, hb] at h; exact h.elim
        | some c =>
         rw [hl, hh, hb] at h
         rw [hH.live hb]
         simp only at h ⊢
         rw [yac] at h ⊢
         exact ⟨h.1, _, rfl, h.2⟩
    case rsI k n g =>
     cases hl : ydq 0 lo with
     | none => rw [hl] at h; exact h.elim
     | some l =>
      cases hh : ydq n hi with
      | none => rw [hl, hh] at h; exact h.elim
      | some q =>
       rw [hl, hh] at h
       simp only at h ⊢
       rw [yac] at h ⊢
       exact ⟨h.1, _, rfl, h.2⟩
    case nilSlice =>
     cases hl : ydq 0 lo with
     | none => rw [hl] at h; exact h.elim
     | some l =>
      cases hh : ydq 0 hi with
      | none => rw [hl, hh] at h; exact h.elim
      | some q =>
       rw [hl, hh] at h
       simp only at h ⊢
       rw [yac] at h ⊢
       exact ⟨h.1, _, rfl, h.2⟩
   case array na e =>
    cases x <;> simp only [EV.ren] at h ⊢ <;> try exact h.elim
    rename_i b p
    cases p with
    | cons _ _ => exact h.elim
    | nil =>
     simp only at h ⊢
     cases hl : ydq 0 lo with
     | none => rw [hl] at h; exact h.elim
     | some l =>
      cases hh : ydq na hi with
      | none => rw [hl, hh] at h; exact h.elim
      | some q =>
       cases hb : H[b]? with
       | none => rw [hl, hh, hb] at h; exact h.elim
       | some oc =>
        cases oc with
        | none => rw [hl, hh, hb] at h; exact h.elim
        | some c =>
         rw [hl, hh, hb] at h
         rw [hH.live hb]
         cases c <;> simp only [EV.ren] at h ⊢ <;> try exact h.elim
         rw [yac] at h ⊢
         exact ⟨h.1, _, rfl, h.2⟩
theorem ygB (hC : ya8 E) {k : Nat} {t : TypeId} {ln cp : EV} {H H' : yaf} {K : EV → yaf → Prop} (hs : Shf k H.length f) (hH : HR f H H') (h : yaS E t ln cp H K) :
  yaS E t (ln.ren f) (cp.ren f) H' (KR f H.length K) := by
 unfold yaS at h ⊢
 cases ht : E.ty t with
 | none => rw [ht] at h; exact h.elim
 | some ti =>
  rw [ht] at h
  cases ln <;> simp only [EV.ren] at h ⊢ <;> try exact h.elim
  cases cp <;> simp only [EV.ren] at h ⊢ <;> try exact h.elim
  cases htd : ti.td <;> simp only [htd] at h ⊢ <;> try exact h.elim
  rename_i e
  cases he : E.ty e with
  | none => rw [he] at h; exact h.elim
  | some ei =>
   rw [he] at h
   simp only at h ⊢
   cases hz : ei.zero <;> simp only [hz] at h ⊢ <;> try exact h.elim
   rw [yac] at h ⊢
   exact ⟨h.1, _, _, by rw [EV.ren, hs.high _ (Nat.le_refl _), hH.len], hH.push hs (some _), by simp, h.2⟩
theorem ymM {k : Nat} {t : TypeId} {d x : EV} {H H' : yaf} {K : EV → yaf → Prop} (hs : Shf k H.length f) (hH : HR f H H') (h : yeP E t d x H K) :
  yeP E t (d.ren f) (x.ren f) H' (KR f H.length K) := by
 unfold yeP at h ⊢
 cases ht : E.ty t with
 | none => rw [ht] at h; exact h.elim
 | some ti =>
  rw [ht] at h
  cases d <;> simp only [EV.ren] at h ⊢ <;> try exact h.elim
  rename_i b off len cap e
  by_cases he : e = 1
  ·subst he
   simp only [ygI hH] at h ⊢
   cases htd : ti.td <;> simp only [htd] at h ⊢ <;> try exact h.elim
   cases hb : H[b]? with
   | none => rw [hb] at h; exact h.elim
   | some oc =>
    cases oc with
    | none => rw [hb] at h; exact h.elim
    | some c =>
     rw [hb] at h
     rw [hH.live hb]
     cases c <;> simp only [EV.ren] at h ⊢ <;> try exact h.elim
     cases hw : ycX H x with
     | none => rw [hw] at h; exact h.elim
     | some q =>
      obtain ⟨k', m, g'⟩ := q
      rw [hw] at h
      simp only at h ⊢
      rw [yac] at h ⊢
      exact ⟨h.1, _, _, rfl, hH.set hs.inj b (some _), by simp, h.2⟩
  ·split at h
   ·rename_i q1 q2 q3; simp at q3; exact absurd q3.2.2.2.2 he
   ·exact h.elim
theorem yjO {k : Nat} {t t' : TypeId} {s x : EV} {H H' : yaf} {K : EV → yaf → Prop} (hs : Shf k H.length f) (hH : HR f H H') (h : ych E t t' s x H K) :
  ych E t t' (s.ren f) (x.ren f) H' (KR f H.length K) := by
 unfold ych at h ⊢
 cases ht : E.ty t with
 | none => rw [ht] at h; exact h.elim
 | some ti =>
  cases ht' : E.ty t' with
  | none => rw [ht, ht'] at h; exact h.elim
  | some ti' =>
   rw [ht, ht'] at h
   simp only [ygI hH] at h ⊢
   cases htd : ti.td <;> simp only [htd] at h ⊢ <;> try exact h.elim
   rename_i e
   cases htd' : ti'.td <;> simp only [htd'] at h ⊢ <;> try exact h.elim
   cases hw : ycX H x with
   | none => rw [hw] at h; exact h.elim
   | some q =>
    obtain ⟨kk, m, g'⟩ := q
    rw [hw] at h
    simp only at h ⊢
    cases he : E.ty e with
    | none => rw [he] at h; exact h.elim
    | some ei =>
     rw [he] at h
     simp only at h ⊢
     cases hz : ei.zero <;> simp only [hz] at h ⊢ <;> try exact h.elim
     rw [yac] at h ⊢
     refine ⟨h.1, ?_⟩
     replace h := h.2
     have hp : ∀ (o : Option EV) off len cap e, K (.slice H.length off len cap e) (H ++ [o]) → KR f H.length K (.slice H'.length off len cap e) (H' ++ [ygk f o]) := fun o off len cap e hK =>
      ⟨_, _, by rw [EV.ren, hs.high _ (Nat.le_refl _), hH.len], hH.push hs o, by simp, hK⟩
     cases s <;> simp only [EV.ren] at h ⊢ <;> try exact h.elim
     case nilSlice =>
      rw [yac] at h ⊢
      refine ⟨h.1, ?_⟩
      replace h := h.2
      rw [yds] at h ⊢
      exact ⟨fun e => ⟨_, _, rfl, hH, Nat.le_refl _, h.1 e⟩, fun e => hp _ _ _ _ _ (h.2 e)⟩
     case slice b off len cap es =>
      by_cases hes : es = 1
      ·subst hes
       simp only at h ⊢
       cases hb : H[b]? with
       | none => rw [hb] at h; exact h.elim
       | some oc =>
        cases oc with
        | none => rw [hb] at h; exact h.elim
        | some c =>
         rw [hb] at h
         rw [hH.live hb]
         cases c <;> try exact h.elim
         show gd _ _
         replace h : gd _ _ := h
         rw [yac] at h ⊢
         refine ⟨h.1, _, _, by rw [EV.ren, hs.high _ (Nat.le_refl _), hH.len], (hH.set hs.inj b none).push (n := k) (by rw [List.length_set]; exact hs) (some _), by simp, h.2⟩
      ·exfalso
       match es, hes, h with
       | 0, _, h => exact h
       | 1, hes, _ => exact hes rfl
       | n + 2, _, h => exact h
end eqv
section call
variable {E : Env} {f : Nat → Nat}
theorem yky (hi : ∀ a b, f a = f b → a = b) (a b : Nat) : Nat.beq (f a) (f b) = Nat.beq a b := by
 by_cases h : a = b
 ·subst h; rw [Nat.beq_refl, Nat.beq_refl]
 ·have e1 : Nat.beq a b = false := by rw [Bool.eq_false_iff]; intro e; exact h (Nat.eq_of_beq_eq_true e)
  have e2 : Nat.beq (f a) (f b) = false := by rw [Bool.eq_false_iff]; intro e; exact h (hi _ _ (Nat.eq_of_beq_eq_true e))
  rw [e1, e2]
theorem ye8 (hi : ∀ a b, f a = f b → a = b) (b : Nat) : ∀ (l : List Nat), yhB (f b) (l.map f) = yhB b l
 | [] => rfl
 | c :: l => by
  simp only [List.map_cons, yhB, ye8 hi b l]
  congr 1
  exact yky hi b c
mutual
theorem yit (hi : ∀ a b, f a = f b → a = b) (idx : List Nat) : ∀ (v : EV), (v.ren f).inI (idx.map f) = v.inI idx
 | .ptr b _ => by simp only [EV.ren, EV.inI, ye8 hi]
 | .slice b _ _ _ _ => by simp only [EV.ren, EV.inI, ye8 hi]
 | .rref v => by simp only [EV.ren, EV.inI, yit hi idx v]
 | .agg l => by simp only [EV.ren, EV.inI, ydU hi idx l]
 | .tuple l => by simp only [EV.ren, EV.inI, ydU hi idx l]
 | .func _ l => by simp only [EV.ren, EV.inI, ydU hi idx l]
 | .bnd _ l => by simp only [EV.ren, EV.inI, ydU hi idx l]
 | .iface _ v => by simp only [EV.ren, EV.inI, yit hi idx v]
 | .rsI _ _ _ => rfl | .undef => rfl
 | .bool _ => rfl | .int _ _ => rfl | .str _ => rfl | .nilPtr => rfl | .nilSlice => rfl | .nilFunc => rfl | .arr _ _ _ => rfl | .nilIface => rfl
theorem ydU (hi : ∀ a b, f a = f b → a = b) (idx : List Nat) : ∀ (l : List EV), EV.inIL (idx.map f) (EV.renL f l) = EV.inIL idx l
 | [] => rfl
 | v :: l => by simp only [EV.renL, EV.inIL, yit hi idx v, ydU hi idx l]
end
theorem ylk (hi : ∀ a b, f a = f b → a = b) {H H' : yaf} (hH : HR f H H') (idx : List Nat) : ∀ (l : List Nat), ymq (idx.map f) H' (l.map f) = ymq idx H l
 | [] => rfl
 | b :: l => by
  simp only [List.map_cons, ymq, ylk hi hH idx l, hH.get]
  cases H[b]? with
  | none => rfl
  | some o =>
   cases o with
   | none => rfl
   | some v => simp only [Option.map_some, ygk, yit hi]
theorem yjc {k m : Nat} (hs : Shf k m f) : ∀ (l : List Nat), yjb m (l.map f) = yjb m l
 | [] => rfl
 | b :: l => by
  simp only [List.map_cons, yjb, yjc hs l]
  congr 1
  by_cases h : b < m
  ·rw [show Nat.blt b m = true from by simpa using h, show Nat.blt (f b) m = true from by simpa using hs.lt h]
  ·have h' : ¬ f b < m := fun e => h (hs.lt' e)
   have e1 : Nat.blt b m = false := by rw [Bool.eq_false_iff]; intro e; exact h (by simpa using e)
   have e2 : Nat.blt (f b) m = false := by rw [Bool.eq_false_iff]; intro e; exact h' (by simpa using e)
   rw [e1, e2]
theorem yh2 (hi : ∀ a b, f a = f b → a = b) (idx : List Nat) : ∀ (l : List Nat), ye7 (idx.map f) (l.map f) = ye7 idx l
 | [] => rfl
 | b :: l => by simp only [List.map_cons, ye7, ye8 hi, yh2 hi idx l]
mutual
theorem ygi : ∀ (v : EV), (v.ren f).blkL = v.blkL.map f
 | .ptr b _ => rfl
 | .slice b _ _ _ _ => rfl
 | .rref v => by simp only [EV.ren, EV.blkL, ygi v]
 | .agg l => by simp only [EV.ren, EV.blkL, ycT l]
 | .tuple l => by simp only [EV.ren, EV.blkL, ycT l]
 | .func _ l => by simp only [EV.ren, EV.blkL, ycT l]
 | .bnd _ l => by simp only [EV.ren, EV.blkL, ycT l]
 | .iface _ v => by simp only [EV.ren, EV.blkL, ygi v]
 | .rsI _ _ _ => rfl | .undef => rfl
 | .bool _ => rfl | .int _ _ => rfl | .str _ => rfl | .nilPtr => rfl | .nilSlice => rfl | .nilFunc => rfl | .arr _ _ _ => rfl | .nilIface => rfl
theorem ycT : ∀ (l : List EV), EV.blkLL (EV.renL f l) = (EV.blkLL l).map f
 | [] => rfl
 | v :: l => by simp only [EV.renL, EV.blkLL, ygi v, ycT l, List.map_append]
end
theorem yf5 (hi : ∀ a b, f a = f b → a = b) : ∀ (l idx : List Nat), ym4 (idx.map f) (l.map f) = (ym4 idx l).map f
 | [], idx => rfl
 | b :: l, idx => by
  simp only [List.map_cons, ym4, ye8 hi]
  cases yhB b idx with
  | true => exact yf5 hi l idx
  | false =>
   have := yf5 hi l (idx ++ [b])
   rw [List.map_append] at this
   exact this
theorem yj2 {H H' : yaf} (hH : HR f H H') : ∀ (l : List Nat), ykA H' (l.map f) = (ykA H l).map f
 | [] => rfl
 | b :: l => by
  simp only [List.map_cons, ykA, yj2 hH l, hH.get]
  cases H[b]? with
  | none => rfl
  | some o =>
   cases o with
   | none => rfl
   | some v => simp only [Option.map_some, ygk, ygi, List.map_append]
theorem yhH (hi : ∀ a b, f a = f b → a = b) {H H' : yaf} (hH : HR f H H') : ∀ (n : Nat) (idx : List Nat), yeF H' n (idx.map f) = (yeF H n idx).map f
 | 0, idx => rfl
 | n + 1, idx => by simp only [yeF, yj2 hH, yf5 hi, yhH hi hH n]
theorem ypa (hi : ∀ a b, f a = f b → a = b) {H H' : yaf} (hH : HR f H H') (vs : List EV) : ym9 0 (EV.renL f vs) H' = (ym9 0 vs H).map f := by
 unfold ym9
 rw [ycT]
 have := yf5 hi (EV.blkLL vs) (yhn 0)
 rw [show (yhn 0).map f = yhn 0 from rfl] at this
 rw [this, yhH hi hH]
theorem ykK (hi : ∀ a b, f a = f b → a = b) (b : Nat) : ∀ (l : List Nat), pos (l.map f) (f b) = pos l b
 | [] => rfl
 | c :: l => by
  simp only [List.map_cons, pos, ykK hi b l]
  congr 1
  exact yky hi c b
theorem ynt {H H' : yaf} (hH : HR f H H') (m : Option IntKind) (v : EV) : ydm H' m (v.ren f) = (ydm H m v).ren f := by
 cases m with
 | none => cases v <;> rfl
 | some k =>
  cases v <;> try rfl
  rename_i b off len cap e
  simp only [EV.ren, ydm, hH.get]
  cases H[b]? with
  | none => rfl
  | some o =>
   cases o with
   | none => rfl
   | some c =>
    cases c <;> try rfl
    rename_i k' n g
    simp only [Option.map_some, ygk, EV.ren]
    cases decide (k = k') <;> rfl
theorem yhj {H H' : yaf} (hH : HR f H H') : ∀ (ms : List (Option IntKind)) (vs : List EV), yaP H' ms (EV.renL f vs) = EV.renL f (yaP H ms vs)
 | [], vs => by cases vs <;> rfl
 | _ :: _, [] => rfl
 | m :: ms, v :: vs => by simp only [EV.renL, yaP, ynt hH, yhj hH ms vs]
theorem yh3 : ∀ (ms : List (Option IntKind)) (vs : List EV), ycs ms (EV.renL f vs) = (ycs ms vs).map f
 | [], vs => by cases vs <;> rfl
 | _ :: _, [] => by rename_i m ms; cases m <;> rfl
 | m :: ms, v :: vs => by
  have ih := yh3 ms vs
  cases m with
  | none => cases v <;> simp only [EV.renL, EV.ren, ycs] <;> exact ih
  | some k => cases v <;> simp only [EV.renL, EV.ren, ycs, List.map_cons] <;> first | exact ih | rw [ih]
theorem ykl {H H' : yaf} (hH : HR f H H') (g : Nat → Nat) : ∀ (l : List Nat), yg2 H' g (l.map f) = yg2 H (fun b => g (f b)) l
 | [] => rfl
 | b :: l => by
  simp only [List.map_cons, yg2, ykl hH g l, hH.get]
  cases H[b]? with
  | none => rfl
  | some o =>
   cases o with
   | none => rfl
   | some v => simp only [Option.map_some, ygk, yeu]
theorem ypD (hi : ∀ a b, f a = f b → a = b) {H H' : yaf} (hH : HR f H H') (idx : List Nat) : yl1 H' (idx.map f) = yl1 H idx := by
 unfold yl1
 rw [ykl hH]
 congr 1
 funext b
 exact ykK hi b idx
theorem yjk {k m : Nat} (hs : Shf k m f) (idx : List Nat) (j : Nat) : ybQ (idx.map f) m j = f (ybQ idx m j) := by
 unfold ybQ
 rw [List.getElem?_map]
 cases idx[j]? with
 | none => simp only [Option.map_none, List.length_map]; rw [hs.high _ (by omega)]
 | some b => rfl
theorem HR.append {k : Nat} {H H' : yaf} (hH : HR f H H') (hs : Shf k H.length f) : ∀ (r : yaf), HR f (H ++ r) (H' ++ r.map (ygk f)) := by
 intro r
 induction r generalizing H H' with
 | nil => simpa using hH
 | cons o r ih =>
  have := ih (hH.push hs o) (hs.mono (by simp))
  simpa using this
theorem HR.putB {k : Nat} : ∀ (idx : List Nat) (r : yaf) {H H' : yaf}, HR f H H' → Shf k H.length f → HR f (putB idx r H) (Ev.putB (idx.map f) (r.map (ygk f)) H')
 | [], r, H, H', hH, hs => hH.append hs r
 | b :: l, [], H, H', hH, hs => hH
 | b :: l, o :: r, H, H', hH, hs => by
  simp only [List.map_cons, Ev.putB]
  exact HR.putB l r (hH.set hs.inj b o) (by rw [List.length_set]; exact hs)
theorem HR.killN (hi : ∀ a b, f a = f b → a = b) : ∀ (l : List Nat) {H H' : yaf}, HR f H H' → HR f (killN l H) (Ev.killN (l.map f) H')
 | [], H, H', hH => hH
 | b :: l, H, H', hH => HR.killN hi l (hH.set hi b Option.none)
theorem ync {α : Type} : ∀ (idx : List Nat) (r H : List α), H.length ≤ (putB idx r H).length
 | [], r, H => by simp [putB]
 | _ :: _, [], H => Nat.le_refl _
 | b :: l, v :: r, H => by
  have := ync l r (H.set b v)
  rw [List.length_set] at this
  exact this
theorem yiQ (g : Nat → Nat) : ∀ (H : yaf), yms g H = H.map (ygk g)
 | [] => rfl
 | o :: H => by simp only [yms, List.map_cons, yiQ g H]
theorem ykP {k : Nat} {en : yan} {args : List EV} {dead idx : List Nat} {H H' : yaf} {K : EV → yaf → Prop} (hD : Det2 (en.spec (EV.renL (pos idx) args) (yl1 H idx))) (hs : Shf k H.length f) (hH : HR f H H')
  (h : ydn en args dead idx H K) : ydn en (EV.renL f args) (dead.map f) (idx.map f) H' (KR f H.length K) := by
 unfold ydn at h ⊢
 rw [yac] at h ⊢
 have e1 : EV.renL (pos (idx.map f)) (EV.renL f args) = EV.renL (pos idx) args := by
  rw [ycS]
  congr 1
  funext b
  exact ykK hs.inj b idx
 rw [e1, ypD hs.inj hH, ydU hs.inj, ylk hs.inj hH, hH.len, yjc hs, yh2 hs.inj, yaU, ycF]
 refine ⟨h.1, hD.mono h.2 ?_⟩
 intro v H2 hK
 rw [yac] at hK ⊢
 rw [List.length_map]
 refine ⟨hK.1, v.ren (ybQ idx H.length), _, ?_, ?_, ?_, hK.2⟩
 ·rw [yeu]
  congr 1
  funext j
  exact yjk hs idx j
 ·have e2 : cond (v.noRS && yey H2) [] (dead.map f) = (cond (v.noRS && yey H2) [] dead).map f := by cases (v.noRS && yey H2) <;> rfl
  rw [e2]
  refine HR.killN hs.inj _ ?_
  have e3 : yms (ybQ (idx.map f) H.length) H2 = (yms (ybQ idx H.length) H2).map (ygk f) := by
   rw [yiQ, yiQ, List.map_map]
   refine List.map_congr_left fun o _ => ?_
   simp only [Function.comp, yjY]
   congr 1
   funext j
   exact yjk hs idx j
  rw [e3]
  exact HR.putB idx _ hH hs
 ·rw [yaA]; exact ync _ _ _
theorem ydQ (hi : ∀ a b, f a = f b → a = b) : ∀ (vs : List EV) {H H' : yaf}, HR f H H' → HR f (ybj vs H) (ybj (EV.renL f vs) H')
 | [], H, H', hH => hH
 | v :: vs, H, H', hH => by
  cases v
  case slice b off len cap e => exact ydQ hi vs (hH.set hi b none)
  all_goals exact ydQ hi vs hH
theorem ycx : ∀ (vs : List EV) (H : yaf), (ybj vs H).length = H.length
 | [], H => rfl
 | v :: vs, H => by
  cases v
  case slice b off len cap e => rw [ybj, ycx vs, List.length_set]
  all_goals exact ycx vs H
theorem ykj : ∀ (l : List EV), EV.freeL l = true → EV.renL f l = l := by
 have one : ∀ (v : EV), v.free = true → v.inI [] = true := by
  intro v
  exact (go v)
 intro l h
 refine yfx l ?_
 induction l with
 | nil => rfl
 | cons v l ih =>
  simp only [EV.freeL, Bool.and_eq_true] at h
  simp only [EV.inIL, Bool.and_eq_true]
  exact ⟨one v h.1, ih h.2⟩
where
 go : ∀ (v : EV), v.free = true → v.inI [] = true := fun v => (goBoth v)
 goBoth : ∀ (v : EV), v.free = true → v.inI [] = true
  | .ptr _ _, h => by simp [EV.free] at h
  | .slice _ _ _ _ _, h => by simp [EV.free] at h
  | .rref _, h => by simp [EV.free] at h
  | .agg l, h => by simp only [EV.free] at h; simp only [EV.inI]; exact goL l h
  | .tuple l, h => by simp only [EV.free] at h; simp only [EV.inI]; exact goL l h
  | .func _ l, h => by simp only [EV.free] at h; simp only [EV.inI]; exact goL l h
  | .bnd _ l, h => by simp only [EV.free] at h; simp only [EV.inI]; exact goL l h
  | .iface _ v, h => by simp only [EV.free] at h; simp only [EV.inI]; exact goBoth v h
  | .rsI _ _ _, _ => rfl | .undef, h => by simp [EV.free] at h
  | .bool _, _ => rfl | .int _ _, _ => rfl | .str _, _ => rfl | .nilPtr, _ => rfl | .nilSlice, _ => rfl | .nilFunc, _ => rfl | .arr _ _ _, _ => rfl | .nilIface, _ => rfl
 goL : ∀ (l : List EV), EV.freeL l = true → EV.inIL [] l = true
  | [], _ => rfl
  | v :: l, h => by
   simp only [EV.freeL, Bool.and_eq_true] at h
   simp only [EV.inIL, Bool.and_eq_true]
   exact ⟨goBoth v h.1, goL l h.2⟩
theorem yg7 (hD : ybB E) {k : Nat} {g : FuncId} {args : List EV} {H H' : yaf} {K : EV → yaf → Prop} (hs : Shf k H.length f) (hH : HR f H H')
  (h : ybF E g args H K) : ybF E g (EV.renL f args) H' (KR f H.length K) := by
 simp only [ybF] at h ⊢
 cases he : E.fn g with
 | none => rw [he] at h; exact h.elim
 | some en =>
  rw [he] at h
  simp only at h ⊢
  rw [yhj hH, yh3, ypa hs.inj hH, yc3]
  cases hl : en.lend with
  | true =>
   rw [hl] at h
   simp only [cond_true] at h ⊢
   exact ykP (hD g en he _ _) hs hH h
  | false =>
   rw [hl] at h
   simp only [cond_false] at h ⊢
   rw [yac] at h ⊢
   refine ⟨h.1, ?_⟩
   rw [ykj _ h.1]
   refine (hD g en he _ _).mono h.2 ?_
   intro v H2 hK
   rw [yac] at hK ⊢
   refine ⟨hK.1, ?_⟩
   have hv := ydz (f := f) v (Bool.and_eq_true _ _ ▸ hK.1 : _ ∧ _).2
   have hK := hK.2
   rw [ybA] at hK ⊢
   exact ⟨fun e => ⟨v, H, hv.symm, hH, Nat.le_refl _, hK.1 e⟩, fun e => ⟨v, _, hv.symm, ydQ hs.inj _ hH, by rw [ycx]; exact Nat.le_refl _, hK.2 e⟩⟩
theorem ymu (hD : ybB E) {k : Nat} {fv : EV} {args : List EV} {H H' : yaf} {K : EV → yaf → Prop} (hs : Shf k H.length f) (hH : HR f H H')
  (h : ydt E fv args H K) : ydt E (fv.ren f) (EV.renL f args) H' (KR f H.length K) := by
 cases fv <;> simp only [ydt, EV.ren] at h ⊢ <;> try exact h.elim
 ·rw [← ygK]; exact yg7 hD hs hH h
 ·rw [← ygK]; exact yg7 hD hs hH h
end call
section op
variable {E : Env} {f : Nat → Nat}
structure StR (f : Nat → Nat) (s s' : St) : Prop where
 tmps : s'.tmps = s.tmps.map (EV.ren f)
 heap : HR f s.heap s'.heap
theorem StR.slot {s s' : St} (h : StR f s s') (t : Nat) : s'.slot t = (s.slot t).ren f := by
 unfold St.slot
 rw [h.tmps, List.getElem?_map]
 cases s.tmps[t]? <;> rfl
theorem yh0 (v : Value) : (yfU v).ren f = yfU v := by
 unfold yfU
 split <;> rfl
theorem ycN (hC : ya8 E) {s s' : St} (h : StR f s s') (x : Operand) : St.opd E s' x = (St.opd E s x).ren f := by
 cases x with
 | tmp t => exact h.slot t
 | const v => exact (yh0 v).symm
 | global g =>
  simp only [St.opd]
  cases hg : E.gl g with
  | none => rfl
  | some v => simp only [EV.ren, ydz v (hC.gl g v hg)]
 | func g => rfl
theorem yeU (hC : ya8 E) {s s' : St} (h : StR f s s') (l : List Operand) : l.map (St.opd E s') = (l.map (St.opd E s)).map (EV.ren f) := by
 rw [List.map_map]
 exact List.map_congr_left fun x _ => ycN hC h x
theorem ylm (hC : ya8 E) {s s' : St} (h : StR f s s') (l : List (Nat × Operand)) : (l.map fun p => (p.1, St.opd E s' p.2)) = yo5 f (l.map fun p => (p.1, St.opd E s p.2)) := by
 unfold yo5
 rw [List.map_map]
 exact List.map_congr_left fun x _ => by simp only [Function.comp, ycN hC h x.2]
theorem yjp (hC : ya8 E) {s s' : St} (h : StR f s s') (l : List (Nat × Operand)) : (l.map fun p => St.opd E s' p.2) = (l.map fun p => St.opd E s p.2).map (EV.ren f) := by
 rw [List.map_map]
 exact List.map_congr_left fun x _ => ycN hC h x.2
theorem yo4 (hC : ya8 E) {s s' : St} (h : StR f s s') (o : Option Operand) : o.map (St.opd E s') = (o.map (St.opd E s)).map (EV.ren f) := by
 cases o with
 | none => rfl
 | some x => simp only [Option.map_some, ycN hC h x]
theorem ypd (o : Option EV) : yoU (o.map (EV.ren f)) = yoU o := by
 cases o with
 | none => rfl
 | some v => exact ybL f v
theorem yqo (hC : ya8 E) {o : Op} {s s' : St} {K : EV → Prop} (h : StR f s s') (hk : evV E o s K) : evV E o s' (KV f K) := by
 have ho := ycN hC h
 unfold evV at hk ⊢
 split at hk
 ·rename_i x; simp only [ho]; exact ⟨_, rfl, hk⟩
 ·rename_i x; simp only [ho]; exact ⟨_, rfl, hk⟩
 ·rename_i c a b
  simp only [ho]
  cases hc : St.opd E s c <;> rw [hc] at hk <;> try exact hk.elim
  simp only [EV.ren] at hk ⊢
  rw [yds] at hk ⊢
  exact ⟨fun e => ⟨_, rfl, hk.1 e⟩, fun e => ⟨_, rfl, hk.2 e⟩⟩
 ·rename_i t ps
  simp only [ylm hC h, yjp hC h, ycF]
  rw [yac] at hk ⊢
  exact ⟨hk.1, ykH hC hk.2⟩
 ·rename_i t a; simp only [ho]; exact ymB h.heap hk
 ·rename_i op t x y z
  simp only [ho, ybL]
  rw [yac] at hk ⊢
  exact ⟨hk.1, ynI h.heap hk.2⟩
 ·rename_i op z x; simp only [ho]; exact ypj hk
 ·rename_i src dst x
  simp only [ho, ybL]
  rw [yac] at hk ⊢
  exact ⟨hk.1, yl8 h.heap hk.2⟩
 ·rename_i t x i
  simp only [ho, ybL]
  rw [yac] at hk ⊢
  exact ⟨hk.1, ygV h.heap hk.2⟩
 ·rename_i t x i
  simp only [ho, ybL]
  rw [yac] at hk ⊢
  exact ⟨hk.1, yle hk.2⟩
 ·rename_i t x i
  simp only [ho, ybL]
  rw [yac] at hk ⊢
  exact ⟨hk.1, yg0 h.heap hk.2⟩
 ·rename_i t x i
  simp only [ho, ybL]
  rw [yac] at hk ⊢
  exact ⟨hk.1, ykM hk.2⟩
 ·rename_i x i; simp only [ho]; exact yip hk
 ·rename_i g cs
  simp only [yeU hC h, ycF]
  rw [yac] at hk ⊢
  exact ⟨hk.1, _, by rw [EV.ren, yaU], hk.2⟩
 ·rename_i t x lo hi mx
  simp only [ho, ybL, yo4 hC h, ypd]
  rw [yac] at hk ⊢
  exact ⟨hk.1, ykS h.heap hk.2⟩
 ·rename_i x t
  simp only [ho, ybL]
  rw [yac] at hk ⊢
  exact ⟨hk.1, ynN hk.2⟩
 ·rename_i xs t
  simp only [yeU hC h, ycF]
  rw [yac] at hk ⊢
  exact ⟨hk.1, ylh hk.2⟩
 ·rename_i xs t
  simp only [yeU hC h, ycF]
  rw [yac] at hk ⊢
  exact ⟨hk.1, ylh hk.2⟩
 ·rename_i x
  simp only [ho, ybL]
  rw [yac] at hk ⊢
  exact ⟨hk.1, yjx h.heap hk.2⟩
 ·rename_i g fs _
  simp only [yeU hC h, ycF]
  rw [yac] at hk ⊢
  exact ⟨hk.1, _, by rw [EV.ren, yaU], hk.2⟩
 ·exact hk.elim
theorem yoM (hC : ya8 E) (hD : ybB E) {k : Nat} {o : Op} {s s' : St} {K : EV → yaf → Prop} (hs : Shf k s.heap.length f) (h : StR f s s') (hk : ycp E o s K) : ycp E o s' (KR f s.heap.length K) := by
 have ho := ycN hC h
 unfold ycp at hk ⊢
 split at hk
 ·rename_i t
  cases ht : E.ty t with
  | none => rw [ht] at hk; exact hk.elim
  | some ti =>
   rw [ht] at hk
   have := yjM hs h.heap hk
   rw [ydz _ (hC.ty t ti ht)] at this
   exact this
 ·rename_i t x
  simp only [ho]
  have hu : St.opd E s x ≠ .undef := by intro e; rw [e] at hk; exact hk.elim
  have h1 : yg6 s.heap (St.opd E s x) K := by
   revert hk
   cases hq : St.opd E s x <;> intro hk <;> first | exact absurd hq hu | exact hk
  have h2 := yjM hs h.heap h1
  revert h2
  cases hq : St.opd E s x <;> intro h2 <;> first | exact absurd hq hu | exact h2
 ·rename_i t n ps
  simp only [ylm hC h, yjp hC h, ycF]
  rw [yac] at hk ⊢
  exact ⟨hk.1, yfZ hC hs h.heap hk.2⟩
 ·rename_i t a x
  simp only [ho]
  refine det_evStore.mono (ykZ hs h.heap hk) ?_
  rintro H' ⟨H, h1, h2, h3⟩
  exact ⟨.undef, H, rfl, h1, h2, h3⟩
 ·rename_i t ln cp
  simp only [ho, ybL]
  rw [yac] at hk ⊢
  exact ⟨hk.1, ygB hC hs h.heap hk.2⟩
 ·rename_i g xs ts
  simp only [ho, yeU hC h, ← yaU]
  exact ymu hD hs h.heap hk
 ·rename_i x y t u
  simp only [ho, ybL]
  rw [yac] at hk ⊢
  exact ⟨hk.1, yjO hs h.heap hk.2⟩
 ·rename_i x y t u
  simp only [ho, ybL]
  rw [yac] at hk ⊢
  exact ⟨hk.1, ymM hs h.heap hk.2⟩
 ·refine det_evV.mono (yqo hC h hk) ?_
  rintro v' ⟨v, rfl, hv⟩
  exact ⟨v, s.heap, rfl, h.heap, Nat.le_refl _, hv⟩
theorem StR.put {s s' : St} (h : StR f s s') (d : Option Nat) (v : EV) {H H' : yaf} (hH : HR f H H') : StR f (s.put d v H) (s'.put d (v.ren f) H') := by
 cases d with
 | none => exact ⟨h.tmps, hH⟩
 | some d => exact ⟨by simp only [St.put, h.tmps, List.map_set], hH⟩
def KS (f : Nat → Nat) (n : Nat) (K : St → Prop) : St → Prop := fun s' => ∃ s, StR f s s' ∧ n ≤ s.heap.length ∧ K s
theorem yeB {s : St} {d : Option Nat} {v : EV} {H : yaf} : (s.put d v H).heap = H := by cases d <;> rfl
theorem yjX (hC : ya8 E) (hD : ybB E) {k : Nat} {ops : List Oper} {o : Oper} {s s' : St} {K : St → Prop} (hs : Shf k s.heap.length f) (h : StR f s s') (hk : yba E ops o s K) :
  yba E ops o s' (KS f s.heap.length K) := by
 have run : ∀ (s1 s1' : St), s1.heap = s.heap → StR f s1 s1' → (ycp E o.op s1 fun v H => K (s1.put o.dst v H)) → ycp E o.op s1' fun v H => KS f s.heap.length K (s1'.put o.dst v H) := by
  intro s1 s1' he h1 hk
  refine (yb1 hD).mono (yoM hC hD (by rw [he]; exact hs) h1 hk) ?_
  rintro v' H' ⟨v, H, rfl, h2, h3, h4⟩
  exact ⟨_, h1.put o.dst v h2, by rw [yeB, ← he]; exact h3, h4⟩
 have skip : ∀ (s1 s1' : St), StR f s1 s1' → K (s1.put o.dst (.tuple []) s.heap) → KS f s.heap.length K (s1'.put o.dst (.tuple []) s'.heap) := by
  intro s1 s1' h1 hk
  exact ⟨_, h1.put o.dst (.tuple []) h.heap, by rw [yeB]; exact Nat.le_refl _, hk⟩
 unfold yba at hk ⊢
 cases hg : o.guard with
 | none => rw [hg] at hk; exact run s s' rfl h hk
 | some g =>
  obtain ⟨j, want⟩ := g
  rw [hg] at hk
  simp only at hk ⊢
  cases hj : ops[j]? with
  | none => rw [hj] at hk; exact hk.elim
  | some oj =>
   rw [hj] at hk
   simp only at hk ⊢
   cases hd : oj.dst with
   | none => rw [hd] at hk; exact hk.elim
   | some d =>
    rw [hd] at hk
    simp only [h.slot] at hk ⊢
    cases hb : s.slot d <;> rw [hb] at hk <;> try exact hk.elim
    case bool b =>
     simp only [EV.ren] at hk ⊢
     rw [yds] at hk ⊢
     refine ⟨fun e => ?_, fun e => ?_⟩
     ·have hk := hk.1 e
      have hp := h.put (some d) (.bool true) h.heap
      cases hq : ygS true want <;> rw [hq] at hk <;> simp only [cond_true, cond_false] at hk ⊢
      ·exact skip _ _ hp hk
      ·exact run _ _ (yeB) hp hk
     ·have hk := hk.2 e
      have hp := h.put (some d) (.bool false) h.heap
      cases hq : ygS false want <;> rw [hq] at hk <;> simp only [cond_true, cond_false] at hk ⊢
      ·exact skip _ _ hp hk
      ·exact run _ _ (yeB) hp hk
    case tuple l =>
     cases l with
     | nil => exact skip _ _ h hk
     | cons _ _ => exact hk.elim
theorem yjs (hC : ya8 E) (hD : ybB E) {k : Nat} {ops : List Oper} : ∀ (r : List Oper) {s s' : St} {K : St → Prop}, Shf k s.heap.length f → StR f s s' → ybV E ops r s K →
  ybV E ops r s' (KS f s.heap.length K)
 | [], s, s', K, hs, h, hk => ⟨s, h, Nat.le_refl _, hk⟩
 | o :: r, s, s', K, hs, h, hk => by
  simp only [ybV] at hk ⊢
  refine (ybN hD).mono (yjX hC hD hs h hk) ?_
  rintro s1' ⟨s1, h1, h2, h3⟩
  refine (ybd hD r s1').mono (yjs hC hD r (hs.mono h2) h1 h3) ?_
  rintro s2' ⟨s2, h4, h5, h6⟩
  exact ⟨s2, h4, Nat.le_trans h2 h5, h6⟩
end op
end Go.Ev

/- The evaluator: values that name no block but those that there are. -/
set_option linter.unusedVariables false
set_option linter.unusedSimpArgs false
namespace Go.Ev
open Go
def Cl (n : Nat) (v : EV) : Prop := ∀ f : Nat → Nat, (∀ b, b < n → f b = b) → v.ren f = v
def ClL (n : Nat) (l : List EV) : Prop := ∀ v ∈ l, Cl n v
def ClH (n : Nat) (H : yaf) : Prop := ∀ (b : Nat) c, H[b]? = some (some c) → Cl n c
theorem Cl.mono {n m : Nat} {v : EV} (h : Cl n v) (hm : n ≤ m) : Cl m v := fun f hf => h f fun b hb => hf b (by omega)
theorem Cl.of {n : Nat} {v : EV} (h : v.inI [] = true) : Cl n v := fun f _ => ydz v h
theorem Cl.get {n : Nat} {p : List Nat} {v u : EV} (h : Cl n v) (hg : EV.get p v = some u) : Cl n u := by
 intro f hf
 have := yfn f p v
 rw [h f hf, hg] at this
 exact (Option.some.inj this).symm
theorem Cl.part {n : Nat} {l : List EV} {i : Nat} {u : EV} (h : ∀ f : Nat → Nat, (∀ b, b < n → f b = b) → EV.renL f l = l) (hl : l[i]? = some u) : Cl n u := by
 intro f hf
 have := yd3 f l i
 rw [h f hf, hl] at this
 exact (Option.some.inj this).symm
theorem Cl.agg {n : Nat} {l : List EV} (h : Cl n (.agg l)) : ∀ f : Nat → Nat, (∀ b, b < n → f b = b) → EV.renL f l = l := fun f hf => by
 have := h f hf; simpa [EV.ren] using this
theorem Cl.tuple {n : Nat} {l : List EV} (h : Cl n (.tuple l)) : ∀ f : Nat → Nat, (∀ b, b < n → f b = b) → EV.renL f l = l := fun f hf => by
 have := h f hf; simpa [EV.ren] using this
theorem ClL.ren {n : Nat} {l : List EV} (h : ClL n l) (f : Nat → Nat) (hf : ∀ b, b < n → f b = b) : l.map (EV.ren f) = l := by
 induction l with
 | nil => rfl
 | cons v l ih => rw [List.map_cons, h v List.mem_cons_self f hf, ih fun u hu => h u (List.mem_cons_of_mem _ hu)]
theorem Cl.ptr {n b : Nat} {p q : List Nat} (h : Cl n (.ptr b p)) : Cl n (.ptr b q) := fun f hf => by
 have := h f hf; simp only [EV.ren, EV.ptr.injEq] at this ⊢; exact ⟨this.1, trivial⟩
section clo
variable {E : Env} {n : Nat}
theorem ynm {t : TypeId} {v : EV} {H : yaf} {K : EV → Prop} (hv : Cl n v) (hH : ClH n H) (h : ybo E t v H K) : ybo E t v H fun u => K u ∧ Cl n u := by
 cases v <;> simp only [ybo] at h ⊢ <;> try exact h.elim
 case rref u =>
  rw [yac] at h ⊢
  refine ⟨h.1, h.2, fun f hf => ?_⟩
  have := hv f hf; simpa [EV.ren] using this
 case ptr b p =>
  split at h
  case h_2 => exact h.elim
  rename_i c hb
  split at h
  case h_2 => exact h.elim
  rename_i u hu
  try simp only [hb, hu]
  rw [yac] at h ⊢
  exact ⟨h.1, h.2, (hH b c hb).get hu⟩
theorem yoq {op : BinOp} {k : IntKind} {a b : Int} {K : EV → Prop} (h : ydG op k a b K) : ydG op k a b fun u => K u ∧ Cl n u := by
 cases op <;> simp only [ydG, yac] at h ⊢ <;> first | exact ⟨h, fun _ _ => rfl⟩ | exact ⟨h.1, h.2, fun _ _ => rfl⟩
theorem yog {op : BinOp} {a b : List UInt8} {K : EV → Prop} (h : ydJ op a b K) : ydJ op a b fun u => K u ∧ Cl n u := by
 cases op <;> simp only [ydJ, yac] at h ⊢ <;> first | exact h.elim | exact ⟨h, fun _ _ => rfl⟩ | exact ⟨h.1, h.2, fun _ _ => rfl⟩
theorem yo8 {op : BinOp} {t : TypeId} {x y : EV} {K : EV → Prop} (h : yeZ E op t x y K) : yeZ E op t x y fun u => K u ∧ Cl n u := by
 by_cases h1 : ∃ k a k' b, x = .int k a ∧ y = .int k' b
 ·obtain ⟨k, a, k', b, rfl, rfl⟩ := h1
  cases op <;> simp only [yeZ] at h ⊢
  all_goals first
   | (rw [yac] at h ⊢; exact ⟨h.1, h.2, fun _ _ => rfl⟩)
   | (rw [ybA] at h ⊢; exact ⟨fun e => yoq (h.1 e), h.2⟩)
 ·by_cases h2 : ∃ a b, x = .str a ∧ y = .str b
  ·obtain ⟨a, b, rfl, rfl⟩ := h2
   exact yog h
  ·rw [yfk (fun k a k' b e1 e2 => h1 ⟨k, a, k', b, e1, e2⟩) (fun a b e1 e2 => h2 ⟨a, b, e1, e2⟩)] at h ⊢
   cases op <;> simp only [yhV] at h ⊢ <;> try exact h
   ·cases hb : eqT E 100 t x y with
    | none => rw [hb] at h; exact h.elim
    | some b => rw [hb] at h; exact ⟨h, fun _ _ => rfl⟩
   ·cases hb : eqT E 100 t x y with
    | none => rw [hb] at h; exact h.elim
    | some b => rw [hb] at h; exact ⟨h, fun _ _ => rfl⟩
theorem yqb {op : UnOp} {x : EV} {K : EV → Prop} (h : ynp op x K) : ynp op x fun u => K u ∧ Cl n u := by
 cases op <;> cases x <;> simp only [ynp] at h ⊢ <;> first | exact h.elim | exact ⟨h, fun _ _ => rfl⟩
theorem yku {si : TI} {x : EV} {H : yaf} {K : EV → Prop} (h : ybO E si x H K) : ybO E si x H fun u => K u ∧ Cl n u := by
 unfold ybO at h ⊢
 split at h
 case h_2 => exact h.elim
 rename_i e he
 rw [ybA] at h
 cases hi : ybx E e .u8 with
 | false => exact (h.2 hi).elim
 | true =>
  have h' := h.1 hi
  simp only [cond_true]
  split at h'
  ·exact ⟨h', fun _ _ => rfl⟩
  ·rename_i hw
   split at h'
   ·exact ⟨h', fun _ _ => rfl⟩
   ·exact h'.elim
theorem yoG {src dst : TypeId} {x : EV} {H : yaf} {K : EV → Prop} (h : ybP E src dst x H K) : ybP E src dst x H fun u => K u ∧ Cl n u := by
 unfold ybP at h ⊢
 cases hs : E.ty src with
 | none => rw [hs] at h; exact h.elim
 | some si =>
  cases hd : E.ty dst with
  | none => rw [hs, hd] at h; exact h.elim
  | some di =>
   rw [hs, hd] at h
   simp only at h ⊢
   cases htd : di.td <;> simp only [htd] at h ⊢ <;> try exact h.elim
   ·cases x <;> simp only at h ⊢ <;> first | exact h.elim | exact ⟨h, fun _ _ => rfl⟩
   ·rcases (show (∃ s, x = .str s ∧ K (.str s)) ∨ ((∀ s, x ≠ .str s) ∧ ybO E si x H K) from by
     cases x <;> first | exact .inl ⟨_, rfl, h⟩ | exact .inr ⟨(fun s e => by cases e), h⟩) with ⟨s, rfl, h⟩ | ⟨hne, h⟩
    ·exact ⟨h, fun _ _ => rfl⟩
    ·have := yku (n := n) h
     revert this hne
     cases x <;> intro hne this <;> first | exact this | exact absurd rfl (hne _)
theorem ygb {F G : Nat → EV → Prop} : ∀ (l : List EV) (j : Nat) (i : Int), (∀ k u, l[k]? = some u → F (j + k) u → G (j + k) u) → yfo F l j i → yfo G l j i
 | [], _, _, _, h => h
 | u :: l, j, i, hF, h => by
  simp only [yfo, yds] at h ⊢
  refine ⟨fun e => hF 0 u rfl (h.1 e), fun e => ygb l (j + 1) i (fun k u hk hf => ?_) (h.2 e)⟩
  rw [show j + 1 + k = j + (k + 1) from by omega] at hf ⊢
  exact hF (k + 1) u (by simpa using hk) hf
theorem ymL {t : TypeId} {x i : EV} {K : EV → Prop} (hx : Cl n x) (h : yca E t x i K) : yca E t x i fun u => K u ∧ Cl n u := by
 unfold yca at h ⊢
 cases ht : E.ty t with
 | none => rw [ht] at h; exact h.elim
 | some ti =>
  rw [ht] at h
  cases i <;> simp only at h ⊢ <;> try exact h.elim
  cases htd : ti.td <;> simp only [htd] at h ⊢ <;> try exact h.elim
  ·cases x <;> simp only at h ⊢ <;> try exact h.elim
   rw [yac] at h ⊢
   exact ⟨h.1, h.2, fun _ _ => rfl⟩
  ·cases x <;> simp only at h ⊢ <;> try exact h.elim
   ·rw [ybA] at h ⊢
    refine ⟨fun e => ygb _ _ _ (fun k u hk hf => ?_) (h.1 e), h.2⟩
    rw [yac] at hf ⊢
    exact ⟨hf.1, hf.2, Cl.part hx.agg hk⟩
   ·rw [ybA] at h ⊢
    refine ⟨fun e => ?_, h.2⟩
    have := h.1 e
    rw [yac] at this ⊢
    exact ⟨this.1, this.2, fun _ _ => rfl⟩
theorem ymw {t : TypeId} {x : EV} {i : Nat} {K : EV → Prop} (hx : Cl n x) (h : yb7 E t x i K) : yb7 E t x i fun u => K u ∧ Cl n u := by
 unfold yb7 at h ⊢
 split at h
 case h_2 => exact h.elim
 rename_i ti ht
 split at h
 case h_2 => exact h.elim
 rename_i fs l hq
 simp only [hq]
 split at h
 case h_2 => exact h.elim
 rename_i o ft u hf hl
 try simp only [hf, hl]
 rw [yac] at h ⊢
 exact ⟨h.1, h.2, Cl.part hx.agg hl⟩
theorem yph {x : EV} {H : yaf} {K : EV → Prop} (hx : Cl n x) (h : ycQ x H K) : ycQ x H fun u => K u ∧ Cl n u := by
 unfold ycQ at h ⊢
 cases x <;> simp only at h ⊢ <;> try exact h
 ·rename_i b p
  cases hb : H[b]? with
  | none => rw [hb] at h; exact h.elim
  | some q =>
   cases q with
   | none => rw [hb] at h; exact h.elim
   | some c =>
    rw [hb] at h
    simp only at h ⊢
    cases hg : EV.get p c with
    | none => rw [hg] at h; exact h.elim
    | some u => rw [hg] at h; exact ⟨h, hx⟩
 all_goals exact ⟨h, hx⟩
theorem yix {op : BinOp} {b : Bool} {K : EV → Prop} (h : yfl op b K) : yfl op b fun u => K u ∧ Cl n u := by
 cases op <;> first | exact ⟨h, fun f _ => rfl⟩ | exact h.elim
theorem ypx {op : BinOp} {t : TypeId} {o : Operand} {x y : EV} {H : yaf} {K : EV → Prop} (hx : Cl n x) (h : ydR E op t o x y H K) : ydR E op t o x y H fun u => K u ∧ Cl n u := by
 unfold ydR at h ⊢
 cases h1 : Nat.beq (yi4 o) 1 with
 | true =>
  rw [h1] at h
  simp only [cond_true] at h ⊢
  unfold yqw at h ⊢
  cases x <;> simp only at h ⊢ <;> try exact h.elim
  ·cases h2 : yig E t 1 with
   | true => rw [h2] at h; exact yix h
   | false => rw [h2] at h; exact h.elim
  ·cases h2 : yig E t 1 with
   | true =>
    rw [h2] at h
    simp only [cond_true] at h ⊢
    unfold ycQ at h ⊢
    simp only at h ⊢
    split at h
    ·split at h
     ·exact yix h
     ·exact h.elim
    ·exact h.elim
   | false => rw [h2] at h; exact h.elim
 | false =>
  rw [h1] at h
  simp only [cond_false] at h ⊢
  cases h2 : Nat.beq (yi4 o) 2 with
  | true =>
   rw [h2] at h
   simp only [cond_true] at h ⊢
   unfold yqJ at h ⊢
   cases x <;> simp only at h ⊢ <;> try exact h.elim
   all_goals
    cases h3 : yig E t 0 with
    | true => rw [h3] at h; exact yix h
    | false => rw [h3] at h; exact h.elim
  | false => rw [h2] at h; exact yo8 h
theorem yhq {t : TypeId} {x : EV} {i : Nat} {H : yaf} {K : EV → Prop} (hx : Cl n x) (h : yaF E t x i H K) : yaF E t x i H fun u => K u ∧ Cl n u := by
 unfold yaF at h ⊢
 cases ht : E.ty t with
 | none => rw [ht] at h; exact h.elim
 | some ti =>
  rw [ht] at h
  simp only at h ⊢
  cases htd : ti.td <;> simp only [htd] at h ⊢ <;> try exact h.elim
  rename_i fs
  cases hf : fs[i]? with
  | none => rw [hf] at h; exact h.elim
  | some q =>
   obtain ⟨o, ft⟩ := q
   rw [hf] at h
   simp only at h ⊢
   cases hft : E.ty ft with
   | none => rw [hft] at h; exact h.elim
   | some fi =>
    rw [hft] at h
    simp only at h ⊢
    cases x <;> try simp only at h ⊢ <;> try exact h.elim
    case ptr b p =>
     cases hb : H[b]? with
     | none => rw [hb] at h; exact h.elim
     | some oc =>
      cases oc with
      | none => rw [hb] at h; exact h.elim
      | some c =>
       rw [hb] at h
       simp only at h ⊢
       cases hg : EV.get p c with
       | none => rw [hg] at h; exact h.elim
       | some u =>
        rw [hg] at h
        simp only at h ⊢
        rw [yac] at h ⊢
        exact ⟨h.1, h.2, hx.ptr⟩
    case rref v =>
     cases v <;> simp only at h ⊢ <;> try exact h.elim
     rename_i l
     cases hl : l[i]? with
     | none => rw [hl] at h; exact h.elim
     | some u =>
      rw [hl] at h
      simp only at h ⊢
      rw [yac] at h ⊢
      refine ⟨h.1, h.2, fun f hf' => ?_⟩
      have hl2 : ∀ f : Nat → Nat, (∀ b, b < n → f b = b) → EV.renL f l = l := fun f hf => by
       have := hx f hf; simpa [EV.ren] using this
      simp only [EV.ren, Cl.part hl2 hl f hf']
theorem yhA {t : TypeId} {x i : EV} {H : yaf} {K : EV → Prop} (hx : Cl n x) (h : yaG E t x i H K) : yaG E t x i H fun u => K u ∧ Cl n u := by
 have sl : ∀ {b off len cap e p}, x = .slice b off len cap e → Cl n (.ptr b p) := by
  intro b off len cap e p hq f hf
  have := hx f hf
  rw [hq] at this
  simp only [EV.ren, EV.slice.injEq] at this
  simp only [EV.ren, this.1]
 unfold yaG at h ⊢
 cases ht : E.ty t with
 | none => rw [ht] at h; exact h.elim
 | some ti =>
  rw [ht] at h
  cases i <;> simp only at h ⊢ <;> try exact h.elim
  rename_i ki i
  cases htd : ti.td <;> simp only [htd] at h ⊢ <;> try exact h.elim
  case slice e =>
   cases he : E.ty e with
   | none => rw [he] at h; exact h.elim
   | some ei =>
    rw [he] at h
    simp only at h ⊢
    cases x <;> simp only at h ⊢ <;> try exact h.elim
    case slice b off len cap es =>
     cases hb : H[b]? with
     | none => rw [hb] at h; exact h.elim
     | some oc =>
      cases oc with
      | none => rw [hb] at h; exact h.elim
      | some c =>
       rw [hb] at h
       simp only at h ⊢
       rw [yac] at h ⊢
       refine ⟨h.1, ?_⟩
       have h2 := h.2
       cases c <;> simp only at h2 ⊢ <;> first | exact ⟨h2, sl rfl⟩ | skip
       exact ygb _ _ _ (fun k u hk hf => ⟨hf, sl rfl⟩) h2
    case rsI k n g =>
     rw [yac] at h ⊢
     exact ⟨h.1, h.2, fun _ _ => rfl⟩
  case array m e =>
   cases he : E.ty e with
   | none => rw [he] at h; exact h.elim
   | some ei =>
    rw [he] at h
    simp only at h ⊢
    cases x <;> try simp only at h ⊢ <;> try exact h.elim
    case ptr b p =>
     cases hb : H[b]? with
     | none => rw [hb] at h; exact h.elim
     | some oc =>
      cases oc with
      | none => rw [hb] at h; exact h.elim
      | some c =>
       rw [hb] at h
       simp only at h ⊢
       cases hg : EV.get p c with
       | none => rw [hg] at h; exact h.elim
       | some u =>
        rw [hg] at h
        try simp only at h ⊢
        cases u <;> simp only at h ⊢ <;> try exact h.elim
        case arr k m g =>
         rw [ybA] at h ⊢
         refine ⟨fun hc => ?_, h.2⟩
         have := h.1 hc
         rw [yac] at this ⊢
         exact ⟨this.1, this.2, hx.ptr⟩
        case agg l =>
         rw [ybA] at h ⊢
         exact ⟨fun hc => ygb _ _ _ (fun k u hk hf => ⟨hf, hx.ptr⟩) (h.1 hc), h.2⟩
    case rref v =>
     cases v <;> simp only at h ⊢ <;> try exact h.elim
     rename_i k m g
     rw [ybA] at h ⊢
     exact ⟨fun hc => ⟨(h.1 hc).1, (h.1 hc).2, fun _ _ => rfl⟩, h.2⟩
theorem yjQ {x : EV} {i : Nat} {K : EV → Prop} (hx : Cl n x) (h : ybc x i K) : ybc x i fun u => K u ∧ Cl n u := by
 cases x <;> simp only [ybc] at h ⊢ <;> try exact h.elim
 rename_i l
 cases hl : l[i]? with
 | none => rw [hl] at h; exact h.elim
 | some u => rw [hl] at h; exact ⟨h, Cl.part hx.tuple hl⟩
theorem yd5 {place : Nat → Option (Nat × Nat)} {ps : List (Nat × EV)} {z v : EV} (hp : ∀ p ∈ ps, Cl n p.2) (hz : Cl n z) (h : ya4 place ps z = some v) : Cl n v := by
 intro f hf
 have h1 := ycu (f := f) place ps z
 have h2 : yo5 f ps = ps := by
  unfold yo5
  have : ∀ p ∈ ps, (fun p : Nat × EV => (p.1, p.2.ren f)) p = id p := fun p hp' => by
   show (p.1, p.2.ren f) = p
   rw [hp p hp' f hf]
  rw [List.map_congr_left this, List.map_id]
 rw [h2, hz f hf, h] at h1
 exact (Option.some.inj h1).symm
theorem ymv (hC : ya8 E) {t : TypeId} {ps : List (Nat × EV)} {K : EV → Prop} (hp : ∀ p ∈ ps, Cl n p.2) (h : yb6 E t ps K) : yb6 E t ps fun u => K u ∧ Cl n u := by
 unfold yb6 at h ⊢
 cases ht : E.ty t with
 | none => rw [ht] at h; exact h.elim
 | some ti =>
  rw [ht] at h
  simp only at h ⊢
  have hz : Cl n ti.zero := Cl.of (hC.ty t ti ht)
  rw [yac] at h ⊢
  refine ⟨h.1, ?_⟩
  replace h := h.2
  cases htd : ti.td <;> simp only [htd] at h ⊢ <;> try exact h.elim
  case struct fs =>
   split at h
   ·rename_i v hv
    try simp only [hv]
    rw [yac] at h ⊢
    exact ⟨h.1, h.2, yd5 hp hz hv⟩
   ·exact h.elim
  case array m e =>
   split at h
   case h_2 => exact h.elim
   rename_i k he
   split at h
   ·rename_i v hv
    try simp only [hv]
    exact ⟨h, yd5 hp hz hv⟩
   ·exact h.elim
theorem ypB {t : TypeId} {x : EV} {K : EV → Prop} (h : yf3 E t x K) : yf3 E t x fun u => K u ∧ Cl n u := by
 unfold yf3 at h ⊢
 cases ht : E.ty t with
 | none => rw [ht] at h; exact h.elim
 | some ti =>
  rw [ht] at h
  simp only at h ⊢
  cases htd : ti.td <;> simp only [htd] at h ⊢ <;> try exact h.elim
  all_goals (cases x <;> simp only at h ⊢ <;> first | exact h.elim | exact ⟨h, fun _ _ => rfl⟩)
theorem yng {g : Int → Int → Int} {xs : List EV} {K : EV → Prop} (hx : ClL n xs) (h : ylN g xs K) : ylN g xs fun u => K u ∧ Cl n u := by
 cases xs with
 | nil => exact h
 | cons x r =>
  simp only [ylN] at h ⊢
  cases hv : yfc g x r with
  | none => rw [hv] at h; exact h.elim
  | some v =>
   rw [hv] at h
   refine ⟨h, fun f hf => ?_⟩
   have h1 := yfy (f := f) g r x
   rw [hx x List.mem_cons_self f hf, ClL.ren (fun u hu => hx u (List.mem_cons_of_mem _ hu)) f hf, hv] at h1
   exact (Option.some.inj h1).symm
theorem ymb {t : TypeId} {x : EV} {lo hi mx : Option EV} {H : yaf} {K : EV → Prop} (hx : Cl n x) (h : ybh E t x lo hi mx H K) : ybh E t x lo hi mx H fun u => K u ∧ Cl n u := by
 unfold ybh at h ⊢
 cases mx with
 | some m => exact h.elim
 | none =>
  cases ht : E.ty t with
  | none => rw [ht] at h; exact h.elim
  | some ti =>
   rw [ht] at h
   simp only at h ⊢
   cases htd : ti.td <;> simp only [htd] at h ⊢ <;> try exact h.elim
   case str =>
    cases x <;> simp only at h ⊢ <;> try exact h.elim
    rename_i s
    cases hl : ydq 0 lo with
    | none => rw [hl] at h; exact h.elim
    | some l =>
     cases hh : ydq s.length hi with
     | none => rw [hl, hh] at h; exact h.elim
     | some q =>
      rw [hl, hh] at h
      simp only at h ⊢
      rw [yac] at h ⊢
      exact ⟨h.1, h.2, fun _ _ => rfl⟩
   case slice e =>
    cases x <;> simp only at h ⊢ <;> try exact h.elim
    case slice b off len cap es =>
     cases hl : ydq 0 lo with
     | none => rw [hl] at h; exact h.elim
     | some l =>
      cases hh : ydq len hi with
      | none => rw [hl, hh] at h; exact h.elim
      | some q =>
       cases hb : H[b]? with
       | none => rw [hl, hh, hb] at h; exact h.elim
       | some oc =>
        cases oc with
        | none => rw [hl, hh, hb] at h; exact h.elim
        | some c =>
         rw [hl, hh, hb] at h
         simp only at h ⊢
         rw [yac] at h ⊢
         refine ⟨h.1, h.2, fun f hf => ?_⟩
         have := hx f hf
         simp only [EV.ren, EV.slice.injEq] at this
         simp only [EV.ren, this.1]
    case rsI k m g =>
     cases hl : ydq 0 lo with
     | none => rw [hl] at h; exact h.elim
     | some l =>
      cases hh : ydq m hi with
      | none => rw [hl, hh] at h; exact h.elim
      | some q =>
       rw [hl, hh] at h
       simp only at h ⊢
       rw [yac] at h ⊢
       exact ⟨h.1, h.2, fun _ _ => rfl⟩
    case nilSlice =>
     cases hl : ydq 0 lo with
     | none => rw [hl] at h; exact h.elim
     | some l =>
      cases hh : ydq 0 hi with
      | none => rw [hl, hh] at h; exact h.elim
      | some q =>
       rw [hl, hh] at h
       simp only at h ⊢
       rw [yac] at h ⊢
       exact ⟨h.1, h.2, fun _ _ => rfl⟩
   case array na e =>
    cases x <;> try simp only at h ⊢ <;> try exact h.elim
    rename_i b p
    cases p with
    | cons _ _ => exact h.elim
    | nil =>
     simp only at h ⊢
     cases hl : ydq 0 lo with
     | none => rw [hl] at h; exact h.elim
     | some l =>
      cases hh : ydq na hi with
      | none => rw [hl, hh] at h; exact h.elim
      | some q =>
       cases hb : H[b]? with
       | none => rw [hl, hh, hb] at h; exact h.elim
       | some oc =>
        cases oc with
        | none => rw [hl, hh, hb] at h; exact h.elim
        | some c =>
         rw [hl, hh, hb] at h
         cases c <;> simp only at h ⊢ <;> try exact h.elim
         rw [yac] at h ⊢
         refine ⟨h.1, h.2, fun f hf => ?_⟩
         have := hx f hf
         simp only [EV.ren, EV.ptr.injEq] at this
         simp only [EV.ren, this.1]
structure ClS (s : St) : Prop where
 tmps : ClL s.heap.length s.tmps
 heap : ClH s.heap.length s.heap
theorem ylP (hC : ya8 E) {s : St} (h : ClS s) (x : Operand) : Cl s.heap.length (St.opd E s x) := by
 cases x with
 | tmp t =>
  simp only [St.opd, St.slot]
  cases ht : s.tmps[t]? with
  | none => exact fun _ _ => rfl
  | some v => exact h.tmps v (List.mem_of_getElem? ht)
 | const v => exact fun f _ => yh0 v
 | global g =>
  simp only [St.opd]
  cases hg : E.gl g with
  | none => exact fun _ _ => rfl
  | some v => exact fun f _ => by simp only [EV.ren, ydz v (hC.gl g v hg)]
 | func g => exact fun _ _ => rfl
theorem yiq (hC : ya8 E) {s : St} (h : ClS s) (l : List Operand) : ClL s.heap.length (l.map (St.opd E s)) := by
 intro v hv
 obtain ⟨x, _, rfl⟩ := List.mem_map.1 hv
 exact ylP hC h x
theorem ynY (hC : ya8 E) {s : St} (h : ClS s) (l : List (Nat × Operand)) : ∀ p ∈ (l.map fun p => (p.1, St.opd E s p.2)), Cl s.heap.length p.2 := by
 intro p hp
 obtain ⟨x, _, rfl⟩ := List.mem_map.1 hp
 exact ylP hC h x.2
theorem yq4 (hC : ya8 E) {o : Op} {s : St} {K : EV → Prop} (h : ClS s) (hk : evV E o s K) : evV E o s fun u => K u ∧ Cl s.heap.length u := by
 have ho := ylP hC h
 unfold evV at hk ⊢
 split at hk
 ·exact ⟨hk, ho _⟩
 ·exact ⟨hk, ho _⟩
 ·rename_i c a b
  simp only
  cases hc : St.opd E s c <;> rw [hc] at hk <;> try exact hk.elim
  simp only at hk ⊢
  rw [yds] at hk ⊢
  exact ⟨fun e => ⟨hk.1 e, ho _⟩, fun e => ⟨hk.2 e, ho _⟩⟩
 ·rw [yac] at hk ⊢; exact ⟨hk.1, ymv hC (ynY hC h _) hk.2⟩
 ·exact ynm (ho _) h.heap hk
 ·rw [yac] at hk ⊢; exact ⟨hk.1, ypx (ho _) hk.2⟩
 ·exact yqb hk
 ·rw [yac] at hk ⊢; exact ⟨hk.1, yoG hk.2⟩
 ·rw [yac] at hk ⊢; exact ⟨hk.1, yhq (ho _) hk.2⟩
 ·rw [yac] at hk ⊢; exact ⟨hk.1, ymw (ho _) hk.2⟩
 ·rw [yac] at hk ⊢; exact ⟨hk.1, yhA (ho _) hk.2⟩
 ·rw [yac] at hk ⊢; exact ⟨hk.1, ymL (ho _) hk.2⟩
 ·exact yjQ (ho _) hk
 ·rename_i g cs
  rw [yac] at hk ⊢
  exact ⟨hk.1, hk.2, fun f hf => by simp only [EV.ren, yaU, ClL.ren (yiq hC h cs.toList) f hf]⟩
 ·rw [yac] at hk ⊢; exact ⟨hk.1, ymb (ho _) hk.2⟩
 ·rw [yac] at hk ⊢; exact ⟨hk.1, ypB hk.2⟩
 ·rw [yac] at hk ⊢; exact ⟨hk.1, yng (yiq hC h _) hk.2⟩
 ·rw [yac] at hk ⊢; exact ⟨hk.1, yng (yiq hC h _) hk.2⟩
 ·rw [yac] at hk ⊢; exact ⟨hk.1, yph (ho _) hk.2⟩
 ·rename_i g fs _
  rw [yac] at hk ⊢
  exact ⟨hk.1, hk.2, fun f hf => by simp only [EV.ren, yaU, ClL.ren (yiq hC h fs.toList) f hf]⟩
 ·exact hk.elim
theorem ClS.put {s : St} (h : ClS s) (d : Option Nat) {v : EV} {H : yaf} (hl : s.heap.length ≤ H.length) (hv : Cl H.length v) (hH : ClH H.length H) : ClS (s.put d v H) := by
 have ht : ClL H.length s.tmps := fun u hu => (h.tmps u hu).mono hl
 cases d with
 | none => exact ⟨ht, hH⟩
 | some d =>
  refine ⟨?_, hH⟩
  intro u hu
  simp only [St.put] at hu ⊢
  rcases List.mem_or_eq_of_mem_set hu with h1 | rfl
  ·exact ht u h1
  ·exact hv
mutual
theorem yhO {ρ : Ren} {w : World} {f : Nat → Nat} (hf : ∀ b, b < ρ.bs.length → f b = b) : ∀ (v : EV) (x : Value), Rel ρ w v x → v.ren f = v
 | .undef, _, hr => hr.elim
 | .bool _, _, _ => rfl
 | .int _ _, _, _ => rfl
 | .str _, _, _ => rfl
 | .nilPtr, _, _ => rfl
 | .nilSlice, _, _ => rfl
 | .nilFunc, _, _ => rfl
 | .arr _ _ _, _, _ => rfl
 | .nilIface, _, _ => rfl
 | .rsI _ _ _, _, _ => rfl
 | .ptr b p, x, hr => by
  simp only [Rel] at hr
  obtain ⟨a, _, r, h1, _⟩ := hr
  have : b < ρ.bs.length := by
   rcases Nat.lt_or_ge b ρ.bs.length with hh | hh
   ·exact hh
   ·rw [List.getElem?_eq_none hh] at h1; cases h1
  simp only [EV.ren, hf b this]
 | .slice b off len cap e, x, hr => by
  simp only [Rel] at hr
  obtain ⟨a, c, _, r, h1, _⟩ := hr
  have : b < ρ.bs.length := by
   rcases Nat.lt_or_ge b ρ.bs.length with hh | hh
   ·exact hh
   ·rw [List.getElem?_eq_none hh] at h1; cases h1
  simp only [EV.ren, hf b this]
 | .rref v, x, hr => by
  simp only [Rel] at hr
  obtain ⟨b, o, y, _, h2, _⟩ := hr
  simp only [EV.ren, yhO hf v y h2]
 | .func g cap, x, hr => by
  simp only [Rel] at hr
  obtain ⟨vs, _, h2⟩ := hr
  simp only [EV.ren, yiT hf cap _ h2]
 | .bnd g cap, x, hr => by
  simp only [Rel] at hr
  obtain ⟨vs, _, h2⟩ := hr
  simp only [EV.ren, yiT hf cap _ h2]
 | .agg l, x, hr => by
  simp only [Rel] at hr
  obtain ⟨vs, _, h2⟩ := hr
  simp only [EV.ren, yoI hf l _ h2]
 | .tuple l, x, hr => by
  simp only [Rel] at hr
  obtain ⟨vs, _, h2⟩ := hr
  simp only [EV.ren, yiT hf l _ h2]
 | .iface t v, x, hr => by
  simp only [Rel] at hr
  obtain ⟨y, _, h2⟩ := hr
  simp only [EV.ren, yhO hf v y h2]
theorem yiT {ρ : Ren} {w : World} {f : Nat → Nat} (hf : ∀ b, b < ρ.bs.length → f b = b) : ∀ (l : List EV) (xs : List Value), RelL ρ w l xs → EV.renL f l = l
 | [], _, _ => rfl
 | v :: l, xs, hr => by
  simp only [RelL] at hr
  obtain ⟨x, ys, _, h2, h3⟩ := hr
  simp only [EV.renL, yhO hf v x h2, yiT hf l ys h3]
theorem yoI {ρ : Ren} {w : World} {f : Nat → Nat} (hf : ∀ b, b < ρ.bs.length → f b = b) : ∀ (l : List EV) (xs : List Value), RelF ρ w l xs → EV.renL f l = l
 | [], _, _ => rfl
 | v :: l, xs, hr => by
  simp only [RelF] at hr
  obtain ⟨x, ys, _, h2, h3⟩ := hr
  simp only [EV.renL, yhO hf v x h2, yoI hf l ys h3]
end
theorem ClS.of {gl : Nat → Option EV} {ρ : Ren} {w : World} {s : St} {a : Array Value} (hT : RelT gl ρ w s.tmps a) (hS : Sim ρ s.heap w) : ClS s := by
 refine ⟨fun v hv f hf => ?_, fun b c hb f hf => ?_⟩
 ·obtain ⟨i, hi⟩ := List.mem_iff_getElem?.1 hv
  rcases hT.2.1 i v hi with rfl | ⟨x, _, hr⟩
  ·rfl
  ·exact yhO (fun b hb => hf b (by rw [← hS.len]; exact hb)) v x hr
 ·obtain ⟨r, _, _, cs, e, fz, x, _, _, h5, _⟩ := hS.live b c hb
  exact yhO (fun b hb => hf b (by rw [← hS.len]; exact hb)) c x h5
end clo
end Go.Ev
