/- The evaluator: operations, regions, code, calls; and that it is sound. -/
import Derived.Test.YtdnndfaojopnbaaEvSlice
set_option linter.unusedVariables false
set_option linter.unusedSimpArgs false
namespace Go.Ev
open Go

def EV.dfd : EV → Bool
  | .undef => false
  | .bool _ => true | .int _ _ => true | .str _ => true | .nilPtr => true | .ptr _ _ => true | .rref _ => true | .nilSlice => true | .slice _ _ _ _ _ => true
  | .rsI _ _ _ => true | .nilFunc => true | .func _ _ => true | .agg _ => true | .arr _ _ _ => true | .tuple _ => true | .nilIface => true | .iface _ _ => true
def dfdL : List EV → Bool
  | [] => true
  | v :: l => v.dfd && dfdL l
theorem dfd_ne {v : EV} (h : v.dfd = true) : v ≠ .undef := by intro e; subst e; cases h
theorem dfdL_ne : ∀ {l : List EV}, dfdL l = true → ∀ v ∈ l, v ≠ .undef
  | v :: l, h, u, hu => by
    simp only [dfdL, Bool.and_eq_true] at h
    rcases List.mem_cons.1 hu with rfl | hu
    · exact dfd_ne h.1
    · exact dfdL_ne h.2 u hu

/-- Operations that leave memory as it is. -/
def evV (E : Env) (o : Op) (s : St) (K : EV → Prop) : Prop :=
  match o with
  | .move x => K (s.opd x)
  | .assign x => K (s.opd x)
  | .pick c a b => match s.opd c with
    | .bool t => br t (K (s.opd a)) (K (s.opd b))
    | _ => False
  | .build t ps => gd (dfdL (ps.toList.map fun p => s.opd p.2)) (evBuild E t (ps.toList.map fun p => (p.1, s.opd p.2)) K)
  | .load t a => evLoad E t (s.opd a) s.heap K
  | .binOp op t x y _ => gd ((s.opd x).dfd && (s.opd y).dfd) (evBin E op t (s.opd x) (s.opd y) K)
  | .unOp op _ x => evUn op (s.opd x) K
  | .convert src dst x => gd (s.opd x).dfd (evConv E src dst (s.opd x) s.heap K)
  | .fieldAddr t x f => gd (s.opd x).dfd (evFieldAddr E t (s.opd x) f s.heap K)
  | .field t x f => gd (s.opd x).dfd (evField E t (s.opd x) f K)
  | .indexAddr t x i => gd ((s.opd x).dfd && (s.opd i).dfd) (evIndexAddr E t (s.opd x) (s.opd i) s.heap K)
  | .index t x i => gd ((s.opd x).dfd && (s.opd i).dfd) (evIndex E t (s.opd x) (s.opd i) K)
  | .extract x i => evExtract (s.opd x) i K
  | .makeFunc (.func f) ⟨[]⟩ cs => gd (dfdL (cs.toList.map s.opd)) (K (.func f (cs.toList.map s.opd)))
  | .call { callee := .builtin .len, args := ⟨[x]⟩, argTypes := ⟨[t]⟩ } => gd (s.opd x).dfd (evLen E t (s.opd x) K)
  | .call { callee := .builtin .max, args := xs, argTypes := _ } => gd (dfdL (xs.toList.map s.opd)) (evMM maxI (xs.toList.map s.opd) K)
  | .call { callee := .builtin .min, args := xs, argTypes := _ } => gd (dfdL (xs.toList.map s.opd)) (evMM minI (xs.toList.map s.opd) K)
  | _ => False

mutual
/-- No place of another memory in it. -/
def EV.free : EV → Bool
  | .ptr _ _ => false
  | .slice _ _ _ _ _ => false
  | .rref _ => false
  | .undef => false
  | .rsI _ _ _ => true
  | .bool _ => true | .int _ _ => true | .str _ => true | .nilPtr => true | .nilSlice => true | .nilFunc => true | .arr _ _ _ => true | .nilIface => true
  | .agg l => EV.freeL l
  | .tuple l => EV.freeL l
  | .func _ l => EV.freeL l
  | .iface _ v => v.free
def EV.freeL : List EV → Bool
  | [] => true
  | v :: l => v.free && EV.freeL l
end

mutual
/-- No row that is read only in it. -/
def EV.noRS : EV → Bool
  | .rref _ => false
  | .rsI _ _ _ => false
  | .ptr _ _ => true | .slice _ _ _ _ _ => true | .undef => true
  | .bool _ => true | .int _ _ => true | .str _ => true | .nilPtr => true | .nilSlice => true | .nilFunc => true | .arr _ _ _ => true | .nilIface => true
  | .agg l => EV.noRSL l
  | .tuple l => EV.noRSL l
  | .func _ l => EV.noRSL l
  | .iface _ v => v.noRS
def EV.noRSL : List EV → Bool
  | [] => true
  | v :: l => v.noRS && EV.noRSL l
end

/-- An argument as the callee takes it: a slice is read only. -/
def roArg (H : Heap) : Option IntKind → EV → EV
  | some k, .nilSlice => .rsI k 0 (fun _ => 0)
  | some k, .slice b off len _ _ => match H[b]? with
    | some (some (.arr k' _ g)) => cond (decide (k = k')) (.rsI k len (shift off g)) .undef
    | _ => .undef
  | _, v => v
def roArgs (H : Heap) : List (Option IntKind) → List EV → List EV
  | m :: ms, v :: vs => roArg H m v :: roArgs H ms vs
  | _, vs => vs
/-- The rows that were handed over are given up. -/
def killArgs : List EV → Heap → Heap
  | [], H => H
  | .slice b _ _ _ _ :: vs, H => killArgs vs (H.set b none)
  | _ :: vs, H => killArgs vs H

/-- A call of a function whose arguments and results are plain values, or slices that are only read. -/
def evCall (E : Env) (f : EV) (args : List EV) (H : Heap) (K : EV → Heap → Prop) : Prop :=
  match f with
  | .func f cap => match E.fn f with
    | some en => gd (EV.freeL (roArgs H en.ro (args ++ cap))) (en.spec (roArgs H en.ro (args ++ cap)) (fun v => cond v.noRS (K v H) (K v (killArgs (args ++ cap) H))))
    | none => False
  | _ => False

def evOp (E : Env) (o : Op) (s : St) (K : EV → Heap → Prop) : Prop :=
  match o with
  | .alloc t => match E.ty t with
    | some ti => evNew s.heap ti.zero K
    | none => False
  | .box t x => match s.opd x with
    | .undef => False
    | v => evNew s.heap v K
  | .buildSlice t n ps => gd (dfdL (ps.toList.map fun p => s.opd p.2)) (evBuildSlice E t n (ps.toList.map fun p => (p.1, s.opd p.2)) s.heap K)
  | .store t a x => evStore E t (s.opd a) (s.opd x) s.heap (fun H => K .undef H)
  | .call { callee := .value f, args := xs, argTypes := _ } => evCall E (s.opd f) (xs.toList.map s.opd) s.heap K
  | o => evV E o s (fun v => K v s.heap)


section sound
variable {P : Program} {E : Env}

def SoundF (P : Program) (f : FuncId) (en : Entry) : Prop :=
  ∀ (F : List Nat) (w : World) (args : List EV) (xs : List Value) (K : EV → Prop), en.spec args K → RelL ⟨F, []⟩ w args xs → (∀ b, b ∈ F → b < w.heap.size) →
    Calls P f xs.toArray w fun e w' => ∃ v x, e = .returned x ∧ K v ∧ Rel ⟨F, []⟩ w' v x ∧ Ext ⟨F, []⟩ w ⟨F, []⟩ w'

mutual
theorem Rel.toFree {ρ ρ' : Ren} {w : World} (hm : ∀ b, b ∈ ρ'.mbs → b ∈ ρ.mbs) : ∀ (v : EV) (x : Value), v.free = true → Rel ρ w v x → Rel ρ' w v x
  | .undef, _, _, hr => hr.elim
  | .bool _, _, _, hr => hr
  | .int _ _, _, _, hr => hr
  | .str _, _, _, hr => hr
  | .nilPtr, _, _, hr => hr
  | .ptr _ _, _, h, _ => by simp [EV.free] at h
  | .rref _, _, h, _ => by simp [EV.free] at h
  | .nilSlice, _, _, hr => hr
  | .slice _ _ _ _ _, _, h, _ => by simp [EV.free] at h
  | .rsI k n g, x, _, hr => by
    simp only [Rel] at hr ⊢
    obtain ⟨a, c, h1, h2, h3⟩ := hr
    refine ⟨a, c, h1, h2, h3.imp id ?_⟩
    rintro ⟨b, o, h4, h5, h6, h7⟩
    exact ⟨b, o, h4, h5, fun h => h6 (hm b h), h7⟩
  | .nilFunc, _, _, hr => hr
  | .func f cap, x, h, hr => by
    simp only [Rel] at hr ⊢
    obtain ⟨vs, h1, h2⟩ := hr
    exact ⟨vs, h1, RelL.toFree hm cap _ (by simpa [EV.free] using h) h2⟩
  | .agg l, x, h, hr => by
    simp only [Rel] at hr ⊢
    obtain ⟨cs, h1, h2⟩ := hr
    exact ⟨cs, h1, RelF.toFree hm l _ (by simpa [EV.free] using h) h2⟩
  | .arr _ _ _, _, _, hr => hr
  | .tuple l, x, h, hr => by
    simp only [Rel] at hr ⊢
    obtain ⟨vs, h1, h2⟩ := hr
    exact ⟨vs, h1, RelL.toFree hm l _ (by simpa [EV.free] using h) h2⟩
  | .nilIface, _, _, hr => hr
  | .iface t v, x, h, hr => by
    simp only [Rel] at hr ⊢
    obtain ⟨y, h1, h2⟩ := hr
    exact ⟨y, h1, Rel.toFree hm v y (by simpa [EV.free] using h) h2⟩
theorem RelL.toFree {ρ ρ' : Ren} {w : World} (hm : ∀ b, b ∈ ρ'.mbs → b ∈ ρ.mbs) : ∀ (l : List EV) (xs : List Value), EV.freeL l = true → RelL ρ w l xs → RelL ρ' w l xs
  | [], _, _, hr => hr
  | v :: l, xs, h, hr => by
    simp only [EV.freeL, Bool.and_eq_true] at h
    simp only [RelL] at hr ⊢
    obtain ⟨x, ys, h1, h2, h3⟩ := hr
    exact ⟨x, ys, h1, Rel.toFree hm v x h.1 h2, RelL.toFree hm l ys h.2 h3⟩
theorem RelF.toFree {ρ ρ' : Ren} {w : World} (hm : ∀ b, b ∈ ρ'.mbs → b ∈ ρ.mbs) : ∀ (l : List EV) (xs : List Value), EV.freeL l = true → RelF ρ w l xs → RelF ρ' w l xs
  | [], _, _, hr => hr
  | v :: l, xs, h, hr => by
    simp only [EV.freeL, Bool.and_eq_true] at h
    simp only [RelF] at hr ⊢
    obtain ⟨x, ys, h1, h2, h3⟩ := hr
    exact ⟨x, ys, h1, Rel.toFree hm v x h.1 h2, RelF.toFree hm l ys h.2 h3⟩
end

mutual
/-- Of what a call hands back (no place of ours is in it). -/
theorem Rel.ofFree {F : List Nat} {ρ : Ren} {w : World} : ∀ (v : EV) (x : Value), (v.noRS = true ∨ ∀ b, b ∈ ρ.mbs → b ∈ F) → Rel ⟨F, []⟩ w v x → Rel ρ w v x
  | .undef, _, _, hr => hr.elim
  | .bool _, _, _, hr => hr
  | .int _ _, _, _, hr => hr
  | .str _, _, _, hr => hr
  | .nilPtr, _, _, hr => hr
  | .ptr _ _, _, _, hr => by simp only [Rel] at hr; obtain ⟨_, _, _, h, _⟩ := hr; simp at h
  | .rref v, x, h, hr => by
    simp only [Rel] at hr ⊢
    obtain ⟨b, o, y, h1, h2, h3, h4, h5⟩ := hr
    rcases h with h | h
    · simp [EV.noRS] at h
    · exact ⟨b, o, y, h1, Rel.ofFree v y (.inr h) h2, h3, fun hb => h4 (List.mem_append.2 (.inl (h b hb))), h5⟩
  | .nilSlice, _, _, hr => hr
  | .slice _ _ _ _ _, _, _, hr => by simp only [Rel] at hr; obtain ⟨_, _, _, _, h, _⟩ := hr; simp at h
  | .rsI k n g, x, h, hr => by
    simp only [Rel] at hr ⊢
    obtain ⟨a, c, h1, h2, h3⟩ := hr
    rcases h with h | h
    · simp [EV.noRS] at h
    · refine ⟨a, c, h1, h2, h3.imp id ?_⟩
      rintro ⟨b, o, h4, h5, h6, h7⟩
      exact ⟨b, o, h4, h5, fun hb => h6 (List.mem_append.2 (.inl (h b hb))), h7⟩
  | .nilFunc, _, _, hr => hr
  | .func f cap, x, h, hr => by
    simp only [Rel] at hr ⊢
    obtain ⟨vs, h1, h2⟩ := hr
    exact ⟨vs, h1, RelL.ofFree cap _ (h.imp (by simp [EV.noRS]) id) h2⟩
  | .agg l, x, h, hr => by
    simp only [Rel] at hr ⊢
    obtain ⟨cs, h1, h2⟩ := hr
    exact ⟨cs, h1, RelF.ofFree l _ (h.imp (by simp [EV.noRS]) id) h2⟩
  | .arr _ _ _, _, _, hr => hr
  | .tuple l, x, h, hr => by
    simp only [Rel] at hr ⊢
    obtain ⟨vs, h1, h2⟩ := hr
    exact ⟨vs, h1, RelL.ofFree l _ (h.imp (by simp [EV.noRS]) id) h2⟩
  | .nilIface, _, _, hr => hr
  | .iface t v, x, h, hr => by
    simp only [Rel] at hr ⊢
    obtain ⟨y, h1, h2⟩ := hr
    exact ⟨y, h1, Rel.ofFree v y (h.imp (by simp [EV.noRS]) id) h2⟩
theorem RelL.ofFree {F : List Nat} {ρ : Ren} {w : World} : ∀ (l : List EV) (xs : List Value), (EV.noRSL l = true ∨ ∀ b, b ∈ ρ.mbs → b ∈ F) → RelL ⟨F, []⟩ w l xs → RelL ρ w l xs
  | [], _, _, hr => hr
  | v :: l, xs, h, hr => by
    simp only [RelL] at hr ⊢
    obtain ⟨x, ys, h1, h2, h3⟩ := hr
    refine ⟨x, ys, h1, Rel.ofFree v x (h.imp ?_ id) h2, RelL.ofFree l ys (h.imp ?_ id) h3⟩ <;> simp +contextual [EV.noRSL]
theorem RelF.ofFree {F : List Nat} {ρ : Ren} {w : World} : ∀ (l : List EV) (xs : List Value), (EV.noRSL l = true ∨ ∀ b, b ∈ ρ.mbs → b ∈ F) → RelF ⟨F, []⟩ w l xs → RelF ρ w l xs
  | [], _, _, hr => hr
  | v :: l, xs, h, hr => by
    simp only [RelF] at hr ⊢
    obtain ⟨x, ys, h1, h2, h3⟩ := hr
    refine ⟨x, ys, h1, Rel.ofFree v x (h.imp ?_ id) h2, RelF.ofFree l ys (h.imp ?_ id) h3⟩ <;> simp +contextual [EV.noRSL]
end

/-- A call that leaves all that was as it was. -/
theorem Ext.quiet {F : List Nat} {ρ : Ren} {w w' : World} (h : Ext ⟨F, []⟩ w ⟨F, []⟩ w') : Ext ρ w ρ w' :=
  ⟨h.os, h.tape, h.output, h.size, fun b hb _ => h.out b hb (by simp [Ren.own]), fun _ _ h => h, fun _ _ h => h, fun _ _ h => .inl h, h.row⟩

theorem Sim.quiet {F : List Nat} {ρ : Ren} {H : Heap} {w w' : World} (hS : Sim ρ H w) (h : Ext ⟨F, []⟩ w ⟨F, []⟩ w') : Sim ρ H w' := by
  have hE : Ext ρ w ρ w' := h.quiet
  refine ⟨hS.len, fun b hb => Nat.lt_of_lt_of_le (hS.fl b hb) h.size, fun b r hb => Nat.lt_of_lt_of_le (hS.lt b r hb) h.size, hS.sep, hS.nodup, ?_⟩
  intro b v hb
  obtain ⟨r, h1, h2, cs, e, fz, x, h3, h4, h5, h6, h7⟩ := hS.live b v hb
  have heq := h.out r.mb (hS.lt b r h1) (by simp [Ren.own])
  exact ⟨r, h1, h2, cs, e, fz, x, heq.trans h3, h4, Rel.ext hE _ _ h5, h6, h7.keep heq⟩

/-- A block is given up. -/
def Ren.kill (ρ : Ren) (b : Nat) : Ren := { ρ with bs := ρ.bs.set b none }

theorem kill_own {ρ : Ren} {b m : Nat} (h : m ∈ (ρ.kill b).own) : m ∈ ρ.own := by
  obtain ⟨c, r, h1, h2⟩ := own_mem h
  simp only [Ren.kill] at h1
  by_cases hc : c = b
  · subst hc
    rw [List.getElem?_set] at h1
    simp at h1
  · rw [map_some_ne _ _ _ _ hc] at h1
    exact h2 ▸ mem_own h1

theorem kill_mbs {ρ : Ren} {b m : Nat} (h : m ∈ (ρ.kill b).mbs) : m ∈ ρ.mbs := by
  rcases List.mem_append.1 h with h | h
  · exact List.mem_append.2 (.inl h)
  · exact own_mbs (kill_own h)

theorem Ext.kill (ρ : Ren) (w : World) (b : Nat) : Ext ρ w (ρ.kill b) w :=
  ⟨rfl, rfl, rfl, Nat.le_refl _, fun _ _ _ => rfl, fun c _ h hm => h (kill_mbs hm), fun c _ h hm => h (kill_own hm), fun c r hc => by
    by_cases hcb : c = b
    · subst hcb
      refine .inr ?_
      simp only [Ren.kill]
      have hlt : c < ρ.bs.length := by
        rcases Nat.lt_or_ge c ρ.bs.length with hh | hh
        · exact hh
        · rw [List.getElem?_eq_none hh] at hc; cases hc
      rw [List.getElem?_set_self hlt]
    · exact .inl (by simp only [Ren.kill]; rw [map_some_ne _ _ _ _ hcb]; exact hc),
   fun _ cs e fz h => ⟨cs, e, fz, h, rfl⟩⟩

theorem Sim.kill {ρ : Ren} {H : Heap} {w : World} (hS : Sim ρ H w) (b : Nat) : Sim (ρ.kill b) (H.set b none) w := by
  have hk : ∀ (c : Nat) r, (ρ.kill b).bs[c]? = some (some r) → ρ.bs[c]? = some (some r) := by
    intro c r h1
    simp only [Ren.kill] at h1
    by_cases hc : c = b
    · subst hc
      rw [List.getElem?_set] at h1
      simp at h1
    · rw [map_some_ne _ _ _ _ hc] at h1; exact h1
  refine ⟨by simp [Ren.kill, hS.len], hS.fl, fun c r hc => hS.lt c r (hk c r hc), fun c r hc => hS.sep c r (hk c r hc), fun c d r s hc hd => hS.nodup c d r s (hk c r hc) (hk d s hd), ?_⟩
  intro c v hc
  by_cases hcb : c = b
  · subst hcb
    rw [List.getElem?_set] at hc
    simp at hc
  · rw [map_some_ne _ _ _ _ hcb] at hc
    obtain ⟨r, h1, h2, cs, e, fz, x, h3, h4, h5, h6, h7⟩ := hS.live c v hc
    exact ⟨r, by simp only [Ren.kill]; rw [map_some_ne _ _ _ _ hcb]; exact h1, h2, cs, e, fz, x, h3, h4, Rel.ext (Ext.kill ρ w b) _ _ h5, h6, h7⟩

def Ren.kills : List EV → Ren → Ren
  | [], ρ => ρ
  | .slice b _ _ _ _ :: vs, ρ => Ren.kills vs (ρ.kill b)
  | _ :: vs, ρ => Ren.kills vs ρ

theorem kills_spec : ∀ (vs : List EV) (ρ : Ren) (H : Heap) (w : World), Sim ρ H w →
    Sim (Ren.kills vs ρ) (killArgs vs H) w ∧ Ext ρ w (Ren.kills vs ρ) w ∧ (∀ m, m ∈ (Ren.kills vs ρ).mbs → m ∈ ρ.mbs) ∧ (Ren.kills vs ρ).F = ρ.F
  | [], ρ, H, w, hS => ⟨hS, Ext.refl _ _, fun _ h => h, rfl⟩
  | v :: vs, ρ, H, w, hS => by
    cases v
    case slice b off len cap e =>
      simp only [Ren.kills, killArgs]
      obtain ⟨h1, h2, h3, h4⟩ := kills_spec vs (ρ.kill b) (H.set b none) w (hS.kill b)
      exact ⟨h1, (Ext.kill ρ w b).trans h2, fun m hm => kill_mbs (h3 m hm), h4⟩
    all_goals exact kills_spec vs ρ H w hS

theorem kills_dead : ∀ (vs : List EV) (ρ : Ren) (H : Heap) (w : World), Sim ρ H w → ∀ b off len cap e, EV.slice b off len cap e ∈ vs → ∀ r, ρ.bs[b]? = some (some r) → r.mb ∉ (Ren.kills vs ρ).own
  | v :: vs, ρ, H, w, hS, b, off, len, cap, e, hm, r, hr => by
    rcases List.mem_cons.1 hm with hm' | hm'
    · subst hm'
      simp only [Ren.kills]
      intro hin
      have hin' : r.mb ∈ (ρ.kill b).own := by
        have := (kills_spec vs (ρ.kill b) (H.set b none) w (hS.kill b)).2.1.newOwn r.mb (hS.lt b r hr)
        exact Classical.byContradiction fun h => this h hin
      obtain ⟨c, s, h1, h2⟩ := own_mem hin'
      simp only [Ren.kill] at h1
      by_cases hc : c = b
      · subst hc
        rw [List.getElem?_set] at h1
        simp at h1
      · rw [map_some_ne _ _ _ _ hc] at h1
        exact hc (hS.nodup c b s r h1 hr h2)
    · cases v
      case slice b' off' len' cap' e' =>
        simp only [Ren.kills]
        by_cases hbb : b = b'
        · subst hbb
          intro hin
          have hin' : r.mb ∈ (ρ.kill b).own := by
            have := (kills_spec vs (ρ.kill b) (H.set b none) w (hS.kill b)).2.1.newOwn r.mb (hS.lt b r hr)
            exact Classical.byContradiction fun h => this h hin
          obtain ⟨c, s, h1, h2⟩ := own_mem hin'
          simp only [Ren.kill] at h1
          by_cases hc : c = b
          · subst hc
            rw [List.getElem?_set] at h1
            simp at h1
          · rw [map_some_ne _ _ _ _ hc] at h1
            exact hc (hS.nodup c b s r h1 hr h2)
        · exact kills_dead vs (ρ.kill b') (H.set b' none) w (hS.kill b') b off len cap e hm' r (by simp only [Ren.kill]; rw [map_some_ne _ _ _ _ hbb]; exact hr)
      all_goals exact kills_dead vs ρ H w hS b off len cap e hm' r hr

theorem roArg_rel {ρ : Ren} {H : Heap} {w : World} {F : List Nat} (hS : Sim ρ H w) (hF : ∀ b, b ∈ F → b ∈ ρ.mbs) {m : Option IntKind} {v : EV} {x : Value}
    (hd : ∀ b off len cap e, v = EV.slice b off len cap e → ∀ r, ρ.bs[b]? = some (some r) → r.mb ∉ F) (hf : (roArg H m v).free = true) (hr : Rel ρ w v x) : Rel ⟨F, []⟩ w (roArg H m v) x := by
  have hmb : ∀ b, b ∈ (⟨F, []⟩ : Ren).mbs → b ∈ ρ.mbs := by
    intro b hb
    rcases List.mem_append.1 hb with hb | hb
    · exact hF b hb
    · simp [Ren.own] at hb
  unfold roArg at hf ⊢
  split at hf
  · rename_i k
    simp only [Rel] at hr ⊢; subst hr
    exact ⟨none, 0, rfl, Nat.le_refl _, by simp⟩
  · rename_i k b off len cap e
    split at hf
    · rename_i k' n' g hb
      by_cases hk : k = k'
      · subst hk
        simp only [hb, decide_true, cond_true] at hf ⊢
        simp only [Rel] at hr
        obtain ⟨a, c, rfl, r, hr', hi⟩ := hr
        obtain ⟨r', h1, h2, cs, e', fz, x, h3, h4, h5, h6, h7⟩ := hS.live b _ hb
        rw [h1] at hr'; cases hr'
        obtain ⟨n, h8, h9, h10, h11, h12⟩ := hi r' rfl
        simp only [Rel]
        refine ⟨a, c, rfl, h10, ?_⟩
        rcases h12 with ⟨h12, _⟩ | ⟨h12, _⟩
        · have hsh : r'.sh = .row n' := by rw [← h2]; rfl
          have he : e = 1 ∧ n = n' := by
            rcases h8 with ⟨h8, h13⟩ | ⟨l, h8, _⟩
            · rw [hsh] at h8; cases h8; exact ⟨h13, rfl⟩
            · rw [hsh] at h8; cases h8
          obtain ⟨rfl, rfl⟩ := he
          have hnF : r'.mb ∉ (⟨F, []⟩ : Ren).mbs := by
            intro hb'
            rcases List.mem_append.1 hb' with hb' | hb'
            · exact hd b off len cap 1 rfl r' h1 hb'
            · simp [Ren.own] at hb'
          refine .inr ⟨_, _, h12, hS.lt b r' h1, hnF, ?_⟩
          simp only [Rel] at h5; subst h5
          have := h7.sub off len
          simp only [cells_agg] at this
          intro i hi
          simp only [ints_length] at hi
          have h14 := this i (by simp [ints_length]; omega)
          rw [Nat.mul_one, h14, List.getElem?_take_of_lt hi, List.getElem?_drop, ints_get _ _ _ _ (by omega), ints_get _ _ _ _ hi, shift_apply]
        · exact .inl h12
      · simp [hk, EV.free] at hf
    · simp [EV.free] at hf
  · exact Rel.toFree hmb _ _ hf hr

theorem roArgs_rel {ρ : Ren} {H : Heap} {w : World} {F : List Nat} (hS : Sim ρ H w) (hF : ∀ b, b ∈ F → b ∈ ρ.mbs) : ∀ (ms : List (Option IntKind)) (vs : List EV) (xs : List Value),
    (∀ b off len cap e, EV.slice b off len cap e ∈ vs → ∀ r, ρ.bs[b]? = some (some r) → r.mb ∉ F) → EV.freeL (roArgs H ms vs) = true → RelL ρ w vs xs → RelL ⟨F, []⟩ w (roArgs H ms vs) xs
  | m :: ms, v :: vs, xs, hd, hf, hr => by
    simp only [roArgs, EV.freeL, Bool.and_eq_true] at hf ⊢
    simp only [RelL] at hr ⊢
    obtain ⟨x, ys, rfl, h1, h2⟩ := hr
    exact ⟨x, ys, rfl, roArg_rel hS hF (fun b off len cap e he => hd b off len cap e (by rw [← he]; exact List.mem_cons_self)) hf.1 h1,
      roArgs_rel hS hF ms vs ys (fun b off len cap e he => hd b off len cap e (List.mem_cons_of_mem _ he)) hf.2 h2⟩
  | [], vs, xs, hd, hf, hr => by
    have hmb : ∀ b, b ∈ (⟨F, []⟩ : Ren).mbs → b ∈ ρ.mbs := by
      intro b hb
      rcases List.mem_append.1 hb with hb | hb
      · exact hF b hb
      · simp [Ren.own] at hb
    cases vs <;> exact RelL.toFree hmb _ _ hf hr
  | _ :: _, [], xs, hd, hf, hr => by
    simp only [roArgs, RelL] at hr ⊢; exact hr

theorem RelL.append {ρ : Ren} {w : World} : ∀ {l r : List EV} {xs ys : List Value}, RelL ρ w l xs → RelL ρ w r ys → RelL ρ w (l ++ r) (xs ++ ys)
  | [], r, xs, ys, h1, h2 => by simp only [RelL] at h1; subst h1; exact h2
  | v :: l, r, xs, ys, h1, h2 => by
    simp only [RelL] at h1
    obtain ⟨x, zs, rfl, h3, h4⟩ := h1
    simp only [List.cons_append, RelL]
    exact ⟨x, zs ++ ys, rfl, h3, h4.append h2⟩

/-- What is asked of the callees that are known. -/
def OkFn (P : Program) (E : Env) : Prop :=
  ∀ f en, E.fn f = some en → SoundF P f en ∧ ∃ fn, P.funcs[f]? = some fn ∧ fn.body.isNone = false ∧ (fn.name == "runtime.NumGoroutine") = false

theorem evCall_sound {ρ : Ren} {w : World} {H : Heap} {fv : EV} {Fv : Value} {args : List EV} {xs : Array Value} {K : EV → Heap → Prop} (hFn : OkFn P E) (hS : Sim ρ H w)
    (hf : Rel ρ w fv Fv) (hr : RelL ρ w args xs.toList) (h : evCall E fv args H K) :
    ∃ f ys, (do let d ← Deferred.ofValue Fv xs; invoke d.target d.args : Sem Next).run P w = .ok (.enter f ys) w ∧
      Calls P f ys w fun e w' => ∃ v x H' ρ', e = .returned x ∧ K v H' ∧ Sim ρ' H' w' ∧ Ext ρ w ρ' w' ∧ ρ'.F = ρ.F ∧ Rel ρ' w' v x := by
  unfold evCall at h
  split at h
  · rename_i f cap
    split at h
    · rename_i en he
      rw [gd_iff] at h
      obtain ⟨hfree, h⟩ := h
      simp only [Rel] at hf
      obtain ⟨vs, rfl, hcap⟩ := hf
      obtain ⟨hs, fn, hfn, hb, hn⟩ := hFn f en he
      refine ⟨f, xs ++ vs, ?_, ?_⟩
      · simp only [Deferred.ofValue, run_bind, run_pure, invoke, callFunc, run_program, hfn]
        rw [hn, hb]
        simp only [Bool.false_eq_true, if_false, run_pure]
        simp
      · obtain ⟨k1, k2, k3, k4⟩ := kills_spec (args ++ cap) ρ H w hS
        have hrel := roArgs_rel (F := (Ren.kills (args ++ cap) ρ).mbs) hS k3 en.ro (args ++ cap) (xs.toList ++ vs.toList) (by
          intro b off len cap' e hm r hr' hin
          rcases List.mem_append.1 hin with hin | hin
          · rw [k4] at hin; exact hS.sep b r hr' hin
          · exact kills_dead (args ++ cap) ρ H w hS b off len cap' e hm r hr' hin) hfree (hr.append hcap)
        have hlt : ∀ b, b ∈ (Ren.kills (args ++ cap) ρ).mbs → b < w.heap.size := by
          intro b hb'
          rcases List.mem_append.1 hb' with hb' | hb'
          · exact k1.fl b hb'
          · obtain ⟨c, r, g1, g2⟩ := own_mem hb'
            exact g2 ▸ k1.lt c r g1
        have hc := hs _ w _ _ _ h hrel hlt
        rw [show (xs ++ vs) = (xs.toList ++ vs.toList).toArray from by simp]
        refine hc.mono ?_
        rintro e w' ⟨v, x, rfl, hK, hv, hE⟩
        rw [cd_iff] at hK
        cases hrs : v.noRS with
        | true =>
          exact ⟨v, x, H, ρ, rfl, hK.1 hrs, hS.quiet hE, hE.quiet, rfl, Rel.ofFree v x (.inl hrs) hv⟩
        | false =>
          refine ⟨v, x, _, _, rfl, hK.2 hrs, k1.quiet hE, k2.trans hE.quiet, k4, Rel.ofFree v x (.inr fun b hb => hb) hv⟩
    · exact h.elim
  · exact h.elim
end sound
end Go.Ev
