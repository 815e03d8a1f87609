/- The evaluator: code and functions. -/
import Derived.Test.YtcbhglgbjcbegaaDoorEvC
import Derived.LoopN
import Derived.Scope
import Derived.Below
import Derived.DataShut
import Derived.OpenShut
import Derived.ChangeArms
import Derived.FnData
import Derived.Lib.LaidTab
import Derived.Lib.SmallJoins
set_option linter.unusedVariables false
set_option linter.unusedSimpArgs false
namespace Go.Ev
open Go
def Ex.out : Ex → Exit
  | .normal => .normal
  | .exit id => .exit id
  | .ret => .ret
def firstRegion : Code → Nat
  | .region id _ _ => id
  | .seq a _ => firstRegion a
  | .block _ c => firstRegion c
  | .loop c => firstRegion c
  | .scope c => firstRegion c
  | _ => 0
def cleanL (keep : Nat) : Nat → List EV → List EV
  | _, [] => []
  | i, v :: l => cond (Nat.testBit keep i) v .undef :: cleanL keep (i + 1) l
def pickM (keep : Nat) : Nat → List EV → List EV
  | _, [] => []
  | i, v :: l => cond (Nat.testBit keep i) (v :: pickM keep (i + 1) l) (pickM keep (i + 1) l)
def expandM (keep : Nat) : Nat → Nat → List EV → List EV
  | 0, _, _ => []
  | N + 1, i, vs => cond (Nat.testBit keep i) (match vs with
    | v :: vs => v :: expandM keep N (i + 1) vs
    | [] => .undef :: expandM keep N (i + 1) []) (.undef :: expandM keep N (i + 1) vs)
theorem expand_pick (keep : Nat) : ∀ (l : List EV) (i : Nat), expandM keep l.length i (pickM keep i l) = cleanL keep i l
  | [], _ => rfl
  | v :: l, i => by
    simp only [List.length_cons, expandM, pickM, cleanL]
    cases Nat.testBit keep i with
    | true => simp only [cond_true, expand_pick keep l (i + 1)]
    | false => simp only [cond_false, expand_pick keep l (i + 1)]
def goK (idx : List Nat) (vs : List EV) (H : Heap) (K : List EV → Heap → Prop) : Prop :=
  gd (EV.inIL idx vs && inIH idx H idx) (K (EV.renL (pos idx) vs) (subH H idx))
def outK0 (keep nl N : Nat) (s : St) (K : List EV → Heap → Prop) : Prop :=
  gd (Nat.beq s.tmps.length N) (goK (canI nl (pickM keep 0 s.tmps) s.heap) (pickM keep 0 s.tmps) s.heap K)
def EV.fgt : EV → EV
  | .slice b o l _ e => .slice b o l none e
  | .undef => .undef | .bool b => .bool b | .int k n => .int k n | .str s => .str s | .nilPtr => .nilPtr | .ptr b p => .ptr b p | .rref v => .rref v
  | .nilSlice => .nilSlice | .rsI k n g => .rsI k n g | .nilFunc => .nilFunc | .func f l => .func f l | .bnd f l => .bnd f l | .agg l => .agg l | .arr k n g => .arr k n g
  | .tuple l => .tuple l | .nilIface => .nilIface | .iface t v => .iface t v | .rsT n s g => .rsT n s g | .arrT n s g => .arrT n s g
def St.fgt (s : St) : Bool → St
  | false => s
  | true => { tmps := s.tmps.map EV.fgt, heap := s.heap }
def outK (fg : Bool) (keep nl N : Nat) (s : St) (K : List EV → Heap → Prop) : Prop := outK0 keep nl N (s.fgt fg) K
def lookL : List (Nat × Nat) → Nat → Nat
  | [], _ => 0
  | (i, m) :: l, j => cond (Nat.beq i j) m (lookL l j)
def bitOf : Operand → Nat
  | .tmp t => Nat.shiftLeft 1 t
  | _ => 0
def bitsOf : List Operand → Nat
  | [] => 0
  | x :: l => Nat.lor (bitOf x) (bitsOf l)
def dropBit (m : Nat) : Option Nat → Nat
  | some d => cond (Nat.testBit m d) (Nat.sub m (Nat.shiftLeft 1 d)) m
  | none => m
def usesOf : Op → Nat
  | .build _ ps => bitsOf (ps.toList.map (·.2))
  | .buildSlice _ _ ps => bitsOf (ps.toList.map (·.2))
  | o => bitsOf o.operands.toList
def liveOps (ops : List Oper) : List Oper → Nat → Nat
  | [], m => m
  | o :: r, m => Nat.lor (dropBit (liveOps ops r m) o.dst) (Nat.lor (usesOf o.op) (match o.guard with
    | some (j, _) => match ops[j]? with
      | some oj => match oj.dst with
        | some d => Nat.shiftLeft 1 d
        | none => 0
      | none => 0
    | none => 0))
def live : Code → LV → Nat
  | .skip, lv => lv.nx
  | .region _ ops _, lv => liveOps ops.toList ops.toList lv.nx
  | .seq a b, lv => live a { lv with nx := live b lv }
  | .cond c a b, lv => Nat.lor (bitOf c) (Nat.lor (live a lv) (live b lv))
  | .block id c, lv => live c { lv with ex := (id, lv.nx) :: lv.ex }
  | .loop c, lv => Nat.lor (live c { lv with nx := 0 }) (live c { lv with nx := live c { lv with nx := 0 } })
  | .exit id, lv => lookL lv.ex id
  | .ret, lv => lv.rt
  | .scope c, lv => live c lv
  | _, lv => lv.nx
def maskOf (lv : LV) : Ex → Nat
  | .normal => 0
  | .exit id => lookL lv.ex id
  | .ret => lv.rt
def beqEx : List (Nat × Nat) → List (Nat × Nat) → Bool
  | [], [] => true
  | (a, b) :: l, (c, d) :: r => Nat.beq a c && (Nat.beq b d && beqEx l r)
  | _, _ => false
def LV.beq (a b : LV) : Bool := Nat.beq a.nx b.nx && (Nat.beq a.rt b.rt && (Nat.beq a.nl b.nl && (beqEx a.ex b.ex && beqB a.fg b.fg)))
theorem beqEx_eq : ∀ (l r : List (Nat × Nat)), beqEx l r = true → l = r
  | [], [], _ => rfl
  | (a, b) :: l, (c, d) :: r, h => by
    simp only [beqEx, Bool.and_eq_true] at h
    rw [Nat.eq_of_beq_eq_true h.1, Nat.eq_of_beq_eq_true h.2.1, beqEx_eq l r h.2.2]
  | [], _ :: _, h => by simp [beqEx] at h
  | _ :: _, [], h => by simp [beqEx] at h
theorem beqB_eq' {a b : Bool} (h : beqB a b = true) : a = b := by cases a <;> cases b <;> first | rfl | cases h
theorem LV.eq_of_beq {a b : LV} (h : a.beq b = true) : a = b := by
  simp only [LV.beq, Bool.and_eq_true] at h
  cases a; cases b
  simp only at h
  rw [Nat.eq_of_beq_eq_true h.1, Nat.eq_of_beq_eq_true h.2.1, Nat.eq_of_beq_eq_true h.2.2.1, beqEx_eq _ _ h.2.2.2.1, beqB_eq' h.2.2.2.2]
def loopStep (step : St → (Ex → St → Prop) → Prop) (head : Nat) (lv : LV) (m N : Nat) (R : List EV → Heap → Prop) (vs : List EV) (H : Heap) (K : Ex → List EV → Heap → Prop) : Prop :=
  step { tmps := expandM head N 0 vs, heap := H } fun ex s' => match ex with
    | .normal => outK lv.fg head m N s' R
    | .exit id => outK lv.fg (lookL lv.ex id) m N s' (K (.exit id))
    | .ret => outK lv.fg lv.rt m N s' (K .ret)
def loopV (step : St → (Ex → St → Prop) → Prop) (head : Nat) (lv : LV) (m N : Nat) (K : Ex → List EV → Heap → Prop) : Nat → List EV → Heap → Prop
  | 0, _, _ => False
  | n + 1, vs, H => loopStep step head lv m N (loopV step head lv m N K n) vs H K
def loopU (step : St → (Ex → St → Prop) → Prop) (head : Nat) (lv : LV) (m N : Nat) (K : Ex → List EV → Heap → Prop) : Nat → List EV → Heap → Prop
  | 0, _, _ => False
  | n + 1, vs, H => loopStep step head lv m N (loopU step head lv m N K n) vs H K
theorem loopU_eq (step : St → (Ex → St → Prop) → Prop) (head : Nat) (lv : LV) (m N : Nat) (K : Ex → List EV → Heap → Prop) : ∀ n, loopU step head lv m N K n = loopV step head lv m N K n
  | 0 => by funext vs H; rfl
  | n + 1 => by funext vs H; simp only [loopU, loopV, loopU_eq step head lv m N K n]
def evCode (E : Env) : Code → LV → St → (Ex → St → Prop) → Prop
  | .skip, _, s, K => K .normal s
  | .region _ ops draw, _, s, K => cond draw (evDraw E ops.toList s (K .normal)) (evOps E ops.toList ops.toList s (K .normal))
  | .seq a b, lv, s, K => evCode E a { lv with nx := live b lv } s fun ex s' => match ex with
    | .normal => evCode E b lv s' K
    | .exit id => K (.exit id) s'
    | .ret => K .ret s'
  | .cond c a b, lv, s, K => match (St.opd E s) c with
    | .bool t => br t (evCode E a lv s K) (evCode E b lv s K)
    | _ => False
  | .block id c, lv, s, K => evCode E c { lv with ex := (id, lv.nx) :: lv.ex } s fun ex s' => match ex with
    | .normal => K .normal s'
    | .exit id' => cond (Nat.beq id' id) (K .normal s') (K (.exit id') s')
    | .ret => K .ret s'
  | .loop c, lv, s, K => outK lv.fg (live (.loop c) lv) lv.nl s.tmps.length s fun vs H => match E.un (firstRegion c) with
    | 0 => match E.lp (firstRegion c) with
      | some L => gd (lv.beq L.lv && (Nat.beq lv.nl L.m && Nat.beq s.tmps.length L.N)) (L.spec vs H fun ex vs H => K ex { tmps := expandM (maskOf lv ex) s.tmps.length 0 vs, heap := H })
      | none => ∃ n, loopV (evCode E c { lv with nx := live (.loop c) lv }) (live (.loop c) lv) lv lv.nl s.tmps.length (fun ex vs H => K ex { tmps := expandM (maskOf lv ex) s.tmps.length 0 vs, heap := H }) n vs H
    | n + 1 => loopU (evCode E c { lv with nx := live (.loop c) lv }) (live (.loop c) lv) lv lv.nl s.tmps.length (fun ex vs H => K ex { tmps := expandM (maskOf lv ex) s.tmps.length 0 vs, heap := H }) (n + 1) vs H
  | .exit id, _, s, K => K (.exit id) s
  | .ret, _, s, K => K .ret s
  | .scope c, lv, s, K => evCode E c lv s K
  | _, _, _, _ => False
def LoopOK (E : Env) (c : Code) : Prop :=
  ∀ L, E.lp (firstRegion c) = some L → ∀ vs H K, L.spec vs H K → ∃ n, loopV (evCode E c { L.lv with nx := live (.loop c) L.lv }) (live (.loop c) L.lv) L.lv L.m L.N K n vs H
def loopsOf : Code → List Code
  | .seq a b => loopsOf a ++ loopsOf b
  | .cond _ a b => loopsOf a ++ loopsOf b
  | .block _ c => loopsOf c
  | .loop c => c :: loopsOf c
  | .scope c => loopsOf c
  | _ => []
section sound
variable {P : Program} {E : Env}
theorem cleanL_get (keep : Nat) : ∀ (l : List EV) (j i : Nat) (v : EV), (cleanL keep j l)[i]? = some v → v = .undef ∨ l[i]? = some v
  | [], j, i, v, h => by simp [cleanL] at h
  | u :: l, j, 0, v, h => by
    simp only [cleanL, List.getElem?_cons_zero, Option.some.injEq] at h
    cases hm : Nat.testBit keep j with
    | true => right; simp [hm] at h; simp [h]
    | false => left; simp [hm] at h; exact h.symm
  | u :: l, j, i + 1, v, h => by
    simp only [cleanL, List.getElem?_cons_succ] at h ⊢
    exact cleanL_get keep l (j + 1) i v h
theorem cleanL_length (keep : Nat) : ∀ (l : List EV) (j : Nat), (cleanL keep j l).length = l.length
  | [], _ => rfl
  | _ :: l, j => by simp [cleanL, cleanL_length keep l (j + 1)]
theorem mem_of_clean {keep : Nat} {v : EV} (hu : v ≠ .undef) : ∀ (l : List EV) (j i : Nat), (cleanL keep j l)[i]? = some v → v ∈ pickM keep j l := by
  intro l
  induction l with
  | nil => intro j i h; simp [cleanL] at h
  | cons u l ih =>
    intro j i h
    simp only [cleanL, pickM] at h ⊢
    cases i with
    | zero =>
      cases ht : Nat.testBit keep j with
      | true => simp [ht] at h; subst h; simp
      | false => simp [ht] at h; exact absurd h.symm hu
    | succ i =>
      have := ih (j + 1) i (by simpa using h)
      cases Nat.testBit keep j <;> simp [this]
theorem inIL_mem {idx : List Nat} : ∀ {l : List EV}, EV.inIL idx l = true → ∀ v ∈ l, v.inI idx = true
  | v :: l, h, u, hu => by
    simp only [EV.inIL, Bool.and_eq_true] at h
    rcases List.mem_cons.1 hu with rfl | hu
    · exact h.1
    · exact inIL_mem h.2 u hu
theorem expand_ren (keep : Nat) (f : Nat → Nat) : ∀ (N i : Nat) (vs : List EV), expandM keep N i (EV.renL f vs) = (expandM keep N i vs).map (EV.ren f)
  | 0, _, _ => rfl
  | N + 1, i, vs => by
    simp only [expandM]
    cases Nat.testBit keep i with
    | true =>
      cases vs with
      | nil =>
        simp only [EV.renL, cond_true, List.map_cons, EV.ren]
        have := expand_ren keep f N (i + 1) []
        simp only [EV.renL] at this
        exact congrArg _ this
      | cons v vs => simp only [EV.renL, cond_true, List.map_cons, expand_ren keep f N (i + 1) vs]
    | false => simp only [cond_false, List.map_cons, EV.ren, expand_ren keep f N (i + 1) vs]
theorem fgt_rel {ρ : Ren} {w : World} {v : EV} {x : Value} (h : Rel ρ w v x) : Rel ρ w v.fgt x := by
  cases v <;> try (simp only [EV.fgt]; exact h)
  rename_i b off len cap e
  simp only [EV.fgt, Rel] at h ⊢
  obtain ⟨a, c, h0, r, h1, h2⟩ := h
  refine ⟨a, c, h0, r, h1, fun i hi => ?_⟩
  obtain ⟨n, h3, h4, h5, _, h6⟩ := h2 i hi
  exact ⟨n, h3, h4, h5, (fun c0 hc => by cases hc), h6⟩
theorem RelT.fgt {gl : Nat → Option EV} {ρ : Ren} {w : World} {s : St} {a : Array Value} (h : RelT gl ρ w s.tmps a) (fg : Bool) : RelT gl ρ w (s.fgt fg).tmps a := by
  cases fg with
  | false => exact h
  | true =>
    refine ⟨by simp [St.fgt, h.1], fun i v hv => ?_, h.2.2⟩
    simp only [St.fgt, List.getElem?_map] at hv
    cases hs : s.tmps[i]? with
    | none => rw [hs] at hv; cases hv
    | some u =>
      rw [hs] at hv
      simp only [Option.map_some, Option.some.injEq] at hv
      subst hv
      rcases h.2.1 i u hs with rfl | ⟨x, hx, hr⟩
      · exact .inl rfl
      · exact .inr ⟨x, hx, fgt_rel hr⟩
theorem outK0_sound {ρ0 ρ : Ren} {w0 w : World} {s : St} {a : Array Value} {keep nl N : Nat} {K : List EV → Heap → Prop} (hT : RelT E.gl ρ w s.tmps a) (hS : Sim ρ s.heap w) (hI : Ext ρ0 w0 ρ w) (hF : ρ.F = ρ0.F) (hnl : nl = ρ0.bs.length)
    (h : outK0 keep nl N s K) : ∃ vs H ρ', K vs H ∧ RelT E.gl ρ' w (expandM keep N 0 vs) a ∧ Sim ρ' H w ∧ Ext ρ0 w0 ρ' w ∧ ρ'.F = ρ0.F := by
  unfold outK0 at h
  rw [gd_iff] at h
  obtain ⟨h0, h⟩ := h
  unfold goK at h
  rw [gd_iff, Bool.and_eq_true] at h
  obtain ⟨⟨h1, h2⟩, hK⟩ := h
  obtain ⟨c1, c2⟩ := canI_spec nl (pickM keep 0 s.tmps) s.heap
  generalize canI nl (pickM keep 0 s.tmps) s.heap = idx at *
  have hN := Nat.eq_of_beq_eq_true h0
  have hm : ∀ b, b < w.heap.size → b ∉ ρ.mbs → b ∉ (⟨ρ.F, subBs ρ.bs idx⟩ : Ren).mbs := fun b _ hn hm => hn (subBs_mbs hm)
  refine ⟨_, _, ⟨ρ.F, subBs ρ.bs idx⟩, hK, ?_, ?_, hI.sub (fun j hj => c2 j (by omega)), hF⟩
  · rw [expand_ren, ← hN, expand_pick]
    refine ⟨by simp [cleanL_length, hT.1], fun i v hv => ?_, hT.2.2.sub fun b hb => subBs_mbs hb⟩
    rw [List.getElem?_map] at hv
    cases hc : (cleanL keep 0 s.tmps)[i]? with
    | none => simp [hc] at hv
    | some u =>
      simp only [hc, Option.map_some, Option.some.injEq] at hv
      subst hv
      by_cases hu : u = .undef
      · subst hu; exact .inl rfl
      · rcases cleanL_get keep s.tmps 0 i u hc with h' | h'
        · exact absurd h' hu
        · rcases hT.2.1 i u h' with h3 | ⟨x, hx, hr⟩
          · exact absurd h3 hu
          · exact .inr ⟨x, hx, Rel.ren (fun b r hb hr => .inl (subBs_pos hb hr)) u x (inIL_mem h1 u (mem_of_clean hu s.tmps 0 i hc)) (.inr hm) hr⟩
  · exact hS.sub c1 hS.fl (fun b r _ hb => hS.sep b r hb) h2 hm
theorem outK_sound {ρ0 ρ : Ren} {w0 w : World} {s : St} {a : Array Value} {fg : Bool} {keep nl N : Nat} {K : List EV → Heap → Prop} (hT : RelT E.gl ρ w s.tmps a) (hS : Sim ρ s.heap w) (hI : Ext ρ0 w0 ρ w) (hF : ρ.F = ρ0.F) (hnl : nl = ρ0.bs.length)
    (h : outK fg keep nl N s K) : ∃ vs H ρ', K vs H ∧ RelT E.gl ρ' w (expandM keep N 0 vs) a ∧ Sim ρ' H w ∧ Ext ρ0 w0 ρ' w ∧ ρ'.F = ρ0.F :=
  outK0_sound (hT.fgt fg) (by cases fg <;> exact hS) hI hF hnl h
theorem evCode_sound {ρ0 : Ren} {w0 : World} (hE : ∀ t ti, E.ty t = some ti → OkTI P t ti) (hFn : OkFn P E) (hD : DetFn E) (hm : P.follows .mixedOrders = true) :
    ∀ (c : Code) (hL : ∀ c', c' ∈ loopsOf c → LoopOK E c') (lv : LV) (hl : lv.nl = ρ0.bs.length) (ρ : Ren) (w : World) (s : St) (a : Act) (K : Ex → St → Prop) (Q : Exit → Act → World → Prop), RelT E.gl ρ w s.tmps a.tmps → Sim ρ s.heap w → Ext ρ0 w0 ρ w ∧ ρ.F = ρ0.F → evCode E c lv s K →
      (∀ ex s' ρ' w' a', K ex s' → RelT E.gl ρ' w' s'.tmps a'.tmps → Sim ρ' s'.heap w' → Ext ρ0 w0 ρ' w' ∧ ρ'.F = ρ0.F → a'.defers = a.defers → Q ex.out a' w') → c.wp P Q a w := by
  intro c
  induction c with
  | skip => intro hL lv hl ρ w s a K Q hT hS hI h hn; exact wp_skip (hn .normal s ρ w a h hT hS hI rfl)
  | region id ops draw =>
    intro hL lv hl ρ w s a K Q hT hS hI h hn
    simp only [evCode] at h
    cases draw with
    | true =>
      simp only [cond_true] at h
      exact evDraw_sound hE hFn hD (closed_of hE hT.2.2) hm id ρ w s a _ hT hS h fun s' ρ' w' a' hK hT' hD hS' hX hF => hn .normal s' ρ' w' a' hK hT' hS' ⟨hI.1.trans hX, hF.trans hI.2⟩ hD
    | false =>
      simp only [cond_false] at h
      refine wp_region ?_
      have := evOps_sound (Q := Q) hE hFn ops.toList 0 rfl ρ w s a _ hT hS h fun s' ρ' w' a' hK hT' hD hS' hX hF => hn .normal s' ρ' w' a' hK hT' hS' ⟨hI.1.trans hX, hF.trans hI.2⟩ hD
      rw [List.range_eq_range', ← Array.length_toList]
      exact this
  | seq x y ihx ihy =>
    intro hL lv hl ρ w s a K Q hT hS hI h hn
    simp only [evCode] at h
    refine wp_seq (ihx (fun c' hc => hL c' (List.mem_append.2 (.inl hc))) { lv with nx := live y lv } hl ρ w s a _ _ hT hS hI h ?_)
    intro ex s' ρ' w' a' hK hT' hS' hI' hD
    cases ex with
    | normal => exact ihy (fun c' hc => hL c' (List.mem_append.2 (.inr hc))) _ hl ρ' w' s' a' K Q hT' hS' hI' hK fun ex s'' ρ'' w'' a'' hK' hT'' hS'' hI'' hD' => hn ex s'' ρ'' w'' a'' hK' hT'' hS'' hI'' (hD'.trans hD)
    | exit id => exact hn (.exit id) s' ρ' w' a' hK hT' hS' hI' hD
    | ret => exact hn .ret s' ρ' w' a' hK hT' hS' hI' hD
  | cond c x y ihx ihy =>
    intro hL lv hl ρ w s a K Q hT hS hI h hn
    simp only [evCode] at h
    split at h
    · rename_i t ht
      have hc := opd_ok hT ht (by simp)
      simp only [Rel] at hc
      rw [br_iff] at h
      cases t with
      | true => exact wp_cond_true hc (ihx (fun c' hc => hL c' (List.mem_append.2 (.inl hc))) _ hl ρ w s a K Q hT hS hI (h.1 rfl) hn)
      | false => exact wp_cond_false hc (ihy (fun c' hc => hL c' (List.mem_append.2 (.inr hc))) _ hl ρ w s a K Q hT hS hI (h.2 rfl) hn)
    · exact h.elim
  | block id c ih =>
    intro hL lv hl ρ w s a K Q hT hS hI h hn
    simp only [evCode] at h
    refine wp_block (ih hL { lv with ex := (id, lv.nx) :: lv.ex } hl ρ w s a _ _ hT hS hI h ?_)
    intro ex s' ρ' w' a' hK hT' hS' hI' hD
    cases ex with
    | normal => exact hn .normal s' ρ' w' a' hK hT' hS' hI' hD
    | exit id' =>
      simp only [Ex.out, Exit.inBlock]
      simp only at hK
      rw [cd_iff] at hK
      by_cases hid : id' = id
      · rw [if_pos hid]
        exact hn .normal s' ρ' w' a' (hK.1 (by rw [hid]; exact Nat.beq_refl id)) hT' hS' hI' hD
      · rw [if_neg hid]
        refine hn (.exit id') s' ρ' w' a' (hK.2 ?_) hT' hS' hI' hD
        cases hb : Nat.beq id' id with
        | false => rfl
        | true => exact absurd (Nat.eq_of_beq_eq_true hb) hid
    | ret => exact hn .ret s' ρ' w' a' hK hT' hS' hI' hD
  | loop c ih =>
    intro hL lv hl ρ w s a K Q hT hS hI h hn
    simp only [evCode] at h
    have ih' := ih fun c' hc => hL c' (List.mem_cons_of_mem _ hc)
    obtain ⟨vs, H, ρ1, h, hT1, hS1, hI1, hf1⟩ := outK_sound hT hS hI.1 hI.2 hl h
    have hex : ∃ n, loopV (evCode E c { lv with nx := live (.loop c) lv }) (live (.loop c) lv) lv lv.nl s.tmps.length (fun ex vs H => K ex { tmps := expandM (maskOf lv ex) s.tmps.length 0 vs, heap := H }) n vs H := by
      split at h
      case h_2 =>
        rw [loopU_eq] at h
        exact ⟨_, h⟩
      split at h
      · rename_i L hL'
        rw [gd_iff, Bool.and_eq_true, Bool.and_eq_true] at h
        obtain ⟨⟨g1, g2, g3⟩, h⟩ := h
        have e1 := LV.eq_of_beq g1
        have e2 := Nat.eq_of_beq_eq_true g2
        have e3 := Nat.eq_of_beq_eq_true g3
        have h' := hL c List.mem_cons_self L hL' _ _ _ h
        rw [← e2, ← e3, ← e1] at h'
        exact h'
      · exact h
    clear h
    obtain ⟨n, h⟩ := hex
    refine wp_loop_rounds n ?_
    generalize hmm : lv.nl = m at h hl
    generalize s.tmps.length = N at h hT1
    generalize live (.loop c) lv = head at h hT1
    clear hT hS hI
    induction n generalizing ρ1 w vs H a with
    | zero => exact h.elim
    | succ n ihn =>
      simp only [loopV, loopStep] at h
      rw [rounds_succ]
      refine ih' ⟨head, lv.ex, lv.rt, m, lv.fg⟩ hl ρ1 w _ a _ _ hT1 hS1 ⟨hI1, hf1⟩ h ?_
      intro ex s' ρ' w' a' hK hT' hS' hI' hD
      cases ex with
      | normal =>
        obtain ⟨vs2, H2, ρ2, hK2, hT2, hS2, hI2, hf2⟩ := outK_sound hT' hS' hI'.1 hI'.2 hl hK
        exact ihn w' a' (fun ex s'' ρ'' w'' a'' hK' hT'' hS'' hI'' hD' => hn ex s'' ρ'' w'' a'' hK' hT'' hS'' hI'' (hD'.trans hD)) vs2 H2 ρ2 hS2 hI2 hf2 hK2 hT2
      | exit id =>
        obtain ⟨vs2, H2, ρ2, hK2, hT2, hS2, hI2, hf2⟩ := outK_sound hT' hS' hI'.1 hI'.2 hl hK
        exact hn (.exit id) _ ρ2 w' a' hK2 hT2 hS2 ⟨hI2, hf2⟩ hD
      | ret =>
        obtain ⟨vs2, H2, ρ2, hK2, hT2, hS2, hI2, hf2⟩ := outK_sound hT' hS' hI'.1 hI'.2 hl hK
        exact hn .ret _ ρ2 w' a' hK2 hT2 hS2 ⟨hI2, hf2⟩ hD
  | exit id => intro hL lv hl ρ w s a K Q hT hS hI h hn; exact wp_exit (hn (.exit id) s ρ w a h hT hS hI rfl)
  | ret => intro hL lv hl ρ w s a K Q hT hS hI h hn; exact wp_ret (hn .ret s ρ w a h hT hS hI rfl)
  | scope c ih =>
    intro hL lv hl ρ w s a K Q hT hS hI h hn
    simp only [evCode] at h
    refine wp_scope_straight (ih hL _ hl ρ w s a K _ hT hS hI h ?_)
    intro ex s' ρ' w' a' hK hT' hS' hI' hD
    cases ex <;> exact hn _ s' ρ' w' a' hK hT' hS' hI' hD
  | rangeFunc f ps x y _ _ => intro hL lv hl ρ w s a K Q hT hS hI h hn; exact h.elim
  | label l => intro hL lv hl ρ w s a K Q hT hS hI h hn; exact h.elim
  | goto l => intro hL lv hl ρ w s a K Q hT hS hI h hn; exact h.elim
  | refuse l => intro hL lv hl ρ w s a K Q hT hS hI h hn; exact h.elim
end sound
def roTy (E : Env) (t : TypeId) : Option RK :=
  match E.ty t with
  | some ti => match ti.td with
    | .slice e => match E.ty e with
      | some ei => match ei.td with
        | .int k => some (.int k)
        | .struct _ => match Sk.of ei.zero with
          | some s => some (.sk s)
          | none => none
        | _ => none
      | none => none
    | _ => none
  | none => none
def evResults (E : Env) : List ResultVar → St → (List EV → Prop) → Prop
  | [], s, K => K []
  | .tmp t :: rs, s, K => gd (s.slot t).dfd (evResults E rs s fun vs => K (s.slot t :: vs))
  | .cell a t :: rs, s, K => gd (s.slot a).dfd (evLoad E t (s.slot a) s.heap fun v => evResults E rs s fun vs => K (v :: vs))
def finK (vs : List EV) (dead idx : List Nat) (H : Heap) (K : EV → Heap → Prop) : Prop :=
  gd (dfdL vs && (EV.inIL idx vs && (inIH idx H idx && noneIn idx dead))) (match EV.renL (pos idx) vs with
    | [v] => K v (subH H idx)
    | vs => K (.tuple vs) (subH H idx))
def retK (nl : Nat) (ros : List (Option RK)) (vs : List EV) (H : Heap) (K : EV → Heap → Prop) : Prop :=
  finK (roArgs H ros vs) (roDead ros vs) (canI nl (roArgs H ros vs) H) H K
def rtMask : List ResultVar → Nat
  | [] => 0
  | .tmp t :: l => Nat.lor (Nat.shiftLeft 1 t) (rtMask l)
  | .cell a _ :: l => Nat.lor (Nat.shiftLeft 1 a) (rtMask l)
def evFn (E : Env) (fn : Func) (own : Bool) (args : List EV) (H : Heap) (K : EV → Heap → Prop) : Prop :=
  match fn.body with
  | some c => evCode E c { nx := rtMask fn.results.toList, ex := [], rt := rtMask fn.results.toList, nl := H.length, fg := E.fg } { tmps := args ++ List.replicate (fn.ntmps - args.length) .undef, heap := H } fun ex s => match ex with
    | .exit _ => False
    | _ => evResults E fn.results.toList s fun vs => retK H.length (cond own [] (fn.resultTypes.toList.map (roTy E))) vs s.heap K
  | none => False
def resOf (tmps : Array Value) : ResultVar → Sem Value
  | .tmp t => pure (tmps.getD t undef)
  | .cell a t => do loadVar t (← asAddr (tmps.getD a undef))
section sound
variable {P : Program} {E : Env}
theorem evResults_sound {ρ : Ren} {w : World} {s : St} {tmps : Array Value} (hE : ∀ t ti, E.ty t = some ti → OkTI P t ti) (hT : RelT E.gl ρ w s.tmps tmps) (hS : Sim ρ s.heap w) :
    ∀ (rs : List ResultVar) (K : List EV → Prop), evResults E rs s K → ∃ vs xs, K vs ∧ RelL ρ w vs xs ∧ (rs.mapM (resOf tmps)).run P w = .ok xs w
  | [], K, h => ⟨[], [], h, rfl, rfl⟩
  | .tmp t :: rs, K, h => by
    simp only [evResults] at h
    rw [gd_iff] at h
    obtain ⟨h1, h⟩ := h
    obtain ⟨vs, xs, k1, k2, k3⟩ := evResults_sound hE hT hS rs _ h
    have hr : Rel ρ w (s.slot t) (tmps.getD t undef) := opd_ok (a := { tmps, defers := [] }) hT (x := .tmp t) rfl (dfd_ne h1)
    refine ⟨_, tmps.getD t undef :: xs, k1, ⟨_, _, rfl, hr, k2⟩, ?_⟩
    rw [List.mapM_cons, run_bind]
    simp only [resOf, run_pure]
    rw [run_bind, k3]
    rfl
  | .cell a t :: rs, K, h => by
    simp only [evResults] at h
    rw [gd_iff] at h
    obtain ⟨h1, h⟩ := h
    have hr : Rel ρ w (s.slot a) (tmps.getD a undef) := opd_ok (a := { tmps, defers := [] }) hT (x := .tmp a) rfl (dfd_ne h1)
    obtain ⟨u, y, g1, g2, g3⟩ := evLoad_sound hE hS hr h
    obtain ⟨vs, xs, k1, k2, k3⟩ := evResults_sound hE hT hS rs _ g1
    refine ⟨_, y :: xs, k1, ⟨_, _, rfl, g2, k2⟩, ?_⟩
    rw [List.mapM_cons, run_bind]
    have : (resOf tmps (.cell a t)).run P w = .ok y w := by
      simp only [resOf]
      revert g3
      cases tmps.getD a undef <;> intro g3 <;> try (simp [Instr.loadAt, Instr.sureAddr, run_bind, stuck, Sem.run] at g3; done)
      rename_i aa
      cases aa with
      | none => simp [Instr.loadAt, Instr.sureAddr, run_bind, stuck, Sem.run] at g3
      | some aa => exact g3
    rw [this]
    simp only
    rw [run_bind, k3]
    rfl
theorem retK_sound {ρ0 ρ : Ren} {w0 w : World} {H : Heap} {vs : List EV} {xs : List Value} {nl : Nat} {ros : List (Option RK)} {K : EV → Heap → Prop} (hS : Sim ρ H w) (hI : Ext ρ0 w0 ρ w) (hF : ρ.F = ρ0.F) (hnl : nl = ρ0.bs.length)
    (hr : RelL ρ w vs xs) (h : retK nl ros vs H K) :
    ∃ v H' ρ', K v H' ∧ Rel ρ' w v (if h : xs.length = 1 then xs[0] else .tuple xs.toArray) ∧ Sim ρ' H' w ∧ Ext ρ0 w0 ρ' w ∧ ρ'.F = ρ0.F := by
  unfold retK finK at h
  rw [gd_iff] at h
  simp only [Bool.and_eq_true] at h
  obtain ⟨⟨h1, h2, h3, h4⟩, h⟩ := h
  obtain ⟨c1, c2⟩ := canI_spec nl (roArgs H ros vs) H
  generalize canI nl (roArgs H ros vs) H = idx at *
  have hm : ∀ b, b < w.heap.size → b ∉ ρ.mbs → b ∉ (⟨ρ.F, subBs ρ.bs idx⟩ : Ren).mbs := fun b _ hn hm => hn (subBs_mbs hm)
  have hrel : RelL ⟨ρ.F, subBs ρ.bs idx⟩ w (EV.renL (pos idx) (roArgs H ros vs)) xs := by
    refine roArgs_ren hS (fun b r hb hr => .inl (subBs_pos hb hr)) (fun b hb => subBs_mbs hb) ros vs xs ?_ h1 h2 hr
    intro b hb r h5 h6
    rcases List.mem_append.1 h6 with h6 | h6
    · exact hS.sep b r h5 h6
    · obtain ⟨c, s, g1, g2, g3⟩ := subBs_own h6
      exact noneIn_spec h4 b hb (hS.nodup c b s r g2 h5 g3 ▸ g1)
  generalize EV.renL (pos idx) (roArgs H ros vs) = vs' at *
  have fin : ∀ v, K v (subH H idx) → Rel ⟨ρ.F, subBs ρ.bs idx⟩ w v (if h : xs.length = 1 then xs[0] else .tuple xs.toArray) → ∃ v H' ρ', K v H' ∧ Rel ρ' w v (if h : xs.length = 1 then xs[0] else .tuple xs.toArray) ∧ Sim ρ' H' w ∧ Ext ρ0 w0 ρ' w ∧ ρ'.F = ρ0.F :=
    fun v hK hv => ⟨v, _, _, hK, hv, hS.sub c1 hS.fl (fun b r _ hb => hS.sep b r hb) h3 hm, hI.sub (fun j hj => c2 j (by omega)), hF⟩
  split at h
  · rename_i v
    simp only [RelL] at hrel
    obtain ⟨y, zs, rfl, g1, rfl⟩ := hrel
    exact fin v h g1
  · rename_i vs'' hne
    have hl : ¬ xs.length = 1 := by
      intro hx
      match vs', hrel, hne with
      | [], hrel, _ => simp only [RelL] at hrel; subst hrel; simp at hx
      | [v], _, hne => exact hne v rfl
      | v :: u :: l, hrel, _ =>
        simp only [RelL] at hrel
        obtain ⟨y, zs, rfl, _, y', zs', rfl, _⟩ := hrel
        simp at hx
    refine fin _ h ?_
    rw [dif_neg hl]
    simp only [Rel]
    exact ⟨xs.toArray, rfl, by simpa using hrel⟩
theorem evFn_sound {f : FuncId} {fn : Func} {own : Bool} (hE : ∀ t ti, E.ty t = some ti → OkTI P t ti) (hFn : OkFn P E) (hD : DetFn E) (hm : P.follows .mixedOrders = true) (hf : P.funcs[f]? = some fn)
    (hL : ∀ c, fn.body = some c → ∀ c', c' ∈ loopsOf c → LoopOK E c')
    {ρ : Ren} {H : Heap} {w : World} {args : List EV} {xs : List Value} {K : EV → Heap → Prop} (h : evFn E fn own args H K) (hr : RelL ρ w args xs) (hS : Sim ρ H w) (hG : GOk E.gl ρ w) :
    Calls P f xs.toArray w fun e w' => ∃ v x H' ρ', e = .returned x ∧ K v H' ∧ Rel ρ' w' v x ∧ Sim ρ' H' w' ∧ Ext ρ w ρ' w' ∧ ρ'.F = ρ.F := by
  unfold evFn at h
  split at h
  · rename_i c hc
    refine calls_of_wp hf hc ?_
    have hlen : ∀ (l : List EV) (ys : List Value), RelL ρ w l ys → l.length = ys.length := by
      intro l
      induction l with
      | nil => intro ys h; simp only [RelL] at h; subst h; rfl
      | cons v l ih =>
        intro ys h
        simp only [RelL] at h
        obtain ⟨y, zs, rfl, _, h2⟩ := h
        simp [ih zs h2]
    have hget : ∀ (l : List EV) (ys : List Value) (i : Nat) (v : EV), RelL ρ w l ys → l[i]? = some v → ∃ y, ys[i]? = some y ∧ Rel ρ w v y := by
      intro l
      induction l with
      | nil => intro ys i v _ h; simp at h
      | cons u l ih =>
        intro ys i v hr hv
        simp only [RelL] at hr
        obtain ⟨y, zs, rfl, h1, h2⟩ := hr
        cases i with
        | zero => simp at hv; subst hv; exact ⟨y, rfl, h1⟩
        | succ i => simp at hv; simpa using ih zs i v h2 hv
    have hl := hlen args xs hr
    have hT : RelT E.gl ρ w (args ++ List.replicate (fn.ntmps - args.length) .undef) (xs.toArray ++ Array.replicate (fn.ntmps - xs.toArray.size) undef) := by
      refine ⟨by simp [hl], fun i v hv => ?_, hG⟩
      rw [List.getElem?_append] at hv
      split at hv
      · rename_i hi
        obtain ⟨y, hy, hv'⟩ := hget args xs i v hr hv
        refine .inr ⟨y, ?_, hv'⟩
        rw [Array.getElem?_append_left (by simp; omega)]
        simpa using hy
      · left
        have := List.mem_of_getElem? hv
        exact (List.eq_of_mem_replicate this)
    refine evCode_sound hE hFn hD hm c (hL c hc) _ hS.len.symm ρ w _ _ _ _ hT hS ⟨Ext.refl _ _, rfl⟩ h ?_
    intro ex s' ρ' w' a' hK hT' hS' hI' hD
    have key : (evResults E fn.results.toList s' fun vs => retK H.length (cond own [] (fn.resultTypes.toList.map (roTy E))) vs s'.heap K) →
        ∃ x, (results fn a'.tmps).run P w' = .ok x w' ∧ ∃ v H' ρ'', K v H' ∧ Rel ρ'' w' v x ∧ Sim ρ'' H' w' ∧ Ext ρ w ρ'' w' ∧ ρ''.F = ρ.F := by
      intro hK
      obtain ⟨vs, ys, k1, k2, k3⟩ := evResults_sound hE hT' hS' _ _ hK
      have hres : (results fn a'.tmps).run P w' = .ok (if h : ys.length = 1 then ys[0] else .tuple ys.toArray) w' := by
        have h0 : results fn a'.tmps = (do
            let vs ← fn.results.mapM (resOf a'.tmps)
            pure (if h : vs.size = 1 then vs[0] else .tuple vs)) := rfl
        rw [h0, run_bind]
        have : (fn.results.mapM (resOf a'.tmps)).run P w' = .ok ys.toArray w' := by
          rw [show fn.results = fn.results.toList.toArray from by simp, List.mapM_toArray]
          rw [show (List.toArray <$> List.mapM (resOf a'.tmps) fn.results.toList) = (List.mapM (resOf a'.tmps) fn.results.toList >>= fun a => pure a.toArray) from rfl, run_bind, k3]
          rfl
        rw [this]
        simp only [run_pure]
        congr 1
      exact ⟨_, hres, retK_sound hS' hI'.1 hI'.2 hS.len.symm k2 k1⟩
    cases ex with
    | exit id => exact hK.elim
    | normal =>
      obtain ⟨x, h1, v, H', ρ'', h2, h3, h4, h5, h6⟩ := key hK
      exact ⟨hD, x, h1, v, x, H', ρ'', rfl, h2, h3, h4, h5, h6⟩
    | ret =>
      obtain ⟨x, h1, v, H', ρ'', h2, h3, h4, h5, h6⟩ := key hK
      exact ⟨hD, x, h1, v, x, H', ρ'', rfl, h2, h3, h4, h5, h6⟩
  · exact h.elim
end sound
end Go.Ev

/- The evaluator: functions, all that is asked of them, and how types and loops are told. -/
set_option linter.unusedVariables false
set_option linter.unusedSimpArgs false
namespace Go.Ev
open Go
abbrev Det3 (T : (Ex → List EV → Heap → Prop) → Prop) : Prop := Det (fun K : Ex × List EV × Heap → Prop => T fun e v h => K (e, v, h))
def loopE (E : Env) (c : Code) (lv : LV) (m N : Nat) (K : Ex → List EV → Heap → Prop) (n : Nat) (vs : List EV) (H : Heap) : Prop :=
  loopV (evCode E c { lv with nx := live (.loop c) lv }) (live (.loop c) lv) lv m N K n vs H
def LoopEq (E : Env) (c : Code) : Prop :=
  ∀ L, E.lp (firstRegion c) = some L → ∀ vs H, (∀ K, ¬ L.spec vs H K) ∨ ∀ K, L.spec vs H K ↔ ∃ n, loopE E c L.lv L.m L.N K n vs H
section
variable {P : Program} {E : Env}
theorem LoopEq.ok {c : Code} (h : LoopEq E c) : LoopOK E c := by
  intro L hL vs H K hs
  rcases h L hL vs H with h1 | h1
  · exact (h1 K hs).elim
  · exact (h1 K).1 hs
theorem det_outK {fg : Bool} {keep m N : Nat} {s : St} {α : Type} (f : List EV → Heap → (α → Prop) → Prop) (hf : ∀ v h, Det (f v h)) : Det (fun K => outK fg keep m N s fun v h => f v h K) := by
  unfold outK outK0 goK
  exact det_gd (det_gd (hf _ _))
theorem det_ex {α : Type} {T : Nat → (α → Prop) → Prop} (h : ∀ n, Det (T n)) : Det (fun K => ∃ n, T n K) := by
  rintro K ⟨n, hn⟩
  obtain ⟨v, h1, h2⟩ := h n K hn
  exact ⟨v, h1, fun K' hk => ⟨n, h2 K' hk⟩⟩
theorem det_loopV {step : St → (Ex → St → Prop) → Prop} (hs : ∀ s, Det2 (step s)) (head : Nat) (lv : LV) (m N : Nat) : ∀ (n : Nat) (vs : List EV) (H : Heap), Det3 (fun K => loopV step head lv m N K n vs H)
  | 0, _, _ => det_false
  | n + 1, vs, H => by
    show Det (fun K : Ex × List EV × Heap → Prop => loopStep step head lv m N (loopV step head lv m N (fun e v h => K (e, v, h)) n) vs H (fun e v h => K (e, v, h)))
    unfold loopStep
    refine det_bind (T := fun K : Ex × St → Prop => step { tmps := expandM head N 0 vs, heap := H } fun e s => K (e, s)) (U := fun (p : Ex × St) (K : Ex × List EV × Heap → Prop) => match p.1 with
      | .normal => outK lv.fg head m N p.2 (loopV step head lv m N (fun e v h => K (e, v, h)) n)
      | .exit id => outK lv.fg (lookL lv.ex id) m N p.2 fun v h => K (.exit id, v, h)
      | .ret => outK lv.fg lv.rt m N p.2 fun v h => K (.ret, v, h)) (hs _).to ?_
    rintro ⟨e, s⟩
    cases e with
    | normal => exact det_outK (fun v h K => loopV step head lv m N (fun e v h => K (e, v, h)) n v h) fun v h => det_loopV hs head lv m N n v h
    | exit id => exact det_outK (fun v h (K : Ex × List EV × Heap → Prop) => K (.exit id, v, h)) fun v h => det_pure _
    | ret => exact det_outK (fun v h (K : Ex × List EV × Heap → Prop) => K (.ret, v, h)) fun v h => det_pure _
theorem evCode_det (hD : DetFn E) : ∀ (c : Code) (hL : ∀ c', c' ∈ loopsOf c → LoopEq E c') (lv : LV) (s : St), Det2 (evCode E c lv s) := by
  intro c
  induction c with
  | skip => intro hL lv s; exact Det2.of (det_pure (Ex.normal, s))
  | region id ops draw =>
    intro hL lv s
    refine Det2.of ?_
    have : Det (fun K : Ex × St → Prop => evOps E ops.toList ops.toList s fun s' => K (.normal, s')) := det_map (fun s' => (Ex.normal, s')) (det_evOps hD _ _)
    exact det_cond (det_map (fun s' => (Ex.normal, s')) (det_evDraw hD)) this
  | seq x y ihx ihy =>
    intro hL lv s
    refine Det2.of ?_
    show Det (fun K : Ex × St → Prop => evCode E x { lv with nx := live y lv } s fun ex s' => match ex with
      | .normal => evCode E y lv s' fun e s => K (e, s)
      | .exit id => K (.exit id, s')
      | .ret => K (.ret, s'))
    refine det_bind (T := fun K : Ex × St → Prop => evCode E x { lv with nx := live y lv } s fun e s => K (e, s)) (U := fun (p : Ex × St) (K : Ex × St → Prop) => match p.1 with
      | .normal => evCode E y lv p.2 fun e s => K (e, s)
      | .exit id => K (.exit id, p.2)
      | .ret => K (.ret, p.2)) (ihx (fun c' hc => hL c' (List.mem_append.2 (.inl hc))) _ _).to ?_
    rintro ⟨e, s'⟩
    cases e with
    | normal => exact (ihy (fun c' hc => hL c' (List.mem_append.2 (.inr hc))) _ _).to
    | exit id => exact det_pure _
    | ret => exact det_pure _
  | cond c x y ihx ihy =>
    intro hL lv s
    refine Det2.of ?_
    unfold evCode
    cases St.opd E s c
    case bool t => exact det_br (ihx (fun c' hc => hL c' (List.mem_append.2 (.inl hc))) _ _).to (ihy (fun c' hc => hL c' (List.mem_append.2 (.inr hc))) _ _).to
    all_goals exact det_false
  | block id c ih =>
    intro hL lv s
    refine Det2.of ?_
    show Det (fun K : Ex × St → Prop => evCode E c { lv with ex := (id, lv.nx) :: lv.ex } s fun ex s' => match ex with
      | .normal => K (.normal, s')
      | .exit id' => cond (Nat.beq id' id) (K (.normal, s')) (K (.exit id', s'))
      | .ret => K (.ret, s'))
    refine det_bind (T := fun K : Ex × St → Prop => evCode E c { lv with ex := (id, lv.nx) :: lv.ex } s fun e s => K (e, s)) (U := fun (p : Ex × St) (K : Ex × St → Prop) => match p.1 with
      | .normal => K (.normal, p.2)
      | .exit id' => cond (Nat.beq id' id) (K (.normal, p.2)) (K (.exit id', p.2))
      | .ret => K (.ret, p.2)) (ih hL _ _).to ?_
    rintro ⟨e, s'⟩
    cases e with
    | normal => exact det_pure _
    | exit id' => exact det_cond (det_pure _) (det_pure _)
    | ret => exact det_pure _
  | loop c ih =>
    intro hL lv s
    refine Det2.of ?_
    have ih' := ih fun c' hc => hL c' (List.mem_cons_of_mem _ hc)
    show Det (fun K : Ex × St → Prop => outK lv.fg (live (.loop c) lv) lv.nl s.tmps.length s fun vs H => match E.un (firstRegion c) with
      | 0 => match E.lp (firstRegion c) with
        | some L => gd (lv.beq L.lv && (Nat.beq lv.nl L.m && Nat.beq s.tmps.length L.N)) (L.spec vs H fun ex vs H => K (ex, { tmps := expandM (maskOf lv ex) s.tmps.length 0 vs, heap := H }))
        | none => ∃ n, loopV (evCode E c { lv with nx := live (.loop c) lv }) (live (.loop c) lv) lv lv.nl s.tmps.length (fun ex vs H => K (ex, { tmps := expandM (maskOf lv ex) s.tmps.length 0 vs, heap := H })) n vs H
      | n + 1 => loopU (evCode E c { lv with nx := live (.loop c) lv }) (live (.loop c) lv) lv lv.nl s.tmps.length (fun ex vs H => K (ex, { tmps := expandM (maskOf lv ex) s.tmps.length 0 vs, heap := H })) (n + 1) vs H)
    refine det_outK (fun vs H (K : Ex × St → Prop) => match E.un (firstRegion c) with
      | 0 => match E.lp (firstRegion c) with
        | some L => gd (lv.beq L.lv && (Nat.beq lv.nl L.m && Nat.beq s.tmps.length L.N)) (L.spec vs H fun ex vs H => K (ex, { tmps := expandM (maskOf lv ex) s.tmps.length 0 vs, heap := H }))
        | none => ∃ n, loopV (evCode E c { lv with nx := live (.loop c) lv }) (live (.loop c) lv) lv lv.nl s.tmps.length (fun ex vs H => K (ex, { tmps := expandM (maskOf lv ex) s.tmps.length 0 vs, heap := H })) n vs H
      | n + 1 => loopU (evCode E c { lv with nx := live (.loop c) lv }) (live (.loop c) lv) lv lv.nl s.tmps.length (fun ex vs H => K (ex, { tmps := expandM (maskOf lv ex) s.tmps.length 0 vs, heap := H })) (n + 1) vs H) ?_
    intro vs H
    have hloop : ∀ (lv' : LV) (m N : Nat) (f : Ex × List EV × Heap → Ex × St), Det (fun K : Ex × St → Prop => ∃ n, loopV (evCode E c { lv' with nx := live (.loop c) lv' }) (live (.loop c) lv') lv' m N (fun ex vs H => K (f (ex, vs, H))) n vs H) := by
      intro lv' m N f
      refine det_ex fun n => ?_
      exact det_map (T := fun K : Ex × List EV × Heap → Prop => loopV (evCode E c { lv' with nx := live (.loop c) lv' }) (live (.loop c) lv') lv' m N (fun e v h => K (e, v, h)) n vs H) f (det_loopV (fun s => ih' _ s) _ _ _ _ n vs H)
    cases E.un (firstRegion c) with
    | succ n =>
      dsimp only
      simp only [loopU_eq]
      exact det_map (T := fun K : Ex × List EV × Heap → Prop => loopV (evCode E c { lv with nx := live (.loop c) lv }) (live (.loop c) lv) lv lv.nl s.tmps.length (fun e v h => K (e, v, h)) (n + 1) vs H) (fun p => (p.1, ({ tmps := expandM (maskOf lv p.1) s.tmps.length 0 p.2.1, heap := p.2.2 } : St))) (det_loopV (fun s => ih' _ s) _ _ _ _ (n + 1) vs H)
    | zero =>
    dsimp only
    cases hl : E.lp (firstRegion c) with
    | some L =>
      refine det_gd ?_
      rcases hL c List.mem_cons_self L hl vs H with h | h
      · intro K hK; exact (h _ hK).elim
      · intro K hK
        obtain ⟨v, h1, h2⟩ := hloop L.lv L.m L.N (fun p => (p.1, { tmps := expandM (maskOf lv p.1) s.tmps.length 0 p.2.1, heap := p.2.2 })) K ((h _).1 hK)
        exact ⟨v, h1, fun K' hk => (h _).2 (h2 K' hk)⟩
    | none => exact hloop lv _ _ fun p => (p.1, { tmps := expandM (maskOf lv p.1) s.tmps.length 0 p.2.1, heap := p.2.2 })
  | exit id => intro hL lv s; exact Det2.of (det_pure (Ex.exit id, s))
  | ret => intro hL lv s; exact Det2.of (det_pure (Ex.ret, s))
  | scope c ih => intro hL lv s; exact ih hL lv s
  | rangeFunc f ps x y _ _ => intro hL lv s; exact Det2.of det_false
  | label l => intro hL lv s; exact Det2.of det_false
  | goto l => intro hL lv s; exact Det2.of det_false
  | refuse l => intro hL lv s; exact Det2.of det_false
theorem det_evResults : ∀ (rs : List ResultVar) (s : St), Det (evResults E rs s)
  | [], s => det_pure []
  | .tmp t :: rs, s => by
    show Det (fun K => evResults E (.tmp t :: rs) s K)
    unfold evResults
    exact det_gd (det_map (fun vs => s.slot t :: vs) (det_evResults rs s))
  | .cell a t :: rs, s => by
    show Det (fun K => evResults E (.cell a t :: rs) s K)
    unfold evResults
    refine det_gd ?_
    exact det_bind (U := fun v (K : List EV → Prop) => evResults E rs s fun vs => K (v :: vs)) det_evLoad fun v => det_map (fun vs => v :: vs) (det_evResults rs s)
theorem det_retK {nl : Nat} {ros : List (Option RK)} {vs : List EV} {H : Heap} : Det2 (retK nl ros vs H) := by
  refine Det2.of ?_
  unfold retK finK
  refine det_gd ?_
  split <;> exact det_pure (_, _)
theorem evFn_det {fn : Func} {own : Bool} {args : List EV} {H : Heap} (hD : DetFn E) (hL : ∀ c, fn.body = some c → ∀ c', c' ∈ loopsOf c → LoopEq E c') : Det2 (evFn E fn own args H) := by
  refine Det2.of ?_
  unfold evFn
  cases hb : fn.body with
  | none => exact det_false
  | some c =>
    dsimp only
    have hR : ∀ s, Det (fun K : EV × Heap → Prop => evResults E fn.results.toList s fun vs => retK H.length (cond own [] (fn.resultTypes.toList.map (roTy E))) vs s.heap fun v h => K (v, h)) := by
      intro s
      exact det_bind (U := fun vs (K : EV × Heap → Prop) => retK H.length (cond own [] (fn.resultTypes.toList.map (roTy E))) vs s.heap fun v h => K (v, h)) (det_evResults _ s) fun vs => det_retK.to
    refine det_bind (T := fun K : Ex × St → Prop => evCode E c _ _ fun e s => K (e, s)) (U := fun (p : Ex × St) (K : EV × Heap → Prop) => match p.1 with
      | .exit _ => False
      | _ => evResults E fn.results.toList p.2 fun vs => retK H.length (cond own [] (fn.resultTypes.toList.map (roTy E))) vs p.2.heap fun v h => K (v, h)) (evCode_det hD c (hL c hb) _ _).to ?_
    rintro ⟨e, s⟩
    cases e with
    | exit id => exact det_false
    | normal => exact hR s
    | ret => exact hR s
end
def look {α : Type} : List (Nat × α) → Nat → Option α
  | [], _ => none
  | (i, t) :: l, j => cond (Nat.beq i j) (some t) (look l j)
def AllL {α : Type} (p : Nat → α → Prop) : List (Nat × α) → Prop
  | [] => True
  | (i, a) :: l => p i a ∧ AllL p l
theorem look_all {α : Type} {p : Nat → α → Prop} : ∀ (l : List (Nat × α)), AllL p l → ∀ i a, look l i = some a → p i a
  | [], _, _, _, h => by cases h
  | (j, b) :: l, hl, i, a, h => by
    simp only [look] at h
    cases hb : Nat.beq j i with
    | true =>
      rw [hb] at h
      simp only [cond_true, Option.some.injEq] at h
      subst h
      exact Nat.eq_of_beq_eq_true hb ▸ hl.1
    | false =>
      rw [hb] at h
      exact look_all l hl.2 i a h
def tdB (P : Program) (t : TypeId) : TypeDesc → TD → Bool
  | .bool, .bool => true
  | .int k, .int k' => decide (k = k')
  | .string, .str => true
  | .pointer _, .ptr => true
  | .slice e, .slice e' => Nat.beq e e'
  | .array n e, .array n' e' => Nat.beq n n' && (Nat.beq e e' && !P.eqGuardType P.depth t)
  | .struct fs, .struct fs' => decide (fs.toList.map (fun f => (f.offset, f.type)) = fs') && (fs.toList.all (fun f => f.name != "_") && (!P.stoodInHeld t && !P.eqGuardType P.depth t))
  | .func _ _ _, .func => true
  | .interface _, .iface => true
  | d, .other => !TypeDescAgg d
  | _, _ => false
theorem tdB_ok {P : Program} {t : TypeId} {d : TypeDesc} {td : TD} (h : tdB P t d td = true) : tdOk P t d td := by
  unfold tdB at h
  split at h
  · trivial
  · have := of_decide_eq_true (p := _ = _) h; exact this
  · trivial
  · trivial
  · exact Nat.eq_of_beq_eq_true h
  · simp only [Bool.and_eq_true, Bool.not_eq_true'] at h
    exact ⟨Nat.eq_of_beq_eq_true h.1, Nat.eq_of_beq_eq_true h.2.1, h.2.2⟩
  · simp only [Bool.and_eq_true, Bool.not_eq_true'] at h
    exact ⟨of_decide_eq_true h.1, h.2.1, h.2.2.1, h.2.2.2⟩
  · trivial
  · trivial
  · simp only [Bool.not_eq_true'] at h
    cases d <;> simp_all [tdOk, TypeDescAgg]
  · cases h
def tiB (P : Program) (t : TypeId) (ti : TI) : Bool :=
  match P.underlying t, P.info? t with
  | some d, some i => tdB P t d ti.td && (Nat.beq i.size ti.size && (Nat.beq i.bytes ti.bytes && i.zero.isSome))
  | _, _ => false
theorem OkTI.of {P : Program} {t : TypeId} {ti : TI} (h : tiB P t ti = true) (h2 : (P.info? t).bind (·.zero) = encV ti.zero) : OkTI P t ti := by
  unfold tiB at h
  split at h
  · rename_i d i hd hi
    simp only [Bool.and_eq_true] at h
    rw [hi] at h2
    simp only [Option.bind_some] at h2
    cases hz : i.zero with
    | none => rw [hz] at h; simp at h
    | some z => exact ⟨d, i, z, hd, hi, tdB_ok h.1, Nat.eq_of_beq_eq_true h.2.1, Nat.eq_of_beq_eq_true h.2.2.1, hz, h2.symm.trans hz⟩
  · cases h
def Entry.pick (c : List EV → Heap → Bool) (a b : Entry) : Entry := ⟨a.ro, a.lend, fun args H K => cond (c args H) (a.spec args H K) (b.spec args H K)⟩
structure SoundE (P : Program) (gl : Nat → Option EV) (f : FuncId) (en : Entry) : Prop where
  sound : SoundF P gl f en
  det : ∀ args H, Det2 (en.spec args H)
  known : ∃ fn, P.funcs[f]? = some fn ∧ fn.body.isNone = false ∧ (fn.name == "runtime.NumGoroutine") = false
theorem SoundE.pick {P : Program} {gl : Nat → Option EV} {f : FuncId} {c : List EV → Heap → Bool} {a b : Entry} (h : SoundE P gl f a) (k : SoundE P gl f b) : SoundE P gl f (Entry.pick c a b) := by
  refine ⟨?_, ?_, h.known⟩
  · intro ρ H w args xs K hs hr hS hG
    have hs' : cond (c args H) (a.spec args H K) (b.spec args H K) := hs
    cases hc : c args H with
    | true => rw [hc] at hs'; exact h.sound ρ H w args xs K hs' hr hS hG
    | false => rw [hc] at hs'; exact k.sound ρ H w args xs K hs' hr hS hG
  · intro args H K hs
    have hs' : cond (c args H) (a.spec args H K) (b.spec args H K) := hs
    show ∃ v u, K v u ∧ ∀ K' : EV → Heap → Prop, K' v u → cond (c args H) (a.spec args H K') (b.spec args H K')
    cases hc : c args H with
    | true => rw [hc] at hs'; exact h.det args H K hs'
    | false => rw [hc] at hs'; exact k.det args H K hs'
def loopsF (fn : Func) : List Code :=
  match fn.body with
  | some c => loopsOf c
  | none => []
def loopAt (fn : Func) (k : Nat) : Code :=
  match (loopsF fn)[k]? with
  | some c => c
  | none => .skip
def AllLoops (E : Env) (fn : Func) : Nat → Nat → Prop
  | _, 0 => True
  | k, n + 1 => LoopEq E (loopAt fn k) ∧ AllLoops E fn (k + 1) n
theorem allLoops_ok {E : Env} {fn : Func} : ∀ (n k : Nat), AllLoops E fn k n → ∀ j, k ≤ j → j < k + n → LoopEq E (loopAt fn j)
  | 0, k, _, j, h1, h2 => by omega
  | n + 1, k, h, j, h1, h2 => by
    by_cases hj : j = k
    · subst hj; exact h.1
    · exact allLoops_ok n (k + 1) h.2 j (by omega) (by omega)
theorem fnOK {P : Program} {E : Env} {f : FuncId} {fn : Func} {en : Entry} {tys : List (Nat × TI)} {fns : List (Nat × Entry)} (hty : E.ty = look tys) (htys : AllL (OkTI P) tys)
    (hfn : E.fn = look fns) (hfns : AllL (SoundE P E.gl) fns) (hm : P.follows .mixedOrders = true) (hf : P.funcs[f]? = some fn) (hb : fn.body.isNone = false) (hn : (fn.name == "runtime.NumGoroutine") = false)
    (n : Nat) (hln : (loopsF fn).length = n) (own : Bool) (hl : AllLoops E fn 0 n) (hS : ∀ args H, (∀ K, ¬ en.spec args H K) ∨ ∀ K, en.spec args H K ↔ evFn E fn own args H K) : SoundE P E.gl f en := by
  have hE : ∀ t ti, E.ty t = some ti → OkTI P t ti := by rw [hty]; exact look_all tys htys
  have hA : ∀ g e, E.fn g = some e → SoundE P E.gl g e := by rw [hfn]; exact look_all fns hfns
  have hFn : OkFn P E := fun g e h => ⟨(hA g e h).sound, (hA g e h).known⟩
  have hD : DetFn E := fun g e h => (hA g e h).det
  have hL : ∀ c, fn.body = some c → ∀ c', c' ∈ loopsOf c → LoopEq E c' := by
    intro c hc c' hc'
    have he : loopsF fn = loopsOf c := by simp [loopsF, hc]
    obtain ⟨k, hk, rfl⟩ := List.mem_iff_getElem.1 hc'
    have : loopAt fn k = (loopsOf c)[k] := by simp [loopAt, he, hk]
    rw [← this]
    exact allLoops_ok n 0 hl k (Nat.zero_le _) (by rw [he] at hln; omega)
  refine ⟨?_, ?_, ⟨fn, hf, hb, hn⟩⟩
  · intro ρ H w args xs K hs hr hS' hG
    rcases hS args H with h | h
    · exact (h K hs).elim
    · exact evFn_sound hE hFn hD hm hf (fun c hc c' hc' => (hL c hc c' hc').ok) ((h K).1 hs) hr hS' hG
  · intro args H K hs
    rcases hS args H with h | h
    · exact (h K hs).elim
    · obtain ⟨v, u, h1, h2⟩ := evFn_det hD hL K ((h K).1 hs)
      exact ⟨v, u, h1, fun K' hk => (h K').2 (h2 K' hk)⟩
theorem law_walk {P : Program} {gl : Nat → Option EV} {f : FuncId} {en : Entry} (h : SoundE P gl f en) {W : World} {args : List EV} {xs : List Value} (hs : en.spec args [] fun v H => gd (Nat.beq H.length 0) (v = .bool true)) (hr : RelL ⟨[], []⟩ W args xs) (hG : GOk gl ⟨[], []⟩ W) :
    Calls P f xs.toArray W fun e w' => e = .returned (.bool true) ∧ RowKit.Below W.heap.size W w' := by
  refine (h.sound.plain hs hr (by simp) hG).mono ?_
  rintro e w' ⟨v, x, rfl, rfl, hv, hX⟩
  simp only [Rel] at hv
  subst hv
  exact ⟨rfl, hX.os, hX.tape, hX.output, hX.size, fun k hk => hX.out k hk (by simp [Ren.own])⟩
end Go.Ev

/- The evaluator once more, with its slots in a tree: for the kernel's sake. That it is the same. -/
set_option linter.unusedVariables false
set_option linter.unusedSimpArgs false
namespace Go.Ev
open Go
def EV.top (v : EV) (k : EV → Prop) : Prop :=
  match v with
  | .undef => k .undef
  | .bool b => k (.bool b)
  | .int q n => k (.int q n)
  | .str s => k (.str s)
  | .nilPtr => k .nilPtr
  | .ptr b p => k (.ptr b p)
  | .rref v => k (.rref v)
  | .nilSlice => k .nilSlice
  | .slice b o n c e => k (.slice b o n c e)
  | .rsI q n g => k (.rsI q n g)
  | .rsT n s g => k (.rsT n s g)
  | .arrT n s g => k (.arrT n s g)
  | .nilFunc => k .nilFunc
  | .func f l => k (.func f l)
  | .bnd f l => k (.bnd f l)
  | .agg l => k (.agg l)
  | .arr q n g => k (.arr q n g)
  | .tuple l => k (.tuple l)
  | .nilIface => k .nilIface
  | .iface t v => k (.iface t v)
theorem EV.top_eq (v : EV) (k : EV → Prop) : v.top k = k v := by cases v <;> rfl
def topL : List EV → (List EV → Prop) → Prop
  | [], k => k []
  | v :: l, k => v.top fun v' => topL l fun l' => k (v' :: l')
theorem topL_eq : ∀ (l : List EV) (k : List EV → Prop), topL l k = k l
  | [], _ => rfl
  | v :: l, k => by simp only [topL, EV.top_eq, topL_eq l]
def EV.top2 (v : EV) (k : EV → Prop) : Prop :=
  match v with
  | .undef => k .undef
  | .bool b => k (.bool b)
  | .int q n => k (.int q n)
  | .str s => k (.str s)
  | .nilPtr => k .nilPtr
  | .ptr b p => k (.ptr b p)
  | .rref v => k (.rref v)
  | .nilSlice => k .nilSlice
  | .slice b o n c e => k (.slice b o n c e)
  | .rsI q n g => k (.rsI q n g)
  | .rsT n s g => k (.rsT n s g)
  | .arrT n s g => k (.arrT n s g)
  | .nilFunc => k .nilFunc
  | .func f l => k (.func f l)
  | .bnd f l => k (.bnd f l)
  | .agg l => topL l fun l' => k (.agg l')
  | .arr q n g => k (.arr q n g)
  | .tuple l => topL l fun l' => k (.tuple l')
  | .nilIface => k .nilIface
  | .iface t v => k (.iface t v)
theorem EV.top2_eq (v : EV) (k : EV → Prop) : v.top2 k = k v := by cases v <;> first | rfl | simp only [EV.top2, topL_eq]
def topH : Heap → (Heap → Prop) → Prop
  | [], k => k []
  | none :: l, k => topH l fun l' => k (none :: l')
  | some v :: l, k => v.top2 fun v' => topH l fun l' => k (some v' :: l')
theorem topH_eq : ∀ (l : Heap) (k : Heap → Prop), topH l k = k l
  | [], _ => rfl
  | none :: l, k => by simp only [topH, topH_eq l]
  | some v :: l, k => by simp only [topH, EV.top2_eq, topH_eq l]
inductive Tr where
  | nil
  | node (v : EV) (l r : Tr)
def Tr.v : Tr → EV
  | .nil => .undef
  | .node v _ _ => v
def Tr.l : Tr → Tr
  | .nil => .nil
  | .node _ l _ => l
def Tr.r : Tr → Tr
  | .nil => .nil
  | .node _ _ r => r
def Tr.get : Tr → Nat → EV
  | .nil, _ => .undef
  | .node v l r, i => match i with
    | 0 => v
    | i + 1 => cond (Nat.beq (Nat.mod i 2) 0) (l.get (Nat.div i 2)) (r.get (Nat.div i 2))
def Tr.set : Nat → Tr → Nat → EV → Tr
  | 0, t, _, _ => t
  | f + 1, t, i, x => match i with
    | 0 => .node x t.l t.r
    | i + 1 => cond (Nat.beq (Nat.mod i 2) 0) (.node t.v (Tr.set f t.l (Nat.div i 2) x) t.r) (.node t.v t.l (Tr.set f t.r (Nat.div i 2) x))
theorem Tr.get_zero (t : Tr) : t.get 0 = t.v := by cases t <;> rfl
theorem Tr.get_succ (t : Tr) (i : Nat) : t.get (i + 1) = if i % 2 = 0 then t.l.get (i / 2) else t.r.get (i / 2) := by
  cases t with
  | nil => simp only [Tr.get, Tr.l, Tr.r]; split <;> rfl
  | node v l r =>
    show cond (Nat.beq (i % 2) 0) (l.get (i / 2)) (r.get (i / 2)) = _
    cases hb : Nat.beq (i % 2) 0 with
    | true => rw [if_pos (Nat.eq_of_beq_eq_true hb)]; rfl
    | false => rw [if_neg (fun h => by rw [h] at hb; cases hb)]; rfl
theorem Tr.get_set : ∀ (f : Nat) (t : Tr) (i : Nat) (x : EV) (j : Nat), i < f → (Tr.set f t i x).get j = if j = i then x else t.get j
  | 0, t, i, x, j, h => by omega
  | f + 1, t, 0, x, j, h => by
    simp only [Tr.set]
    cases j with
    | zero => rw [Tr.get_zero, if_pos rfl]; rfl
    | succ j =>
      rw [Tr.get_succ, if_neg (show ¬ j + 1 = 0 by omega), Tr.get_succ]; rfl
  | f + 1, t, i + 1, x, j, h => by
    have hi : i / 2 < f := by omega
    show (cond (Nat.beq (i % 2) 0) (Tr.node t.v (Tr.set f t.l (i / 2) x) t.r) (Tr.node t.v t.l (Tr.set f t.r (i / 2) x))).get j = _
    cases hb : Nat.beq (i % 2) 0 with
    | true =>
      have h0 := Nat.eq_of_beq_eq_true hb
      rw [cond_true]
      cases j with
      | zero => rw [Tr.get_zero, if_neg (by omega), Tr.get_zero]; rfl
      | succ j =>
        rw [Tr.get_succ, Tr.get_succ]
        show (if j % 2 = 0 then (Tr.set f t.l (i / 2) x).get (j / 2) else t.r.get (j / 2)) = _
        rw [Tr.get_set f t.l (i / 2) x (j / 2) hi]
        by_cases hj : j % 2 = 0
        · rw [if_pos hj, if_pos hj]
          by_cases he : j = i
          · subst he; rw [if_pos rfl, if_pos rfl]
          · rw [if_neg (by omega), if_neg (by omega)]
        · rw [if_neg hj, if_neg hj, if_neg (by omega)]
    | false =>
      have h0 : i % 2 ≠ 0 := fun h => by rw [h] at hb; cases hb
      rw [cond_false]
      cases j with
      | zero => rw [Tr.get_zero, if_neg (by omega), Tr.get_zero]; rfl
      | succ j =>
        rw [Tr.get_succ, Tr.get_succ]
        show (if j % 2 = 0 then t.l.get (j / 2) else (Tr.set f t.r (i / 2) x).get (j / 2)) = _
        rw [Tr.get_set f t.r (i / 2) x (j / 2) hi]
        by_cases hj : j % 2 = 0
        · rw [if_pos hj, if_pos hj, if_neg (by omega)]
        · rw [if_neg hj, if_neg hj]
          by_cases he : j = i
          · subst he; rw [if_pos rfl, if_pos rfl]
          · rw [if_neg (by omega), if_neg (by omega)]
structure Q where
  n : Nat
  t : Tr
  heap : Heap
def Q.slots (q : Q) : List EV := (List.range q.n).map q.t.get
def Q.to (q : Q) : St := { tmps := q.slots, heap := q.heap }
def Q.slot (q : Q) (t : Nat) : EV := cond (Nat.blt t q.n) (q.t.get t) .undef
def Q.put (q : Q) (d : Option Nat) (v : EV) (H : Heap) : Q :=
  match d with
  | some d => ⟨q.n, q.t.set (d + 1) d v, H⟩
  | none => ⟨q.n, q.t, H⟩
def Tr.ofL : List EV → Nat → Tr → Tr
  | [], _, t => t
  | v :: l, i, t => match v with
    | .undef => Tr.ofL l (Nat.succ i) t
    | v => Tr.ofL l (Nat.succ i) (t.set (i + 1) i v)
def Q.of (l : List EV) (H : Heap) : Q := ⟨l.length, Tr.ofL l 0 .nil, H⟩
def Q.opd (E : Env) (q : Q) : Operand → EV
  | .tmp t => q.slot t
  | .const v => constV v
  | .global g => match E.gl g with
    | some v => .rref v
    | none => .undef
  | .func f => .func f []
theorem Q.slots_get (q : Q) (i : Nat) : q.slots[i]? = if i < q.n then some (q.t.get i) else none := by
  unfold Q.slots
  rw [List.getElem?_map]
  by_cases h : i < q.n
  · rw [if_pos h, List.getElem?_range h]; rfl
  · rw [if_neg h, List.getElem?_eq_none (by simp; omega)]; rfl
theorem Q.slot_to (q : Q) (t : Nat) : q.to.slot t = q.slot t := by
  show (q.slots[t]?).getD .undef = _
  rw [Q.slots_get]
  unfold Q.slot
  cases hb : Nat.blt t q.n with
  | true => rw [if_pos (show t < q.n from Nat.le_of_ble_eq_true hb)]; rfl
  | false =>
    rw [if_neg]
    · rfl
    · intro h
      have : Nat.blt t q.n = true := Nat.ble_eq_true_of_le (show t + 1 ≤ q.n by omega)
      rw [hb] at this; cases this
theorem Q.put_to (q : Q) (d : Option Nat) (v : EV) (H : Heap) : (q.put d v H).to = q.to.put d v H := by
  cases d with
  | none => rfl
  | some d =>
    show ({ tmps := (Q.mk q.n (q.t.set (d + 1) d v) H).slots, heap := H } : St) = { tmps := q.slots.set d v, heap := H }
    congr 1
    apply List.ext_getElem?
    intro j
    rw [Q.slots_get, List.getElem?_set]
    show (if j < q.n then some ((q.t.set (d + 1) d v).get j) else none) = _
    rw [Tr.get_set _ _ _ _ _ (Nat.lt_succ_self d), Q.slots_get]
    have hl : q.slots.length = q.n := by simp [Q.slots]
    by_cases hd : d = j
    · subst hd
      rw [if_pos rfl, if_pos rfl, hl]
    · rw [if_neg hd, if_neg (show ¬ j = d from fun h => hd h.symm)]
theorem Tr.ofL_get : ∀ (l : List EV) (i : Nat) (t : Tr) (j : Nat), (∀ k, i ≤ k → t.get k = .undef) → (Tr.ofL l i t).get j = if j < i then t.get j else (l[j - i]?).getD .undef
  | [], i, t, j, h => by
    simp only [Tr.ofL]
    split
    · rfl
    · rw [h j (by omega)]; rfl
  | v :: l, i, t, j, h => by
    have key : ∀ t' : Tr, (∀ k, t'.get k = if k = i then v else t.get k) → (Tr.ofL l (i + 1) t').get j = if j < i then t.get j else ((v :: l)[j - i]?).getD .undef := by
      intro t' ht
      rw [Tr.ofL_get l (i + 1) t' j fun k hk => by rw [ht, if_neg (by omega)]; exact h k (by omega)]
      by_cases h1 : j < i
      · rw [if_pos h1, if_pos (by omega), ht, if_neg (by omega)]
      · rw [if_neg h1]
        by_cases h2 : j = i
        · subst h2; rw [if_pos (by omega), ht, if_pos rfl, Nat.sub_self]; rfl
        · rw [if_neg (by omega)]
          obtain ⟨m, hm⟩ : ∃ m, j - i = m + 1 := ⟨j - i - 1, by omega⟩
          rw [hm, show j - (i + 1) = m from by omega]; rfl
    simp only [Tr.ofL]
    split
    · exact key t fun k => by
        split
        · subst k; exact h i (Nat.le_refl _)
        · rfl
    · exact key _ fun k => Tr.get_set _ _ _ _ _ (Nat.lt_succ_self i)
theorem Q.of_to (l : List EV) (H : Heap) : (Q.of l H).to = { tmps := l, heap := H } := by
  show ({ tmps := (Q.of l H).slots, heap := H } : St) = _
  congr 1
  apply List.ext_getElem?
  intro j
  rw [Q.slots_get]
  show (if j < l.length then some ((Tr.ofL l 0 .nil).get j) else none) = _
  rw [Tr.ofL_get l 0 .nil j fun _ _ => rfl, if_neg (Nat.not_lt_zero j), Nat.sub_zero]
  split
  · rename_i hj; rw [List.getElem?_eq_getElem hj]; rfl
  · rename_i hj; rw [List.getElem?_eq_none (by omega)]
theorem Q.opd_to (E : Env) (q : Q) : St.opd E q.to = Q.opd E q := by
  funext x
  cases x with
  | tmp t => exact Q.slot_to q t
  | const v => rfl
  | global g => rfl
  | func f => rfl
noncomputable abbrev gz (c : Bool) (p : Prop) : Prop := @Bool.rec (fun _ => Prop) False p c
noncomputable abbrev cz (c : Bool) (p q : Prop) : Prop := @Bool.rec (fun _ => Prop) q p c
theorem gz_eq (c : Bool) (p : Prop) : gz c p = gd c p := by cases c <;> rfl
theorem cz_eq (c : Bool) (p q : Prop) : cz c p q = cond c p q := by cases c <;> rfl
noncomputable def intBinQ (op : BinOp) (k : IntKind) (a b : Int) (K : EV → Prop) : Prop :=
  match op with
  | .quo => gz (!eqI b 0) (K (.int k (quoI k a b)))
  | .rem => gz (!eqI b 0) (K (.int k (remI k a b)))
  | op => intBin op k a b K
theorem intBinQ_eq (op : BinOp) (k : IntKind) (a b : Int) (K : EV → Prop) : intBinQ op k a b K = intBin op k a b K := by
  cases op <;> first | rfl | exact gz_eq _ _
noncomputable def evBinQ (E : Env) (op : BinOp) (t : TypeId) (x y : EV) (K : EV → Prop) : Prop :=
  match x, y with
  | .int k a, .int k' b =>
    match op with
    | .shl => gz (!ltI b 0) (K (.int k (shlI k a b)))
    | .shr => gz (!ltI b 0) (K (.int k (shrI k a b)))
    | op => cz (decide (k = k')) (intBinQ op k a b K) False
  | .str a, .str b => strBin op a b K
  | x, y => match op with
    | .eql => match eqT E 100 t x y with
      | some b => K (.bool b)
      | none => False
    | .neq => match eqT E 100 t x y with
      | some b => K (.bool (!b))
      | none => False
    | _ => False
theorem evBinQ_eq (E : Env) (op : BinOp) (t : TypeId) (x y : EV) (K : EV → Prop) : evBinQ E op t x y K = evBin E op t x y K := by
  unfold evBinQ evBin; simp only [cz_eq, gz_eq, intBinQ_eq]; rfl
noncomputable def evCmpQ (E : Env) (op : BinOp) (t : TypeId) (o : Operand) (x y : EV) (H : Heap) (K : EV → Prop) : Prop :=
  cz (Nat.beq (nilK o) 1) (evPN E op t x H K) (cz (Nat.beq (nilK o) 2) (evIN E op t x K) (evBinQ E op t x y K))
theorem evCmpQ_eq (E : Env) (op : BinOp) (t : TypeId) (o : Operand) (x y : EV) (H : Heap) (K : EV → Prop) : evCmpQ E op t o x y H K = evCmp E op t o x y H K := by
  unfold evCmpQ evCmp; rw [cz_eq, cz_eq, evBinQ_eq]
noncomputable def evLoadQ (E : Env) (t : TypeId) (v : EV) (H : Heap) (K : EV → Prop) : Prop :=
  match v with
  | .rref u => gz (conf E t u) (K u)
  | .ptr b p => match H[b]? with
    | some (some c) => match EV.get p c with
      | some u => gz (conf E t u) (K u)
      | none => False
    | _ => False
  | _ => False
noncomputable def evConvQ (E : Env) (src dst : TypeId) (x : EV) (H : Heap) (K : EV → Prop) : Prop :=
  match E.ty src, E.ty dst with
  | some si, some di => match di.td, x with
    | .int k, .int _ n => K (.int k (cvI k n))
    | .str, .str s => K (.str s)
    | .str, x => match si.td with
      | .slice e => cz (isIntTy E e .u8) (match evWin H x with
        | some (.u8, n, g) => K (.str (bytesOf n g))
        | _ => match x with
          | .nilSlice => K (.str [])
          | _ => False) False
      | _ => False
    | _, _ => False
  | _, _ => False
noncomputable def evBuildSliceQ (E : Env) (t : TypeId) (n : Nat) (ps : List (Nat × EV)) (H : Heap) (K : EV → Heap → Prop) : Prop :=
  match E.ty t with
  | some ti => match ti.td with
    | .slice e => match E.ty e with
      | some ei => gz (Nat.ble (n * ei.size) 16777216) (match ei.zero with
        | .int k z => gz (Nat.beq ei.size 1) (match evParts (fun i => some (i * 1, 1)) ps (.arr k n (fun _ => z)) with
          | some v => K (.slice H.length 0 n (some n) 1) (H ++ [some v])
          | none => False)
        | z => gz (Nat.blt 0 ei.size && Nat.beq z.shape.size ei.size) (match evParts (fun i => some (i * ei.size, ei.size)) ps (.agg (List.replicate n z)) with
          | some v => K (.slice H.length 0 n (some n) ei.size) (H ++ [some v])
          | none => False))
      | none => False
    | _ => False
  | none => False
noncomputable def evCallLQ (en : Entry) (args : List EV) (dead idx : List Nat) (H : Heap) (K : EV → Heap → Prop) : Prop :=
  gz (dfdL args && (EV.inIL idx args && (inIH idx H idx && (allLt H.length idx && noneIn idx dead))))
    (en.spec (EV.renL (pos idx) args) (subH H idx) fun v H' =>
      gz (v.inI (upTo H'.length) && (inIH (upTo H'.length) H' (upTo H'.length) && Nat.ble idx.length H'.length))
        (K (v.ren (backN idx H.length)) (killN (cond (v.noRS && noRSH H') [] dead) (putB idx (renH (backN idx H.length) H') H))))
noncomputable def evCallFQ (E : Env) (f : FuncId) (args : List EV) (H : Heap) (K : EV → Heap → Prop) : Prop :=
  match E.fn f with
  | some en => cz en.lend
      (cz (newRo en.ro) (gz (EV.freeL args) (evCallLQ en args [] [] H K)) (cz (keepRo en.ro) (evCallLQ en args [] (canI 0 args H) H fun v H2 => keepH H2 H ∧ gz (v.inI []) (K v H)) (evCallLQ en (roArgs H en.ro args) (roDead en.ro args) (canI 0 (roArgs H en.ro args) H) H K)))
      (gz (EV.freeL (roArgs H en.ro args)) (en.spec (roArgs H en.ro args) [] fun v H' =>
        gz (Nat.beq H'.length 0 && v.inI []) (cz v.noRS (K v H) (K v (killArgs args H)))))
  | none => False
noncomputable def evCallQ (E : Env) (f : EV) (args : List EV) (H : Heap) (K : EV → Heap → Prop) : Prop :=
  match f with
  | .func f cap => evCallFQ E f (args ++ cap) H K
  | .bnd f l => evCallFQ E f (l ++ args) H K
  | _ => False
noncomputable def evVQ (E : Env) (o : Op) (r : Operand → EV) (H : Heap) (K : EV → Prop) : Prop :=
  match o with
  | .move x => K (r x)
  | .assign x => K (r x)
  | .pick c a b => match r c with
    | .bool t => br t (K (r a)) (K (r b))
    | _ => False
  | .build t ps => gz (dfdL (ps.toList.map fun p => r p.2)) (evBuild E t (ps.toList.map fun p => (p.1, r p.2)) K)
  | .load t a => evLoadQ E t (r a) H K
  | .binOp op t x y _ => gz ((r x).dfd && (r y).dfd) (evCmpQ E op t y (r x) (r y) H K)
  | .unOp op _ x => evUn op (r x) K
  | .convert src dst x => gz (r x).dfd (evConvQ E src dst (r x) H K)
  | .fieldAddr t x f => gz (r x).dfd (evFieldAddr E t (r x) f H K)
  | .field t x f => gz (r x).dfd (evField E t (r x) f K)
  | .indexAddr t x i => gz ((r x).dfd && (r i).dfd) (evIndexAddr E t (r x) (r i) H K)
  | .index t x i => gz ((r x).dfd && (r i).dfd) (evIndex E t (r x) (r i) K)
  | .extract x i => evExtract (r x) i K
  | .makeFunc (.func f) ⟨[]⟩ cs => gz (dfdL (cs.toList.map r)) (K (.func f (cs.toList.map r)))
  | .slice t x lo hi mx => gz ((r x).dfd && (dfdO (lo.map r) && (dfdO (hi.map r) && dfdO (mx.map r)))) (evSliceA E t (r x) (lo.map r) (hi.map r) (mx.map r) H K)
  | .call { callee := .builtin .len, args := ⟨[x]⟩, argTypes := ⟨[t]⟩ } => gz (r x).dfd (evLen E t (r x) K)
  | .call { callee := .builtin .max, args := xs, argTypes := _ } => gz (dfdL (xs.toList.map r)) (evMM maxI (xs.toList.map r) K)
  | .call { callee := .builtin .min, args := xs, argTypes := _ } => gz (dfdL (xs.toList.map r)) (evMM minI (xs.toList.map r) K)
  | .nilCheck x => gz (r x).dfd (evNil (r x) H K)
  | .makeFunc (.func f) fs ⟨[]⟩ => gz (dfdL (fs.toList.map r)) (K (.bnd f (fs.toList.map r)))
  | _ => False
noncomputable def evOpQ (E : Env) (o : Op) (r : Operand → EV) (H : Heap) (K : EV → Heap → Prop) : Prop :=
  match o with
  | .alloc t => match E.ty t with
    | some ti => evNew H ti.zero K
    | none => False
  | .box t x => match r x with
    | .undef => False
    | v => evNew H v K
  | .buildSlice t n ps => gz (dfdL (ps.toList.map fun p => r p.2)) (evBuildSliceQ E t n (ps.toList.map fun p => (p.1, r p.2)) H K)
  | .store t a x => evStore E t (r a) (r x) H (fun H2 => K .undef H2)
  | .makeSlice t ln cp => gz ((r ln).dfd && (r cp).dfd) (evMakeSliceA E t (r ln) (r cp) H K)
  | .call { callee := .value f, args := xs, argTypes := _ } => evCallQ E (r f) (xs.toList.map r) H K
  | .call { callee := .builtin .append, args := ⟨[x, y]⟩, argTypes := ⟨[t, u]⟩ } => gz ((r x).dfd && (r y).dfd) (evAppendA E t u (r x) (r y) H K)
  | .call { callee := .builtin .copy, args := ⟨[x, y]⟩, argTypes := ⟨[t, _]⟩ } => gz ((r x).dfd && (r y).dfd) (evCopy E t (r x) (r y) H K)
  | o => evVQ E o r H (fun v => K v H)
theorem evConvQ_eq (E : Env) (src dst : TypeId) (x : EV) (H : Heap) (K : EV → Prop) : evConvQ E src dst x H K = evConv E src dst x H K := by
  unfold evConvQ evConv; simp only [cz_eq]; rfl
theorem evBuildSliceQ_eq (E : Env) (t : TypeId) (n : Nat) (ps : List (Nat × EV)) (H : Heap) (K : EV → Heap → Prop) : evBuildSliceQ E t n ps H K = evBuildSlice E t n ps H K := by
  unfold evBuildSliceQ evBuildSlice; simp only [gz_eq]; rfl
theorem evLoadQ_eq (E : Env) (t : TypeId) (v : EV) (H : Heap) (K : EV → Prop) : evLoadQ E t v H K = evLoad E t v H K := by
  unfold evLoadQ evLoad; simp only [gz_eq]; rfl
theorem evCallQ_eq (E : Env) (f : EV) (args : List EV) (H : Heap) (K : EV → Heap → Prop) : evCallQ E f args H K = evCall E f args H K := by
  have h : ∀ f args, evCallFQ E f args H K = evCallF E f args H K := by
    intro f args
    unfold evCallFQ evCallF evCallLQ evCallL; simp only [gz_eq, cz_eq]; rfl
  unfold evCallQ evCall; simp only [h]; rfl
theorem evVQ_eq (E : Env) (o : Op) (s : St) (K : EV → Prop) : evVQ E o (St.opd E s) s.heap K = evV E o s K := by
  unfold evVQ evV; simp only [gz_eq, evCmpQ_eq, evLoadQ_eq, evConvQ_eq]; rfl
theorem evOpQ_eq (E : Env) (o : Op) (s : St) (K : EV → Heap → Prop) : evOpQ E o (St.opd E s) s.heap K = evOp E o s K := by
  unfold evOpQ evOp; simp only [gz_eq, evCallQ_eq, evVQ_eq, evBuildSliceQ_eq]; rfl
noncomputable def evOneQ (E : Env) (ops : List Oper) (o : Oper) (q : Q) (K : Q → Prop) : Prop :=
  match o.guard with
  | none => evOpQ E o.op (q.opd E) q.heap fun v H => v.top2 fun v => K (q.put o.dst v H)
  | some (j, want) => match ops[j]? with
    | some oj => match oj.dst with
      | some d => match q.slot d with
        | .bool b => br b
            (cond (beqB true want) (evOpQ E o.op ((q.put (some d) (.bool true) q.heap).opd E) q.heap fun v H => v.top2 fun v => K ((q.put (some d) (.bool true) q.heap).put o.dst v H)) (K ((q.put (some d) (.bool true) q.heap).put o.dst (.tuple []) q.heap)))
            (cond (beqB false want) (evOpQ E o.op ((q.put (some d) (.bool false) q.heap).opd E) q.heap fun v H => v.top2 fun v => K ((q.put (some d) (.bool false) q.heap).put o.dst v H)) (K ((q.put (some d) (.bool false) q.heap).put o.dst (.tuple []) q.heap)))
        | .tuple [] => K (q.put o.dst (.tuple []) q.heap)
        | _ => False
      | none => False
    | none => False
noncomputable def evOpsQ (E : Env) (ops : List Oper) : List Oper → Q → (Q → Prop) → Prop
  | [], q, K => K q
  | o :: r, q, K => evOneQ E ops o q fun q' => evOpsQ E ops r q' K
def chkBQ (E : Env) (ops : List Oper) (q : Q) : Bool := chkFrom E (fun x y => apartV (q.opd E x) (q.opd E y)) ops 0 ops
noncomputable def evDrawQ (E : Env) (ops : List Oper) (q : Q) (K : Q → Prop) : Prop :=
  gz (commB E ops) (cz (chkFrom E (fun _ _ => false) ops 0 ops) (evOpsQ E ops ops q K) (evOpsQ E ops ops q fun q' => gz (chkBQ E ops q') (K q')))
theorem evOneQ_eq (E : Env) (ops : List Oper) (o : Oper) (q : Q) (K : St → Prop) : (evOneQ E ops o q fun q => K q.to) = evOne E ops o q.to K := by
  have run : ∀ q1 : Q, q1.heap = q.heap → (evOpQ E o.op (q1.opd E) q.heap fun v H => v.top2 fun v => K (q1.put o.dst v H).to) = evOp E o.op q1.to fun v H => K (q1.to.put o.dst v H) := by
    intro q1 hh
    rw [← evOpQ_eq, Q.opd_to, show q1.to.heap = q.heap from hh]
    simp only [EV.top2_eq, Q.put_to]
  unfold evOneQ evOne
  cases o.guard with
  | none => exact run q rfl
  | some p =>
    obtain ⟨j, want⟩ := p
    simp only
    cases ops[j]? with
    | none => rfl
    | some oj =>
      simp only
      cases oj.dst with
      | none => rfl
      | some d =>
        simp only [Q.slot_to]
        have r1 := run (q.put (some d) (.bool true) q.heap) rfl
        have r2 := run (q.put (some d) (.bool false) q.heap) rfl
        rw [Q.put_to] at r1 r2
        cases q.slot d <;> try rfl
        · rename_i b
          simp only
          rw [r1, r2, Q.put_to, Q.put_to, Q.put_to, Q.put_to]; rfl
        · rename_i l
          cases l with
          | nil => simp only; rw [Q.put_to]; rfl
          | cons _ _ => rfl
theorem evOpsQ_eq (E : Env) (ops : List Oper) : ∀ (r : List Oper) (q : Q) (K : St → Prop), (evOpsQ E ops r q fun q => K q.to) = evOps E ops r q.to K
  | [], q, K => rfl
  | o :: r, q, K => by
    simp only [evOpsQ, evOps]
    rw [← evOneQ_eq]
    simp only [evOpsQ_eq E ops r]
theorem evDrawQ_eq (E : Env) (ops : List Oper) (q : Q) (K : St → Prop) : (evDrawQ E ops q fun q => K q.to) = evDraw E ops q.to K := by
  unfold evDrawQ evDraw
  rw [evOpsQ_eq E ops ops q K, ← evOpsQ_eq E ops ops q fun s' => gd (chkB E ops s') (K s')]
  have : ∀ q' : Q, chkBQ E ops q' = chkB E ops q'.to := fun q' => by unfold chkBQ chkB; rw [Q.opd_to]
  simp only [this, gz_eq, cz_eq]; rfl
noncomputable def loopStepQ (step : Q → (Ex → Q → Prop) → Prop) (head : Nat) (lv : LV) (m N : Nat) (R : List EV → Heap → Prop) (vs : List EV) (H : Heap) (K : Ex → List EV → Heap → Prop) : Prop :=
  step (Q.of (expandM head N 0 vs) H) fun ex q => match ex with
    | .normal => outK lv.fg head m N q.to R
    | .exit id => outK lv.fg (lookL lv.ex id) m N q.to (K (.exit id))
    | .ret => outK lv.fg lv.rt m N q.to (K .ret)
noncomputable def loopVQ (step : Q → (Ex → Q → Prop) → Prop) (head : Nat) (lv : LV) (m N : Nat) (K : Ex → List EV → Heap → Prop) : Nat → List EV → Heap → Prop
  | 0, _, _ => False
  | n + 1, vs, H => loopStepQ step head lv m N (loopVQ step head lv m N K n) vs H K
noncomputable def loopUQ (step : Q → (Ex → Q → Prop) → Prop) (head : Nat) (lv : LV) (m N : Nat) (K : Ex → List EV → Heap → Prop) : Nat → List EV → Heap → Prop
  | 0, _, _ => False
  | n + 1, vs, H => loopStepQ step head lv m N (loopUQ step head lv m N K n) vs H K
def Q.force (q : Q) (k : Q → Prop) : Prop := topH q.heap fun h => k ⟨q.n, q.t, h⟩
theorem Q.force_eq (q : Q) (k : Q → Prop) : q.force k = k q := by simp only [Q.force, topH_eq]
noncomputable def evCodeQ (E : Env) : Code → LV → Q → (Ex → Q → Prop) → Prop
  | .skip, _, q, K => K .normal q
  | .region _ ops draw, _, q, K => q.force fun q => cond draw (evDrawQ E ops.toList q (K .normal)) (evOpsQ E ops.toList ops.toList q (K .normal))
  | .seq a b, lv, q, K => evCodeQ E a { lv with nx := live b lv } q fun ex q' => match ex with
    | .normal => evCodeQ E b lv q' K
    | .exit id => K (.exit id) q'
    | .ret => K .ret q'
  | .cond c a b, lv, q, K => match (q.opd E) c with
    | .bool t => br t (evCodeQ E a lv q K) (evCodeQ E b lv q K)
    | _ => False
  | .block id c, lv, q, K => evCodeQ E c { lv with ex := (id, lv.nx) :: lv.ex } q fun ex q' => match ex with
    | .normal => K .normal q'
    | .exit id' => cond (Nat.beq id' id) (K .normal q') (K (.exit id') q')
    | .ret => K .ret q'
  | .loop c, lv, q, K => outK lv.fg (live (.loop c) lv) lv.nl q.n q.to fun vs H => match E.un (firstRegion c) with
    | 0 => match E.lp (firstRegion c) with
      | some L => gd (lv.beq L.lv && (Nat.beq lv.nl L.m && Nat.beq q.n L.N)) (L.spec vs H fun ex vs H => K ex (Q.of (expandM (maskOf lv ex) q.n 0 vs) H))
      | none => ∃ n, loopVQ (evCodeQ E c { lv with nx := live (.loop c) lv }) (live (.loop c) lv) lv lv.nl q.n (fun ex vs H => K ex (Q.of (expandM (maskOf lv ex) q.n 0 vs) H)) n vs H
    | n + 1 => loopUQ (evCodeQ E c { lv with nx := live (.loop c) lv }) (live (.loop c) lv) lv lv.nl q.n (fun ex vs H => K ex (Q.of (expandM (maskOf lv ex) q.n 0 vs) H)) (n + 1) vs H
  | .exit id, _, q, K => K (.exit id) q
  | .ret, _, q, K => K .ret q
  | .scope c, lv, q, K => evCodeQ E c lv q K
  | _, _, _, _ => False
noncomputable def evResultsQ (E : Env) : List ResultVar → Q → (List EV → Prop) → Prop
  | [], q, K => K []
  | .tmp t :: rs, q, K => gd (q.slot t).dfd (evResultsQ E rs q fun vs => K (q.slot t :: vs))
  | .cell a t :: rs, q, K => gd (q.slot a).dfd (evLoad E t (q.slot a) q.heap fun v => evResultsQ E rs q fun vs => K (v :: vs))
noncomputable def evFnQ (E : Env) (fn : Func) (own : Bool) (args : List EV) (H : Heap) (K : EV → Heap → Prop) : Prop :=
  match fn.body with
  | some c => evCodeQ E c { nx := rtMask fn.results.toList, ex := [], rt := rtMask fn.results.toList, nl := H.length, fg := E.fg } (Q.of (args ++ List.replicate (fn.ntmps - args.length) .undef) H) fun ex q => match ex with
    | .exit _ => False
    | _ => evResultsQ E fn.results.toList q fun vs => retK H.length (cond own [] (fn.resultTypes.toList.map (roTy E))) vs q.heap K
  | none => False
theorem Q.len (q : Q) : q.to.tmps.length = q.n := by show q.slots.length = _; simp [Q.slots]
theorem loopStepQ_eq {stepQ : Q → (Ex → Q → Prop) → Prop} {step : St → (Ex → St → Prop) → Prop} (h : ∀ q K, (stepQ q fun ex q => K ex q.to) = step q.to K) (head : Nat) (lv : LV) (m N : Nat) (R : List EV → Heap → Prop) (vs : List EV) (H : Heap) (K : Ex → List EV → Heap → Prop) :
    loopStepQ stepQ head lv m N R vs H K = loopStep step head lv m N R vs H K := by
  unfold loopStepQ loopStep
  rw [← Q.of_to, ← h]
  all_goals congr 1
theorem loopVQ_eq {stepQ : Q → (Ex → Q → Prop) → Prop} {step : St → (Ex → St → Prop) → Prop} (h : ∀ q K, (stepQ q fun ex q => K ex q.to) = step q.to K) (head : Nat) (lv : LV) (m N : Nat) (K : Ex → List EV → Heap → Prop) :
    ∀ n, loopVQ stepQ head lv m N K n = loopV step head lv m N K n
  | 0 => by funext vs H; rfl
  | n + 1 => by funext vs H; simp only [loopVQ, loopV]; rw [loopVQ_eq h, loopStepQ_eq h]
theorem loopUQ_eq {stepQ : Q → (Ex → Q → Prop) → Prop} {step : St → (Ex → St → Prop) → Prop} (h : ∀ q K, (stepQ q fun ex q => K ex q.to) = step q.to K) (head : Nat) (lv : LV) (m N : Nat) (K : Ex → List EV → Heap → Prop) :
    ∀ n, loopUQ stepQ head lv m N K n = loopU step head lv m N K n
  | 0 => by funext vs H; rfl
  | n + 1 => by funext vs H; simp only [loopUQ, loopU]; rw [loopUQ_eq h, loopStepQ_eq h]
theorem evCodeQ_eq (E : Env) : ∀ (c : Code) (lv : LV) (q : Q) (K : Ex → St → Prop), (evCodeQ E c lv q fun ex q => K ex q.to) = evCode E c lv q.to K := by
  intro c
  induction c with
  | skip => intro lv q K; rfl
  | region id ops draw =>
    intro lv q K
    simp only [evCodeQ, evCode, Q.force_eq]
    rw [evDrawQ_eq, evOpsQ_eq]
  | seq a b iha ihb =>
    intro lv q K
    simp only [evCodeQ, evCode]
    rw [← iha]
    congr 1
    funext ex q'
    cases ex with
    | normal => exact ihb lv q' K
    | exit id => rfl
    | ret => rfl
  | cond c a b iha ihb =>
    intro lv q K
    simp only [evCodeQ, evCode, Q.opd_to]
    cases q.opd E c <;> try rfl
    simp only
    rw [iha, ihb]
  | block id c ih =>
    intro lv q K
    simp only [evCodeQ, evCode]
    rw [← ih]
    all_goals congr 1
  | loop c ih =>
    intro lv q K
    simp only [evCodeQ, evCode, Q.len]
    congr 1
    funext vs H
    have e1 : ∀ ex vs H, K ex (Q.of (expandM (maskOf lv ex) q.n 0 vs) H).to = K ex { tmps := expandM (maskOf lv ex) q.n 0 vs, heap := H } := fun ex vs H => by rw [Q.of_to]
    simp only [e1, loopVQ_eq (ih _), loopUQ_eq (ih _)]
    all_goals (cases E.un (firstRegion c) <;> first | rfl | (cases E.lp (firstRegion c) <;> rfl))
  | exit id => intro lv q K; rfl
  | ret => intro lv q K; rfl
  | scope c ih => intro lv q K; simp only [evCodeQ, evCode]; exact ih lv q K
  | rangeFunc f ps x y _ _ => intro lv q K; rfl
  | label l => intro lv q K; rfl
  | goto l => intro lv q K; rfl
  | refuse l => intro lv q K; rfl
theorem evResultsQ_eq (E : Env) : ∀ (rs : List ResultVar) (q : Q) (K : List EV → Prop), evResultsQ E rs q K = evResults E rs q.to K
  | [], q, K => rfl
  | .tmp t :: rs, q, K => by simp only [evResultsQ, evResults, Q.slot_to, evResultsQ_eq E rs]
  | .cell a t :: rs, q, K => by simp only [evResultsQ, evResults, Q.slot_to, evResultsQ_eq E rs]; rfl
theorem evFnQ_eq (E : Env) (fn : Func) (own : Bool) (args : List EV) (H : Heap) (K : EV → Heap → Prop) : evFnQ E fn own args H K = evFn E fn own args H K := by
  unfold evFnQ evFn
  cases fn.body with
  | none => rfl
  | some c =>
    simp only
    rw [← Q.of_to, ← evCodeQ_eq]
    congr 1
    funext ex q
    cases ex <;> simp only [evResultsQ_eq] <;> rfl
theorem stepQ_eq (E : Env) (c : Code) (lv' : LV) (head : Nat) (lv : LV) (m N : Nat) (R : List EV → Heap → Prop) (vs : List EV) (H : Heap) (K : Ex → List EV → Heap → Prop) :
    loopStepQ (evCodeQ E c lv') head lv m N R vs H K = loopStep (evCode E c lv') head lv m N R vs H K := loopStepQ_eq (fun q K => evCodeQ_eq E c lv' q K) head lv m N R vs H K
end Go.Ev

/- Patterns as data: what an entry asks of its arguments, where they are many. -/
set_option linter.unusedVariables false
set_option linter.unusedSimpArgs false
namespace Go.Ev
open Go
def kb : IntKind → IntKind → Bool
  | .i8, .i8 => true
  | .i16, .i16 => true
  | .i32, .i32 => true
  | .i64, .i64 => true
  | .u8, .u8 => true
  | .u16, .u16 => true
  | .u32, .u32 => true
  | .u64, .u64 => true
  | _, _ => false
end Go.Ev

/- Whole numbers of a kind, as the evaluator's operations have them. -/
set_option linter.unusedVariables false
set_option linter.unusedSimpArgs false
namespace Go.Ev
open Go
theorem wrap_u64 (n : Int) : IntKind.wrap .u64 n = n % 18446744073709551616 := by simp [IntKind.wrap, IntKind.bits, IntKind.signed]
theorem wrap_i64 (n : Int) : IntKind.wrap .i64 n = if 9223372036854775808 ≤ n % 18446744073709551616 then n % 18446744073709551616 - 18446744073709551616 else n % 18446744073709551616 := by
  simp [IntKind.wrap, IntKind.bits, IntKind.signed]
theorem u64_id {n : Int} (h : 0 ≤ n) (h2 : n < 18446744073709551616) : IntKind.wrap .u64 n = n := by rw [wrap_u64]; omega
theorem i64_id {n : Int} (h : -9223372036854775808 ≤ n) (h2 : n < 9223372036854775808) : IntKind.wrap .i64 n = n := by rw [wrap_i64]; split <;> omega
theorem cv_u64 {n : Int} (h : 0 ≤ n) (h2 : n < 18446744073709551616) : cvI .u64 n = n := u64_id h h2
theorem add_i64 {a b : Int} (h : -9223372036854775808 ≤ a + b) (h2 : a + b < 9223372036854775808) : addI .i64 a b = a + b := i64_id h h2
theorem range_u64 {n : Int} (h : (Lit.int .u64 n).wf = true) : 0 ≤ n ∧ n < 18446744073709551616 := by
  have := (Lit.wf_int_iff _ _).1 h
  simp [IntKind.min, IntKind.max, IntKind.bits, IntKind.signed] at this
  omega
theorem range_u8 {n : Int} (h : (Lit.int .u8 n).wf = true) : 0 ≤ n ∧ n < 256 := by
  have := (Lit.wf_int_iff _ _).1 h
  simp [IntKind.min, IntKind.max, IntKind.bits, IntKind.signed] at this
  omega
theorem br_t {c : Bool} {p q : Prop} (h : c = true) : br c p q = p := by subst h; rfl
theorem br_f {c : Bool} {p q : Prop} (h : c = false) : br c p q = q := by subst h; rfl
theorem gd_t {c : Bool} {p : Prop} (h : c = true) : gd c p = p := by subst h; rfl
theorem lt_t {a b : Int} (h : a < b) : ltI a b = true := by simp [ltI, h]
theorem lt_f {a b : Int} (h : b ≤ a) : ltI a b = false := by simp [ltI]; omega
theorem le_t {a b : Int} (h : a ≤ b) : leI a b = true := by simp [leI, h]
theorem le_f {a b : Int} (h : b < a) : leI a b = false := by simp [leI]; omega
theorem eq_t {a b : Int} (h : a = b) : eqI a b = true := by simp [eqI, h]
theorem eq_f {a b : Int} (h : a ≠ b) : eqI a b = false := by simp [eqI, h]
theorem and_nat (a b : Nat) (ha : a < 18446744073709551616) (hb : b < 18446744073709551616) : andI .u64 a b = ((a &&& b : Nat) : Int) := by
  have h1 : (BitVec.ofInt 64 (a : Int)) = BitVec.ofNat 64 a := by simp
  have h2 : (BitVec.ofInt 64 (b : Int)) = BitVec.ofNat 64 b := by simp
  have h3 : a &&& b < 18446744073709551616 := Nat.lt_of_le_of_lt Nat.and_le_left ha
  show IntKind.wrap .u64 (((BitVec.ofInt 64 (a : Int) &&& BitVec.ofInt 64 (b : Int) : BitVec 64).toNat : Nat) : Int) = _
  rw [h1, h2]
  rw [BitVec.toNat_and, BitVec.toNat_ofNat, BitVec.toNat_ofNat, Nat.mod_eq_of_lt ha, Nat.mod_eq_of_lt hb]
  exact u64_id (by omega) (by omega)
theorem or_nat (a b : Nat) (ha : a < 18446744073709551616) (hb : b < 18446744073709551616) : orI .u64 a b = ((a ||| b : Nat) : Int) := by
  have h1 : (BitVec.ofInt 64 (a : Int)) = BitVec.ofNat 64 a := by simp
  have h2 : (BitVec.ofInt 64 (b : Int)) = BitVec.ofNat 64 b := by simp
  have h3 : a ||| b < 18446744073709551616 := Nat.or_lt_two_pow (n := 64) ha hb
  show IntKind.wrap .u64 (((BitVec.ofInt 64 (a : Int) ||| BitVec.ofInt 64 (b : Int) : BitVec 64).toNat : Nat) : Int) = _
  rw [h1, h2]
  rw [BitVec.toNat_or, BitVec.toNat_ofNat, BitVec.toNat_ofNat, Nat.mod_eq_of_lt ha, Nat.mod_eq_of_lt hb]
  exact u64_id (by omega) (by omega)
theorem shr_nat (a i : Nat) (hi : i < 64) : shrI .u64 a i = ((a >>> i : Nat) : Int) := by
  have h1 : min (Int.toNat i) (IntKind.bits .u64) = i := by simp [IntKind.bits]; omega
  simp only [shrI, h1]
  rw [Nat.shiftRight_eq_div_pow, Int.natCast_ediv]
  rw [Int.fdiv_eq_ediv_of_nonneg _ (Int.le_of_lt (Int.pow_pos (by omega)))]
  simp
end Go.Ev

/- The table of math/bits, as the evaluator has it. -/
set_option linter.unusedVariables false
set_option linter.unusedSimpArgs false
namespace Go.Ev.S
open Go Go.Ev
def tabL : List Int := [0, 1, 56, 2, 57, 49, 28, 3, 61, 58, 42, 50, 38, 29, 17, 4, 62, 47, 59, 36, 45, 43, 51, 22, 53, 39, 33, 30, 24, 18, 12, 5, 63, 55, 48, 27, 60, 41, 37, 16, 46, 35, 44, 21, 52, 32, 23, 11, 54, 26, 40, 15, 34, 20, 31, 10, 25, 14, 19, 9, 13, 8, 7, 6]
def tabD : Nat → Int := fun i => tabL.getD i 0
noncomputable def tab_deBruijn64tab : Nat → Int := Classical.choose (⟨tabD, rfl⟩ : ∃ f, f = tabD)
theorem tab_is : tab_deBruijn64tab = tabD := Classical.choose_spec (⟨tabD, rfl⟩ : ∃ f, f = tabD)
theorem tab_gen {P : Program} {W : World} {nm : String} {t e n fuel g : Nat} {k : IntKind} {cs : Array Value} {p : List MemPlace} {spare} {held} {base : Nat} {l : List (DataW Unit)} {zs : List Int} {T : Nat → Int} (hT : T = fun i => zs.getD i 0) (hn : zs.length = n)
    (hu : P.underlying t = some (.array n e)) (hc : P.cellsOf e = 1) (hct : P.cellsOf t = n) (hue : P.underlying e = some (.int k)) (hg : P.globalNamed nm = some g) (hv : W.var? P nm = some cs)
    (hl : l = zs.map fun n => .lit (.int k n)) (hd : DataW.trod (fun _ => ()) P W base spare held fuel t cs.toList = some (.agg l, p)) :
    Rel ⟨[], []⟩ W (.rref (.arr k n T)) (.pointer (some ⟨g, 0, none⟩)) ∧ ∀ k' n' f', EV.arr k n T = .arr k' n' f' → ∃ cs t fz, W.heap[g]? = some (.cells cs t fz) ∧ cs.size = n' := by
  subst hl
  have hcs := Go.Lib.cells_of_tab hu hue hc hct hd
  have hsz : g < W.heap.size ∧ ∃ t fz, W.heap[g]? = some (.cells cs t fz) := by
    unfold World.var? at hv
    simp only [hg, Option.bind_some] at hv
    cases h : W.heap[g]? with
    | none => rw [h] at hv; cases hv
    | some c =>
      refine ⟨(Array.getElem?_eq_some_iff.1 h).1, ?_⟩
      rw [h] at hv
      cases c with
      | cells cs0 t fz => simp only [Option.some.injEq] at hv; subst hv; exact ⟨t, fz, rfl⟩
      | _ => simp at hv
  have hint : ints k n T = cs.toList := by
    rw [hcs]
    apply List.ext_getElem?
    intro i
    by_cases hi : i < n
    · rw [ints_get _ _ _ _ hi, List.getElem?_map, List.getElem?_eq_getElem (by omega), hT]
      simp [List.getD, List.getElem?_eq_getElem (show i < zs.length by omega)]
    · rw [List.getElem?_eq_none (by rw [ints_length]; omega), List.getElem?_eq_none (by simp; omega)]
  obtain ⟨h1, t', fz, h2⟩ := hsz
  refine ⟨⟨g, 0, .agg (ints k n T).toArray, rfl, rfl, h1, by simp [Ren.mbs, Ren.own], ?_⟩, ?_⟩
  · intro i hi
    rw [World.var?_cell hg hv]
    show cs[0 + i]? = (Value.cells (.agg (ints k n T).toArray)).toList[i]?
    rw [Nat.zero_add]
    simp [Value.cells, hint]
  · rintro k' n' f' hh
    cases hh
    refine ⟨cs, t', fz, h2, ?_⟩
    have := congrArg List.length hcs
    simpa [hn] using this
theorem tab_ok {P : Program} {W : World} {nm : String} {t e fuel g : Nat} {cs : Array Value} {p : List MemPlace} {spare} {held} {base : Nat} {l : List (DataW Unit)}
    (hu : P.underlying t = some (.array 64 e)) (hc : P.cellsOf e = 1) (hct : P.cellsOf t = 64) (hue : P.underlying e = some (.int .u8)) (hg : P.globalNamed nm = some g) (hv : W.var? P nm = some cs)
    (hl : l = tabL.map fun n => .lit (.int .u8 n)) (hd : DataW.trod (fun _ => ()) P W base spare held fuel t cs.toList = some (.agg l, p)) :
    Rel ⟨[], []⟩ W (.rref (.arr .u8 64 tab_deBruijn64tab)) (.pointer (some ⟨g, 0, none⟩)) ∧ ∀ k' n' f', EV.arr .u8 64 tab_deBruijn64tab = .arr k' n' f' → ∃ cs t fz, W.heap[g]? = some (.cells cs t fz) ∧ cs.size = n' :=
  tab_gen (zs := tabL) tab_is rfl hu hc hct hue hg hv hl hd
end Go.Ev.S

/- What is handed over to a law, of a type without places, opened: as the evaluator has it. -/
set_option linter.unusedVariables false
set_option linter.unusedSimpArgs false
namespace Go.Ev
open Go Go.Joins
inductive Tm where
  | bool
  | int (k : IntKind)
  | str
  | arr (n : Nat) (k : IntKind) (e : TypeId)
  | agg (l : List Tm)
mutual
def Tm.size : Tm → Nat
  | .bool => 1
  | .int _ => 1
  | .str => 1
  | .arr n _ _ => n
  | .agg l => Tm.sizeL l
def Tm.sizeL : List Tm → Nat
  | [] => 0
  | t :: l => t.size + Tm.sizeL l
end
mutual
def Tm.ok (P : Program) : Tm → TypeId → Prop
  | .bool, t => P.underlying t = some .bool
  | .int k, t => P.underlying t = some (.int k)
  | .str, t => P.underlying t = some .string
  | .arr n k e, t => P.underlying t = some (.array n e) ∧ P.underlying e = some (.int k) ∧ P.cellsOf e = 1
  | .agg l, t => ∃ fs, P.underlying t = some (.struct fs) ∧ Tm.okL P l fs.toList 0
def Tm.okL (P : Program) : List Tm → List Field → Nat → Prop
  | [], fs, _ => fs = []
  | t :: l, fs, o => match fs with
    | [] => False
    | f :: fs => f.offset = o ∧ P.cellsOf f.type = t.size ∧ t.ok P f.type ∧ Tm.okL P l fs (o + t.size)
end
mutual
def Tm.has : Tm → EV → Prop
  | .bool, u => ∃ b, u = .bool b
  | .int k, u => ∃ n, u = .int k n ∧ (Lit.int k n).wf = true
  | .str, u => ∃ s : List UInt8, u = .str s ∧ s.length ≤ maxLen
  | .arr n k _, u => ∃ g : Nat → Int, u = .arr k n g ∧ (∀ i, i < n → (Lit.int k (g i)).wf = true) ∧ ∀ i, n ≤ i → g i = 0
  | .agg l, u => ∃ us, u = .agg us ∧ Tm.hasL l us
def Tm.hasL : List Tm → List EV → Prop
  | [], us => us = []
  | t :: l, us => ∃ v vs, us = v :: vs ∧ t.has v ∧ Tm.hasL l vs
end
theorem mapM_some {α β : Type} {f : α → Option β} : ∀ {l : List α} {r : List β}, l.mapM f = some r → ∀ (i : Nat) (a : α), l[i]? = some a → ∃ b, f a = some b
  | [], r, h, i, a, ha => by simp at ha
  | x :: l, r, h, i, a, ha => by
    rw [List.mapM_cons] at h
    cases hx : f x with
    | none => simp [hx] at h
    | some y =>
      cases hl : l.mapM f with
      | none => simp [hx, hl] at h
      | some ys =>
        cases i with
        | zero => simp at ha; subst ha; exact ⟨y, hx⟩
        | succ i => exact mapM_some hl i a (by simpa using ha)
section
variable {H : Type} {enc : TypeId × Value → H} {P : Program} {w : World} {base : Nat} {spare : Nat → Bool} {held : Bool}
theorem trod_arr {n : Nat} {k : IntKind} {e t : TypeId} (h1 : P.underlying t = some (.array n e)) (h2 : P.underlying e = some (.int k)) (h3 : P.cellsOf e = 1) {fuel : Nat} {cs : List Value} {x : DataW H × List MemPlace}
    (hl : cs.length = n) (h : DataW.trod enc P w base spare held fuel t cs = some x) : ∃ g : Nat → Int, cs = ints k n g ∧ (∀ i, i < n → (Lit.int k (g i)).wf = true) ∧ ∀ i, n ≤ i → g i = 0 := by
  cases fuel with
  | zero => simp [DataW.trod] at h
  | succ fuel =>
    simp only [DataW.trod, h1] at h
    split at h
    · rename_i hc
      cases hm : (List.range n).mapM fun i => DataW.trod enc P w base spare held fuel e ((cs.drop (i * P.cellsOf e)).take (P.cellsOf e)) with
      | none => rw [hm] at h; simp at h
      | some r =>
        have key : ∀ i, i < n → ∃ m, cs[i]? = some (.int k m) ∧ (Lit.int k m).wf = true := by
          intro i hi
          obtain ⟨b, hb⟩ := mapM_some hm i i (by simp [hi])
          rw [h3, Nat.mul_one] at hb
          obtain ⟨v, hv⟩ : ∃ v, cs[i]? = some v := ⟨cs[i]'(by omega), List.getElem?_eq_getElem (by omega)⟩
          have e1 : (cs.drop i).take 1 = [v] := by
            rw [List.drop_eq_getElem_cons (by omega)]
            have : cs[i]'(by omega) = v := by rw [List.getElem?_eq_getElem (by omega)] at hv; exact Option.some.inj hv
            simp [this]
          rw [e1] at hb
          cases fuel with
          | zero => simp [DataW.trod] at hb
          | succ fuel =>
            simp only [DataW.trod, h2] at hb
            cases v <;> simp at hb
            rename_i k' m
            obtain ⟨⟨rfl, hw⟩, _⟩ := hb
            exact ⟨m, hv, hw⟩
        refine ⟨fun i => match cs[i]? with | some (.int _ m) => m | _ => 0, ?_, ?_, ?_⟩
        · apply List.ext_getElem?
          intro i
          unfold ints
          by_cases hi : i < n
          · obtain ⟨m, hm', _⟩ := key i hi
            rw [hm']
            simp [hi, hm']
          · rw [List.getElem?_eq_none (by omega), List.getElem?_eq_none (by simp; omega)]
        · intro i hi
          obtain ⟨m, hm', hw⟩ := key i hi
          simp only [hm']; exact hw
        · intro i hi
          have : cs[i]? = none := List.getElem?_eq_none (by omega)
          simp only [this]
    · cases h
theorem one_cell {α : Type} {cs : List α} (h : cs.length = 1) : ∃ v, cs = [v] := List.length_eq_one_iff.1 h
mutual
theorem Tm.open : ∀ (tm : Tm) (t : TypeId), tm.ok P t → ∀ (fuel : Nat) (cs : List Value) (x : DataW H × List MemPlace), cs.length = tm.size → DataW.trod enc P w base spare held fuel t cs = some x →
    ∃ u, tm.has u ∧ ∃ y : Value, y.cells.toList = cs ∧ ∀ ρ W, Rel ρ W u y
  | .bool, t, hk, fuel, cs, x, hl, h => by
    simp only [Tm.ok] at hk
    obtain ⟨v, rfl⟩ := one_cell hl
    cases fuel with
    | zero => simp [DataW.trod] at h
    | succ fuel =>
      simp only [DataW.trod, hk] at h
      cases v <;> simp at h
      rename_i b
      exact ⟨.bool b, ⟨b, rfl⟩, .bool b, rfl, fun ρ W => rfl⟩
  | .int k, t, hk, fuel, cs, x, hl, h => by
    simp only [Tm.ok] at hk
    obtain ⟨v, rfl⟩ := one_cell hl
    cases fuel with
    | zero => simp [DataW.trod] at h
    | succ fuel =>
      simp only [DataW.trod, hk] at h
      cases v <;> simp at h
      rename_i k' n
      obtain ⟨⟨rfl, hw⟩, _⟩ := h
      exact ⟨.int k' n, ⟨n, rfl, hw⟩, .int k' n, rfl, fun ρ W => rfl⟩
  | .str, t, hk, fuel, cs, x, hl, h => by
    simp only [Tm.ok] at hk
    obtain ⟨v, rfl⟩ := one_cell hl
    cases fuel with
    | zero => simp [DataW.trod] at h
    | succ fuel =>
      simp only [DataW.trod, hk] at h
      cases v <;> simp at h
      rename_i s
      exact ⟨.str s.data.toList, ⟨_, rfl, by rw [Array.length_toList]; exact h.1⟩, .string s, rfl, fun ρ W => rfl⟩
  | .arr n k e, t, hk, fuel, cs, x, hl, h => by
    simp only [Tm.ok] at hk
    obtain ⟨g, h1, h2, h3⟩ := trod_arr hk.1 hk.2.1 hk.2.2 (by simpa [Tm.size] using hl) h
    exact ⟨.arr k n g, ⟨g, rfl, h2, h3⟩, .agg (ints k n g).toArray, by rw [h1]; rfl, fun ρ W => rfl⟩
  | .agg l, t, hk, fuel, cs, x, hl, h => by
    simp only [Tm.ok] at hk
    obtain ⟨fs, h1, h2⟩ := hk
    cases fuel with
    | zero => simp [DataW.trod] at h
    | succ fuel =>
      simp only [DataW.trod, h1] at h
      split at h
      · rename_i hc
        cases hm : fs.toList.mapM fun f => DataW.trod enc P w base spare held fuel f.type ((cs.drop f.offset).take (P.cellsOf f.type)) with
        | none => rw [hm] at h; simp at h
        | some r =>
          obtain ⟨us, g1, g2⟩ := Tm.openL l fs.toList 0 h2 fuel cs (by simpa [Tm.size] using hl) fun i f hf => mapM_some hm i f hf
          refine ⟨.agg us, ⟨us, rfl, g1⟩, .agg cs.toArray, rfl, fun ρ W => ?_⟩
          simp only [Rel]
          exact ⟨cs.toArray, rfl, by simpa using g2 ρ W⟩
      · cases h
theorem Tm.openL : ∀ (l : List Tm) (fs : List Field) (o : Nat), Tm.okL P l fs o → ∀ (fuel : Nat) (cs : List Value), cs.length = o + Tm.sizeL l →
    (∀ (i : Nat) f, fs[i]? = some f → ∃ b, DataW.trod enc P w base spare held fuel f.type ((cs.drop f.offset).take (P.cellsOf f.type)) = some b) →
    ∃ us, Tm.hasL l us ∧ ∀ ρ W, RelF ρ W us (cs.drop o)
  | [], fs, o, hk, fuel, cs, hl, h => by
    refine ⟨[], rfl, fun ρ W => ?_⟩
    simp only [RelF]
    exact List.drop_eq_nil_of_le (by simp [Tm.sizeL] at hl; omega)
  | tm :: l, fs, o, hk, fuel, cs, hl, h => by
    simp only [Tm.okL] at hk
    cases fs with
    | nil => exact hk.elim
    | cons f fs =>
      simp only [Tm.sizeL] at hl
      obtain ⟨k1, k2, k3, k4⟩ := hk
      obtain ⟨b, hb⟩ := h 0 f rfl
      rw [k1, k2] at hb
      obtain ⟨u, g1, y, g2, g3⟩ := Tm.open tm f.type k3 fuel _ b (by simp; omega) hb
      obtain ⟨us, e1, e2⟩ := Tm.openL l fs (o + tm.size) k4 fuel cs (by omega) fun i f' hf => h (i + 1) f' (by simpa using hf)
      refine ⟨u :: us, ⟨u, us, rfl, g1, e1⟩, fun ρ W => ?_⟩
      simp only [RelF]
      refine ⟨y, cs.drop (o + tm.size), ?_, g3 ρ W, e2 ρ W⟩
      rw [g2, ← List.drop_drop]
      exact (List.take_append_drop _ _).symm
end
end
end Go.Ev

/- What is handed over to a law, opened: tables of structs, and slices of structs that are read only. -/
set_option linter.unusedVariables false
set_option linter.unusedSimpArgs false
namespace Go.Ev
open Go Go.Joins
mutual
def Sk.tok (P : Program) : Sk → TypeId → Prop
  | .int k, t => P.underlying t = some (.int k)
  | .bool, t => P.underlying t = some .bool
  | .sl s, t => ∃ e, P.underlying t = some (.slice e) ∧ P.cellsOf e = s.shape.size ∧ 0 < s.shape.size ∧ s.tok P e
  | .agg l, t => ∃ fs, P.underlying t = some (.struct fs) ∧ Sk.tokL P l fs.toList 0
def Sk.tokL (P : Program) : List Sk → List Field → Nat → Prop
  | [], fs, _ => fs = []
  | s :: l, fs, o => match fs with
    | [] => False
    | f :: fs => f.offset = o ∧ P.cellsOf f.type = s.shape.size ∧ s.tok P f.type ∧ Sk.tokL P l fs (o + s.shape.size)
end
mutual
def Sk.has : Sk → Nat → (Nat → Lf) → Prop
  | .int k, c, r => (Lit.int k (r c).toI).wf = true
  | .bool, _, _ => True
  | .sl s, c, r => ∀ i, i < (r c).len → s.has 0 ((r c).row i)
  | .agg l, c, r => Sk.hasL l c r
def Sk.hasL : List Sk → Nat → (Nat → Lf) → Prop
  | [], _, _ => True
  | s :: l, c, r => s.has c r ∧ Sk.hasL l (c + s.shape.size) r
end
mutual
theorem LfAt.congr {ρ : Ren} {w : World} : ∀ (s : Sk) (cv cv' : Nat → Option Value) (c : Nat) (r r' : Nat → Lf), (∀ j, c ≤ j → j < c + s.shape.size → cv j = cv' j ∧ r j = r' j) → LfAt ρ w s cv c r → LfAt ρ w s cv' c r'
  | .int k, cv, cv', c, r, r', h, hr => by
    obtain ⟨e1, e2⟩ := h c (Nat.le_refl _) (by simp [Sk.shape, Shape.size])
    simp only [LfAt] at hr ⊢
    rw [← e1, ← e2]; exact hr
  | .bool, cv, cv', c, r, r', h, hr => by
    obtain ⟨e1, e2⟩ := h c (Nat.le_refl _) (by simp [Sk.shape, Shape.size])
    simp only [LfAt] at hr ⊢
    rw [← e1, ← e2]; exact hr
  | .sl s, cv, cv', c, r, r', h, hr => by
    obtain ⟨e1, e2⟩ := h c (Nat.le_refl _) (by simp [Sk.shape, Shape.size])
    simp only [LfAt] at hr ⊢
    rw [← e1, ← e2]; exact hr
  | .agg l, cv, cv', c, r, r', h, hr => by
    simp only [LfAt] at hr ⊢
    exact LfAtL.congr l cv cv' c r r' (by simpa [Sk.shape, Shape.size] using h) hr
theorem LfAtL.congr {ρ : Ren} {w : World} : ∀ (l : List Sk) (cv cv' : Nat → Option Value) (c : Nat) (r r' : Nat → Lf), (∀ j, c ≤ j → j < c + Shape.sizeL (Sk.shapeL l) → cv j = cv' j ∧ r j = r' j) → LfAtL ρ w l cv c r → LfAtL ρ w l cv' c r'
  | [], _, _, _, _, _, _, _ => trivial
  | s :: l, cv, cv', c, r, r', h, hr => by
    simp only [Sk.shapeL, Shape.sizeL] at h
    simp only [LfAtL] at hr ⊢
    exact ⟨LfAt.congr s cv cv' c r r' (fun j h1 h2 => h j h1 (by omega)) hr.1, LfAtL.congr l cv cv' _ r r' (fun j h1 h2 => h j (by omega) (by omega)) hr.2⟩
end
mutual
theorem Sk.has_congr : ∀ (s : Sk) (c : Nat) (r r' : Nat → Lf), (∀ j, c ≤ j → j < c + s.shape.size → r j = r' j) → s.has c r → s.has c r'
  | .int k, c, r, r', h, hr => by
    have e := h c (Nat.le_refl _) (by simp [Sk.shape, Shape.size])
    simp only [Sk.has] at hr ⊢
    rw [← e]; exact hr
  | .bool, _, _, _, _, _ => trivial
  | .sl s, c, r, r', h, hr => by
    have e := h c (Nat.le_refl _) (by simp [Sk.shape, Shape.size])
    simp only [Sk.has] at hr ⊢
    rw [← e]; exact hr
  | .agg l, c, r, r', h, hr => by
    simp only [Sk.has] at hr ⊢
    exact Sk.hasL_congr l c r r' (by simpa [Sk.shape, Shape.size] using h) hr
theorem Sk.hasL_congr : ∀ (l : List Sk) (c : Nat) (r r' : Nat → Lf), (∀ j, c ≤ j → j < c + Shape.sizeL (Sk.shapeL l) → r j = r' j) → Sk.hasL l c r → Sk.hasL l c r'
  | [], _, _, _, _, _ => trivial
  | s :: l, c, r, r', h, hr => by
    simp only [Sk.shapeL, Shape.sizeL] at h
    simp only [Sk.hasL] at hr ⊢
    exact ⟨Sk.has_congr s c r r' (fun j h1 h2 => h j h1 (by omega)) hr.1, Sk.hasL_congr l _ r r' (fun j h1 h2 => h j (by omega) (by omega)) hr.2⟩
end
mutual
theorem Sk.has_shift : ∀ (s : Sk) (c o : Nat) (r : Nat → Lf), s.has c r → s.has (o + c) (fun j => r (j - o))
  | .int k, c, o, r, h => by simp only [Sk.has, Nat.add_sub_cancel_left] at h ⊢; exact h
  | .bool, _, _, _, _ => trivial
  | .sl s, c, o, r, h => by simp only [Sk.has, Nat.add_sub_cancel_left] at h ⊢; exact h
  | .agg l, c, o, r, h => by simp only [Sk.has] at h ⊢; exact Sk.hasL_shift l c o r h
theorem Sk.hasL_shift : ∀ (l : List Sk) (c o : Nat) (r : Nat → Lf), Sk.hasL l c r → Sk.hasL l (o + c) (fun j => r (j - o))
  | [], _, _, _, _ => trivial
  | s :: l, c, o, r, h => by
    simp only [Sk.hasL] at h ⊢
    exact ⟨Sk.has_shift s c o r h.1, by rw [Nat.add_assoc]; exact Sk.hasL_shift l _ o r h.2⟩
end
mutual
theorem LfAt.shift {ρ : Ren} {w : World} : ∀ (s : Sk) (c o : Nat) (cv cv' : Nat → Option Value) (r : Nat → Lf), (∀ j, c ≤ j → j < c + s.shape.size → cv j = cv' (o + j)) → LfAt ρ w s cv c r → LfAt ρ w s cv' (o + c) (fun j => r (j - o))
  | .int k, c, o, cv, cv', r, e, h => by
    have e := e c (Nat.le_refl _) (by simp [Sk.shape, Shape.size])
    simp only [LfAt, Nat.add_sub_cancel_left] at h ⊢; rw [← e]; exact h
  | .bool, c, o, cv, cv', r, e, h => by
    have e := e c (Nat.le_refl _) (by simp [Sk.shape, Shape.size])
    simp only [LfAt, Nat.add_sub_cancel_left] at h ⊢; rw [← e]; exact h
  | .sl s, c, o, cv, cv', r, e, h => by
    have e := e c (Nat.le_refl _) (by simp [Sk.shape, Shape.size])
    simp only [LfAt, Nat.add_sub_cancel_left] at h ⊢; rw [← e]; exact h
  | .agg l, c, o, cv, cv', r, e, h => by
    simp only [LfAt] at h ⊢
    exact LfAtL.shift l c o cv cv' r (by simpa [Sk.shape, Shape.size] using e) h
theorem LfAtL.shift {ρ : Ren} {w : World} : ∀ (l : List Sk) (c o : Nat) (cv cv' : Nat → Option Value) (r : Nat → Lf), (∀ j, c ≤ j → j < c + Shape.sizeL (Sk.shapeL l) → cv j = cv' (o + j)) → LfAtL ρ w l cv c r → LfAtL ρ w l cv' (o + c) (fun j => r (j - o))
  | [], _, _, _, _, _, _, _ => trivial
  | s :: l, c, o, cv, cv', r, e, h => by
    simp only [Sk.shapeL, Shape.sizeL] at e
    simp only [LfAtL] at h ⊢
    exact ⟨LfAt.shift s c o cv cv' r (fun j h1 h2 => e j h1 (by omega)) h.1, by rw [Nat.add_assoc]; exact LfAtL.shift l _ o cv cv' r (fun j h1 h2 => e j (by omega) (by omega)) h.2⟩
end
theorem pick_rows {n : Nat} {p : Nat → (Nat → Lf) → Prop} (h : ∀ i, i < n → ∃ r, p i r) : ∃ g : Nat → Nat → Lf, ∀ i, i < n → p i (g i) := by
  refine ⟨fun i => if hi : i < n then Classical.choose (h i hi) else fun _ => .z 0, fun i hi => ?_⟩
  simp only [dif_pos hi]
  exact Classical.choose_spec (h i hi)
theorem cells_get {w : World} {b o : Nat} {sp : Option Nat} {i sz : Nat} {ci : List Value} (hsz : 0 < sz) (h : w.cells? 0 ((⟨b, o, sp⟩ : Addr).add (i * sz)) sz = some ci) :
    ci.length = sz ∧ b < w.heap.size ∧ (i = 0 → sp = none) ∧ ∀ j, j < sz → (sp = none → w.cell? ⟨b, o + i * sz + j, none⟩ = ci[j]?) := by
  obtain ⟨-, hl, hc⟩ := World.cells?_some h
  have hb := World.cells?_block h hsz
  have hb' : b < w.heap.size := by
    unfold Addr.add at hb
    split at hb <;> exact hb
  refine ⟨hl, hb', fun h0 => ?_, fun j hj hs => ?_⟩
  · subst h0
    have := hc 0 hsz
    rw [Nat.zero_mul, List.getElem?_eq_getElem (by omega)] at this
    have e : ((⟨b, o, sp⟩ : Addr).add 0).add 0 = ⟨b, o, sp⟩ := rfl
    rw [e] at this
    cases sp with
    | none => rfl
    | some q =>
      exfalso
      simp only [World.cell?] at this
      split at this <;> simp at this
  · subst hs
    have := hc j hj
    rw [← this]
    congr 1
    unfold Addr.add
    split <;> split <;> simp_all <;> omega
section
variable {H : Type} {enc : TypeId × Value → H} {P : Program} {w : World} {spare : Nat → Bool} {held : Bool}
theorem open_sl {s : Sk} {t e : TypeId} (ih : ∀ (fuel : Nat) (cs : List Value) (x : DataW H × List MemPlace), cs.length = s.shape.size → DataW.trod enc P w 0 spare held fuel e cs = some x → ∃ r, s.has 0 r ∧ LfAt ⟨[], []⟩ w s (fun j => cs[j]?) 0 r)
    (h1 : P.underlying t = some (.slice e)) (h2 : P.cellsOf e = s.shape.size) (h3 : 0 < s.shape.size) {fuel : Nat} {v : Value} {x : DataW H × List MemPlace} (h : DataW.trod enc P w 0 spare held fuel t [v] = some x) :
    ∃ (a : Option Addr) (n c : Nat) (g : Nat → Nat → Lf), v = Value.slice a n c ∧ n ≤ c ∧ c ≤ maxLen ∧ (∀ i, i < n → s.has 0 (g i)) ∧
      (n = 0 ∨ ∃ b o, a = some ⟨b, o, none⟩ ∧ b < w.heap.size ∧ b ∉ (⟨[], []⟩ : Ren).mbs ∧ ∀ i, i < n → LfAt ⟨[], []⟩ w s (fun j => w.cell? ⟨b, o + i * s.shape.size + j, none⟩) 0 (g i)) := by
  cases fuel with
  | zero => simp [DataW.trod] at h
  | succ fuel =>
    cases v
    case slice a len cap =>
      cases a with
      | none =>
        have e : len = 0 ∧ cap = 0 := by
          simp only [DataW.trod, h1] at h
          split at h <;> simp_all
        obtain ⟨rfl, rfl⟩ := e
        exact ⟨none, 0, 0, fun _ _ => .z 0, rfl, Nat.le_refl _, Nat.zero_le _, fun i hi => absurd hi (by omega), .inl rfl⟩
      | some a =>
        obtain ⟨b, o, sp⟩ := a
        simp only [DataW.trod, h1] at h
        split at h
        · rename_i hc
          cases hm : (List.range len).mapM fun i => (w.cells? 0 ((⟨b, o, sp⟩ : Addr).add (i * P.cellsOf e)) (P.cellsOf e)).bind (DataW.trod enc P w 0 spare held fuel e) with
          | none => rw [hm] at h; simp at h
          | some r =>
            have key : ∀ i, i < len → ∃ ci, w.cells? 0 ((⟨b, o, sp⟩ : Addr).add (i * s.shape.size)) s.shape.size = some ci ∧ ∃ y, DataW.trod enc P w 0 spare held fuel e ci = some y := by
              intro i hi
              obtain ⟨y, hy⟩ := mapM_some hm i i (by simp [hi])
              rw [h2] at hy
              cases hq : w.cells? 0 ((⟨b, o, sp⟩ : Addr).add (i * s.shape.size)) s.shape.size with
              | none => rw [hq] at hy; simp at hy
              | some ci => rw [hq] at hy; exact ⟨ci, rfl, y, hy⟩
            by_cases h0 : len = 0
            · subst h0
              exact ⟨_, 0, cap, fun _ _ => .z 0, rfl, hc.2.1, hc.2.2, fun i hi => absurd hi (by omega), .inl rfl⟩
            · have hsp : sp = none := by
                obtain ⟨ci, hci, _⟩ := key 0 (by omega)
                exact (cells_get h3 hci).2.2.1 rfl
              have hb : b < w.heap.size := by
                obtain ⟨ci, hci, _⟩ := key 0 (by omega)
                exact (cells_get h3 hci).2.1
              obtain ⟨g, hg⟩ := pick_rows (n := len) (p := fun i r => s.has 0 r ∧ LfAt ⟨[], []⟩ w s (fun j => w.cell? ⟨b, o + i * s.shape.size + j, none⟩) 0 r) fun i hi => by
                obtain ⟨ci, hci, y, hy⟩ := key i hi
                obtain ⟨k1, _, _, k4⟩ := cells_get h3 hci
                obtain ⟨r, r1, r2⟩ := ih fuel ci y k1 hy
                exact ⟨r, r1, LfAt.congr s _ _ 0 r r (fun j _ hj => ⟨(k4 j (by omega) hsp).symm, rfl⟩) r2⟩
              subst hsp
              exact ⟨_, len, cap, g, rfl, hc.2.1, hc.2.2, fun i hi => (hg i hi).1, .inr ⟨b, o, rfl, hb, by simp [Ren.mbs, Ren.own], fun i hi => (hg i hi).2⟩⟩
        · simp at h
    all_goals (simp [DataW.trod, h1] at h)
mutual
theorem Sk.open : ∀ (s : Sk) (t : TypeId), s.tok P t → ∀ (fuel : Nat) (cs : List Value) (x : DataW H × List MemPlace), cs.length = s.shape.size → DataW.trod enc P w 0 spare held fuel t cs = some x →
    ∃ r, s.has 0 r ∧ LfAt ⟨[], []⟩ w s (fun j => cs[j]?) 0 r
  | .bool, t, hk, fuel, cs, x, hl, h => by
    simp only [Sk.tok] at hk
    obtain ⟨v, rfl⟩ := one_cell (by simpa [Sk.shape, Shape.size] using hl)
    cases fuel with
    | zero => simp [DataW.trod] at h
    | succ fuel =>
      simp only [DataW.trod, hk] at h
      cases v <;> simp at h
      rename_i b
      refine ⟨fun _ => .z (b2i b), trivial, ?_⟩
      simp only [LfAt]
      cases b <;> rfl
  | .int k, t, hk, fuel, cs, x, hl, h => by
    simp only [Sk.tok] at hk
    obtain ⟨v, rfl⟩ := one_cell (by simpa [Sk.shape, Shape.size] using hl)
    cases fuel with
    | zero => simp [DataW.trod] at h
    | succ fuel =>
      simp only [DataW.trod, hk] at h
      cases v <;> simp at h
      rename_i k' n
      obtain ⟨⟨rfl, hw⟩, _⟩ := h
      refine ⟨fun _ => .z n, hw, ?_⟩
      simp only [LfAt]
      rfl
  | .sl s, t, hk, fuel, cs, x, hl, h => by
    simp only [Sk.tok] at hk
    obtain ⟨e, h1, h2, h3, h4⟩ := hk
    obtain ⟨v, rfl⟩ := one_cell (by simpa [Sk.shape, Shape.size] using hl)
    obtain ⟨a, n, c, g, rfl, k1, k2, k3, k4⟩ := open_sl (fun fuel cs x hl h => Sk.open s e h4 fuel cs x hl h) h1 h2 h3 h
    refine ⟨fun _ => .r n g, fun i hi => k3 i hi, ?_⟩
    simp only [LfAt]
    exact ⟨a, c, rfl, k1, k4⟩
  | .agg l, t, hk, fuel, cs, x, hl, h => by
    simp only [Sk.tok] at hk
    obtain ⟨fs, h1, h2⟩ := hk
    cases fuel with
    | zero => simp [DataW.trod] at h
    | succ fuel =>
      simp only [DataW.trod, h1] at h
      split at h
      · cases hm : fs.toList.mapM fun f => DataW.trod enc P w 0 spare held fuel f.type ((cs.drop f.offset).take (P.cellsOf f.type)) with
        | none => rw [hm] at h; simp at h
        | some r =>
          obtain ⟨r, g1, g2⟩ := Sk.openL l fs.toList 0 h2 fuel cs (by simpa [Sk.shape, Shape.size] using hl) fun i f hf => mapM_some hm i f hf
          exact ⟨r, by simpa [Sk.has] using g1, by simp only [LfAt]; exact g2⟩
      · cases h
theorem Sk.openL : ∀ (l : List Sk) (fs : List Field) (o : Nat), Sk.tokL P l fs o → ∀ (fuel : Nat) (cs : List Value), cs.length = o + Shape.sizeL (Sk.shapeL l) →
    (∀ (i : Nat) f, fs[i]? = some f → ∃ b, DataW.trod enc P w 0 spare held fuel f.type ((cs.drop f.offset).take (P.cellsOf f.type)) = some b) →
    ∃ r, Sk.hasL l o r ∧ LfAtL ⟨[], []⟩ w l (fun j => cs[j]?) o r
  | [], fs, o, hk, fuel, cs, hl, h => ⟨fun _ => .z 0, trivial, trivial⟩
  | s :: l, fs, o, hk, fuel, cs, hl, h => by
    simp only [Sk.tokL] at hk
    cases fs with
    | nil => exact hk.elim
    | cons f fs =>
      simp only [Sk.shapeL, Shape.sizeL] at hl
      obtain ⟨k1, k2, k3, k4⟩ := hk
      obtain ⟨b, hb⟩ := h 0 f rfl
      rw [k1, k2] at hb
      obtain ⟨r1, g1, g2⟩ := Sk.open s f.type k3 fuel _ b (by simp; omega) hb
      obtain ⟨r2, e1, e2⟩ := Sk.openL l fs (o + s.shape.size) k4 fuel cs (by omega) fun i f' hf => h (i + 1) f' (by simpa using hf)
      have sh1 : s.has o (fun j => r1 (j - o)) := Sk.has_shift s 0 o r1 g1
      have sh2 : LfAt ⟨[], []⟩ w s (fun j => cs[j]?) o (fun j => r1 (j - o)) := LfAt.shift s 0 o _ _ r1 (fun j _ hj => by
        show ((cs.drop o).take s.shape.size)[j]? = cs[o + j]?
        rw [List.getElem?_take_of_lt (by omega), List.getElem?_drop]) g2
      refine ⟨fun j => if j < o + s.shape.size then r1 (j - o) else r2 j, ?_, ?_⟩
      · simp only [Sk.hasL]
        exact ⟨Sk.has_congr s o _ _ (fun j h1 h2 => by rw [if_pos h2]) sh1, Sk.hasL_congr l _ _ _ (fun j h1 h2 => by rw [if_neg (by omega)]) e1⟩
      · simp only [LfAtL]
        exact ⟨LfAt.congr s _ _ o _ _ (fun j h1 h2 => ⟨rfl, by rw [if_pos h2]⟩) sh2, LfAtL.congr l _ _ _ _ _ (fun j h1 h2 => ⟨rfl, by rw [if_neg (by omega)]⟩) e2⟩
end
inductive Tw where
  | bool
  | int (k : IntKind)
  | str
  | arr (n : Nat) (k : IntKind) (e : TypeId)
  | tab (n : Nat) (s : Sk) (e : TypeId)
  | row (s : Sk) (e : TypeId)
  | agg (l : List Tw)
mutual
def Tw.size : Tw → Nat
  | .bool => 1
  | .int _ => 1
  | .str => 1
  | .arr n _ _ => n
  | .tab n s _ => n * s.shape.size
  | .row _ _ => 1
  | .agg l => Tw.sizeL l
def Tw.sizeL : List Tw → Nat
  | [] => 0
  | t :: l => t.size + Tw.sizeL l
end
mutual
def Tw.ok (P : Program) : Tw → TypeId → Prop
  | .bool, t => P.underlying t = some .bool
  | .int k, t => P.underlying t = some (.int k)
  | .str, t => P.underlying t = some .string
  | .arr n k e, t => P.underlying t = some (.array n e) ∧ P.underlying e = some (.int k) ∧ P.cellsOf e = 1
  | .tab n s e, t => P.underlying t = some (.array n e) ∧ P.cellsOf e = s.shape.size ∧ s.tok P e
  | .row s e, t => P.underlying t = some (.slice e) ∧ P.cellsOf e = s.shape.size ∧ 0 < s.shape.size ∧ s.tok P e
  | .agg l, t => ∃ fs, P.underlying t = some (.struct fs) ∧ Tw.okL P l fs.toList 0
def Tw.okL (P : Program) : List Tw → List Field → Nat → Prop
  | [], fs, _ => fs = []
  | t :: l, fs, o => match fs with
    | [] => False
    | f :: fs => f.offset = o ∧ P.cellsOf f.type = t.size ∧ t.ok P f.type ∧ Tw.okL P l fs (o + t.size)
end
mutual
def Tw.has : Tw → EV → Prop
  | .bool, u => ∃ b, u = .bool b
  | .int k, u => ∃ n, u = .int k n ∧ (Lit.int k n).wf = true
  | .str, u => ∃ s : List UInt8, u = .str s ∧ s.length ≤ maxLen
  | .arr n k _, u => ∃ g : Nat → Int, u = .arr k n g ∧ (∀ i, i < n → (Lit.int k (g i)).wf = true) ∧ ∀ i, n ≤ i → g i = 0
  | .tab n s _, u => ∃ g : Nat → Nat → Lf, u = .arrT n s g ∧ ∀ i, i < n → s.has 0 (g i)
  | .row s _, u => ∃ (n : Nat) (g : Nat → Nat → Lf), u = .rsT n s g ∧ n ≤ maxLen ∧ ∀ i, i < n → s.has 0 (g i)
  | .agg l, u => ∃ us, u = .agg us ∧ Tw.hasL l us
def Tw.hasL : List Tw → List EV → Prop
  | [], us => us = []
  | t :: l, us => ∃ v vs, us = v :: vs ∧ t.has v ∧ Tw.hasL l vs
end
theorem trod_tab {n : Nat} {s : Sk} {e t : TypeId} (h1 : P.underlying t = some (.array n e)) (h2 : P.cellsOf e = s.shape.size) (h3 : s.tok P e) {fuel : Nat} {cs : List Value} {x : DataW H × List MemPlace}
    (hl : cs.length = n * s.shape.size) (h : DataW.trod enc P w 0 spare held fuel t cs = some x) : ∃ g : Nat → Nat → Lf, (∀ i, i < n → s.has 0 (g i)) ∧ ∀ i, i < n → LfAt ⟨[], []⟩ w s (fun j => cs[i * s.shape.size + j]?) 0 (g i) := by
  cases fuel with
  | zero => simp [DataW.trod] at h
  | succ fuel =>
    simp only [DataW.trod, h1] at h
    split at h
    · rename_i hc
      cases hm : (List.range n).mapM fun i => DataW.trod enc P w 0 spare held fuel e ((cs.drop (i * P.cellsOf e)).take (P.cellsOf e)) with
      | none => rw [hm] at h; simp at h
      | some r =>
        obtain ⟨g, hg⟩ := pick_rows (n := n) (p := fun i r => s.has 0 r ∧ LfAt ⟨[], []⟩ w s (fun j => cs[i * s.shape.size + j]?) 0 r) fun i hi => by
          obtain ⟨y, hy⟩ := mapM_some hm i i (by simp [hi])
          rw [h2] at hy
          have hle : (i + 1) * s.shape.size ≤ n * s.shape.size := Nat.mul_le_mul_right _ hi
          rw [Nat.succ_mul] at hle
          obtain ⟨r, r1, r2⟩ := Sk.open s e h3 fuel _ y (by simp; omega) hy
          exact ⟨r, r1, LfAt.congr s _ _ 0 r r (fun j _ hj => ⟨by rw [List.getElem?_take_of_lt (by omega), List.getElem?_drop], rfl⟩) r2⟩
        exact ⟨g, fun i hi => (hg i hi).1, fun i hi => (hg i hi).2⟩
    · cases h
mutual
theorem Tw.open : ∀ (tm : Tw) (t : TypeId), tm.ok P t → ∀ (fuel : Nat) (cs : List Value) (x : DataW H × List MemPlace), cs.length = tm.size → DataW.trod enc P w 0 spare held fuel t cs = some x →
    ∃ u, tm.has u ∧ ∃ y : Value, y.cells.toList = cs ∧ Rel ⟨[], []⟩ w u y
  | .bool, t, hk, fuel, cs, x, hl, h => by
    obtain ⟨u, h1, y, h2, h3⟩ := Tm.open .bool t hk fuel cs x hl h
    exact ⟨u, h1, y, h2, h3 _ _⟩
  | .int k, t, hk, fuel, cs, x, hl, h => by
    obtain ⟨u, h1, y, h2, h3⟩ := Tm.open (.int k) t hk fuel cs x hl h
    exact ⟨u, h1, y, h2, h3 _ _⟩
  | .str, t, hk, fuel, cs, x, hl, h => by
    obtain ⟨u, h1, y, h2, h3⟩ := Tm.open .str t hk fuel cs x hl h
    exact ⟨u, h1, y, h2, h3 _ _⟩
  | .arr n k e, t, hk, fuel, cs, x, hl, h => by
    obtain ⟨u, h1, y, h2, h3⟩ := Tm.open (.arr n k e) t hk fuel cs x hl h
    exact ⟨u, h1, y, h2, h3 _ _⟩
  | .tab n s e, t, hk, fuel, cs, x, hl, h => by
    simp only [Tw.ok] at hk
    simp only [Tw.size] at hl
    obtain ⟨g, h1, h2⟩ := trod_tab hk.1 hk.2.1 hk.2.2 hl h
    refine ⟨.arrT n s g, ⟨g, rfl, h1⟩, .agg cs.toArray, rfl, ?_⟩
    simp only [Rel]
    exact ⟨_, rfl, by simpa using hl, fun i hi => by simpa using h2 i hi⟩
  | .row s e, t, hk, fuel, cs, x, hl, h => by
    simp only [Tw.ok] at hk
    obtain ⟨v, rfl⟩ := one_cell (by simpa [Tw.size] using hl)
    obtain ⟨a, n, c, g, rfl, k1, k2, k3, k4⟩ := open_sl (fun fuel cs x hl h => Sk.open s e hk.2.2.2 fuel cs x hl h) hk.1 hk.2.1 hk.2.2.1 h
    refine ⟨.rsT n s g, ⟨n, g, rfl, Nat.le_trans k1 k2, k3⟩, .slice a n c, rfl, ?_⟩
    simp only [Rel]
    exact ⟨a, c, rfl, k1, k4⟩
  | .agg l, t, hk, fuel, cs, x, hl, h => by
    simp only [Tw.ok] at hk
    obtain ⟨fs, h1, h2⟩ := hk
    cases fuel with
    | zero => simp [DataW.trod] at h
    | succ fuel =>
      simp only [DataW.trod, h1] at h
      split at h
      · cases hm : fs.toList.mapM fun f => DataW.trod enc P w 0 spare held fuel f.type ((cs.drop f.offset).take (P.cellsOf f.type)) with
        | none => rw [hm] at h; simp at h
        | some r =>
          obtain ⟨us, g1, g2⟩ := Tw.openL l fs.toList 0 h2 fuel cs (by simpa [Tw.size] using hl) fun i f hf => mapM_some hm i f hf
          refine ⟨.agg us, ⟨us, rfl, g1⟩, .agg cs.toArray, rfl, ?_⟩
          simp only [Rel]
          exact ⟨cs.toArray, rfl, by simpa using g2⟩
      · cases h
theorem Tw.openL : ∀ (l : List Tw) (fs : List Field) (o : Nat), Tw.okL P l fs o → ∀ (fuel : Nat) (cs : List Value), cs.length = o + Tw.sizeL l →
    (∀ (i : Nat) f, fs[i]? = some f → ∃ b, DataW.trod enc P w 0 spare held fuel f.type ((cs.drop f.offset).take (P.cellsOf f.type)) = some b) →
    ∃ us, Tw.hasL l us ∧ RelF ⟨[], []⟩ w us (cs.drop o)
  | [], fs, o, hk, fuel, cs, hl, h => by
    refine ⟨[], rfl, ?_⟩
    simp only [RelF]
    exact List.drop_eq_nil_of_le (by simp [Tw.sizeL] at hl; omega)
  | tm :: l, fs, o, hk, fuel, cs, hl, h => by
    simp only [Tw.okL] at hk
    cases fs with
    | nil => exact hk.elim
    | cons f fs =>
      simp only [Tw.sizeL] at hl
      obtain ⟨k1, k2, k3, k4⟩ := hk
      obtain ⟨b, hb⟩ := h 0 f rfl
      rw [k1, k2] at hb
      obtain ⟨u, g1, y, g2, g3⟩ := Tw.open tm f.type k3 fuel _ b (by simp; omega) hb
      obtain ⟨us, e1, e2⟩ := Tw.openL l fs (o + tm.size) k4 fuel cs (by omega) fun i f' hf => h (i + 1) f' (by simpa using hf)
      refine ⟨u :: us, ⟨u, us, rfl, g1, e1⟩, ?_⟩
      simp only [RelF]
      refine ⟨y, cs.drop (o + tm.size), ?_, g3, e2⟩
      rw [g2, ← List.drop_drop]
      exact (List.take_append_drop _ _).symm
end
theorem open_tw {r : Reach} {b0 : Nat} {t : TypeId} {v : Value} {d : DataW H} {ps : List MemPlace} {l : List Tw} (hk : (Tw.agg l).ok P t) (hs : P.cellsOf t = (Tw.agg l).size) (hval : Value.okWide P w r b0 t v) (hd : DataW.Trod enc P w 0 spare held t v d ps) :
    ∃ u, (Tw.agg l).has u ∧ Rel ⟨[], []⟩ w u v := by
  obtain ⟨fuel, hf⟩ := hd
  have hv : ∃ cs, v = .agg cs ∧ cs.size = P.cellsOf t := by
    unfold Value.okWide at hval
    have hk' := hk
    simp only [Tw.ok] at hk'
    obtain ⟨fs, h1, _⟩ := hk'
    rw [h1] at hval; obtain ⟨cs, h1, h2, _⟩ := hval; exact ⟨cs, h1, h2⟩
  obtain ⟨cs, rfl, hsz⟩ := hv
  obtain ⟨u, h1, y, h2, h3⟩ := Tw.open (.agg l) t hk fuel _ _ (by show cs.toList.length = _; rw [Array.length_toList, hsz, hs]) hf
  refine ⟨u, h1, ?_⟩
  have hy : y = .agg cs := by
    have h1' := h1
    simp only [Tw.has] at h1'
    obtain ⟨us, rfl, _⟩ := h1'
    have h3' := h3
    simp only [Rel] at h3'
    obtain ⟨cs', rfl, _⟩ := h3'
    have : cs'.toList = cs.toList := h2
    rw [Array.toList_inj.1 this]
  rw [← hy]; exact h3
end
end Go.Ev
