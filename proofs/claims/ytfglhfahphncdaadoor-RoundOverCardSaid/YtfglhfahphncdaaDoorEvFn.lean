/- The evaluator: code and functions. -/
import Derived.Test.YtfglhfahphncdaaDoorEvDraw
import Derived.LoopN
import Derived.Scope
set_option linter.unusedVariables false
set_option linter.unusedSimpArgs false
namespace Go.Ev
open Go

def Ex.out : Ex → Exit
  | .normal => .normal
  | .exit id => .exit id
  | .ret => .ret

def firstRegion : Code → Nat
  | .region id _ _ => id
  | .seq a _ => firstRegion a
  | .block _ c => firstRegion c
  | .loop c => firstRegion c
  | .scope c => firstRegion c
  | _ => 0

/-- What is not kept is forgotten. -/
def cleanL (keep : Nat) : Nat → List EV → List EV
  | _, [] => []
  | i, v :: l => cond (Nat.testBit keep i) v .undef :: cleanL keep (i + 1) l

def pickM (keep : Nat) : Nat → List EV → List EV
  | _, [] => []
  | i, v :: l => cond (Nat.testBit keep i) (v :: pickM keep (i + 1) l) (pickM keep (i + 1) l)
def expandM (keep : Nat) : Nat → Nat → List EV → List EV
  | 0, _, _ => []
  | N + 1, i, vs => cond (Nat.testBit keep i) (match vs with
    | v :: vs => v :: expandM keep N (i + 1) vs
    | [] => .undef :: expandM keep N (i + 1) []) (.undef :: expandM keep N (i + 1) vs)

theorem expand_pick (keep : Nat) : ∀ (l : List EV) (i : Nat), expandM keep l.length i (pickM keep i l) = cleanL keep i l
  | [], _ => rfl
  | v :: l, i => by
    simp only [List.length_cons, expandM, pickM, cleanL]
    cases Nat.testBit keep i with
    | true => simp only [cond_true, expand_pick keep l (i + 1)]
    | false => simp only [cond_false, expand_pick keep l (i + 1)]

/-- What goes on: the slots that are read later, and the blocks that they name, numbered anew. -/
def goK (idx : List Nat) (vs : List EV) (H : Heap) (K : List EV → Heap → Prop) : Prop :=
  gd (EV.inIL idx vs && inIH idx H idx) (K (EV.renL (pos idx) vs) (subH H idx))
def outK (keep nl N : Nat) (s : St) (K : List EV → Heap → Prop) : Prop :=
  gd (Nat.beq s.tmps.length N) (goK (canI nl (pickM keep 0 s.tmps) s.heap) (pickM keep 0 s.tmps) s.heap K)

def lookL : List (Nat × Nat) → Nat → Nat
  | [], _ => 0
  | (i, m) :: l, j => cond (Nat.beq i j) m (lookL l j)

def bitOf : Operand → Nat
  | .tmp t => Nat.shiftLeft 1 t
  | _ => 0
def bitsOf : List Operand → Nat
  | [] => 0
  | x :: l => Nat.lor (bitOf x) (bitsOf l)
def dropBit (m : Nat) : Option Nat → Nat
  | some d => cond (Nat.testBit m d) (Nat.sub m (Nat.shiftLeft 1 d)) m
  | none => m
def usesOf : Op → Nat
  | .build _ ps => bitsOf (ps.toList.map (·.2))
  | .buildSlice _ _ ps => bitsOf (ps.toList.map (·.2))
  | o => bitsOf o.operands.toList
def liveOps (ops : List Oper) : List Oper → Nat → Nat
  | [], m => m
  | o :: r, m => Nat.lor (dropBit (liveOps ops r m) o.dst) (Nat.lor (usesOf o.op) (match o.guard with
    | some (j, _) => match ops[j]? with
      | some oj => match oj.dst with
        | some d => Nat.shiftLeft 1 d
        | none => 0
      | none => 0
    | none => 0))

def live : Code → LV → Nat
  | .skip, lv => lv.nx
  | .region _ ops _, lv => liveOps ops.toList ops.toList lv.nx
  | .seq a b, lv => live a { lv with nx := live b lv }
  | .cond c a b, lv => Nat.lor (bitOf c) (Nat.lor (live a lv) (live b lv))
  | .block id c, lv => live c { lv with ex := (id, lv.nx) :: lv.ex }
  | .loop c, lv => Nat.lor (live c { lv with nx := 0 }) (live c { lv with nx := live c { lv with nx := 0 } })
  | .exit id, lv => lookL lv.ex id
  | .ret, lv => lv.rt
  | .scope c, lv => live c lv
  | _, lv => lv.nx

def maskOf (lv : LV) : Ex → Nat
  | .normal => 0
  | .exit id => lookL lv.ex id
  | .ret => lv.rt

def beqEx : List (Nat × Nat) → List (Nat × Nat) → Bool
  | [], [] => true
  | (a, b) :: l, (c, d) :: r => Nat.beq a c && (Nat.beq b d && beqEx l r)
  | _, _ => false
def LV.beq (a b : LV) : Bool := Nat.beq a.nx b.nx && (Nat.beq a.rt b.rt && (Nat.beq a.nl b.nl && beqEx a.ex b.ex))

theorem beqEx_eq : ∀ (l r : List (Nat × Nat)), beqEx l r = true → l = r
  | [], [], _ => rfl
  | (a, b) :: l, (c, d) :: r, h => by
    simp only [beqEx, Bool.and_eq_true] at h
    rw [Nat.eq_of_beq_eq_true h.1, Nat.eq_of_beq_eq_true h.2.1, beqEx_eq l r h.2.2]
  | [], _ :: _, h => by simp [beqEx] at h
  | _ :: _, [], h => by simp [beqEx] at h
theorem LV.eq_of_beq {a b : LV} (h : a.beq b = true) : a = b := by
  simp only [LV.beq, Bool.and_eq_true] at h
  cases a; cases b
  simp only at h
  rw [Nat.eq_of_beq_eq_true h.1, Nat.eq_of_beq_eq_true h.2.1, Nat.eq_of_beq_eq_true h.2.2.1, beqEx_eq _ _ h.2.2.2]

def loopStep (step : St → (Ex → St → Prop) → Prop) (head : Nat) (lv : LV) (m N : Nat) (R : List EV → Heap → Prop) (vs : List EV) (H : Heap) (K : Ex → List EV → Heap → Prop) : Prop :=
  step { tmps := expandM head N 0 vs, heap := H } fun ex s' => match ex with
    | .normal => outK head m N s' R
    | .exit id => outK (lookL lv.ex id) m N s' (K (.exit id))
    | .ret => outK lv.rt m N s' (K .ret)

def loopV (step : St → (Ex → St → Prop) → Prop) (head : Nat) (lv : LV) (m N : Nat) (K : Ex → List EV → Heap → Prop) : Nat → List EV → Heap → Prop
  | 0, _, _ => False
  | n + 1, vs, H => loopStep step head lv m N (loopV step head lv m N K n) vs H K

/-- A loop of so many rounds, written out. -/
def loopU (step : St → (Ex → St → Prop) → Prop) (head : Nat) (lv : LV) (m N : Nat) (K : Ex → List EV → Heap → Prop) : Nat → List EV → Heap → Prop
  | 0, _, _ => False
  | n + 1, vs, H => loopStep step head lv m N (loopU step head lv m N K n) vs H K
theorem loopU_eq (step : St → (Ex → St → Prop) → Prop) (head : Nat) (lv : LV) (m N : Nat) (K : Ex → List EV → Heap → Prop) : ∀ n, loopU step head lv m N K n = loopV step head lv m N K n
  | 0 => by funext vs H; rfl
  | n + 1 => by funext vs H; simp only [loopU, loopV, loopU_eq step head lv m N K n]

def evCode (E : Env) : Code → LV → St → (Ex → St → Prop) → Prop
  | .skip, _, s, K => K .normal s
  | .region _ ops draw, _, s, K => cond draw (gd (commB E ops.toList) (evOps E ops.toList ops.toList s (K .normal))) (evOps E ops.toList ops.toList s (K .normal))
  | .seq a b, lv, s, K => evCode E a { lv with nx := live b lv } s fun ex s' => match ex with
    | .normal => evCode E b lv s' K
    | .exit id => K (.exit id) s'
    | .ret => K .ret s'
  | .cond c a b, lv, s, K => match (St.opd E s) c with
    | .bool t => br t (evCode E a lv s K) (evCode E b lv s K)
    | _ => False
  | .block id c, lv, s, K => evCode E c { lv with ex := (id, lv.nx) :: lv.ex } s fun ex s' => match ex with
    | .normal => K .normal s'
    | .exit id' => cond (Nat.beq id' id) (K .normal s') (K (.exit id') s')
    | .ret => K .ret s'
  | .loop c, lv, s, K => outK (live (.loop c) lv) lv.nl s.tmps.length s fun vs H => match E.un (firstRegion c) with
    | 0 => match E.lp (firstRegion c) with
      | some L => gd (lv.beq L.lv && (Nat.beq lv.nl L.m && Nat.beq s.tmps.length L.N)) (L.spec vs H fun ex vs H => K ex { tmps := expandM (maskOf lv ex) s.tmps.length 0 vs, heap := H })
      | none => ∃ n, loopV (evCode E c { lv with nx := live (.loop c) lv }) (live (.loop c) lv) lv lv.nl s.tmps.length (fun ex vs H => K ex { tmps := expandM (maskOf lv ex) s.tmps.length 0 vs, heap := H }) n vs H
    | n + 1 => loopU (evCode E c { lv with nx := live (.loop c) lv }) (live (.loop c) lv) lv lv.nl s.tmps.length (fun ex vs H => K ex { tmps := expandM (maskOf lv ex) s.tmps.length 0 vs, heap := H }) (n + 1) vs H
  | .exit id, _, s, K => K (.exit id) s
  | .ret, _, s, K => K .ret s
  | .scope c, lv, s, K => evCode E c lv s K
  | _, _, _, _ => False

/-- What is said of a loop is what its rounds come to. -/
def LoopOK (E : Env) (c : Code) : Prop :=
  ∀ L, E.lp (firstRegion c) = some L → ∀ vs H K, L.spec vs H K → ∃ n, loopV (evCode E c { L.lv with nx := live (.loop c) L.lv }) (live (.loop c) L.lv) L.lv L.m L.N K n vs H

def loopsOf : Code → List Code
  | .seq a b => loopsOf a ++ loopsOf b
  | .cond _ a b => loopsOf a ++ loopsOf b
  | .block _ c => loopsOf c
  | .loop c => c :: loopsOf c
  | .scope c => loopsOf c
  | _ => []

section sound
variable {P : Program} {E : Env}

theorem cleanL_get (keep : Nat) : ∀ (l : List EV) (j i : Nat) (v : EV), (cleanL keep j l)[i]? = some v → v = .undef ∨ l[i]? = some v
  | [], j, i, v, h => by simp [cleanL] at h
  | u :: l, j, 0, v, h => by
    simp only [cleanL, List.getElem?_cons_zero, Option.some.injEq] at h
    cases hm : Nat.testBit keep j with
    | true => right; simp [hm] at h; simp [h]
    | false => left; simp [hm] at h; exact h.symm
  | u :: l, j, i + 1, v, h => by
    simp only [cleanL, List.getElem?_cons_succ] at h ⊢
    exact cleanL_get keep l (j + 1) i v h

theorem cleanL_length (keep : Nat) : ∀ (l : List EV) (j : Nat), (cleanL keep j l).length = l.length
  | [], _ => rfl
  | _ :: l, j => by simp [cleanL, cleanL_length keep l (j + 1)]

theorem mem_of_clean {keep : Nat} {v : EV} (hu : v ≠ .undef) : ∀ (l : List EV) (j i : Nat), (cleanL keep j l)[i]? = some v → v ∈ pickM keep j l := by
  intro l
  induction l with
  | nil => intro j i h; simp [cleanL] at h
  | cons u l ih =>
    intro j i h
    simp only [cleanL, pickM] at h ⊢
    cases i with
    | zero =>
      cases ht : Nat.testBit keep j with
      | true => simp [ht] at h; subst h; simp
      | false => simp [ht] at h; exact absurd h.symm hu
    | succ i =>
      have := ih (j + 1) i (by simpa using h)
      cases Nat.testBit keep j <;> simp [this]
theorem inIL_mem {idx : List Nat} : ∀ {l : List EV}, EV.inIL idx l = true → ∀ v ∈ l, v.inI idx = true
  | v :: l, h, u, hu => by
    simp only [EV.inIL, Bool.and_eq_true] at h
    rcases List.mem_cons.1 hu with rfl | hu
    · exact h.1
    · exact inIL_mem h.2 u hu
theorem expand_ren (keep : Nat) (f : Nat → Nat) : ∀ (N i : Nat) (vs : List EV), expandM keep N i (EV.renL f vs) = (expandM keep N i vs).map (EV.ren f)
  | 0, _, _ => rfl
  | N + 1, i, vs => by
    simp only [expandM]
    cases Nat.testBit keep i with
    | true =>
      cases vs with
      | nil =>
        simp only [EV.renL, cond_true, List.map_cons, EV.ren]
        have := expand_ren keep f N (i + 1) []
        simp only [EV.renL] at this
        exact congrArg _ this
      | cons v vs => simp only [EV.renL, cond_true, List.map_cons, expand_ren keep f N (i + 1) vs]
    | false => simp only [cond_false, List.map_cons, EV.ren, expand_ren keep f N (i + 1) vs]

theorem outK_sound {ρ0 ρ : Ren} {w0 w : World} {s : St} {a : Array Value} {keep nl N : Nat} {K : List EV → Heap → Prop} (hT : RelT E.gl ρ w s.tmps a) (hS : Sim ρ s.heap w) (hI : Ext ρ0 w0 ρ w) (hF : ρ.F = ρ0.F) (hnl : nl = ρ0.bs.length)
    (h : outK keep nl N s K) : ∃ vs H ρ', K vs H ∧ RelT E.gl ρ' w (expandM keep N 0 vs) a ∧ Sim ρ' H w ∧ Ext ρ0 w0 ρ' w ∧ ρ'.F = ρ0.F := by
  unfold outK at h
  rw [gd_iff] at h
  obtain ⟨h0, h⟩ := h
  unfold goK at h
  rw [gd_iff, Bool.and_eq_true] at h
  obtain ⟨⟨h1, h2⟩, hK⟩ := h
  obtain ⟨c1, c2⟩ := canI_spec nl (pickM keep 0 s.tmps) s.heap
  generalize canI nl (pickM keep 0 s.tmps) s.heap = idx at *
  have hN := Nat.eq_of_beq_eq_true h0
  have hm : ∀ b, b < w.heap.size → b ∉ ρ.mbs → b ∉ (⟨ρ.F, subBs ρ.bs idx⟩ : Ren).mbs := fun b _ hn hm => hn (subBs_mbs hm)
  refine ⟨_, _, ⟨ρ.F, subBs ρ.bs idx⟩, hK, ?_, ?_, hI.sub (fun j hj => c2 j (by omega)), hF⟩
  · rw [expand_ren, ← hN, expand_pick]
    refine ⟨by simp [cleanL_length, hT.1], fun i v hv => ?_, hT.2.2.sub fun b hb => subBs_mbs hb⟩
    rw [List.getElem?_map] at hv
    cases hc : (cleanL keep 0 s.tmps)[i]? with
    | none => simp [hc] at hv
    | some u =>
      simp only [hc, Option.map_some, Option.some.injEq] at hv
      subst hv
      by_cases hu : u = .undef
      · subst hu; exact .inl rfl
      · rcases cleanL_get keep s.tmps 0 i u hc with h' | h'
        · exact absurd h' hu
        · rcases hT.2.1 i u h' with h3 | ⟨x, hx, hr⟩
          · exact absurd h3 hu
          · exact .inr ⟨x, hx, Rel.ren (fun b r hb hr => .inl (subBs_pos hb hr)) u x (inIL_mem h1 u (mem_of_clean hu s.tmps 0 i hc)) (.inr hm) hr⟩
  · exact hS.sub c1 hS.fl (fun b r _ hb => hS.sep b r hb) h2 hm

theorem evCode_sound {ρ0 : Ren} {w0 : World} (hE : ∀ t ti, E.ty t = some ti → OkTI P t ti) (hFn : OkFn P E) (hD : DetFn E) (hm : P.follows .mixedOrders = true) :
    ∀ (c : Code) (hL : ∀ c', c' ∈ loopsOf c → LoopOK E c') (lv : LV) (hl : lv.nl = ρ0.bs.length) (ρ : Ren) (w : World) (s : St) (a : Act) (K : Ex → St → Prop) (Q : Exit → Act → World → Prop), RelT E.gl ρ w s.tmps a.tmps → Sim ρ s.heap w → Ext ρ0 w0 ρ w ∧ ρ.F = ρ0.F → evCode E c lv s K →
      (∀ ex s' ρ' w' a', K ex s' → RelT E.gl ρ' w' s'.tmps a'.tmps → Sim ρ' s'.heap w' → Ext ρ0 w0 ρ' w' ∧ ρ'.F = ρ0.F → a'.defers = a.defers → Q ex.out a' w') → c.wp P Q a w := by
  intro c
  induction c with
  | skip => intro hL lv hl ρ w s a K Q hT hS hI h hn; exact wp_skip (hn .normal s ρ w a h hT hS hI rfl)
  | region id ops draw =>
    intro hL lv hl ρ w s a K Q hT hS hI h hn
    simp only [evCode] at h
    cases draw with
    | true =>
      simp only [cond_true, gd_iff] at h
      exact evDraw_sound hE hFn hD hm h.1 id ρ w s a _ hT hS h.2 fun s' ρ' w' a' hK hT' hD hS' hX hF => hn .normal s' ρ' w' a' hK hT' hS' ⟨hI.1.trans hX, hF.trans hI.2⟩ hD
    | false =>
      simp only [cond_false] at h
      refine wp_region ?_
      have := evOps_sound (Q := Q) hE hFn ops.toList 0 rfl ρ w s a _ hT hS h fun s' ρ' w' a' hK hT' hD hS' hX hF => hn .normal s' ρ' w' a' hK hT' hS' ⟨hI.1.trans hX, hF.trans hI.2⟩ hD
      rw [List.range_eq_range', ← Array.length_toList]
      exact this
  | seq x y ihx ihy =>
    intro hL lv hl ρ w s a K Q hT hS hI h hn
    simp only [evCode] at h
    refine wp_seq (ihx (fun c' hc => hL c' (List.mem_append.2 (.inl hc))) { lv with nx := live y lv } hl ρ w s a _ _ hT hS hI h ?_)
    intro ex s' ρ' w' a' hK hT' hS' hI' hD
    cases ex with
    | normal => exact ihy (fun c' hc => hL c' (List.mem_append.2 (.inr hc))) _ hl ρ' w' s' a' K Q hT' hS' hI' hK fun ex s'' ρ'' w'' a'' hK' hT'' hS'' hI'' hD' => hn ex s'' ρ'' w'' a'' hK' hT'' hS'' hI'' (hD'.trans hD)
    | exit id => exact hn (.exit id) s' ρ' w' a' hK hT' hS' hI' hD
    | ret => exact hn .ret s' ρ' w' a' hK hT' hS' hI' hD
  | cond c x y ihx ihy =>
    intro hL lv hl ρ w s a K Q hT hS hI h hn
    simp only [evCode] at h
    split at h
    · rename_i t ht
      have hc := opd_ok hT ht (by simp)
      simp only [Rel] at hc
      rw [br_iff] at h
      cases t with
      | true => exact wp_cond_true hc (ihx (fun c' hc => hL c' (List.mem_append.2 (.inl hc))) _ hl ρ w s a K Q hT hS hI (h.1 rfl) hn)
      | false => exact wp_cond_false hc (ihy (fun c' hc => hL c' (List.mem_append.2 (.inr hc))) _ hl ρ w s a K Q hT hS hI (h.2 rfl) hn)
    · exact h.elim
  | block id c ih =>
    intro hL lv hl ρ w s a K Q hT hS hI h hn
    simp only [evCode] at h
    refine wp_block (ih hL { lv with ex := (id, lv.nx) :: lv.ex } hl ρ w s a _ _ hT hS hI h ?_)
    intro ex s' ρ' w' a' hK hT' hS' hI' hD
    cases ex with
    | normal => exact hn .normal s' ρ' w' a' hK hT' hS' hI' hD
    | exit id' =>
      simp only [Ex.out, Exit.inBlock]
      simp only at hK
      rw [cd_iff] at hK
      by_cases hid : id' = id
      · rw [if_pos hid]
        exact hn .normal s' ρ' w' a' (hK.1 (by rw [hid]; exact Nat.beq_refl id)) hT' hS' hI' hD
      · rw [if_neg hid]
        refine hn (.exit id') s' ρ' w' a' (hK.2 ?_) hT' hS' hI' hD
        cases hb : Nat.beq id' id with
        | false => rfl
        | true => exact absurd (Nat.eq_of_beq_eq_true hb) hid
    | ret => exact hn .ret s' ρ' w' a' hK hT' hS' hI' hD
  | loop c ih =>
    intro hL lv hl ρ w s a K Q hT hS hI h hn
    simp only [evCode] at h
    have ih' := ih fun c' hc => hL c' (List.mem_cons_of_mem _ hc)
    obtain ⟨vs, H, ρ1, h, hT1, hS1, hI1, hf1⟩ := outK_sound hT hS hI.1 hI.2 hl h
    have hex : ∃ n, loopV (evCode E c { lv with nx := live (.loop c) lv }) (live (.loop c) lv) lv lv.nl s.tmps.length (fun ex vs H => K ex { tmps := expandM (maskOf lv ex) s.tmps.length 0 vs, heap := H }) n vs H := by
      split at h
      case h_2 =>
        rw [loopU_eq] at h
        exact ⟨_, h⟩
      split at h
      · rename_i L hL'
        rw [gd_iff, Bool.and_eq_true, Bool.and_eq_true] at h
        obtain ⟨⟨g1, g2, g3⟩, h⟩ := h
        have e1 := LV.eq_of_beq g1
        have e2 := Nat.eq_of_beq_eq_true g2
        have e3 := Nat.eq_of_beq_eq_true g3
        have h' := hL c List.mem_cons_self L hL' _ _ _ h
        rw [← e2, ← e3, ← e1] at h'
        exact h'
      · exact h
    clear h
    obtain ⟨n, h⟩ := hex
    refine wp_loop_rounds n ?_
    generalize hmm : lv.nl = m at h hl
    generalize s.tmps.length = N at h hT1
    generalize live (.loop c) lv = head at h hT1
    clear hT hS hI
    induction n generalizing ρ1 w vs H a with
    | zero => exact h.elim
    | succ n ihn =>
      simp only [loopV, loopStep] at h
      rw [rounds_succ]
      refine ih' ⟨head, lv.ex, lv.rt, m⟩ hl ρ1 w _ a _ _ hT1 hS1 ⟨hI1, hf1⟩ h ?_
      intro ex s' ρ' w' a' hK hT' hS' hI' hD
      cases ex with
      | normal =>
        obtain ⟨vs2, H2, ρ2, hK2, hT2, hS2, hI2, hf2⟩ := outK_sound hT' hS' hI'.1 hI'.2 hl hK
        exact ihn w' a' (fun ex s'' ρ'' w'' a'' hK' hT'' hS'' hI'' hD' => hn ex s'' ρ'' w'' a'' hK' hT'' hS'' hI'' (hD'.trans hD)) vs2 H2 ρ2 hS2 hI2 hf2 hK2 hT2
      | exit id =>
        obtain ⟨vs2, H2, ρ2, hK2, hT2, hS2, hI2, hf2⟩ := outK_sound hT' hS' hI'.1 hI'.2 hl hK
        exact hn (.exit id) _ ρ2 w' a' hK2 hT2 hS2 ⟨hI2, hf2⟩ hD
      | ret =>
        obtain ⟨vs2, H2, ρ2, hK2, hT2, hS2, hI2, hf2⟩ := outK_sound hT' hS' hI'.1 hI'.2 hl hK
        exact hn .ret _ ρ2 w' a' hK2 hT2 hS2 ⟨hI2, hf2⟩ hD
  | exit id => intro hL lv hl ρ w s a K Q hT hS hI h hn; exact wp_exit (hn (.exit id) s ρ w a h hT hS hI rfl)
  | ret => intro hL lv hl ρ w s a K Q hT hS hI h hn; exact wp_ret (hn .ret s ρ w a h hT hS hI rfl)
  | scope c ih =>
    intro hL lv hl ρ w s a K Q hT hS hI h hn
    simp only [evCode] at h
    refine wp_scope_straight (ih hL _ hl ρ w s a K _ hT hS hI h ?_)
    intro ex s' ρ' w' a' hK hT' hS' hI' hD
    cases ex <;> exact hn _ s' ρ' w' a' hK hT' hS' hI' hD
  | rangeFunc f ps x y _ _ => intro hL lv hl ρ w s a K Q hT hS hI h hn; exact h.elim
  | label l => intro hL lv hl ρ w s a K Q hT hS hI h hn; exact h.elim
  | goto l => intro hL lv hl ρ w s a K Q hT hS hI h hn; exact h.elim
  | refuse l => intro hL lv hl ρ w s a K Q hT hS hI h hn; exact h.elim
end sound

/-- The kind of a slice type's elements. -/
def roTy (E : Env) (t : TypeId) : Option IntKind :=
  match E.ty t with
  | some ti => match ti.td with
    | .slice e => match E.ty e with
      | some ei => match ei.td with
        | .int k => some k
        | _ => none
      | none => none
    | _ => none
  | none => none

def evResults (E : Env) : List ResultVar → St → (List EV → Prop) → Prop
  | [], s, K => K []
  | .tmp t :: rs, s, K => gd (s.slot t).dfd (evResults E rs s fun vs => K (s.slot t :: vs))
  | .cell a t :: rs, s, K => gd (s.slot a).dfd (evLoad E t (s.slot a) s.heap fun v => evResults E rs s fun vs => K (v :: vs))

/-- What is handed back: rows that are read only, or places; the blocks numbered anew. -/
def finK (vs : List EV) (dead idx : List Nat) (H : Heap) (K : EV → Heap → Prop) : Prop :=
  gd (dfdL vs && (EV.inIL idx vs && (inIH idx H idx && noneIn idx dead))) (match EV.renL (pos idx) vs with
    | [v] => K v (subH H idx)
    | vs => K (.tuple vs) (subH H idx))
def retK (nl : Nat) (ros : List (Option IntKind)) (vs : List EV) (H : Heap) (K : EV → Heap → Prop) : Prop :=
  finK (roArgs H ros vs) (roDead ros vs) (canI nl (roArgs H ros vs) H) H K

def rtMask : List ResultVar → Nat
  | [] => 0
  | .tmp t :: l => Nat.lor (Nat.shiftLeft 1 t) (rtMask l)
  | .cell a _ :: l => Nat.lor (Nat.shiftLeft 1 a) (rtMask l)

/-- A function; own: the slices that it hands back are the caller's then. -/
def evFn (E : Env) (fn : Func) (own : Bool) (args : List EV) (H : Heap) (K : EV → Heap → Prop) : Prop :=
  match fn.body with
  | some c => evCode E c { nx := rtMask fn.results.toList, ex := [], rt := rtMask fn.results.toList, nl := H.length } { tmps := args ++ List.replicate (fn.ntmps - args.length) .undef, heap := H } fun ex s => match ex with
    | .exit _ => False
    | _ => evResults E fn.results.toList s fun vs => retK H.length (cond own [] (fn.resultTypes.toList.map (roTy E))) vs s.heap K
  | none => False

def resOf (tmps : Array Value) : ResultVar → Sem Value
  | .tmp t => pure (tmps.getD t undef)
  | .cell a t => do loadVar t (← asAddr (tmps.getD a undef))

section sound
variable {P : Program} {E : Env}

theorem sep_own {ρ : Ren} {H : Heap} {w : World} (hS : Sim ρ H w) : ∀ b, b ∈ ρ.F → b ∈ ρ.mbs := fun b hb => List.mem_append.2 (.inl hb)

theorem evResults_sound {ρ : Ren} {w : World} {s : St} {tmps : Array Value} (hE : ∀ t ti, E.ty t = some ti → OkTI P t ti) (hT : RelT E.gl ρ w s.tmps tmps) (hS : Sim ρ s.heap w) :
    ∀ (rs : List ResultVar) (K : List EV → Prop), evResults E rs s K → ∃ vs xs, K vs ∧ RelL ρ w vs xs ∧ (rs.mapM (resOf tmps)).run P w = .ok xs w
  | [], K, h => ⟨[], [], h, rfl, rfl⟩
  | .tmp t :: rs, K, h => by
    simp only [evResults] at h
    rw [gd_iff] at h
    obtain ⟨h1, h⟩ := h
    obtain ⟨vs, xs, k1, k2, k3⟩ := evResults_sound hE hT hS rs _ h
    have hr : Rel ρ w (s.slot t) (tmps.getD t undef) := opd_ok (a := { tmps, defers := [] }) hT (x := .tmp t) rfl (dfd_ne h1)
    refine ⟨_, tmps.getD t undef :: xs, k1, ⟨_, _, rfl, hr, k2⟩, ?_⟩
    rw [List.mapM_cons, run_bind]
    simp only [resOf, run_pure]
    rw [run_bind, k3]
    rfl
  | .cell a t :: rs, K, h => by
    simp only [evResults] at h
    rw [gd_iff] at h
    obtain ⟨h1, h⟩ := h
    have hr : Rel ρ w (s.slot a) (tmps.getD a undef) := opd_ok (a := { tmps, defers := [] }) hT (x := .tmp a) rfl (dfd_ne h1)
    obtain ⟨u, y, g1, g2, g3⟩ := evLoad_sound hE hS hr h
    obtain ⟨vs, xs, k1, k2, k3⟩ := evResults_sound hE hT hS rs _ g1
    refine ⟨_, y :: xs, k1, ⟨_, _, rfl, g2, k2⟩, ?_⟩
    rw [List.mapM_cons, run_bind]
    have : (resOf tmps (.cell a t)).run P w = .ok y w := by
      simp only [resOf]
      revert g3
      cases tmps.getD a undef <;> intro g3 <;> try (simp [Instr.loadAt, Instr.sureAddr, run_bind, stuck, Sem.run] at g3; done)
      rename_i aa
      cases aa with
      | none => simp [Instr.loadAt, Instr.sureAddr, run_bind, stuck, Sem.run] at g3
      | some aa => exact g3
    rw [this]
    simp only
    rw [run_bind, k3]
    rfl

theorem retK_sound {ρ0 ρ : Ren} {w0 w : World} {H : Heap} {vs : List EV} {xs : List Value} {nl : Nat} {ros : List (Option IntKind)} {K : EV → Heap → Prop} (hS : Sim ρ H w) (hI : Ext ρ0 w0 ρ w) (hF : ρ.F = ρ0.F) (hnl : nl = ρ0.bs.length)
    (hr : RelL ρ w vs xs) (h : retK nl ros vs H K) :
    ∃ v H' ρ', K v H' ∧ Rel ρ' w v (if h : xs.length = 1 then xs[0] else .tuple xs.toArray) ∧ Sim ρ' H' w ∧ Ext ρ0 w0 ρ' w ∧ ρ'.F = ρ0.F := by
  unfold retK finK at h
  rw [gd_iff] at h
  simp only [Bool.and_eq_true] at h
  obtain ⟨⟨h1, h2, h3, h4⟩, h⟩ := h
  obtain ⟨c1, c2⟩ := canI_spec nl (roArgs H ros vs) H
  generalize canI nl (roArgs H ros vs) H = idx at *
  have hm : ∀ b, b < w.heap.size → b ∉ ρ.mbs → b ∉ (⟨ρ.F, subBs ρ.bs idx⟩ : Ren).mbs := fun b _ hn hm => hn (subBs_mbs hm)
  have hrel : RelL ⟨ρ.F, subBs ρ.bs idx⟩ w (EV.renL (pos idx) (roArgs H ros vs)) xs := by
    refine roArgs_ren hS (fun b r hb hr => .inl (subBs_pos hb hr)) (fun b hb => subBs_mbs hb) ros vs xs ?_ h1 h2 hr
    intro b hb r h5 h6
    rcases List.mem_append.1 h6 with h6 | h6
    · exact hS.sep b r h5 h6
    · obtain ⟨c, s, g1, g2, g3⟩ := subBs_own h6
      exact noneIn_spec h4 b hb (hS.nodup c b s r g2 h5 g3 ▸ g1)
  generalize EV.renL (pos idx) (roArgs H ros vs) = vs' at *
  have fin : ∀ v, K v (subH H idx) → Rel ⟨ρ.F, subBs ρ.bs idx⟩ w v (if h : xs.length = 1 then xs[0] else .tuple xs.toArray) → ∃ v H' ρ', K v H' ∧ Rel ρ' w v (if h : xs.length = 1 then xs[0] else .tuple xs.toArray) ∧ Sim ρ' H' w ∧ Ext ρ0 w0 ρ' w ∧ ρ'.F = ρ0.F :=
    fun v hK hv => ⟨v, _, _, hK, hv, hS.sub c1 hS.fl (fun b r _ hb => hS.sep b r hb) h3 hm, hI.sub (fun j hj => c2 j (by omega)), hF⟩
  split at h
  · rename_i v
    simp only [RelL] at hrel
    obtain ⟨y, zs, rfl, g1, rfl⟩ := hrel
    exact fin v h g1
  · rename_i vs'' hne
    have hl : ¬ xs.length = 1 := by
      intro hx
      match vs', hrel, hne with
      | [], hrel, _ => simp only [RelL] at hrel; subst hrel; simp at hx
      | [v], _, hne => exact hne v rfl
      | v :: u :: l, hrel, _ =>
        simp only [RelL] at hrel
        obtain ⟨y, zs, rfl, _, y', zs', rfl, _⟩ := hrel
        simp at hx
    refine fin _ h ?_
    rw [dif_neg hl]
    simp only [Rel]
    exact ⟨xs.toArray, rfl, by simpa using hrel⟩

theorem evFn_sound {f : FuncId} {fn : Func} {own : Bool} (hE : ∀ t ti, E.ty t = some ti → OkTI P t ti) (hFn : OkFn P E) (hD : DetFn E) (hm : P.follows .mixedOrders = true) (hf : P.funcs[f]? = some fn)
    (hL : ∀ c, fn.body = some c → ∀ c', c' ∈ loopsOf c → LoopOK E c')
    {ρ : Ren} {H : Heap} {w : World} {args : List EV} {xs : List Value} {K : EV → Heap → Prop} (h : evFn E fn own args H K) (hr : RelL ρ w args xs) (hS : Sim ρ H w) (hG : GOk E.gl ρ w) :
    Calls P f xs.toArray w fun e w' => ∃ v x H' ρ', e = .returned x ∧ K v H' ∧ Rel ρ' w' v x ∧ Sim ρ' H' w' ∧ Ext ρ w ρ' w' ∧ ρ'.F = ρ.F := by
  unfold evFn at h
  split at h
  · rename_i c hc
    refine calls_of_wp hf hc ?_
    have hlen : ∀ (l : List EV) (ys : List Value), RelL ρ w l ys → l.length = ys.length := by
      intro l
      induction l with
      | nil => intro ys h; simp only [RelL] at h; subst h; rfl
      | cons v l ih =>
        intro ys h
        simp only [RelL] at h
        obtain ⟨y, zs, rfl, _, h2⟩ := h
        simp [ih zs h2]
    have hget : ∀ (l : List EV) (ys : List Value) (i : Nat) (v : EV), RelL ρ w l ys → l[i]? = some v → ∃ y, ys[i]? = some y ∧ Rel ρ w v y := by
      intro l
      induction l with
      | nil => intro ys i v _ h; simp at h
      | cons u l ih =>
        intro ys i v hr hv
        simp only [RelL] at hr
        obtain ⟨y, zs, rfl, h1, h2⟩ := hr
        cases i with
        | zero => simp at hv; subst hv; exact ⟨y, rfl, h1⟩
        | succ i => simp at hv; simpa using ih zs i v h2 hv
    have hl := hlen args xs hr
    have hT : RelT E.gl ρ w (args ++ List.replicate (fn.ntmps - args.length) .undef) (xs.toArray ++ Array.replicate (fn.ntmps - xs.toArray.size) undef) := by
      refine ⟨by simp [hl], fun i v hv => ?_, hG⟩
      rw [List.getElem?_append] at hv
      split at hv
      · rename_i hi
        obtain ⟨y, hy, hv'⟩ := hget args xs i v hr hv
        refine .inr ⟨y, ?_, hv'⟩
        rw [Array.getElem?_append_left (by simp; omega)]
        simpa using hy
      · left
        have := List.mem_of_getElem? hv
        exact (List.eq_of_mem_replicate this)
    refine evCode_sound hE hFn hD hm c (hL c hc) _ hS.len.symm ρ w _ _ _ _ hT hS ⟨Ext.refl _ _, rfl⟩ h ?_
    intro ex s' ρ' w' a' hK hT' hS' hI' hD
    have key : (evResults E fn.results.toList s' fun vs => retK H.length (cond own [] (fn.resultTypes.toList.map (roTy E))) vs s'.heap K) →
        ∃ x, (results fn a'.tmps).run P w' = .ok x w' ∧ ∃ v H' ρ'', K v H' ∧ Rel ρ'' w' v x ∧ Sim ρ'' H' w' ∧ Ext ρ w ρ'' w' ∧ ρ''.F = ρ.F := by
      intro hK
      obtain ⟨vs, ys, k1, k2, k3⟩ := evResults_sound hE hT' hS' _ _ hK
      have hres : (results fn a'.tmps).run P w' = .ok (if h : ys.length = 1 then ys[0] else .tuple ys.toArray) w' := by
        have h0 : results fn a'.tmps = (do
            let vs ← fn.results.mapM (resOf a'.tmps)
            pure (if h : vs.size = 1 then vs[0] else .tuple vs)) := rfl
        rw [h0, run_bind]
        have : (fn.results.mapM (resOf a'.tmps)).run P w' = .ok ys.toArray w' := by
          rw [show fn.results = fn.results.toList.toArray from by simp, List.mapM_toArray]
          rw [show (List.toArray <$> List.mapM (resOf a'.tmps) fn.results.toList) = (List.mapM (resOf a'.tmps) fn.results.toList >>= fun a => pure a.toArray) from rfl, run_bind, k3]
          rfl
        rw [this]
        simp only [run_pure]
        congr 1
      exact ⟨_, hres, retK_sound hS' hI'.1 hI'.2 hS.len.symm k2 k1⟩
    cases ex with
    | exit id => exact hK.elim
    | normal =>
      obtain ⟨x, h1, v, H', ρ'', h2, h3, h4, h5, h6⟩ := key hK
      exact ⟨hD, x, h1, v, x, H', ρ'', rfl, h2, h3, h4, h5, h6⟩
    | ret =>
      obtain ⟨x, h1, v, H', ρ'', h2, h3, h4, h5, h6⟩ := key hK
      exact ⟨hD, x, h1, v, x, H', ρ'', rfl, h2, h3, h4, h5, h6⟩
  · exact h.elim
end sound
end Go.Ev
