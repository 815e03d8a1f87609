/- The evaluator: code and functions. -/
import Derived.Test.YtdnndfaojopnbaaEvDraw
import Derived.LoopN
import Derived.Scope
set_option linter.unusedVariables false
set_option linter.unusedSimpArgs false
namespace Go.Ev
open Go

def Ex.out : Ex → Exit
  | .normal => .normal
  | .exit id => .exit id
  | .ret => .ret

def firstRegion : Code → Nat
  | .region id _ _ => id
  | .seq a _ => firstRegion a
  | .block _ c => firstRegion c
  | .loop c => firstRegion c
  | .scope c => firstRegion c
  | _ => 0

/-- What is not kept is forgotten. -/
def cleanL (keep : Nat) : Nat → List EV → List EV
  | _, [] => []
  | i, v :: l => cond (Nat.testBit keep i) v .undef :: cleanL keep (i + 1) l

mutual
/-- No place from block m on is in it. -/
def EV.inB (m : Nat) : EV → Bool
  | .ptr b _ => Nat.blt b m
  | .slice b _ _ _ _ => Nat.blt b m
  | .rref v => v.inB m
  | .rsI _ _ _ => true | .undef => true
  | .bool _ => true | .int _ _ => true | .str _ => true | .nilPtr => true | .nilSlice => true | .nilFunc => true | .arr _ _ _ => true | .nilIface => true
  | .agg l => EV.inL m l
  | .tuple l => EV.inL m l
  | .func _ l => EV.inL m l
  | .iface _ v => v.inB m
def EV.inL (m : Nat) : List EV → Bool
  | [] => true
  | v :: l => v.inB m && EV.inL m l
end
def belowH (m : Nat) : Heap → Bool
  | [] => true
  | none :: H => belowH m H
  | some v :: H => v.inB m && belowH m H

def pickM (keep : Nat) : Nat → List EV → List EV
  | _, [] => []
  | i, v :: l => cond (Nat.testBit keep i) (v :: pickM keep (i + 1) l) (pickM keep (i + 1) l)
def expandM (keep : Nat) : Nat → Nat → List EV → List EV
  | 0, _, _ => []
  | N + 1, i, vs => cond (Nat.testBit keep i) (match vs with
    | v :: vs => v :: expandM keep N (i + 1) vs
    | [] => .undef :: expandM keep N (i + 1) []) (.undef :: expandM keep N (i + 1) vs)

theorem expand_pick (keep : Nat) : ∀ (l : List EV) (i : Nat), expandM keep l.length i (pickM keep i l) = cleanL keep i l
  | [], _ => rfl
  | v :: l, i => by
    simp only [List.length_cons, expandM, pickM, cleanL]
    cases Nat.testBit keep i with
    | true => simp only [cond_true, expand_pick keep l (i + 1)]
    | false => simp only [cond_false, expand_pick keep l (i + 1)]

def outK (keep m N : Nat) (s : St) (K : List EV → Heap → Prop) : Prop :=
  gd (Nat.beq s.tmps.length N && (EV.inL m (pickM keep 0 s.tmps) && belowH m (s.heap.take m))) (K (pickM keep 0 s.tmps) (s.heap.take m))

def lookL : List (Nat × Nat) → Nat → Nat
  | [], _ => 0
  | (i, m) :: l, j => cond (Nat.beq i j) m (lookL l j)

def bitOf : Operand → Nat
  | .tmp t => Nat.shiftLeft 1 t
  | _ => 0
def bitsOf : List Operand → Nat
  | [] => 0
  | x :: l => Nat.lor (bitOf x) (bitsOf l)
def dropBit (m : Nat) : Option Nat → Nat
  | some d => cond (Nat.testBit m d) (Nat.sub m (Nat.shiftLeft 1 d)) m
  | none => m
def usesOf : Op → Nat
  | .build _ ps => bitsOf (ps.toList.map (·.2))
  | .buildSlice _ _ ps => bitsOf (ps.toList.map (·.2))
  | o => bitsOf o.operands.toList
def liveOps (ops : List Oper) : List Oper → Nat → Nat
  | [], m => m
  | o :: r, m => Nat.lor (dropBit (liveOps ops r m) o.dst) (Nat.lor (usesOf o.op) (match o.guard with
    | some (j, _) => match ops[j]? with
      | some oj => match oj.dst with
        | some d => Nat.shiftLeft 1 d
        | none => 0
      | none => 0
    | none => 0))

def live : Code → LV → Nat
  | .skip, lv => lv.nx
  | .region _ ops _, lv => liveOps ops.toList ops.toList lv.nx
  | .seq a b, lv => live a { lv with nx := live b lv }
  | .cond c a b, lv => Nat.lor (bitOf c) (Nat.lor (live a lv) (live b lv))
  | .block id c, lv => live c { lv with ex := (id, lv.nx) :: lv.ex }
  | .loop c, lv => Nat.lor (live c { lv with nx := 0 }) (live c { lv with nx := live c { lv with nx := 0 } })
  | .exit id, lv => lookL lv.ex id
  | .ret, lv => lv.rt
  | .scope c, lv => live c lv
  | _, lv => lv.nx

def maskOf (lv : LV) : Ex → Nat
  | .normal => 0
  | .exit id => lookL lv.ex id
  | .ret => lv.rt

def beqEx : List (Nat × Nat) → List (Nat × Nat) → Bool
  | [], [] => true
  | (a, b) :: l, (c, d) :: r => Nat.beq a c && (Nat.beq b d && beqEx l r)
  | _, _ => false
def LV.beq (a b : LV) : Bool := Nat.beq a.nx b.nx && (Nat.beq a.rt b.rt && beqEx a.ex b.ex)

theorem beqEx_eq : ∀ (l r : List (Nat × Nat)), beqEx l r = true → l = r
  | [], [], _ => rfl
  | (a, b) :: l, (c, d) :: r, h => by
    simp only [beqEx, Bool.and_eq_true] at h
    rw [Nat.eq_of_beq_eq_true h.1, Nat.eq_of_beq_eq_true h.2.1, beqEx_eq l r h.2.2]
  | [], _ :: _, h => by simp [beqEx] at h
  | _ :: _, [], h => by simp [beqEx] at h
theorem LV.eq_of_beq {a b : LV} (h : a.beq b = true) : a = b := by
  simp only [LV.beq, Bool.and_eq_true] at h
  cases a; cases b
  simp only at h
  rw [Nat.eq_of_beq_eq_true h.1, Nat.eq_of_beq_eq_true h.2.1, beqEx_eq _ _ h.2.2]

def loopStep (step : St → (Ex → St → Prop) → Prop) (head : Nat) (lv : LV) (m N : Nat) (R : List EV → Heap → Prop) (vs : List EV) (H : Heap) (K : Ex → List EV → Heap → Prop) : Prop :=
  step { tmps := expandM head N 0 vs, heap := H } fun ex s' => match ex with
    | .normal => outK head m N s' R
    | .exit id => outK (lookL lv.ex id) m N s' (K (.exit id))
    | .ret => outK lv.rt m N s' (K .ret)

def loopV (step : St → (Ex → St → Prop) → Prop) (head : Nat) (lv : LV) (m N : Nat) (K : Ex → List EV → Heap → Prop) : Nat → List EV → Heap → Prop
  | 0, _, _ => False
  | n + 1, vs, H => loopStep step head lv m N (loopV step head lv m N K n) vs H K

def evCode (E : Env) : Code → LV → St → (Ex → St → Prop) → Prop
  | .skip, _, s, K => K .normal s
  | .region _ ops draw, _, s, K => cond draw (gd (commB E ops.toList) (evOps E ops.toList ops.toList s (K .normal))) (evOps E ops.toList ops.toList s (K .normal))
  | .seq a b, lv, s, K => evCode E a { lv with nx := live b lv } s fun ex s' => match ex with
    | .normal => evCode E b lv s' K
    | .exit id => K (.exit id) s'
    | .ret => K .ret s'
  | .cond c a b, lv, s, K => match s.opd c with
    | .bool t => br t (evCode E a lv s K) (evCode E b lv s K)
    | _ => False
  | .block id c, lv, s, K => evCode E c { lv with ex := (id, lv.nx) :: lv.ex } s fun ex s' => match ex with
    | .normal => K .normal s'
    | .exit id' => cond (Nat.beq id' id) (K .normal s') (K (.exit id') s')
    | .ret => K .ret s'
  | .loop c, lv, s, K => outK (live (.loop c) lv) s.heap.length s.tmps.length s fun vs H => match E.lp (firstRegion c) with
    | some L => gd (lv.beq L.lv && (Nat.beq s.heap.length L.m && Nat.beq s.tmps.length L.N)) (L.spec vs H fun ex vs H => K ex { tmps := expandM (maskOf lv ex) s.tmps.length 0 vs, heap := H })
    | none => ∃ n, loopV (evCode E c { lv with nx := live (.loop c) lv }) (live (.loop c) lv) lv s.heap.length s.tmps.length (fun ex vs H => K ex { tmps := expandM (maskOf lv ex) s.tmps.length 0 vs, heap := H }) n vs H
  | .exit id, _, s, K => K (.exit id) s
  | .ret, _, s, K => K .ret s
  | .scope c, lv, s, K => evCode E c lv s K
  | _, _, _, _ => False

/-- What is said of a loop is what its rounds come to. -/
def LoopOK (E : Env) (c : Code) : Prop :=
  ∀ L, E.lp (firstRegion c) = some L → ∀ vs H K, L.spec vs H K → ∃ n, loopV (evCode E c { L.lv with nx := live (.loop c) L.lv }) (live (.loop c) L.lv) L.lv L.m L.N K n vs H

def loopsOf : Code → List Code
  | .seq a b => loopsOf a ++ loopsOf b
  | .cond _ a b => loopsOf a ++ loopsOf b
  | .block _ c => loopsOf c
  | .loop c => c :: loopsOf c
  | .scope c => loopsOf c
  | _ => []

/-- Against the world in which the function began. -/
structure Inv (F : List Nat) (w0 : World) (ρ : Ren) (w : World) : Prop where
  os : w.os = w0.os
  tape : w.tape = w0.tape
  output : w.output = w0.output
  size : w0.heap.size ≤ w.heap.size
  old : ∀ b, b < w0.heap.size → w.heap[b]? = w0.heap[b]?
  own : ∀ m, m ∈ ρ.own → w0.heap.size ≤ m
  F : ρ.F = F

theorem Inv.ext {F : List Nat} {w0 : World} {ρ ρ' : Ren} {w w' : World} (h : Inv F w0 ρ w) (hX : Ext ρ w ρ' w') (hF : ρ'.F = ρ.F) : Inv F w0 ρ' w' := by
  refine ⟨hX.os.trans h.os, hX.tape.trans h.tape, hX.output.trans h.output, Nat.le_trans h.size hX.size, ?_, ?_, hF.trans h.F⟩
  · intro b hb
    refine (hX.out b (Nat.lt_of_lt_of_le hb h.size) fun hm => ?_).trans (h.old b hb)
    have := h.own b hm; omega
  · intro m hm
    rcases Nat.lt_or_ge m w0.heap.size with hlt | hge
    · refine absurd hm (hX.newOwn m (Nat.lt_of_lt_of_le hlt h.size) fun hm' => ?_)
      have := h.own m hm'; omega
    · exact hge

section sound
variable {P : Program} {E : Env}

theorem cleanL_get (keep : Nat) : ∀ (l : List EV) (j i : Nat) (v : EV), (cleanL keep j l)[i]? = some v → v = .undef ∨ l[i]? = some v
  | [], j, i, v, h => by simp [cleanL] at h
  | u :: l, j, 0, v, h => by
    simp only [cleanL, List.getElem?_cons_zero, Option.some.injEq] at h
    cases hm : Nat.testBit keep j with
    | true => right; simp [hm] at h; simp [h]
    | false => left; simp [hm] at h; exact h.symm
  | u :: l, j, i + 1, v, h => by
    simp only [cleanL, List.getElem?_cons_succ] at h ⊢
    exact cleanL_get keep l (j + 1) i v h

theorem cleanL_length (keep : Nat) : ∀ (l : List EV) (j : Nat), (cleanL keep j l).length = l.length
  | [], _ => rfl
  | _ :: l, j => by simp [cleanL, cleanL_length keep l (j + 1)]

/-- The blocks from m on are let go. -/
def Ren.trunc (ρ : Ren) (m : Nat) : Ren := { ρ with bs := ρ.bs.take m }

theorem trunc_own {ρ : Ren} {m b : Nat} (h : b ∈ (ρ.trunc m).own) : b ∈ ρ.own := by
  obtain ⟨c, r, h1, h2⟩ := own_mem h
  simp only [Ren.trunc, List.getElem?_take] at h1
  split at h1
  · exact h2 ▸ mem_own h1
  · cases h1
theorem trunc_mbs {ρ : Ren} {m b : Nat} (h : b ∈ (ρ.trunc m).mbs) : b ∈ ρ.mbs := by
  rcases List.mem_append.1 h with h | h
  · exact List.mem_append.2 (.inl h)
  · exact own_mbs (trunc_own h)
theorem trunc_get {ρ : Ren} {m b : Nat} (h : Nat.blt b m = true) : (ρ.trunc m).bs[b]? = ρ.bs[b]? := by
  have hlt : b < m := by
    have := Nat.le_of_ble_eq_true h; omega
  simp only [Ren.trunc, List.getElem?_take, hlt, if_true]

mutual
theorem Rel.trunc {ρ : Ren} {w : World} {m : Nat} : ∀ (v : EV) (x : Value), v.inB m = true → Rel ρ w v x → Rel (ρ.trunc m) w v x
  | .undef, _, _, hr => hr.elim
  | .bool _, _, _, hr => hr
  | .int _ _, _, _, hr => hr
  | .str _, _, _, hr => hr
  | .nilPtr, _, _, hr => hr
  | .ptr b p, x, h, hr => by
    simp only [Rel] at hr ⊢
    rw [trunc_get (by simpa [EV.inB] using h)]; exact hr
  | .rref v, x, h, hr => by
    simp only [Rel] at hr ⊢
    obtain ⟨b, o, y, h1, h2, h3, h4, h5⟩ := hr
    exact ⟨b, o, y, h1, Rel.trunc v y (by simpa [EV.inB] using h) h2, h3, fun hb => h4 (trunc_mbs hb), h5⟩
  | .nilSlice, _, _, hr => hr
  | .slice b off len cap e, x, h, hr => by
    simp only [Rel] at hr ⊢
    rw [trunc_get (by simpa [EV.inB] using h)]; exact hr
  | .rsI k n g, x, _, hr => by
    simp only [Rel] at hr ⊢
    obtain ⟨a, c, h1, h2, h3⟩ := hr
    refine ⟨a, c, h1, h2, h3.imp id ?_⟩
    rintro ⟨b, o, h4, h5, h6, h7⟩
    exact ⟨b, o, h4, h5, fun hb => h6 (trunc_mbs hb), h7⟩
  | .nilFunc, _, _, hr => hr
  | .func f cap, x, h, hr => by
    simp only [Rel] at hr ⊢
    obtain ⟨vs, h1, h2⟩ := hr
    exact ⟨vs, h1, RelL.trunc cap _ (by simpa [EV.inB] using h) h2⟩
  | .agg l, x, h, hr => by
    simp only [Rel] at hr ⊢
    obtain ⟨cs, h1, h2⟩ := hr
    exact ⟨cs, h1, RelF.trunc l _ (by simpa [EV.inB] using h) h2⟩
  | .arr _ _ _, _, _, hr => hr
  | .tuple l, x, h, hr => by
    simp only [Rel] at hr ⊢
    obtain ⟨vs, h1, h2⟩ := hr
    exact ⟨vs, h1, RelL.trunc l _ (by simpa [EV.inB] using h) h2⟩
  | .nilIface, _, _, hr => hr
  | .iface t v, x, h, hr => by
    simp only [Rel] at hr ⊢
    obtain ⟨y, h1, h2⟩ := hr
    exact ⟨y, h1, Rel.trunc v y (by simpa [EV.inB] using h) h2⟩
theorem RelL.trunc {ρ : Ren} {w : World} {m : Nat} : ∀ (l : List EV) (xs : List Value), EV.inL m l = true → RelL ρ w l xs → RelL (ρ.trunc m) w l xs
  | [], _, _, hr => hr
  | v :: l, xs, h, hr => by
    simp only [EV.inL, Bool.and_eq_true] at h
    simp only [RelL] at hr ⊢
    obtain ⟨x, ys, h1, h2, h3⟩ := hr
    exact ⟨x, ys, h1, Rel.trunc v x h.1 h2, RelL.trunc l ys h.2 h3⟩
theorem RelF.trunc {ρ : Ren} {w : World} {m : Nat} : ∀ (l : List EV) (xs : List Value), EV.inL m l = true → RelF ρ w l xs → RelF (ρ.trunc m) w l xs
  | [], _, _, hr => hr
  | v :: l, xs, h, hr => by
    simp only [EV.inL, Bool.and_eq_true] at h
    simp only [RelF] at hr ⊢
    obtain ⟨x, ys, h1, h2, h3⟩ := hr
    exact ⟨x, ys, h1, Rel.trunc v x h.1 h2, RelF.trunc l ys h.2 h3⟩
end

theorem belowL_mem {m : Nat} : ∀ {l : List EV}, EV.inL m l = true → ∀ v ∈ l, v.inB m = true
  | v :: l, h, u, hu => by
    simp only [EV.inL, Bool.and_eq_true] at h
    rcases List.mem_cons.1 hu with rfl | hu
    · exact h.1
    · exact belowL_mem h.2 u hu
theorem belowH_mem {m : Nat} : ∀ {H : Heap}, belowH m H = true → ∀ (b : Nat) v, H[b]? = some (some v) → v.inB m = true
  | none :: H, h, b, v, hb => by
    cases b with
    | zero => simp at hb
    | succ b => exact belowH_mem (by simpa [belowH] using h) b v (by simpa using hb)
  | some u :: H, h, b, v, hb => by
    simp only [belowH, Bool.and_eq_true] at h
    cases b with
    | zero => simp at hb; subst hb; exact h.1
    | succ b => exact belowH_mem h.2 b v (by simpa using hb)
  | [], h, b, v, hb => by simp at hb

theorem outK_sound {F : List Nat} {w0 : World} {ρ : Ren} {w : World} {s : St} {a : Array Value} {keep m N : Nat} {K : List EV → Heap → Prop} (hT : RelT ρ w s.tmps a) (hS : Sim ρ s.heap w) (hI : Inv F w0 ρ w)
    (h : outK keep m N s K) : ∃ vs H ρ', K vs H ∧ RelT ρ' w (expandM keep N 0 vs) a ∧ Sim ρ' H w ∧ Inv F w0 ρ' w := by
  unfold outK at h
  rw [gd_iff, Bool.and_eq_true, Bool.and_eq_true] at h
  obtain ⟨⟨h0, h1, h2⟩, hK⟩ := h
  have hN := Nat.eq_of_beq_eq_true h0
  refine ⟨_, _, ρ.trunc m, hK, ?_, ?_, ?_⟩
  · rw [← hN, expand_pick]
    refine ⟨by rw [cleanL_length]; exact hT.1, fun i v hv => ?_⟩
    rcases cleanL_get keep s.tmps 0 i v hv with h' | h'
    · exact .inl h'
    · by_cases hu : v = .undef
      · exact .inl hu
      · have hb : v.inB m = true := by
          have hmem : ∀ (l : List EV) (j i : Nat), (cleanL keep j l)[i]? = some v → v ∈ pickM keep j l := by
            intro l
            induction l with
            | nil => intro j i h; simp [cleanL] at h
            | cons u l ih =>
              intro j i h
              simp only [cleanL, pickM] at h ⊢
              cases i with
              | zero =>
                cases ht : Nat.testBit keep j with
                | true => simp [ht] at h; subst h; simp
                | false => simp [ht] at h; exact absurd h.symm hu
              | succ i =>
                have := ih (j + 1) i (by simpa using h)
                cases Nat.testBit keep j <;> simp [this]
          exact belowL_mem h1 v (hmem s.tmps 0 i hv)
        exact (hT.2 i v h').imp id fun ⟨x, hx, hr⟩ => ⟨x, hx, Rel.trunc v x hb hr⟩
  · have hg : ∀ (b : Nat) r, (ρ.trunc m).bs[b]? = some r → ρ.bs[b]? = some r := by
      intro b r hb
      simp only [Ren.trunc, List.getElem?_take] at hb
      split at hb
      · exact hb
      · cases hb
    refine ⟨by simp [Ren.trunc, hS.len], hS.fl, fun b r hb => hS.lt b r (hg b _ hb), fun b r hb => hS.sep b r (hg b _ hb), fun b c r q hb hc => hS.nodup b c r q (hg b _ hb) (hg c _ hc), ?_⟩
    intro b v hb
    have hbel := belowH_mem h2 b v hb
    simp only [List.getElem?_take] at hb
    split at hb
    · rename_i hlt
      obtain ⟨r, k1, k2, cs, e, fz, x, k3, k4, k5, k6, k7⟩ := hS.live b v hb
      exact ⟨r, by simp only [Ren.trunc, List.getElem?_take, hlt, if_true]; exact k1, k2, cs, e, fz, x, k3, k4, Rel.trunc v x hbel k5, k6, k7⟩
    · cases hb
  · exact ⟨hI.os, hI.tape, hI.output, hI.size, hI.old, fun b hb => hI.own b (trunc_own hb), hI.F⟩

theorem evCode_sound {F : List Nat} {w0 : World} (hE : ∀ t ti, E.ty t = some ti → OkTI P t ti) (hFn : OkFn P E) (hD : DetFn E) (hm : P.follows .mixedOrders = true) :
    ∀ (c : Code) (hL : ∀ c', c' ∈ loopsOf c → LoopOK E c') (lv : LV) (ρ : Ren) (w : World) (s : St) (a : Act) (K : Ex → St → Prop) (Q : Exit → Act → World → Prop), RelT ρ w s.tmps a.tmps → Sim ρ s.heap w → Inv F w0 ρ w → evCode E c lv s K →
      (∀ ex s' ρ' w' a', K ex s' → RelT ρ' w' s'.tmps a'.tmps → Sim ρ' s'.heap w' → Inv F w0 ρ' w' → a'.defers = a.defers → Q ex.out a' w') → c.wp P Q a w := by
  intro c
  induction c with
  | skip => intro hL lv ρ w s a K Q hT hS hI h hn; exact wp_skip (hn .normal s ρ w a h hT hS hI rfl)
  | region id ops draw =>
    intro hL lv ρ w s a K Q hT hS hI h hn
    simp only [evCode] at h
    cases draw with
    | true =>
      simp only [cond_true, gd_iff] at h
      exact evDraw_sound hE hFn hD hm h.1 id ρ w s a _ hT hS h.2 fun s' ρ' w' a' hK hT' hD hS' hX hF => hn .normal s' ρ' w' a' hK hT' hS' (hI.ext hX hF) hD
    | false =>
      simp only [cond_false] at h
      refine wp_region ?_
      have := evOps_sound (Q := Q) hE hFn ops.toList 0 rfl ρ w s a _ hT hS h fun s' ρ' w' a' hK hT' hD hS' hX hF => hn .normal s' ρ' w' a' hK hT' hS' (hI.ext hX hF) hD
      rw [List.range_eq_range', ← Array.length_toList]
      exact this
  | seq x y ihx ihy =>
    intro hL lv ρ w s a K Q hT hS hI h hn
    simp only [evCode] at h
    refine wp_seq (ihx (fun c' hc => hL c' (List.mem_append.2 (.inl hc))) _ ρ w s a _ _ hT hS hI h ?_)
    intro ex s' ρ' w' a' hK hT' hS' hI' hD
    cases ex with
    | normal => exact ihy (fun c' hc => hL c' (List.mem_append.2 (.inr hc))) _ ρ' w' s' a' K Q hT' hS' hI' hK fun ex s'' ρ'' w'' a'' hK' hT'' hS'' hI'' hD' => hn ex s'' ρ'' w'' a'' hK' hT'' hS'' hI'' (hD'.trans hD)
    | exit id => exact hn (.exit id) s' ρ' w' a' hK hT' hS' hI' hD
    | ret => exact hn .ret s' ρ' w' a' hK hT' hS' hI' hD
  | cond c x y ihx ihy =>
    intro hL lv ρ w s a K Q hT hS hI h hn
    simp only [evCode] at h
    split at h
    · rename_i t ht
      have hc := opd_ok hT ht (by simp)
      simp only [Rel] at hc
      rw [br_iff] at h
      cases t with
      | true => exact wp_cond_true hc (ihx (fun c' hc => hL c' (List.mem_append.2 (.inl hc))) _ ρ w s a K Q hT hS hI (h.1 rfl) hn)
      | false => exact wp_cond_false hc (ihy (fun c' hc => hL c' (List.mem_append.2 (.inr hc))) _ ρ w s a K Q hT hS hI (h.2 rfl) hn)
    · exact h.elim
  | block id c ih =>
    intro hL lv ρ w s a K Q hT hS hI h hn
    simp only [evCode] at h
    refine wp_block (ih hL _ ρ w s a _ _ hT hS hI h ?_)
    intro ex s' ρ' w' a' hK hT' hS' hI' hD
    cases ex with
    | normal => exact hn .normal s' ρ' w' a' hK hT' hS' hI' hD
    | exit id' =>
      simp only [Ex.out, Exit.inBlock]
      simp only at hK
      rw [cd_iff] at hK
      by_cases hid : id' = id
      · rw [if_pos hid]
        exact hn .normal s' ρ' w' a' (hK.1 (by rw [hid]; exact Nat.beq_refl id)) hT' hS' hI' hD
      · rw [if_neg hid]
        refine hn (.exit id') s' ρ' w' a' (hK.2 ?_) hT' hS' hI' hD
        cases hb : Nat.beq id' id with
        | false => rfl
        | true => exact absurd (Nat.eq_of_beq_eq_true hb) hid
    | ret => exact hn .ret s' ρ' w' a' hK hT' hS' hI' hD
  | loop c ih =>
    intro hL lv ρ w s a K Q hT hS hI h hn
    simp only [evCode] at h
    have ih' := ih fun c' hc => hL c' (List.mem_cons_of_mem _ hc)
    obtain ⟨vs, H, ρ1, h, hT1, hS1, hI1⟩ := outK_sound hT hS hI h
    have hex : ∃ n, loopV (evCode E c { lv with nx := live (.loop c) lv }) (live (.loop c) lv) lv s.heap.length s.tmps.length (fun ex vs H => K ex { tmps := expandM (maskOf lv ex) s.tmps.length 0 vs, heap := H }) n vs H := by
      split at h
      · rename_i L hl
        rw [gd_iff, Bool.and_eq_true, Bool.and_eq_true] at h
        obtain ⟨⟨g1, g2, g3⟩, h⟩ := h
        have e1 := LV.eq_of_beq g1
        have e2 := Nat.eq_of_beq_eq_true g2
        have e3 := Nat.eq_of_beq_eq_true g3
        rw [e1, e3] at h
        have := hL c List.mem_cons_self L hl _ _ _ h
        rw [e1, e2, e3]
        exact this
      · exact h
    clear h
    obtain ⟨n, h⟩ := hex
    refine wp_loop_rounds n ?_
    generalize s.heap.length = m at h
    generalize s.tmps.length = N at h hT1
    generalize live (.loop c) lv = head at h hT1
    clear hT hS hI
    induction n generalizing ρ1 w vs H a with
    | zero => exact h.elim
    | succ n ihn =>
      simp only [loopV, loopStep] at h
      rw [rounds_succ]
      refine ih' _ ρ1 w _ a _ _ hT1 hS1 hI1 h ?_
      intro ex s' ρ' w' a' hK hT' hS' hI' hD
      cases ex with
      | normal =>
        obtain ⟨vs2, H2, ρ2, hK2, hT2, hS2, hI2⟩ := outK_sound hT' hS' hI' hK
        exact ihn w' a' (fun ex s'' ρ'' w'' a'' hK' hT'' hS'' hI'' hD' => hn ex s'' ρ'' w'' a'' hK' hT'' hS'' hI'' (hD'.trans hD)) vs2 H2 ρ2 hS2 hI2 hK2 hT2
      | exit id =>
        obtain ⟨vs2, H2, ρ2, hK2, hT2, hS2, hI2⟩ := outK_sound hT' hS' hI' hK
        exact hn (.exit id) _ ρ2 w' a' hK2 hT2 hS2 hI2 hD
      | ret =>
        obtain ⟨vs2, H2, ρ2, hK2, hT2, hS2, hI2⟩ := outK_sound hT' hS' hI' hK
        exact hn .ret _ ρ2 w' a' hK2 hT2 hS2 hI2 hD
  | exit id => intro hL lv ρ w s a K Q hT hS hI h hn; exact wp_exit (hn (.exit id) s ρ w a h hT hS hI rfl)
  | ret => intro hL lv ρ w s a K Q hT hS hI h hn; exact wp_ret (hn .ret s ρ w a h hT hS hI rfl)
  | scope c ih =>
    intro hL lv ρ w s a K Q hT hS hI h hn
    simp only [evCode] at h
    refine wp_scope_straight (ih hL _ ρ w s a K _ hT hS hI h ?_)
    intro ex s' ρ' w' a' hK hT' hS' hI' hD
    cases ex <;> exact hn _ s' ρ' w' a' hK hT' hS' hI' hD
  | rangeFunc f ps x y _ _ => intro hL lv ρ w s a K Q hT hS hI h hn; exact h.elim
  | label l => intro hL lv ρ w s a K Q hT hS hI h hn; exact h.elim
  | goto l => intro hL lv ρ w s a K Q hT hS hI h hn; exact h.elim
  | refuse l => intro hL lv ρ w s a K Q hT hS hI h hn; exact h.elim
end sound

/-- The kind of a slice type's elements. -/
def roTy (E : Env) (t : TypeId) : Option IntKind :=
  match E.ty t with
  | some ti => match ti.td with
    | .slice e => match E.ty e with
      | some ei => match ei.td with
        | .int k => some k
        | _ => none
      | none => none
    | _ => none
  | none => none

def evResults (E : Env) : List ResultVar → List TypeId → St → (List EV → Prop) → Prop
  | [], _, s, K => K []
  | .tmp t :: rs, ts, s, K => gd ((s.slot t).dfd && (roArg s.heap (roTy E (ts.headD 0)) (s.slot t)).free) (evResults E rs ts.tail s fun vs => K (roArg s.heap (roTy E (ts.headD 0)) (s.slot t) :: vs))
  | .cell a t :: rs, ts, s, K => gd (s.slot a).dfd (evLoad E t (s.slot a) s.heap fun v => gd (roArg s.heap (roTy E (ts.headD 0)) v).free (evResults E rs ts.tail s fun vs => K (roArg s.heap (roTy E (ts.headD 0)) v :: vs)))

def rtMask : List ResultVar → Nat
  | [] => 0
  | .tmp t :: l => Nat.lor (Nat.shiftLeft 1 t) (rtMask l)
  | .cell a _ :: l => Nat.lor (Nat.shiftLeft 1 a) (rtMask l)

def evFn (E : Env) (fn : Func) (args : List EV) (K : EV → Prop) : Prop :=
  match fn.body with
  | some c => evCode E c { nx := rtMask fn.results.toList, ex := [], rt := rtMask fn.results.toList } { tmps := args ++ List.replicate (fn.ntmps - args.length) .undef, heap := [] } fun ex s => match ex with
    | .exit _ => False
    | _ => evResults E fn.results.toList fn.resultTypes.toList s fun vs => match vs with
      | [v] => K v
      | vs => K (.tuple vs)
  | none => False

def resOf (tmps : Array Value) : ResultVar → Sem Value
  | .tmp t => pure (tmps.getD t undef)
  | .cell a t => do loadVar t (← asAddr (tmps.getD a undef))

section sound
variable {P : Program} {E : Env}

theorem sep_own {ρ : Ren} {H : Heap} {w : World} (hS : Sim ρ H w) : ∀ b, b ∈ ρ.F → b ∈ ρ.mbs := fun b hb => List.mem_append.2 (.inl hb)

theorem evResults_sound {ρ : Ren} {w : World} {s : St} {tmps : Array Value} (hE : ∀ t ti, E.ty t = some ti → OkTI P t ti) (hT : RelT ρ w s.tmps tmps) (hS : Sim ρ s.heap w) :
    ∀ (rs : List ResultVar) (ts : List TypeId) (K : List EV → Prop), evResults E rs ts s K →
      ∃ vs xs, K vs ∧ RelL ⟨ρ.F, []⟩ w vs xs ∧ (rs.mapM (resOf tmps)).run P w = .ok xs w
  | [], ts, K, h => ⟨[], [], h, rfl, rfl⟩
  | .tmp t :: rs, ts, K, h => by
    simp only [evResults] at h
    rw [gd_iff, Bool.and_eq_true] at h
    obtain ⟨⟨h1, h2⟩, h⟩ := h
    obtain ⟨vs, xs, k1, k2, k3⟩ := evResults_sound hE hT hS rs ts.tail _ h
    have hr : Rel ρ w (s.slot t) (tmps.getD t undef) := opd_ok (a := { tmps, defers := [] }) hT (x := .tmp t) rfl (dfd_ne h1)
    refine ⟨_, tmps.getD t undef :: xs, k1, ?_, ?_⟩
    · simp only [RelL]
      refine ⟨_, _, rfl, roArg_rel hS (sep_own hS) ?_ h2 hr, k2⟩
      intro b off len cap e _ r hr' hin
      exact hS.sep b r hr' hin
    · rw [List.mapM_cons, run_bind]
      simp only [resOf, run_pure]
      rw [run_bind, k3]
      rfl
  | .cell a t :: rs, ts, K, h => by
    simp only [evResults] at h
    rw [gd_iff] at h
    obtain ⟨h1, h⟩ := h
    have hr : Rel ρ w (s.slot a) (tmps.getD a undef) := opd_ok (a := { tmps, defers := [] }) hT (x := .tmp a) rfl (dfd_ne h1)
    obtain ⟨u, y, g1, g2, g3⟩ := evLoad_sound hE hS hr h
    rw [gd_iff] at g1
    obtain ⟨g0, g1⟩ := g1
    obtain ⟨vs, xs, k1, k2, k3⟩ := evResults_sound hE hT hS rs ts.tail _ g1
    refine ⟨_, y :: xs, k1, ?_, ?_⟩
    · simp only [RelL]
      refine ⟨_, _, rfl, roArg_rel hS (sep_own hS) ?_ g0 g2, k2⟩
      intro b off len cap e _ r hr' hin
      exact hS.sep b r hr' hin
    · rw [List.mapM_cons, run_bind]
      have : (resOf tmps (.cell a t)).run P w = .ok y w := by
        simp only [resOf]
        revert g3
        cases tmps.getD a undef <;> intro g3 <;> try (simp [Instr.loadAt, Instr.sureAddr, run_bind, stuck, Sem.run] at g3; done)
        rename_i aa
        cases aa with
        | none => simp [Instr.loadAt, Instr.sureAddr, run_bind, stuck, Sem.run] at g3
        | some aa => exact g3
      rw [this]
      simp only
      rw [run_bind, k3]
      rfl

theorem evFn_sound {f : FuncId} {fn : Func} (hE : ∀ t ti, E.ty t = some ti → OkTI P t ti) (hFn : OkFn P E) (hD : DetFn E) (hm : P.follows .mixedOrders = true) (hf : P.funcs[f]? = some fn)
    (hL : ∀ c, fn.body = some c → ∀ c', c' ∈ loopsOf c → LoopOK E c')
    {F : List Nat} {w : World} {args : List EV} {xs : List Value} {K : EV → Prop} (h : evFn E fn args K) (hr : RelL ⟨F, []⟩ w args xs) (hF : ∀ b, b ∈ F → b < w.heap.size) :
    Calls P f xs.toArray w fun e w' => ∃ v x, e = .returned x ∧ K v ∧ Rel ⟨F, []⟩ w' v x ∧ Ext ⟨F, []⟩ w ⟨F, []⟩ w' := by
  unfold evFn at h
  split at h
  · rename_i c hc
    refine calls_of_wp hf hc ?_
    have hlen : ∀ (l : List EV) (ys : List Value), RelL ⟨F, []⟩ w l ys → l.length = ys.length := by
      intro l
      induction l with
      | nil => intro ys h; simp only [RelL] at h; subst h; rfl
      | cons v l ih =>
        intro ys h
        simp only [RelL] at h
        obtain ⟨y, zs, rfl, _, h2⟩ := h
        simp [ih zs h2]
    have hget : ∀ (l : List EV) (ys : List Value) (i : Nat) (v : EV), RelL ⟨F, []⟩ w l ys → l[i]? = some v → ∃ y, ys[i]? = some y ∧ Rel ⟨F, []⟩ w v y := by
      intro l
      induction l with
      | nil => intro ys i v _ h; simp at h
      | cons u l ih =>
        intro ys i v hr hv
        simp only [RelL] at hr
        obtain ⟨y, zs, rfl, h1, h2⟩ := hr
        cases i with
        | zero => simp at hv; subst hv; exact ⟨y, rfl, h1⟩
        | succ i => simp at hv; simpa using ih zs i v h2 hv
    have hl := hlen args xs hr
    have hT : RelT ⟨F, []⟩ w (args ++ List.replicate (fn.ntmps - args.length) .undef) (xs.toArray ++ Array.replicate (fn.ntmps - xs.toArray.size) undef) := by
      refine ⟨by simp [hl], fun i v hv => ?_⟩
      rw [List.getElem?_append] at hv
      split at hv
      · rename_i hi
        obtain ⟨y, hy, hv'⟩ := hget args xs i v hr hv
        refine .inr ⟨y, ?_, hv'⟩
        rw [Array.getElem?_append_left (by simp; omega)]
        simpa using hy
      · left
        have := List.mem_of_getElem? hv
        exact (List.eq_of_mem_replicate this)
    have hS : Sim ⟨F, []⟩ [] w := ⟨rfl, hF, by intro b r h; simp at h, by intro b r h; simp at h, by intro b c r s h; simp at h, by intro b v h; simp at h⟩
    have hI : Inv F w ⟨F, []⟩ w := ⟨rfl, rfl, rfl, Nat.le_refl _, fun _ _ => rfl, by intro m h; simp [Ren.own] at h, rfl⟩
    refine evCode_sound hE hFn hD hm c (hL c hc) _ ⟨F, []⟩ w _ _ _ _ hT hS hI h ?_
    intro ex s' ρ' w' a' hK hT' hS' hI' hD
    have key : (evResults E fn.results.toList fn.resultTypes.toList s' fun vs => match vs with | [v] => K v | vs => K (.tuple vs)) →
        ∃ x, (results fn a'.tmps).run P w' = .ok x w' ∧ ∃ v, K v ∧ Rel ⟨F, []⟩ w' v x ∧ Ext ⟨F, []⟩ w ⟨F, []⟩ w' := by
      intro hK
      obtain ⟨vs, ys, k1, k2, k3⟩ := evResults_sound hE hT' hS' _ _ _ hK
      rw [hI'.F] at k2
      have hX : Ext ⟨F, []⟩ w ⟨F, []⟩ w' := by
        refine ⟨hI'.os, hI'.tape, hI'.output, hI'.size, fun b hb _ => hI'.old b hb, fun _ _ h => h, fun _ _ h => h, fun _ _ h => .inl h, ?_⟩
        intro b cs e fz hb
        have hlt : b < w.heap.size := by
          rcases Nat.lt_or_ge b w.heap.size with hh | hh
          · exact hh
          · rw [Array.getElem?_eq_none hh] at hb; cases hb
        exact ⟨cs, e, fz, (hI'.old b hlt).trans hb, rfl⟩
      have hres : (results fn a'.tmps).run P w' = .ok (if h : ys.length = 1 then ys[0] else .tuple ys.toArray) w' := by
        have h0 : results fn a'.tmps = (do
            let vs ← fn.results.mapM (resOf a'.tmps)
            pure (if h : vs.size = 1 then vs[0] else .tuple vs)) := rfl
        rw [h0, run_bind]
        have : (fn.results.mapM (resOf a'.tmps)).run P w' = .ok ys.toArray w' := by
          rw [show fn.results = fn.results.toList.toArray from by simp, List.mapM_toArray]
          rw [show (List.toArray <$> List.mapM (resOf a'.tmps) fn.results.toList) = (List.mapM (resOf a'.tmps) fn.results.toList >>= fun a => pure a.toArray) from rfl, run_bind, k3]
          rfl
        rw [this]
        simp only [run_pure]
        congr 1
      refine ⟨_, hres, ?_⟩
      match vs, ys, k1, k2 with
      | [v], ys, k1, k2 =>
        simp only [RelL] at k2
        obtain ⟨y, zs, rfl, h1, rfl⟩ := k2
        exact ⟨v, k1, h1, hX⟩
      | [], ys, k1, k2 =>
        simp only [RelL] at k2; subst k2
        exact ⟨.tuple [], k1, ⟨#[], rfl, rfl⟩, hX⟩
      | v :: u :: vs, ys, k1, k2 =>
        have hne : ¬ ys.length = 1 := by
          simp only [RelL] at k2
          obtain ⟨y, zs, rfl, h1, y', zs', rfl, _⟩ := k2
          simp
        rw [dif_neg hne]
        exact ⟨.tuple (v :: u :: vs), k1, ⟨ys.toArray, rfl, by simpa using k2⟩, hX⟩
    cases ex with
    | exit id => exact hK.elim
    | normal =>
      obtain ⟨x, h1, v, h2, h3, h4⟩ := key hK
      exact ⟨hD, x, h1, v, x, rfl, h2, h3, h4⟩
    | ret =>
      obtain ⟨x, h1, v, h2, h3, h4⟩ := key hK
      exact ⟨hD, x, h1, v, x, rfl, h2, h3, h4⟩
  · exact h.elim
end sound
end Go.Ev
