/- Exact numbers: which may be; made, told. -/
import Derived.Test.YtnomdgcpklbcfaaGreatDoorLA
import Derived.Test.YtnomdgcpklbcfaaGreatDoorDA
set_option linter.unusedVariables false
set_option linter.unusedSimpArgs false
set_option maxRecDepth 8000
namespace Go.Ev.S
open Go Go.Ev
def fit (x : Nat) : Prop := (nb x).length ≤ 16384
instance (x : Nat) : Decidable (fit x) := by unfold fit; infer_instance
theorem yht (K : List UInt8 → Int → Prop) (x : Nat) : yoW K x = if fit x then K (nb x) 0 else K [] 4 := by
 unfold yoW
 by_cases h : 16384 < (nb x).length
 ·rw [if_pos h, if_neg (show ¬ fit x from Nat.not_le.2 h)]
 ·rw [if_neg h, if_pos (show fit x from Nat.not_lt.1 h)]
theorem ybS {K : List UInt8 → Int → Prop} {x : Nat} (h1 : fit x → K (nb x) 0) (h2 : ¬ fit x → K [] 4) : yoW K x := by
 rw [yht]; split
 ·exact h1 ‹_›
 ·exact h2 ‹_›
theorem ybl {x : Nat} (h : fit x) : May (nb x) := ⟨h, yma x⟩
theorem yft {a : List UInt8} (h : May a) : nb (val a) = a := yi9 h.2
theorem yjh {a : List UInt8} (h : May a) : fit (val a) := by unfold fit; rw [yft h]; exact h.1
theorem ytL (x N : Nat) (h : N = 16384) : fit x ↔ x < 256 ^ N := by subst h; exact ya7 x _
theorem ydI {x y : Nat} (h : fit y) (hl : x ≤ y) : fit x := (ya7 x 16384).2 (Nat.lt_of_le_of_lt hl ((ya7 y 16384).1 h))
theorem yh4 : May [] := ⟨by decide, rfl⟩
theorem yls {a : List UInt8} (h : May a) : val a ≠ 0 ↔ a ≠ [] := by
 constructor
 ·rintro h1 rfl; exact h1 yfZ
 ·intro h1 h2
  have := yft h
  rw [h2, yaJ] at this
  exact h1 this.symm
theorem yne (x : Nat) : fit x ↔ yaw x ≤ 131072 := yjE x
theorem ylE {a b : List UInt8} (ha : May a) (hb : May b) (h0 : val a ≠ 0) (h1 : val b ≠ 0) (h : 16385 < a.length + b.length) : ¬ fit (val a * val b) := by
 intro hf
 obtain ⟨N, hN⟩ : ∃ N, N = 16384 := ⟨_, rfl⟩
 have hf := (ytL _ N hN).1 hf
 have ea : ¬ val a < 256 ^ (a.length - 1) := by
  rw [← ya7, yft ha]
  have := yi3 h0
  rw [yft ha] at this; omega
 have eb : ¬ val b < 256 ^ (b.length - 1) := by
  rw [← ya7, yft hb]
  have := yi3 h1
  rw [yft hb] at this; omega
 have h2 : 256 ^ (a.length - 1) * 256 ^ (b.length - 1) ≤ val a * val b := Nat.mul_le_mul (by omega) (by omega)
 rw [← Nat.pow_add] at h2
 have hla := ha.1
 have hlb := hb.1
 have h3 : 256 ^ N ≤ 256 ^ (a.length - 1 + (b.length - 1)) := Nat.pow_le_pow_right (by omega) (by omega)
 omega
theorem ypn {a b : List UInt8} (ha : May a) (hb : May b) {K : List UInt8 → Int → Prop} (h : yoW K (val a * val b)) : zbn a b K := by
 refine yn7 a b K (fun hn => absurd ⟨ha, hb⟩ hn) ?_ (fun _ _ _ => h)
 intro _ _ hl h0 h1
 rw [yht, if_neg (ylE ha hb h0 h1 hl)] at h
 exact h
theorem yjU {x n : Nat} (h : x ≠ 0) : fit (x * 2 ^ n) ↔ yaw x + n ≤ 131072 := by
 rw [yne, ygY x n h]
theorem yja {a : List UInt8} (n : Int) (h0 : 0 ≤ n) (hn : n < 9223372036854775808) (ha : May a) {K : List UInt8 → Int → Prop} (h : yoW K (val a * 2 ^ n.toNat)) : zbk a n K := by
 refine ymB a n hn K (fun hh => absurd ha hh) (fun _ hh => by omega) ?_ ?_ ?_
 ·rintro _ _ rfl
  rw [yfZ, Nat.zero_mul, yht, yaJ, if_pos (by unfold fit; rw [yaJ]; decide)] at h
  exact h
 ·intro _ _ h1 h2
  rw [yht, if_neg (by rw [yjU ((yls ha).2 h1)]; omega)] at h
  exact h
 ·intro _ _ h1 h2
  rw [yht, if_pos (by rw [yjU ((yls ha).2 h1)]; omega)] at h
  exact h
theorem yh3 {a : List UInt8} (n : Nat) (hn : (n : Int) < 9223372036854775808) (ha : May a) (hne : a ≠ []) {K : List UInt8 → Bool → Int → Prop} (h : K (nb (val a / 2 ^ n)) (decide (ybm (val a) < n)) 0) : zbp a n K := by
 refine ykt a n hn K (fun hh => absurd ha hh) (fun _ hh => by omega) (fun _ _ hh => absurd hh hne) ?_
 intro _ _ _
 rw [show decide ((ybm (val a) : Int) < (n : Int)) = decide (ybm (val a) < n) from by rw [decide_eq_decide]; omega]
 exact h
theorem ynx {a : List UInt8} (ha : May a) (h : val a ≠ 0) : ybm (val a) < 131072 := by
 have h1 := yfX _ _ h (ybZ a)
 have := ha.1; omega
theorem ymZ (a : List UInt8) (h : a ≠ []) : eqI (ycp .u8 (ybj a (a.length - 1)) 1) 1 = decide (val a % 2 = 1) := by
 have hl : 0 < a.length := List.length_pos_iff.2 h
 have := yfd a 0 hl
 rw [Nat.sub_zero] at this
 rw [this]
 unfold dg
 rw [Nat.mul_zero, Nat.pow_zero, Nat.div_one]
 have hb : val a % 2 ^ 8 < 256 := Nat.mod_lt _ (by decide)
 have e : val a % 2 = (val a % 2 ^ 8) % 2 := by rw [show (2 : Nat) ^ 8 = 256 from rfl]; omega
 rw [e]
 generalize val a % 2 ^ 8 = v at hb
 revert v
 decide
theorem ygy (a : List UInt8) (K : Bool → Prop) (hl : a.length < 9223372036854775808) (h : K (decide (val a % 2 = 1))) : zap a K := by
 rw [zap.is]; unfold zap.d
 rw [ybi]
 by_cases h0 : a = []
 ·subst h0
  rw [yau (by rfl)]; exact h
 ·have hp : 0 < a.length := List.length_pos_iff.2 h0
  rw [yaA (by simp [h0]), yat (by omega) (by omega), ybb (by omega), ya9 (by omega), yby (by rfl), show Int.toNat ((a.length : Int) - 1) = a.length - 1 from by omega, ymZ a h0]
  exact h
theorem yiP (a : List UInt8) (K : Bool → Prop) (hl : a.length < 9223372036854775808) (h : K (decide (val a % 2 = 1))) : zda a K := by
 rw [zda.is]; unfold zda.d
 rw [ybi]
 by_cases h0 : a = []
 ·subst h0
  rw [yau (by rfl)]; exact h
 ·have hp : 0 < a.length := List.length_pos_iff.2 h0
  rw [yaA (by simp [h0]), yat (by omega) (by omega), ybb (by omega), ya9 (by omega), yby (by rfl), show Int.toNat ((a.length : Int) - 1) = a.length - 1 from by omega, ymZ a h0]
  exact h
def win (e : Int) : Prop := -1048576 ≤ e ∧ e ≤ 1048576
instance (e : Int) : Decidable (win e) := by unfold win; infer_instance
theorem ycK (e : Int) (K : Bool → Prop) (h : K (decide (win e))) : zas e K := by
 rw [zas.is]; unfold zas.d
 by_cases h1 : -1048576 ≤ e
 ·rw [yaA (ybb h1)]
  refine cast (congrArg K ?_) h
  unfold leI
  rw [decide_eq_decide]; unfold win; omega
 ·rw [yau (yff (by omega))]
  refine cast (congrArg K ?_) h
  rw [decide_eq_false_iff_not]; unfold win; omega
theorem ytF {e : Int} {p q : Prop} (h1 : ¬ win e → p) (h2 : win e → q) : br (ltI e (-1048576)) p (br (ltI 1048576 e) p q) := by
 by_cases c1 : e < -1048576
 ·rw [yaA (ya9 c1)]; exact h1 (by unfold win; omega)
 ·rw [yau (ybq (by omega))]
  by_cases c2 : 1048576 < e
  ·rw [yaA (ya9 c2)]; exact h1 (by unfold win; omega)
  ·rw [yau (ybq (by omega))]; exact h2 (by unfold win; omega)
structure MayE (n : Bool) (a b : List UInt8) (e : Int) : Prop where
 ma : May a
 mb : May b
 ob : val b % 2 = 1
 we : win e
 z : a = [] → n = false ∧ b = [1] ∧ e = 0
 r : a ≠ [] → val a % 2 = 1 ∧ Nat.gcd (val a) (val b) = 1
theorem ycO : nb 1 = [1] := by rw [ydL (by decide), yaJ]; decide
theorem yjt (g : Nat) : eqS (nb g) [1] = decide (g = 1) := by
 rw [yjB, decide_eq_decide, ← ycO]
 exact ⟨fun h => ytb h, fun h => by rw [h]⟩
noncomputable instance (n : Bool) (a b : List UInt8) (e : Int) : Decidable (MayE n a b e) := Classical.propDecidable _
theorem yfq (K : Bool → List UInt8 → List UInt8 → Int → Prop) : zao K = K false [] [1] 0 := by rw [zao.is]; rfl
theorem ylM (K : Bool → List UInt8 → List UInt8 → Int → Prop) : zcz K = K false [] [1] 0 := by rw [zcz.is]; rfl
theorem ypT (n : Bool) (b : List UInt8) (e : Int) : (ybf n false && (eqS [] [] && (eqS b [1] && eqI e 0))) = decide (n = false ∧ b = [1] ∧ e = 0) := by
 rw [yjB, yjB]
 cases n
 ·by_cases h1 : b = [1]
  ·by_cases h2 : e = 0
   ·simp [h1, h2, ybf, eqI]
   ·simp [h1, h2, ybf, eqI]
  ·simp [h1, ybf]
 ·simp [ybf]
theorem yaY (n : Bool) (a b : List UInt8) (e : Int) (K : Int → Prop) (h1 : MayE n a b e → K 0) (h2 : ¬ MayE n a b e → K 2) : zae n a b e K := by
 rw [zae.is]; unfold zae.d
 rw [ya0]
 by_cases ma : May a
 rotate_left
 ·rw [if_neg ma]; exact h2 fun h => ma h.ma
 rw [if_pos ma, yau (by rfl), ya0]
 by_cases mb : May b
 rotate_left
 ·rw [if_neg mb]; exact h2 fun h => mb h.mb
 rw [if_pos mb, yau (by rfl)]
 have la := ma.1
 have lb := mb.1
 refine ygy b _ (by omega) ?_
 by_cases ob : val b % 2 = 1
 rotate_left
 ·rw [show decide (val b % 2 = 1) = false from by simpa using ob]; exact h2 fun h => ob h.ob
 rw [show decide (val b % 2 = 1) = true from by simpa using ob, yau (by rfl)]
 refine ycK e _ ?_
 by_cases we : win e
 rotate_left
 ·rw [show decide (win e) = false from by simpa using we]; exact h2 fun h => we h.we
 rw [show decide (win e) = true from by simpa using we, yau (by rfl), ybi]
 by_cases ha : a = []
 ·subst ha
  rw [yaA (by rfl), yfq, ypT]
  by_cases hz : n = false ∧ b = [1] ∧ e = 0
  ·rw [yau (by simp [hz])]; exact h1 ⟨ma, mb, ob, we, fun _ => hz, fun h => absurd rfl h⟩
  ·rw [yaA (by simp only [hz, decide_false]; rfl)]; exact h2 fun h => hz (h.z rfl)
 ·rw [yau (by simpa using ha)]
  refine yiB a b _ (fun h => absurd ⟨ma, mb⟩ h) fun _ _ => ?_
  refine ygy a _ (by omega) ?_
  by_cases oa : val a % 2 = 1
  rotate_left
  ·rw [show decide (val a % 2 = 1) = false from by simpa using oa]; exact h2 fun h => oa (h.r ha).1
  rw [show decide (val a % 2 = 1) = true from by simpa using oa, yau (by rfl), yjt]
  by_cases hg : Nat.gcd (val a) (val b) = 1
  ·rw [yau (by simp [hg])]; exact h1 ⟨ma, mb, ob, we, fun h => absurd h ha, fun _ => ⟨oa, hg⟩⟩
  ·rw [yaA (by simp [hg])]; exact h2 fun h => hg (h.r ha).2
theorem yoj (n : Bool) (a b : List UInt8) (e : Int) (K : Bool → Prop) (h1 : MayE n a b e → K true) (h2 : ¬ MayE n a b e → K false) : zcy n a b e K := by
 rw [zcy.is]; unfold zcy.d
 rw [yez]
 by_cases ma : May a
 rotate_left
 ·rw [show decide (May a) = false from by simpa using ma]; exact h2 fun h => ma h.ma
 rw [show decide (May a) = true from by simpa using ma, yau (by rfl), yez]
 by_cases mb : May b
 rotate_left
 ·rw [show decide (May b) = false from by simpa using mb]; exact h2 fun h => mb h.mb
 rw [show decide (May b) = true from by simpa using mb, yau (by rfl)]
 have la := ma.1
 have lb := mb.1
 refine yiP b _ (by omega) ?_
 by_cases ob : val b % 2 = 1
 rotate_left
 ·rw [show decide (val b % 2 = 1) = false from by simpa using ob]; exact h2 fun h => ob h.ob
 rw [show decide (val b % 2 = 1) = true from by simpa using ob, yau (by rfl)]
 refine ytF (fun we => h2 fun h => we h.we) fun we => ?_
 rw [ybi]
 by_cases ha : a = []
 ·subst ha
  rw [yaA (by rfl), ylM, ypT]
  by_cases hz : n = false ∧ b = [1] ∧ e = 0
  ·rw [show decide (n = false ∧ b = [1] ∧ e = 0) = true from by simpa using hz]; exact h1 ⟨ma, mb, ob, we, fun _ => hz, fun h => absurd rfl h⟩
  ·rw [show decide (n = false ∧ b = [1] ∧ e = 0) = false from decide_eq_false hz]; exact h2 fun h => hz (h.z rfl)
 ·rw [yau (by simpa using ha)]
  refine yiP a _ (by omega) ?_
  by_cases oa : val a % 2 = 1
  rotate_left
  ·rw [show decide (val a % 2 = 1) = false from by simpa using oa]; exact h2 fun h => oa (h.r ha).1
  rw [show decide (val a % 2 = 1) = true from by simpa using oa, yaA rfl]
  refine yn8 a b ma mb _ ?_
  rw [yjt]
  by_cases hg : Nat.gcd (val a) (val b) = 1
  ·rw [show decide (Nat.gcd (val a) (val b) = 1) = true from by simpa using hg]; exact h1 ⟨ma, mb, ob, we, fun h => absurd h ha, fun _ => ⟨oa, hg⟩⟩
  ·rw [show decide (Nat.gcd (val a) (val b) = 1) = false from by simpa using hg]; exact h2 fun h => hg (h.r ha).2
def odp (a : Nat) : Nat := a / 2 ^ ybm a
def rdA (a b : Nat) : Nat := odp a / Nat.gcd (odp a) (odp b)
def rdB (a b : Nat) : Nat := odp b / Nat.gcd (odp a) (odp b)
def rdE (a b : Nat) (e : Int) : Int := e + ((ybm a : Int) - ybm b)
def mkE (n : Bool) (a b : Nat) (e : Int) (K : Bool → List UInt8 → List UInt8 → Int → Int → Prop) : Prop :=
 if a = 0 then K false [] [1] 0 0 else if win (rdE a b e) then K n (nb (rdA a b)) (nb (rdB a b)) (rdE a b e) 0 else K false [] [] 0 4
theorem ymA {x : Nat} (h : fit x) (d : Nat) : fit (x / d) := ydI h (Nat.div_le_self x d)
theorem yem {a : Nat} (h : a ≠ 0) : a = 2 ^ ybm a * odp a ∧ odp a % 2 = 1 := by
 obtain ⟨q, hq⟩ := yed a h
 have e : odp a = 2 * q + 1 := by
  unfold odp
  exact Nat.div_eq_of_eq_mul_right (Nat.two_pow_pos _) hq
 rw [e]
 exact ⟨hq, by omega⟩
theorem ynk {a : Nat} (h : a ≠ 0) : odp a ≠ 0 := by have := (yem h).2; omega
theorem yjC (n : Bool) (x y : List UInt8) (e : Int) (K : Bool → List UInt8 → List UInt8 → Int → Int → Prop) (h1 : ¬ (May x ∧ May y ∧ y ≠ [] ∧ win e) → K false [] [] 0 2)
  (h2 : May x → May y → y ≠ [] → win e → mkE n (val x) (val y) e K) : zah n x y e K := by
 rw [zah.is]; unfold zah.d
 rw [ya0]
 by_cases mx : May x
 rotate_left
 ·rw [if_neg mx]; exact h1 fun h => mx h.1
 rw [if_pos mx, yau (by rfl), ya0]
 by_cases my : May y
 rotate_left
 ·rw [if_neg my]; exact h1 fun h => my h.2.1
 rw [if_pos my, yau (by rfl), ybi]
 by_cases hy : y = []
 ·rw [yaA (by simpa using hy)]; exact h1 fun h => h.2.2.1 hy
 rw [yau (by simpa using hy)]
 refine ycK e _ ?_
 by_cases we : win e
 rotate_left
 ·rw [show decide (win e) = false from by simpa using we]; exact h1 fun h => we h.2.2.2
 rw [show decide (win e) = true from by simpa using we, yau (by rfl), ybi]
 have h2 := h2 mx my hy we
 unfold mkE at h2
 by_cases hx : x = []
 ·rw [yaA (by simpa using hx), yfq]
  rw [if_pos (by rw [hx]; rfl)] at h2; exact h2
 rw [yau (by simpa using hx)]
 have nx := (yls mx).2 hx
 have ny := (yls my).2 hy
 rw [if_neg nx] at h2
 refine yex x _ ?_
 refine yex y _ ?_
 rw [if_pos mx, if_pos my]
 have bx := ynx mx nx
 have by' := ynx my ny
 refine yh3 _ (by omega) mx hx ?_
 refine yh3 _ (by omega) my hy ?_
 have fx : fit (odp (val x)) := ymA (yjh mx) _
 have fy : fit (odp (val y)) := ymA (yjh my) _
 refine yiB _ _ _ (fun h => absurd ⟨ybl fx, ybl fy⟩ h) fun _ _ => ?_
 rw [yaZ, yaZ]
 show br (!eqS (nb (Nat.gcd (odp (val x)) (odp (val y)))) [1]) _ _
 rw [yjt]
 have we' := we
 unfold win at we'
 have ee : yaj .i64 e (yan .i64 (ybm (val x) : Int) (ybm (val y) : Int)) = rdE (val x) (val y) e := by
  unfold rdE
  rw [yat (by omega) (by omega), yas (by omega) (by omega)]
 rw [ee]
 have gne : Nat.gcd (odp (val x)) (odp (val y)) ≠ 0 := by
  intro h0; exact ynk nx (Nat.gcd_eq_zero_iff.1 h0).1
 have fin : ∀ p q, p = nb (rdA (val x) (val y)) → q = nb (rdB (val x) (val y)) → zas (rdE (val x) (val y) e) fun y0_7 => br (!y0_7) (K false [] [] 0 4) (K n p q (rdE (val x) (val y) e) 0) := by
  rintro p q rfl rfl
  refine ycK _ _ ?_
  by_cases w : win (rdE (val x) (val y) e)
  ·rw [if_pos w] at h2
   rw [show decide (win (rdE (val x) (val y) e)) = true from by simpa using w]; exact h2
  ·rw [if_neg w] at h2
   rw [show decide (win (rdE (val x) (val y) e)) = false from by simpa using w]; exact h2
 by_cases hg : Nat.gcd (odp (val x)) (odp (val y)) = 1
 ·rw [yau (by simp [hg])]
  refine fin _ _ ?_ ?_
  ·unfold rdA; rw [hg, Nat.div_one]; rfl
  ·unfold rdB; rw [hg, Nat.div_one]; rfl
 ·rw [yaA (by simp [hg])]
  have fg : fit (Nat.gcd (odp (val x)) (odp (val y))) := ydI fx (Nat.gcd_le_left _ (Nat.pos_of_ne_zero (ynk nx)))
  refine yf0 _ _ _ (fun h => absurd ⟨ybl fx, ybl fg⟩ h) (fun h => absurd h (ypv gne)) fun _ _ _ => ?_
  refine yf0 _ _ _ (fun h => absurd ⟨ybl fy, ybl fg⟩ h) (fun h => absurd h (ypv gne)) fun _ _ _ => ?_
  refine fin _ _ ?_ ?_
  ·rw [yaZ, yaZ]; rfl
  ·rw [yaZ, yaZ]; rfl
end Go.Ev.S

/- Exact numbers as rational ones. -/
set_option linter.unusedVariables false
set_option linter.unusedSimpArgs false
set_option maxRecDepth 8000
namespace Go.Ev.S
open Go Go.Ev
def p2 (e : Int) : Rat := (2 : Rat) ^ e
theorem ytV : (2 : Rat) ≠ 0 := by decide
theorem yc1 (e : Int) : 0 < p2 e := Rat.zpow_pos (by decide)
theorem ytw (e : Int) : p2 e ≠ 0 := by have := yc1 e; grind
theorem ycJ (a b : Int) : p2 (a + b) = p2 a * p2 b := Rat.zpow_add ytV a b
theorem ycU (n : Nat) : p2 (n : Int) = ((2 ^ n : Nat) : Rat) := by
 unfold p2; rw [Rat.zpow_natCast, Rat.natCast_pow]; rfl
theorem yo5 : p2 0 = 1 := Rat.zpow_zero 2
theorem yrX : p2 1 = 2 := by have := ycU 1; rw [show ((1 : Nat) : Int) = 1 from rfl] at this; rw [this]; rfl
def sR (n : Bool) : Rat := if n then -1 else 1
def V (n : Bool) (a b : Nat) (e : Int) : Rat := sR n * ((a : Rat) / (b : Rat)) * p2 e
theorem yei {b : Nat} (h : b ≠ 0) : 0 < (b : Rat) := Rat.natCast_pos.2 (by omega)
theorem yf3 {b : Nat} (h : b ≠ 0) : (b : Rat) ≠ 0 := by have := yei h; grind
theorem yd1 (n : Bool) (b : Nat) (e : Int) : V n 0 b e = 0 := by
 unfold V; rw [show ((0 : Nat) : Rat) = 0 from rfl]; grind
theorem ypC (n : Bool) (a b : Nat) (e : Int) (hb : b ≠ 0) : V n a b e * b = sR n * a * p2 e := by
 have := yf3 hb
 unfold V; grind
theorem ypk (n : Bool) (a b k : Nat) (e : Int) : V n (a * 2 ^ k) b e = V n a b (e + k) := by
 unfold V
 rw [ycJ, ycU, Rat.natCast_mul]; grind
theorem ysF (n : Bool) (a b : Nat) (e : Int) : V n a b e = sR n * V false a b e := by unfold V; rw [show sR false = 1 from rfl]; grind
theorem yqT (n : Bool) (a b g : Nat) (e : Int) (hg : g ≠ 0) (hb : b ≠ 0) : V n (g * a) (g * b) e = V n a b e := by
 have h1 := yf3 hg
 have h2 := yf3 hb
 unfold V
 rw [Rat.natCast_mul, Rat.natCast_mul]
 have : (g : Rat) * a / (g * b) = a / b := by grind
 rw [this]
theorem ys9 (n : Bool) : sR (!n) = -sR n := by cases n <;> rfl
theorem yse (n : Bool) (a b : Nat) (e : Int) : V (!n) a b e = -V n a b e := by unfold V; rw [ys9]; grind
theorem ysK {a b : Rat} (ha : 0 < a) (hb : 0 < b) : 0 < a / b := by
 rw [Rat.div_def]; exact Rat.mul_pos ha (Rat.inv_pos.2 hb)
theorem yti {a b : Nat} (ha : a ≠ 0) (hb : b ≠ 0) (e : Int) : 0 < V false a b e := by
 unfold V; rw [show sR false = 1 from rfl, Rat.one_mul]
 exact Rat.mul_pos (ysK (yei ha) (yei hb)) (yc1 e)
theorem yi8 {a b : Nat} (ha : a ≠ 0) : Nat.gcd (odp a) (odp b) ≠ 0 := by
 intro h0; exact ynk ha (Nat.gcd_eq_zero_iff.1 h0).1
theorem yrj {a b : Nat} (ha : a ≠ 0) (hb : b ≠ 0) : a = Nat.gcd (odp a) (odp b) * rdA a b * 2 ^ ybm a ∧ b = Nat.gcd (odp a) (odp b) * rdB a b * 2 ^ ybm b := by
 have h1 := (yem ha).1
 have h2 := (yem hb).1
 have h3 : Nat.gcd (odp a) (odp b) * rdA a b = odp a := Nat.mul_div_cancel' (Nat.gcd_dvd_left _ _)
 have h4 : Nat.gcd (odp a) (odp b) * rdB a b = odp b := Nat.mul_div_cancel' (Nat.gcd_dvd_right _ _)
 rw [h3, h4]
 exact ⟨by rw [Nat.mul_comm]; exact h1, by rw [Nat.mul_comm]; exact h2⟩
theorem yjz {a b : Nat} (ha : a ≠ 0) (hb : b ≠ 0) : rdA a b % 2 = 1 ∧ rdB a b % 2 = 1 ∧ Nat.gcd (rdA a b) (rdB a b) = 1 := by
 have h1 := (yem ha).2
 have h2 := (yem hb).2
 have h3 : Nat.gcd (odp a) (odp b) * rdA a b = odp a := Nat.mul_div_cancel' (Nat.gcd_dvd_left _ _)
 have h4 : Nat.gcd (odp a) (odp b) * rdB a b = odp b := Nat.mul_div_cancel' (Nat.gcd_dvd_right _ _)
 refine ⟨?_, ?_, ?_⟩
 ·rcases Nat.mod_two_eq_zero_or_one (rdA a b) with h | h
  ·rw [← h3, Nat.mul_mod, h, Nat.mul_zero, Nat.zero_mod] at h1; cases h1
  ·exact h
 ·rcases Nat.mod_two_eq_zero_or_one (rdB a b) with h | h
  ·rw [← h4, Nat.mul_mod, h, Nat.mul_zero, Nat.zero_mod] at h2; cases h2
  ·exact h
 ·exact Nat.coprime_div_gcd_div_gcd (Nat.pos_of_ne_zero (yi8 ha))
theorem yuD (n : Bool) {a b : Nat} (e : Int) (ha : a ≠ 0) (hb : b ≠ 0) : V n (rdA a b) (rdB a b) (rdE a b e) = V n a b e := by
 obtain ⟨h1, h2⟩ := yrj ha hb
 have hg := yi8 (b := b) ha
 have hB : rdB a b ≠ 0 := by have := (yjz ha hb).2.1; omega
 have h3 : V n a b e * p2 (ybm b) = V n (rdA a b) (rdB a b) (e + ybm a) := by
  rw [← yqT n (rdA a b) (rdB a b) _ _ hg hB, ← ypk, ← h1]
  have h4 : (b : Rat) = ((Nat.gcd (odp a) (odp b) * rdB a b : Nat) : Rat) * p2 (ybm b) := by
   rw [ycU, ← Rat.natCast_mul, ← h2]
  have h5 : ((Nat.gcd (odp a) (odp b) * rdB a b : Nat) : Rat) ≠ 0 := yf3 (Nat.mul_ne_zero hg hB)
  have h6 := ytw (ybm b)
  unfold V
  rw [h4]
  generalize ((Nat.gcd (odp a) (odp b) * rdB a b : Nat) : Rat) = u at h5
  generalize p2 (ybm b) = v at h6
  generalize (a : Rat) = w
  have : w / (u * v) * v = w / u := by grind
  grind
 have h7 : V n (rdA a b) (rdB a b) (e + ybm a) = V n (rdA a b) (rdB a b) (rdE a b e) * p2 (ybm b) := by
  have e1 : e + (ybm a : Int) = rdE a b e + ybm b := by unfold rdE; omega
  rw [e1]
  unfold V
  rw [ycJ]; grind
 have h8 := ytw (ybm b)
 rw [h7] at h3
 grind
end Go.Ev.S

/- Exact numbers added, multiplied, compared, measured: the document's. -/
set_option linter.unusedVariables false
set_option linter.unusedSimpArgs false
set_option maxRecDepth 8000
namespace Go.Ev.S
open Go Go.Ev
structure Can (n : Bool) (a b : Nat) (e : Int) : Prop where
 fa : fit a
 fb : fit b
 ob : b % 2 = 1
 we : win e
 z : a = 0 → n = false ∧ b = 1 ∧ e = 0
 r : a ≠ 0 → a % 2 = 1 ∧ Nat.gcd a b = 1
theorem MayE.can {n : Bool} {x y : List UInt8} {e : Int} (h : MayE n x y e) : ∃ a b, x = nb a ∧ y = nb b ∧ Can n a b e := by
 refine ⟨val x, val y, (yft h.ma).symm, (yft h.mb).symm, yjh h.ma, yjh h.mb, h.ob, h.we, ?_, ?_⟩
 ·intro h0
  have hx : x = [] := by rw [← yft h.ma, h0, yaJ]
  obtain ⟨h1, h2, h3⟩ := h.z hx
  exact ⟨h1, by rw [h2]; decide, h3⟩
 ·intro h0; exact h.r ((yls h.ma).1 h0)
theorem nb_nil {a : Nat} : nb a = [] ↔ a = 0 := by
 constructor
 ·intro h; rw [← yaZ a, h, yfZ]
 ·rintro rfl; exact yaJ
theorem Can.may {n : Bool} {a b : Nat} {e : Int} (h : Can n a b e) : MayE n (nb a) (nb b) e := by
 refine ⟨ybl h.fa, ybl h.fb, by rw [yaZ]; exact h.ob, h.we, ?_, ?_⟩
 ·intro h0
  obtain ⟨h1, h2, h3⟩ := h.z (nb_nil.1 h0)
  exact ⟨h1, by rw [h2]; exact ycO, h3⟩
 ·intro h0
  rw [yaZ, yaZ]; exact h.r fun h1 => h0 (nb_nil.2 h1)
theorem Can.b0 {n : Bool} {a b : Nat} {e : Int} (h : Can n a b e) : b ≠ 0 := by have := h.ob; omega
theorem Can.e64 {n : Bool} {a b : Nat} {e : Int} (h : Can n a b e) : -1048576 ≤ e ∧ e ≤ 1048576 := h.we
theorem ycX (a : Nat) : eqS (nb a) [] = decide (a = 0) := by rw [ybi, decide_eq_decide]; exact nb_nil
theorem yfo {a b : Nat} (ha : fit a) (hb : fit b) {K : List UInt8 → Int → Prop} (h : yoW K (a * b)) : zbn (nb a) (nb b) K := by
 refine ypn (ybl ha) (ybl hb) ?_; rw [yaZ, yaZ]; exact h
theorem ycb {a : Nat} (n : Int) (h0 : 0 ≤ n) (hn : n < 9223372036854775808) (ha : fit a) {K : List UInt8 → Int → Prop} (h : yoW K (a * 2 ^ n.toNat)) : zbk (nb a) n K := by
 refine yja n h0 hn (ybl ha) ?_; rw [yaZ]; exact h
theorem yd5 {a b : Nat} (ha : fit a) (hb : fit b) {K : Int → Int → Prop} (h : K (sgn a b) 0) : zbh (nb a) (nb b) K := by
 refine yiz _ _ K (fun hn => absurd ⟨ybl ha, ybl hb⟩ hn) fun _ _ => ?_
 rw [yaZ, yaZ]; exact h
theorem yhg {a b : Nat} (ha : fit a) (hb : fit b) {K : List UInt8 → Int → Prop} (h : yoW K (a + b)) : zbf (nb a) (nb b) K := by
 refine yon _ _ K (fun hn => absurd ⟨ybl ha, ybl hb⟩ hn) fun _ _ => ?_; rw [yaZ, yaZ]; exact h
theorem yfc {a b : Nat} (ha : fit a) (hb : fit b) (hle : b ≤ a) {K : List UInt8 → Int → Prop} (h : K (nb (a - b)) 0) : zbr (nb a) (nb b) K := by
 refine yoh _ _ K (fun hn => absurd ⟨ybl ha, ybl hb⟩ hn) ?_ ?_ <;> rw [yaZ, yaZ]
 ·intro _ _ _; omega
 ·intro _ _ _; exact h
theorem ykg {a b : Nat} (ha : fit a) (hb : fit b) (h0 : b ≠ 0) {K : List UInt8 → List UInt8 → Int → Prop} (h : K (nb (a / b)) (nb (a % b)) 0) : zbi (nb a) (nb b) K := by
 refine yf0 _ _ K (fun hn => absurd ⟨ybl ha, ybl hb⟩ hn) (fun hh => absurd (nb_nil.1 hh) h0) fun _ _ _ => ?_; rw [yaZ, yaZ]; exact h
theorem yfg {a : Nat} (ha : fit a) {K : Int → Prop} (h : K (yaw a)) : zbl (nb a) K := by
 refine yfO _ K ?_; rw [if_pos (ybl ha), yaZ]; exact h
theorem ycj (n : Bool) {a b : Nat} {e : Int} (ha : fit a) (hb : fit b) (h0 : b ≠ 0) (we : win e) {K : Bool → List UInt8 → List UInt8 → Int → Int → Prop} (h : mkE n a b e K) : zah n (nb a) (nb b) e K := by
 refine yjC n _ _ e K (fun hn => absurd ⟨ybl ha, ybl hb, ypv h0, we⟩ hn) fun _ _ _ _ => ?_; rw [yaZ, yaZ]; exact h
def lv (a bd : Nat) (ae n : Int) : Nat := a * bd * 2 ^ (ae - n).toNat
def mn (a b : Int) : Int := if b < a then b else a
theorem yhD {a bd : Nat} {ae n : Int} (h : fit (lv a bd ae n)) : fit (a * bd) := ydI h (Nat.le_mul_of_pos_right _ (Nat.two_pow_pos _))
theorem ytm {a b : Int} (ha : win a) (hb : win b) : win (mn a b) := by unfold win mn at *; split <;> omega
section
variable {n1 n2 : Bool} {a1 b1 a2 b2 : Nat} {e1 e2 : Int}
def yty (n1 : Bool) (a1 b1 : Nat) (e1 : Int) (n2 : Bool) (a2 b2 : Nat) (e2 : Int) (K : Bool → List UInt8 → List UInt8 → Int → Int → Prop) : Prop :=
 if a1 = 0 then K n2 (nb a2) (nb b2) e2 0 else if a2 = 0 then K n1 (nb a1) (nb b1) e1 0 else
 if fit (lv a1 b2 e1 (mn e1 e2)) ∧ fit (lv a2 b1 e2 (mn e1 e2)) ∧ fit (b1 * b2) then
  if n1 = n2 then (if fit (lv a1 b2 e1 (mn e1 e2) + lv a2 b1 e2 (mn e1 e2)) then mkE n1 (lv a1 b2 e1 (mn e1 e2) + lv a2 b1 e2 (mn e1 e2)) (b1 * b2) (mn e1 e2) K else K false [] [] 0 4)
  else if lv a2 b1 e2 (mn e1 e2) ≤ lv a1 b2 e1 (mn e1 e2) then mkE n1 (lv a1 b2 e1 (mn e1 e2) - lv a2 b1 e2 (mn e1 e2)) (b1 * b2) (mn e1 e2) K
  else mkE n2 (lv a2 b1 e2 (mn e1 e2) - lv a1 b2 e1 (mn e1 e2)) (b1 * b2) (mn e1 e2) K
 else K false [] [] 0 4
theorem ypi (a b : Nat) : leI 0 (sgn a b) = decide (b ≤ a) := by
 unfold sgn leI
 rw [decide_eq_decide]
 (repeat' split) <;> omega
theorem yrf (a b : Bool) : ybf a b = decide (a = b) := by cases a <;> cases b <;> rfl
theorem yeg {c : Prop} [Decidable c] {p q : Prop} (h1 : c → p) (h2 : ¬ c → q) : br (decide c) p q := by
 by_cases h : c
 ·rw [yaA (by simpa using h)]; exact h1 h
 ·rw [yau (by simpa using h)]; exact h2 h
theorem yea {c : Prop} [Decidable c] {p q : Prop} (h1 : ¬ c → p) (h2 : c → q) : br (!decide c) p q := by
 by_cases h : c
 ·rw [yau (by simpa using h)]; exact h2 h
 ·rw [yaA (by simpa using h)]; exact h1 h
def sgE (n : Bool) (a : Nat) : Int := if a = 0 then 0 else if n = true then -1 else 1
def yt4 (n1 : Bool) (a1 b1 : Nat) (e1 : Int) (n2 : Bool) (a2 b2 : Nat) (e2 : Int) (K : Int → Int → Prop) : Prop :=
 if sgE n1 a1 < sgE n2 a2 then K (-1) 0 else if sgE n2 a2 < sgE n1 a1 then K 1 0 else if sgE n1 a1 = 0 then K 0 0 else
 if fit (lv a1 b2 e1 (mn e1 e2)) ∧ fit (lv a2 b1 e2 (mn e1 e2)) then K (sgE n1 a1 * sgn (lv a1 b2 e1 (mn e1 e2)) (lv a2 b1 e2 (mn e1 e2))) 0 else K 0 4
theorem yly (n : Bool) (a : Nat) : sgE n a = -1 ∨ sgE n a = 0 ∨ sgE n a = 1 := by unfold sgE; (repeat' split) <;> simp
theorem yoU (a b : Nat) : sgn a b = -1 ∨ sgn a b = 0 ∨ sgn a b = 1 := by unfold sgn; (repeat' split) <;> simp
theorem ysB {s t : Int} (hs : s = -1 ∨ s = 0 ∨ s = 1) (ht : t = -1 ∨ t = 0 ∨ t = 1) : ybY .i64 s t = s * t := by
 rcases hs with rfl | rfl | rfl <;> rcases ht with rfl | rfl | rfl <;> decide
end
end Go.Ev.S

/- Exact numbers scaled, measured, cut: the document's. -/
set_option linter.unusedVariables false
set_option linter.unusedSimpArgs false
set_option maxRecDepth 8000
namespace Go.Ev.S
open Go Go.Ev
def tp (a b : Nat) : Int :=
 if yaw b ≤ yaw a then (if b * 2 ^ (yaw a - yaw b) ≤ a then ((yaw a - yaw b : Nat) : Int) else ((yaw a - yaw b : Nat) : Int) - 1)
 else (if b ≤ a * 2 ^ (yaw b - yaw a) then -((yaw b - yaw a : Nat) : Int) else -((yaw b - yaw a : Nat) : Int) - 1)
theorem yfx {a : Nat} (h : fit a) : yaw a ≤ 131072 := (yne a).1 h
theorem yrE {a b : Nat} (ha : fit a) (hb : b ≠ 0) (hl : yaw b ≤ yaw a) : fit (b * 2 ^ (yaw a - yaw b)) := by
 rw [yne, ygY _ _ hb]; have := yfx ha; omega
theorem ypt (a b : Nat) : ltI (sgn a b) 0 = !decide (b ≤ a) := by
 unfold sgn ltI
 by_cases h : b ≤ a
 ·(repeat' split) <;> simp <;> omega
 ·rw [if_pos (by omega)]; simp; omega
theorem yjn (a n : Nat) : yaw a ≤ n ↔ a < 2 ^ n := yaT a n
theorem yj9 {a : Nat} (h : a ≠ 0) : 2 ^ (yaw a - 1) ≤ a := by
 have h1 : ¬ yaw a ≤ yaw a - 1 := by
  have : 0 < yaw a := by unfold yaw; rw [if_neg h]; omega
  omega
 rw [yjn] at h1; omega
theorem ylT {a b : Nat} (ha : a ≠ 0) (hb : b ≠ 0) : (0 ≤ tp a b → b * 2 ^ (tp a b).toNat ≤ a ∧ a < b * 2 ^ ((tp a b).toNat + 1)) ∧ (tp a b < 0 → b ≤ a * 2 ^ (-tp a b).toNat ∧ a * 2 ^ ((-tp a b).toNat - 1) < b) := by
 have a1 := yj9 ha
 have a2 := (yjn a _).1 (Nat.le_refl _)
 have b1 := yj9 hb
 have b2 := (yjn b _).1 (Nat.le_refl _)
 have pa : 0 < yaw a := by unfold yaw; rw [if_neg ha]; omega
 have pb : 0 < yaw b := by unfold yaw; rw [if_neg hb]; omega
 unfold tp
 by_cases hl : yaw b ≤ yaw a
 ·rw [if_pos hl]
  obtain ⟨d, hd⟩ : ∃ d, d = yaw a - yaw b := ⟨_, rfl⟩
  rw [← hd]
  -- a < b 2^(d+1)
  have h1 : a < b * 2 ^ (d + 1) := by
   have : 2 ^ (yaw b - 1) * 2 ^ (d + 1) ≤ b * 2 ^ (d + 1) := Nat.mul_le_mul_right _ b1
   rw [← Nat.pow_add, show yaw b - 1 + (d + 1) = yaw a from by omega] at this
   omega
  by_cases h2 : b * 2 ^ d ≤ a
  ·rw [if_pos h2]
   refine ⟨fun _ => ?_, fun h => by omega⟩
   rw [show ((d : Int)).toNat = d from by omega]
   exact ⟨h2, h1⟩
  ·rw [if_neg h2]
   rcases Nat.eq_zero_or_pos d with h0 | h0
   ·refine ⟨fun h => by omega, fun _ => ?_⟩
    rw [h0] at h2 ⊢
    rw [show (-(((0 : Nat) : Int) - 1)).toNat = 1 from by omega, Nat.sub_self]
    refine ⟨?_, by omega⟩
    have : b < a * 2 := by
     have : 2 ^ (yaw a - 1) * 2 ≤ a * 2 := Nat.mul_le_mul_right _ a1
     rw [← Nat.pow_succ, show (yaw a - 1).succ = yaw b from by omega] at this
     omega
    omega
   ·refine ⟨fun _ => ?_, fun h => by omega⟩
    rw [show ((d : Int) - 1).toNat = d - 1 from by omega, show d - 1 + 1 = d from by omega]
    refine ⟨?_, by omega⟩
    have : b * 2 ^ (d - 1) ≤ 2 ^ yaw b * 2 ^ (d - 1) := Nat.mul_le_mul_right _ (by omega)
    rw [← Nat.pow_add, show yaw b + (d - 1) = yaw a - 1 from by omega] at this
    omega
 ·rw [if_neg hl]
  obtain ⟨d, hd⟩ : ∃ d, d = yaw b - yaw a := ⟨_, rfl⟩
  rw [← hd]
  have h1 : b < a * 2 ^ (d + 1) := by
   have : 2 ^ (yaw a - 1) * 2 ^ (d + 1) ≤ a * 2 ^ (d + 1) := Nat.mul_le_mul_right _ a1
   rw [← Nat.pow_add, show yaw a - 1 + (d + 1) = yaw b from by omega] at this
   omega
  have h3 : a * 2 ^ (d - 1) < b := by
   have : a * 2 ^ (d - 1) < 2 ^ yaw a * 2 ^ (d - 1) := Nat.mul_lt_mul_of_pos_right a2 (Nat.two_pow_pos _)
   rw [← Nat.pow_add, show yaw a + (d - 1) = yaw b - 1 from by omega] at this
   omega
  by_cases h2 : b ≤ a * 2 ^ d
  ·rw [if_pos h2]
   refine ⟨fun h => by omega, fun _ => ?_⟩
   rw [show (- -(d : Int)).toNat = d from by omega]
   exact ⟨h2, h3⟩
  ·rw [if_neg h2]
   refine ⟨fun h => by omega, fun _ => ?_⟩
   rw [show (-(-(d : Int) - 1)).toNat = d + 1 from by omega, show d + 1 - 1 = d from by omega]
   exact ⟨by omega, by omega⟩
theorem yj7 {a b : Nat} (ha : fit a) (hb : fit b) : -131073 ≤ tp a b ∧ tp a b ≤ 131072 := by
 have := yfx ha
 have := yfx hb
 unfold tp; (repeat' split) <;> omega
def ys8 (a b : Nat) (e n : Int) (K : List UInt8 → Bool → Int → Prop) : Prop :=
 if n < -2097152 ∨ 2097152 < n then K [] false 2 else if a = 0 then K [] true 0 else
 if n ≤ e then (if fit (a * 2 ^ (e - n).toNat) then K (nb (a * 2 ^ (e - n).toNat / b)) (decide (a * 2 ^ (e - n).toNat % b = 0)) 0 else K [] false 4)
 else if tp a b + e < n then K [] false 0 else K (nb (a / (b * 2 ^ (n - e).toNat))) (decide (a % (b * 2 ^ (n - e).toNat) = 0)) 0
theorem ysz {a b : Nat} {e n : Int} (ha : a ≠ 0) (hb : b ≠ 0) (fa : fit a) (h1 : ¬ n ≤ e) (h2 : ¬ tp a b + e < n) : fit (b * 2 ^ (n - e).toNat) := by
 have h := (ylT ha hb).1 (by omega)
 refine ydI fa (Nat.le_trans (Nat.mul_le_mul_left _ ?_) h.1)
 exact Nat.pow_le_pow_right (by omega) (by omega)
end Go.Ev.S

/- Differences: of words, bit by bit; of numbers of six words. -/
set_option linter.unusedVariables false
set_option linter.unusedSimpArgs false
set_option maxRecDepth 8000
namespace Go.Ev.S
open Go Go.Ev
end Go.Ev.S

/- Quiet and next encodings: the abacus and the document's answer; the law KindSigns. -/
set_option linter.unusedVariables false
set_option linter.unusedSimpArgs false
set_option maxRecDepth 8000
namespace Go.Ev.S
open Go Go.Ev
def yum (f : Nat) : Nat := enc f false (2 * fe f + 1) (2 ^ (fp f - 2))
def quiet (f x : Nat) : Nat := if 8 ≤ cls f x then x ||| yum f else x
end Go.Ev.S

/- The parts of an encoding: the abacus and the document's answer. -/
set_option linter.unusedVariables false
set_option linter.unusedSimpArgs false
set_option maxRecDepth 8000
namespace Go.Ev.S
open Go Go.Ev
def isN (c : Int) : Bool := eqI c 1 || eqI c 6
def isS (c : Int) : Bool := eqI c 2 || eqI c 5
def isQ (c : Int) : Bool := eqI c 8 || eqI c 9
def yfQ (f x : Nat) : Nat := cond (isN (cls f x)) (fr f x + 2 ^ (fp f - 1)) (cond (isS (cls f x)) (fr f x) 0)
def yhJ (f x : Nat) : Int := cond (isN (cls f x)) ((ex f x : Int) + 1 - fe f - fp f) (cond (isS (cls f x)) (2 - (fe f : Int) - fp f) 0)
def ufr (f x : Nat) : Nat := cond (isQ (cls f x)) (fr f x) 0
theorem ysP (f x : Nat) : cls f x = 0 ∨ cls f x = 1 ∨ cls f x = 2 ∨ cls f x = 3 ∨ cls f x = 4 ∨ cls f x = 5 ∨ cls f x = 6 ∨ cls f x = 7 ∨ cls f x = 8 ∨ cls f x = 9 := by
 have := yld f x; omega
theorem ysU (f x : Nat) (h : isS (cls f x) = true) : ex f x = 0 := by
 unfold isS at h
 apply Classical.byContradiction
 intro he
 unfold cls at h
 rw [if_pos he] at h
 revert h
 cases ng f x <;> cases (fr f x).testBit (fp f - 2) <;> simp only [cond_true, cond_false] <;> (repeat' split) <;> simp [eqI]
theorem yeK (f x : Nat) (h : f ≤ 3) (hx : x < 2 ^ fw f) (K : Int → (Nat → Int) → Int → (Nat → Int) → Int → Prop) (hK : K (cls f x) (W (yfQ f x)) (yhJ f x) (W (ufr f x)) 0) : zaw f (Hi x) (Lo x) K := by
 have hw := yct f h
 have hz : (fun _ : Nat => (0 : Int)) = W 0 := W_zero.symm
 have hex := yqD f x
 rw [zaw.is]; unfold zaw.d
 rw [ydC f x h (ytc h hx), yau (by simpa using hx), yaI f h]
 refine yeH f x h hx _ ?_
 refine yfI f x h hx _ ?_
 have q1 : yaG IntKind.i64 (yan IntKind.i64 (fp f : Int) 1) 64 = (((fp f - 1) / 64 : Nat) : Int) := by rw [ypa f h, ypU _ (by omega)]
 have q2 : cvI IntKind.u64 (ycg IntKind.i64 (yan IntKind.i64 (fp f : Int) 1) 64) = (((fp f - 1) % 64 : Nat) : Int) := by rw [ypa f h, yo3, yaU (by omega) (by omega)]
 have g1 : (leI 0 (((fp f - 1) / 64 : Nat) : Int) && ltI (((fp f - 1) / 64 : Nat) : Int) 6) = true := ybN (by omega) (by omega)
 have g2 : (!ltI (((fp f - 1) % 64 : Nat) : Int) 0) = true := yhY (by omega)
 have e1 : yaj IntKind.i64 (yan IntKind.i64 (yaj IntKind.i64 (yan IntKind.i64 (ex f x : Int) 1) (1 - (fe f : Int))) (fp f : Int)) 1 = (ex f x : Int) + 1 - fe f - fp f := by
  have s1 : yan .i64 (ex f x : Int) 1 = (ex f x : Int) - 1 := yat (by omega) (by omega)
  have s2 : yaj .i64 ((ex f x : Int) - 1) (1 - (fe f : Int)) = (ex f x : Int) - 1 + (1 - (fe f : Int)) := yas (by omega) (by omega)
  have s3 : yan .i64 ((ex f x : Int) - 1 + (1 - (fe f : Int))) (fp f : Int) = (ex f x : Int) - 1 + (1 - (fe f : Int)) - fp f := yat (by omega) (by omega)
  have s4 : yaj .i64 ((ex f x : Int) - 1 + (1 - (fe f : Int)) - fp f) 1 = (ex f x : Int) - 1 + (1 - (fe f : Int)) - fp f + 1 := yas (by omega) (by omega)
  rw [s1, s2, s3, s4]; omega
 have e2 : isS (cls f x) = true → yaj IntKind.i64 (yan IntKind.i64 (yaj IntKind.i64 (ex f x : Int) (1 - (fe f : Int))) (fp f : Int)) 1 = 2 - (fe f : Int) - fp f := by
  intro hs
  have := ysU f x hs
  have s2 : yaj .i64 (ex f x : Int) (1 - (fe f : Int)) = (ex f x : Int) + (1 - (fe f : Int)) := yas (by omega) (by omega)
  have s3 : yan .i64 ((ex f x : Int) + (1 - (fe f : Int))) (fp f : Int) = (ex f x : Int) + (1 - (fe f : Int)) - fp f := yat (by omega) (by omega)
  have s4 : yaj .i64 ((ex f x : Int) + (1 - (fe f : Int)) - fp f) 1 = (ex f x : Int) + (1 - (fe f : Int)) - fp f + 1 := yas (by omega) (by omega)
  rw [s2, s3, s4]; omega
 have hsig : upd (W (fr f x)) ((fp f - 1) / 64) (orI .u64 (W (fr f x) ((fp f - 1) / 64)) (ybD .u64 1 (((fp f - 1) % 64 : Nat) : Int))) = W (fr f x + 2 ^ (fp f - 1)) := by
  rw [ymR, yrJ _ _ (yl4 f x)]
 rw [q1, q2, yby g1, yby g2, yby g1, Int.toNat_natCast, hsig, ybp f h, ybp f h, e1, hz]
 unfold yfQ yhJ ufr at hK
 rcases ysP f x with c | c | c | c | c | c | c | c | c | c <;> rw [c] at hK ⊢ <;> rw [c] at e2 <;> first
  | exact hK
  | (rw [e2 rfl]; exact hK)
end Go.Ev.S

/- Signs put together, words and classes: the abacus and the document's answer; the laws of signs. -/
set_option linter.unusedVariables false
set_option linter.unusedSimpArgs false
set_option maxRecDepth 8000
namespace Go.Ev.S
open Go Go.Ev
end Go.Ev.S

/- The plain laws of SignWords and SignBack. -/
set_option linter.unusedVariables false
set_option linter.unusedSimpArgs false
set_option maxRecDepth 8000
namespace Go.Ev.S
open Go Go.Ev
def ext (w x : Nat) : Nat := cond (x.testBit (w - 1)) (x % 2 ^ w + (18446744073709551616 - 2 ^ w)) (x % 2 ^ w)
end Go.Ev.S

/- Encodings compared: what the functions come to. -/
set_option linter.unusedVariables false
set_option linter.unusedSimpArgs false
set_option maxRecDepth 8000
namespace Go.Ev.S
open Go Go.Ev
def uz (f x : Nat) : Nat := if x = sg f true then 0 else x
end Go.Ev.S

/- The order of all encodings; the lesser and the greater one. -/
set_option linter.unusedVariables false
set_option linter.unusedSimpArgs false
set_option maxRecDepth 8000
namespace Go.Ev.S
open Go Go.Ev
end Go.Ev.S

/- What encodings say: their exact values, in order. -/
set_option linter.unusedVariables false
set_option linter.unusedSimpArgs false
set_option maxRecDepth 8000
namespace Go.Ev.S
open Go Go.Ev
def Nm (p m : Nat) : Nat := if m / 2 ^ p = 0 then m % 2 ^ p else (m % 2 ^ p + 2 ^ p) * 2 ^ (m / 2 ^ p - 1)
theorem yrD (q t P : Nat) (h : t < P) : (q * P + t) / P = q ∧ (q * P + t) % P = t := by
 constructor
 ·rw [Nat.mul_comm, Nat.mul_add_div (by omega), Nat.div_eq_of_lt h, Nat.add_zero]
 ·rw [Nat.mul_comm, Nat.mul_add_mod, Nat.mod_eq_of_lt h]
theorem yq7 (p q t : Nat) (h : t < 2 ^ p) : Nm p (q * 2 ^ p + t) = if q = 0 then t else (t + 2 ^ p) * 2 ^ (q - 1) := by
 unfold Nm
 rw [(yrD q t _ h).1, (yrD q t _ h).2]
theorem ymf (p : Nat) : Nm p 0 = 0 := by
 unfold Nm; rw [Nat.zero_div, if_pos rfl, Nat.zero_mod]
def mg (f x : Nat) : Nat := ex f x * 2 ^ (fp f - 1) + fr f x
theorem yuB (f x : Nat) (h : f ≤ 3) (hx : x < 2 ^ fw f) : x = sg f (ng f x) + mg f x := by
 have := ytR f x h hx
 unfold enc at this
 unfold mg; omega
theorem yjK (f x : Nat) : mg f x = 0 ↔ ex f x = 0 ∧ fr f x = 0 := by
 have hp := Nat.two_pow_pos (fp f - 1)
 unfold mg
 constructor
 ·intro h
  have h1 : ex f x * 2 ^ (fp f - 1) = 0 := by omega
  rcases Nat.mul_eq_zero.1 h1 with h2 | h2
  ·exact ⟨h2, by omega⟩
  ·omega
 ·rintro ⟨h1, h2⟩; rw [h1, h2]; omega
def fin (f x : Nat) : Prop := ex f x ≠ 2 * fe f + 1
theorem yl8 (f x : Nat) : fin f x ↔ (1 ≤ cls f x ∧ cls f x ≤ 6) := by
 unfold fin cls
 cases ng f x <;> cases (fr f x).testBit (fp f - 2) <;> simp only [cond_true, cond_false] <;> (repeat' split) <;> constructor <;> intros <;> first | omega | simp_all
theorem yqd (f x : Nat) (hf : fin f x) : yfQ f x = if ex f x = 0 then fr f x else fr f x + 2 ^ (fp f - 1) := by
 unfold fin at hf
 unfold yfQ cls
 rw [if_neg hf]
 by_cases h1 : ex f x = 0
 ·rw [if_neg (by simpa using h1), if_pos h1]
  by_cases h2 : fr f x = 0
  ·rw [if_neg (by simpa using h2)]
   cases ng f x <;> simp [isN, isS, eqI, h2]
  ·rw [if_pos h2]
   cases ng f x <;> simp [isN, isS, eqI]
 ·rw [if_pos h1, if_neg h1]
  cases ng f x <;> simp [isN, isS, eqI]
theorem ysu (f x : Nat) (hf : fin f x) (h0 : mg f x ≠ 0) : yhJ f x = if ex f x = 0 then 2 - (fe f : Int) - fp f else (ex f x : Int) + 1 - fe f - fp f := by
 unfold fin at hf
 unfold yhJ cls
 rw [if_neg hf]
 by_cases h1 : ex f x = 0
 ·have h2 : fr f x ≠ 0 := fun h2 => h0 ((yjK f x).2 ⟨h1, h2⟩)
  rw [if_neg (by simpa using h1), if_pos h1, if_pos h2]
  cases ng f x <;> simp [isN, isS, eqI]
 ·rw [if_pos h1, if_neg h1]
  cases ng f x <;> simp [isN, isS, eqI]
theorem ypZ (f x : Nat) (hf : fin f x) : yfQ f x = 0 ↔ mg f x = 0 := by
 rw [yqd f x hf, yjK]
 have hp := Nat.two_pow_pos (fp f - 1)
 split
 ·rename_i h; simp [h]
 ·rename_i h; constructor
  ·intro; omega
  ·rintro ⟨h1, _⟩; exact absurd h1 h
def eL (f : Nat) : Int := 2 - (fe f : Int) - fp f
theorem ysO (f x : Nat) (hf : fin f x) : V (ng f x) (yfQ f x) 1 (yhJ f x) = sR (ng f x) * (Nm (fp f - 1) (mg f x) : Rat) * p2 (eL f) := by
 have hN : Nm (fp f - 1) (mg f x) = if ex f x = 0 then fr f x else (fr f x + 2 ^ (fp f - 1)) * 2 ^ (ex f x - 1) := yq7 _ _ _ (yl4 f x)
 by_cases h0 : mg f x = 0
 ·rw [(ypZ f x hf).2 h0, yd1, h0, ymf, show ((0 : Nat) : Rat) = 0 from rfl]; grind
 ·rw [yqd f x hf, ysu f x hf h0, hN]
  by_cases h1 : ex f x = 0
  ·rw [if_pos h1, if_pos h1, if_pos h1]
   unfold V eL
   rw [show ((1 : Nat) : Rat) = 1 from rfl]; grind
  ·rw [if_neg h1, if_neg h1, if_neg h1]
   have : (ex f x : Int) + 1 - fe f - fp f = eL f + ((ex f x - 1 : Nat) : Int) := by unfold eL; omega
   rw [this, ← ypk]
   unfold V
   rw [show ((1 : Nat) : Rat) = 1 from rfl]; grind
end Go.Ev.S

/- Exact numbers compared, as rational ones; encodings compared by their values. -/
set_option linter.unusedVariables false
set_option linter.unusedSimpArgs false
set_option maxRecDepth 8000
namespace Go.Ev.S
open Go Go.Ev
theorem yba {x y d : Rat} (hd : 0 < d) : x * d < y * d ↔ x < y := by
 constructor
 ·intro hh
  apply Classical.byContradiction; intro hn
  have h1 : y ≤ x := by grind
  have h2 := Rat.mul_le_mul_of_nonneg_right h1 (show 0 ≤ d by grind)
  grind
 ·intro hh; exact Rat.mul_lt_mul_of_pos_right hh hd
theorem ifc {p q : Prop} [Decidable p] [Decidable q] (h : p ↔ q) (a b : Int) : (if p then a else b) = if q then a else b := by
 by_cases hq : q
 ·rw [if_pos hq, if_pos (h.2 hq)]
 ·rw [if_neg hq, if_neg fun hp => hq (h.1 hp)]
def yoG (r s : Rat) : Int := if r < s then -1 else if s < r then 1 else 0
theorem yno {x y d : Rat} (hd : 0 < d) : yoG (x * d) (y * d) = yoG x y := by
 unfold yoG; rw [ifc (yba hd), ifc (yba (x := y) (y := x) hd)]
theorem yqS (a b : Nat) : yoG (a : Rat) (b : Rat) = sgn a b := by
 unfold yoG sgn
 rw [ifc Rat.natCast_lt_natCast, ifc (Rat.natCast_lt_natCast (a := b) (b := a))]
theorem yrw (x y : Rat) : yoG (-x) (-y) = -yoG x y := by
 unfold yoG
 have e1 : (-x < -y) ↔ y < x := by constructor <;> intro <;> grind
 have e2 : (-y < -x) ↔ x < y := by constructor <;> intro <;> grind
 rw [ifc e1, ifc e2]
 have h3 : ¬ (x < y ∧ y < x) := by rintro ⟨h1, h2⟩; grind
 by_cases h1 : y < x <;> by_cases h2 : x < y <;> simp_all
theorem yuh (n : Bool) (a b b' : Nat) (e m : Int) (hb : b ≠ 0) (hm : m ≤ e) : V n a b e * ((b * b' : Nat) : Rat) = sR n * (lv a b' e m : Rat) * p2 m := by
 have h1 := ypC n a b e hb
 have e1 : (lv a b' e m : Rat) = (a : Rat) * b' * p2 ((e - m).toNat : Int) := by
  unfold lv; rw [Rat.natCast_mul, Rat.natCast_mul, ycU]
 have e2 : p2 ((e - m).toNat : Int) * p2 m = p2 e := by rw [← ycJ]; congr 1; omega
 rw [e1, Rat.natCast_mul]
 grind
section
variable {n1 n2 : Bool} {a1 b1 a2 b2 : Nat} {e1 e2 : Int}
theorem ytP (c1 : Can n1 a1 b1 e1) (c2 : Can n2 a2 b2 e2) (hs : n1 = n2) : yoG (V n1 a1 b1 e1) (V n2 a2 b2 e2) = cond n1 (-1) 1 * sgn (lv a1 b2 e1 (mn e1 e2)) (lv a2 b1 e2 (mn e1 e2)) := by
 subst hs
 have hD : 0 < ((b1 * b2 : Nat) : Rat) := yei (Nat.mul_ne_zero c1.b0 c2.b0)
 have g1 := yuh n1 a1 b1 b2 e1 (mn e1 e2) c1.b0 (by unfold mn; split <;> omega)
 have g2 := yuh n1 a2 b2 b1 e2 (mn e1 e2) c2.b0 (by unfold mn; split <;> omega)
 rw [Nat.mul_comm b2 b1] at g2
 rw [← yno hD, g1, g2, yno (yc1 _), ← yqS]
 cases n1 with
 | false => show yoG (1 * _) (1 * _) = 1 * _; rw [Rat.one_mul, Rat.one_mul, Int.one_mul]
 | true =>
  show yoG (-1 * _) (-1 * _) = -1 * _
  rw [show ∀ r : Rat, -1 * r = -r from fun r => by grind, show ∀ r : Rat, -1 * r = -r from fun r => by grind, yrw]; omega
end
theorem ykX {x : Nat} (h : x < Q6) : fit x := by
 unfold fit
 obtain ⟨N, hN⟩ : ∃ N, N = 48 := ⟨_, rfl⟩
 have : (nb x).length ≤ N := by rw [ya7, ynU, yts hN]; exact h
 omega
theorem ydu : fit 1 := by unfold fit; rw [ycO]; decide
theorem ymm (f x : Nat) (h : f ≤ 3) : yfQ f x < 2 ^ fp f := by
 have h1 := yl4 f x
 have h2 : 2 ^ fp f = 2 ^ (fp f - 1) + 2 ^ (fp f - 1) := by
  rcases yeq h with rfl | rfl | rfl | rfl <;> decide
 have hp := Nat.two_pow_pos (fp f - 1)
 unfold yfQ
 cases isN (cls f x) <;> cases isS (cls f x) <;> simp only [cond_true, cond_false] <;> omega
theorem ylW (f x : Nat) (h : f ≤ 3) : yfQ f x < Q6 := yr2 (by have := yct f h; omega) (ymm f x h)
theorem yiM (f x : Nat) (h : f ≤ 3) : -16495 ≤ yhJ f x ∧ yhJ f x ≤ 16272 := by
 have h1 := yqD f x
 unfold yhJ
 rcases yeq h with rfl | rfl | rfl | rfl <;> simp only [fe, fp] at * <;> cases isN (cls _ x) <;> cases isS (cls _ x) <;> simp only [cond_true, cond_false] <;> omega
theorem ynY {x n : Nat} (h0 : x ≠ 0) (h : x < 2 ^ n) : ybm x < n := yfX x n h0 h
theorem ysb (f x : Nat) (h : f ≤ 3) (h0 : yfQ f x ≠ 0) : -16495 ≤ rdE (yfQ f x) 1 (yhJ f x) ∧ rdE (yfQ f x) 1 (yhJ f x) ≤ 16385 := by
 have h1 := yiM f x h
 have h2 := ynY h0 (ymm f x h)
 have h3 : ybm 1 = 0 := by rw [ybm]; simp
 have h4 : fp f ≤ 113 := by rcases yeq h with rfl | rfl | rfl | rfl <;> decide
 unfold rdE; rw [h3]; omega
theorem ynm (f x : Nat) (h : f ≤ 3) (K : Bool → List UInt8 → List UInt8 → Int → Int → Prop)
  (hK : ∀ n a e, Can n a 1 e → V n a 1 e = V (ng f x) (yfQ f x) 1 (yhJ f x) → a < 2 ^ fp f → -16495 ≤ e → e ≤ 16385 → K n (nb a) [1] e 0) : mkE (ng f x) (yfQ f x) 1 (yhJ f x) K := by
 unfold mkE
 by_cases h0 : yfQ f x = 0
 ·rw [if_pos h0]
  have := hK false 0 0 ⟨by unfold fit; rw [yaJ]; decide, ydu, rfl, by unfold win; omega, fun _ => ⟨rfl, rfl, rfl⟩, fun h => absurd rfl h⟩ (by rw [h0, yd1, yd1]) (Nat.two_pow_pos _) (by omega) (by omega)
  rwa [yaJ] at this
 ·rw [if_neg h0]
  have w := ysb f x h h0
  rw [if_pos (by unfold win; omega)]
  have e1 : rdB (yfQ f x) 1 = 1 := by
   have : odp 1 = 1 := by unfold odp; rw [show ybm 1 = 0 from by rw [ybm]; simp]
   unfold rdB; rw [this, Nat.gcd_one_right]
  obtain ⟨r1, r2, r3⟩ := yjz h0 (show (1 : Nat) ≠ 0 by omega)
  have hV := yuD (ng f x) (yhJ f x) h0 (show (1 : Nat) ≠ 0 by omega)
  rw [e1] at hV r3 ⊢
  rw [ycO]
  have hl : rdA (yfQ f x) 1 ≤ yfQ f x := Nat.le_trans (Nat.div_le_self _ _) (Nat.div_le_self _ _)
  exact hK _ _ _ ⟨ydI (ykX (ylW f x h)) hl, ydu, rfl, by unfold win; omega, fun hh => by omega, fun _ => ⟨r1, r3⟩⟩ hV (Nat.lt_of_le_of_lt hl (ymm f x h)) w.1 w.2
end Go.Ev.S

/- Exact numbers added, multiplied, compared, measured: the abacus. -/
set_option linter.unusedVariables false
set_option linter.unusedSimpArgs false
set_option maxRecDepth 8000
namespace Go.Ev.S
open Go Go.Ev
theorem ypb (e : Int) (a : List UInt8) (f : Int) (K : List UInt8 → Int → Prop) : zam e a f K = if e = 0 then K a f else K a e := by
 rw [zam.is]; unfold zam.d
 by_cases h : e = 0
 ·rw [yaA (yhy h), if_pos h]
 ·rw [yau (yfN h), if_neg h]
theorem ycZ (a : List UInt8) (f : Int) (K : List UInt8 → Int → Prop) : zam 0 a f K = K a f := by rw [ypb]; rfl
theorem ygg (a : List UInt8) (f : Int) (K : List UInt8 → Int → Prop) : zam 4 a f K = K a 4 := by rw [ypb]; rfl
theorem yc6 (n1 : Bool) (x1 y1 : List UInt8) (e1 : Int) (n2 : Bool) (x2 y2 : List UInt8) (e2 : Int) (K : Bool → Prop) (h1 : MayE n1 x1 y1 e1 → MayE n2 x2 y2 e2 → K true) (h2 : ¬ (MayE n1 x1 y1 e1 ∧ MayE n2 x2 y2 e2) → K false) : zaq n1 x1 y1 e1 n2 x2 y2 e2 K := by
 rw [zaq.is]; unfold zaq.d
 refine yaY _ _ _ _ _ (fun g1 => ?_) fun g1 => ?_
 ·rw [yaA (by rfl)]
  refine yaY _ _ _ _ _ (fun g2 => ?_) fun g2 => ?_
  ·exact h1 g1 g2
  ·exact h2 fun h => g2 h.2
 ·rw [yau (by rfl)]; exact h2 fun h => g1 h.1
theorem ysq (a b : Int) : ylF a b = mn a b := by rw [yhS]; rfl
theorem ynA : fit 0 := by unfold fit; rw [yaJ]; decide
theorem ygu {a : List UInt8} (ha : May a) (n : Int) (h0 : 0 ≤ n) (hn : n < 9223372036854775808) {K : List UInt8 → Int → Prop} (h : ∀ b e, May b → (e = 0 ∨ e = 4) → K b e) : zbk a n K := by
 refine yja n h0 hn ha (ybS (fun f => h _ _ (ybl f) (.inl rfl)) fun _ => h _ _ yh4 (.inr rfl))
section
variable {n1 n2 : Bool} {a1 b1 a2 b2 : Nat} {e1 e2 : Int}
theorem yeI (c1 : Can n1 a1 b1 e1) (c2 : Can n2 a2 b2 e2) (K : List UInt8 → List UInt8 → Int → Int → Prop)
  (h1 : fit (lv a1 b2 e1 (mn e1 e2)) → fit (lv a2 b1 e2 (mn e1 e2)) → K (nb (lv a1 b2 e1 (mn e1 e2))) (nb (lv a2 b1 e2 (mn e1 e2))) (mn e1 e2) 0)
  (h2 : ¬ (fit (lv a1 b2 e1 (mn e1 e2)) ∧ fit (lv a2 b1 e2 (mn e1 e2))) → ∀ u v m, K u v m 4) : zan n1 (nb a1) (nb b1) e1 n2 (nb a2) (nb b2) e2 K := by
 have w1 := c1.e64
 have w2 := c2.e64
 have l1 : mn e1 e2 ≤ e1 := by unfold mn; split <;> omega
 have l2 : mn e1 e2 ≤ e2 := by unfold mn; split <;> omega
 have l3 : -1048576 ≤ mn e1 e2 := by unfold mn; split <;> omega
 rw [zan.is]; unfold zan.d
 rw [ysq, yat (by omega) (by omega), yat (by omega) (by omega)]
 have bad : ¬ (fit (lv a1 b2 e1 (mn e1 e2)) ∧ fit (lv a2 b1 e2 (mn e1 e2))) → ∀ x y, May x → May y → zbk x (e1 - mn e1 e2) fun y0 y1_2 => zam 4 y0 y1_2 fun y0 y1 => zbk y (e2 - mn e1 e2) fun y0_3 y1_3 => zam y1 y0_3 y1_3 fun y0_4 y1 => K y0 y0_4 (mn e1 e2) y1 := by
  intro hb x y mx my
  refine ygu mx _ (by omega) (by omega) fun u e _ _ => ?_
  rw [ygg]
  refine ygu my _ (by omega) (by omega) fun v e _ _ => ?_
  rw [ygg]; exact h2 hb _ _ _
 refine yfo c1.fa c2.fb (ybS (fun f1 => ?_) fun f1 => ?_)
 ·rw [ycZ]
  refine yfo c2.fa c1.fb (ybS (fun f2 => ?_) fun f2 => ?_)
  ·rw [ycZ]
   refine ycb _ (by omega) (by omega) f1 (ybS (fun f3 => ?_) fun f3 => ?_)
   ·rw [ycZ]
    refine ycb _ (by omega) (by omega) f2 (ybS (fun f4 => ?_) fun f4 => ?_)
    ·rw [ycZ]; exact h1 f3 f4
    ·rw [ycZ]; exact h2 (fun h => f4 h.2) _ _ _
   ·rw [ycZ]
    refine ycb _ (by omega) (by omega) f2 (ybS (fun f4 => ?_) fun f4 => ?_) <;> (rw [ygg]; exact h2 (fun h => f3 h.1) _ _ _)
  ·rw [ycZ]
   exact bad (fun h => f2 (yhD h.2)) _ _ (ybl f1) yh4
 ·rw [ycZ]
  refine yfo c2.fa c1.fb (ybS (fun f2 => ?_) fun f2 => ?_)
  ·rw [ygg]
   exact bad (fun h => f1 (yhD h.1)) _ _ yh4 (ybl f2)
  ·rw [ygg]
   exact bad (fun h => f1 (yhD h.1)) _ _ yh4 yh4
theorem ykh (c1 : Can n1 a1 b1 e1) (c2 : Can n2 a2 b2 e2) (K : Bool → List UInt8 → List UInt8 → Int → Int → Prop) (h : yty n1 a1 b1 e1 n2 a2 b2 e2 K) :
  zad n1 (nb a1) (nb b1) e1 n2 (nb a2) (nb b2) e2 K := by
 rw [zad.is]; unfold zad.d
 refine yc6 _ _ _ _ _ _ _ _ _ (fun _ _ => ?_) fun hh => absurd ⟨c1.may, c2.may⟩ hh
 rw [yau (by rfl)]
 unfold yty at h
 rw [ycX, ycX]
 refine yeg (fun h0 => ?_) fun h0 => ?_
 ·rw [if_pos h0] at h; exact h
 rw [if_neg h0] at h
 refine yeg (fun h0 => ?_) fun h0 => ?_
 ·rw [if_pos h0] at h; exact h
 rw [if_neg h0] at h
 refine yeI c1 c2 _ (fun f1 f2 => ?_) fun hf u v m => ?_
 rotate_left
 ·rw [yaA (by rfl)]; rw [if_neg fun hh => hf ⟨hh.1, hh.2.1⟩] at h; exact h
 rw [yau (by rfl)]
 have hb : b1 * b2 ≠ 0 := Nat.mul_ne_zero c1.b0 c2.b0
 have hw := ytm c1.we c2.we
 rw [yrf]
 refine yfo c1.fb c2.fb (ybS (fun f3 => ?_) fun f3 => ?_)
 ·rw [if_pos ⟨f1, f2, f3⟩] at h
  rw [ycZ]
  refine yeg (fun hn => ?_) fun hn => ?_
  ·rw [if_pos hn] at h
   refine yhg f1 f2 (ybS (fun f4 => ?_) fun f4 => ?_)
   ·rw [if_pos f4] at h
    rw [ycZ, yau (by rfl)]
    exact ycj n1 f4 f3 hb hw h
   ·rw [if_neg f4] at h
    rw [ycZ, yaA (by rfl)]; exact h
  ·rw [if_neg hn] at h
   refine yd5 f1 f2 ?_
   rw [ypi]
   refine yeg (fun hl => ?_) fun hl => ?_
   ·rw [if_pos hl] at h
    refine yfc f1 f2 hl ?_
    rw [ycZ, yau (by rfl)]
    exact ycj n1 (ydI f1 (Nat.sub_le _ _)) f3 hb hw h
   ·rw [if_neg hl] at h
    refine yfc f2 f1 (by omega) ?_
    rw [ycZ, yau (by rfl)]
    exact ycj n2 (ydI f2 (Nat.sub_le _ _)) f3 hb hw h
 ·rw [if_neg fun hh => f3 hh.2.2] at h
  rw [ycZ]
  refine yeg (fun hn => ?_) fun hn => ?_
  ·refine yhg f1 f2 (ybS (fun f4 => ?_) fun f4 => ?_) <;> (rw [ygg, yaA (by rfl)]; exact h)
  ·refine yd5 f1 f2 ?_
   rw [ypi]
   refine yeg (fun hl => ?_) fun hl => ?_
   ·refine yfc f1 f2 hl ?_
    rw [ygg, yaA (by rfl)]; exact h
   ·refine yfc f2 f1 (by omega) ?_
    rw [ygg, yaA (by rfl)]; exact h
theorem yko (s : Bool) {a b : Nat} {e : Int} (c : Can s a b e) (K : Bool → List UInt8 → List UInt8 → Int → Prop) (h : K (!s && decide (a ≠ 0)) (nb a) (nb b) e) : zai s (nb a) (nb b) e K := by
 rw [zai.is]; unfold zai.d
 refine yaY _ _ _ _ _ (fun _ => ?_) fun hh => absurd c.may hh
 rw [yau (by rfl), ycX]
 cases s with
 | true => exact h
 | false =>
  rw [show (!false && decide (a ≠ 0)) = !decide (a = 0) from by simp] at h; exact h
theorem Can.neg {s : Bool} {a b : Nat} {e : Int} (c : Can s a b e) : Can (!s && decide (a ≠ 0)) a b e :=
 ⟨c.fa, c.fb, c.ob, c.we, fun h => ⟨by simp [h], (c.z h).2⟩, c.r⟩
theorem ylu (c1 : Can n1 a1 b1 e1) (c2 : Can n2 a2 b2 e2) (K : Bool → List UInt8 → List UInt8 → Int → Int → Prop) (h : yty n1 a1 b1 e1 (!n2 && decide (a2 ≠ 0)) a2 b2 e2 K) :
  zak n1 (nb a1) (nb b1) e1 n2 (nb a2) (nb b2) e2 K := by
 rw [zak.is]; unfold zak.d
 refine yc6 _ _ _ _ _ _ _ _ _ (fun _ _ => ?_) fun hh => absurd ⟨c1.may, c2.may⟩ hh
 rw [yau (by rfl)]
 refine yko n2 c2 _ ?_
 exact ykh c1 c2.neg K h
theorem ybG (s : Bool) {a b : Nat} {e : Int} (c : Can s a b e) (K : Int → Prop) (h : K (sgE s a)) : zaj s (nb a) (nb b) e K := by
 rw [zaj.is]; unfold zaj.d
 refine yaY _ _ _ _ _ (fun _ => ?_) fun hh => absurd c.may hh
 rw [yau (by rfl), ycX]
 unfold sgE at h
 by_cases h0 : a = 0
 ·rw [yaA (by simpa using h0)]; rw [if_pos h0] at h; exact h
 ·rw [yau (by simpa using h0)]; rw [if_neg h0] at h; cases s <;> exact h
theorem ydV (s : Bool) {a b : Nat} {e : Int} (c : Can s a b e) (K : Bool → List UInt8 → List UInt8 → Int → Prop) (h : K false (nb a) (nb b) e) : zac s (nb a) (nb b) e K := by
 rw [zac.is]; unfold zac.d
 refine yaY _ _ _ _ _ (fun _ => ?_) fun hh => absurd c.may hh
 rw [yau (by rfl)]; exact h
theorem ykK (c1 : Can n1 a1 b1 e1) (c2 : Can n2 a2 b2 e2) (K : Int → Int → Prop) (h : yt4 n1 a1 b1 e1 n2 a2 b2 e2 K) : zaf n1 (nb a1) (nb b1) e1 n2 (nb a2) (nb b2) e2 K := by
 rw [zaf.is]; unfold zaf.d
 refine yc6 _ _ _ _ _ _ _ _ _ (fun _ _ => ?_) fun hh => absurd ⟨c1.may, c2.may⟩ hh
 rw [yau (by rfl)]
 refine ybG n1 c1 _ ?_
 refine ybG n2 c2 _ ?_
 unfold yt4 at h
 by_cases l1 : sgE n1 a1 < sgE n2 a2
 ·rw [yaA (ya9 l1)]; rw [if_pos l1] at h; exact h
 rw [yau (ybq (by omega))]
 rw [if_neg l1] at h
 by_cases l2 : sgE n2 a2 < sgE n1 a1
 ·rw [yaA (ya9 l2)]; rw [if_pos l2] at h; exact h
 rw [yau (ybq (by omega))]
 rw [if_neg l2] at h
 by_cases l3 : sgE n1 a1 = 0
 ·rw [yaA (yhy l3)]; rw [if_pos l3] at h; exact h
 rw [yau (yfN l3)]
 rw [if_neg l3] at h
 refine yeI c1 c2 _ (fun f1 f2 => ?_) fun hf u v m => ?_
 ·rw [yau (by rfl)]
  rw [if_pos ⟨f1, f2⟩] at h
  refine yd5 f1 f2 ?_
  rw [ysB (yly _ _) (yoU _ _)]; exact h
 ·rw [yaA (by rfl)]
  rw [if_neg hf] at h; exact h
end
theorem ygw (n : Bool) {a b : Nat} {e : Int} (c : Can n a b e) (h0 : a ≠ 0) (K : Int → Prop) (h2 : K (tp a b + e)) : zar n (nb a) (nb b) e K := by
 have w := c.e64
 have la := yfx c.fa
 have lb := yfx c.fb
 rw [zar.is]; unfold zar.d
 refine yfg c.fa ?_
 refine yfg c.fb ?_
 rw [yat (by omega) (by omega)]
 unfold tp at h2
 by_cases hl : yaw b ≤ yaw a
 ·rw [if_pos hl] at h2
  rw [yaA (ybb (by omega))]
  have et : ((yaw a : Int) - yaw b).toNat = yaw a - yaw b := by omega
  have hf := yrE c.fa c.b0 hl
  refine ycb _ (by omega) (by omega) c.fb (ybS (fun f => ?_) fun f => absurd (by rw [et]; exact hf) f)
  refine yd5 c.fa f ?_
  rw [et, ypt]
  refine yea (fun h3 => ?_) fun h3 => ?_
  ·rw [if_neg h3] at h2
   rw [yat (by omega) (by omega), yas (by omega) (by omega), show ((yaw a : Int) - yaw b - 1 + e) = ((yaw a - yaw b : Nat) : Int) - 1 + e from by omega]; exact h2
  ·rw [if_pos h3] at h2
   rw [yas (by omega) (by omega), show ((yaw a : Int) - yaw b + e) = ((yaw a - yaw b : Nat) : Int) + e from by omega]; exact h2
 ·rw [if_neg hl] at h2
  rw [yau (yff (by omega))]
  have en : yrG .i64 ((yaw a : Int) - yaw b) = (yaw b : Int) - yaw a := by
   show IntKind.wrap .i64 _ = _
   rw [yd0 (by omega) (by omega)]; omega
  have et : ((yaw b : Int) - yaw a).toNat = yaw b - yaw a := by omega
  have hf := yrE c.fb h0 (show yaw a ≤ yaw b by omega)
  rw [en]
  refine ycb _ (by omega) (by omega) c.fa (ybS (fun f => ?_) fun f => absurd (by rw [et]; exact hf) f)
  refine yd5 f c.fb ?_
  rw [et, ypt]
  refine yea (fun h3 => ?_) fun h3 => ?_
  ·rw [if_neg h3] at h2
   rw [yat (by omega) (by omega), yas (by omega) (by omega), show ((yaw a : Int) - yaw b - 1 + e) = -((yaw b - yaw a : Nat) : Int) - 1 + e from by omega]; exact h2
  ·rw [if_pos h3] at h2
   rw [yas (by omega) (by omega), show ((yaw a : Int) - yaw b + e) = -((yaw b - yaw a : Nat) : Int) + e from by omega]; exact h2
theorem ygm (n : Bool) {a b : Nat} {e : Int} (c : Can n a b e) (K : Int → Int → Prop) (h1 : a = 0 → K 0 2) (h2 : a ≠ 0 → K (tp a b + e) 0) : zal n (nb a) (nb b) e K := by
 rw [zal.is]; unfold zal.d
 refine yaY _ _ _ _ _ (fun _ => ?_) fun hh => absurd c.may hh
 rw [yau (by rfl), ycX]
 refine yeg h1 fun h0 => ?_
 exact ygw n c h0 _ (h2 h0)
theorem yeJ (s : Bool) {a b : Nat} {e : Int} (c : Can s a b e) (n : Int) (hn : -9223372036854775808 ≤ n ∧ n < 9223372036854775808) (K : List UInt8 → Bool → Int → Prop) (h : ys8 a b e n K) : zag s (nb a) (nb b) e n K := by
 have w := c.e64
 rw [zag.is]; unfold zag.d
 refine yaY _ _ _ _ _ (fun _ => ?_) fun hh => absurd c.may hh
 rw [yau (by rfl)]
 unfold ys8 at h
 by_cases g1 : n < -2097152
 ·rw [yaA (ya9 g1)]; rw [if_pos (.inl g1)] at h; exact h
 rw [yau (ybq (by omega))]
 by_cases g2 : 2097152 < n
 ·rw [yaA (ya9 g2)]; rw [if_pos (.inr g2)] at h; exact h
 rw [yau (ybq (by omega)), ycX]
 rw [if_neg (by omega)] at h
 refine yeg (fun h0 => ?_) fun h0 => ?_
 ·rw [if_pos h0] at h; exact h
 rw [if_neg h0] at h
 by_cases g3 : n ≤ e
 ·rw [yaA (ybb g3)]
  rw [if_pos g3] at h
  rw [yat (by omega) (by omega)]
  refine ycb _ (by omega) (by omega) c.fa (ybS (fun f1 => ?_) fun f1 => ?_)
  ·rw [if_pos f1] at h
   rw [yau (by rfl)]
   refine ykg f1 c.fb c.b0 ?_
   rw [ycX]; exact h
  ·rw [if_neg f1] at h
   rw [yaA (by rfl)]; exact h
 ·rw [yau (yff (by omega))]
  rw [if_neg g3] at h
  refine ygw s c h0 _ ?_
  by_cases g4 : tp a b + e < n
  ·rw [yaA (ya9 g4)]; rw [if_pos g4] at h; exact h
  rw [yau (ybq (by omega))]
  rw [if_neg g4] at h
  have hf := ysz h0 c.b0 c.fa g3 g4
  rw [yat (by omega) (by omega)]
  refine ycb _ (by omega) (by omega) c.fb (ybS (fun f1 => ?_) fun f1 => absurd hf f1)
  refine ykg c.fa hf (Nat.mul_ne_zero c.b0 (Nat.pos_iff_ne_zero.1 (Nat.two_pow_pos _))) ?_
  rw [ycX]; exact h
end Go.Ev.S

/- Encodings of exact numbers. -/
set_option linter.unusedVariables false
set_option linter.unusedSimpArgs false
set_option maxRecDepth 8000
namespace Go.Ev.S
open Go Go.Ev
theorem yup (e k t : Nat) (ht : t < 2 ^ k) : (e * 2 ^ k) ||| t = e * 2 ^ k + t := by
 rw [Nat.mul_comm]; exact (Nat.two_pow_add_eq_or_of_lt ht e).symm
theorem yfs (f e t : Nat) (h : f ≤ 3) (he : e ≤ 2 * fe f + 1) (ht : t < 2 ^ (fp f - 1)) (neg : Bool) (K : Int → Int → Prop) (hK : K (Hi (enc f neg e t)) (Lo (enc f neg e t))) : zay f neg e (W t) K := by
 obtain ⟨w1, w2, w3, w4, w5, w6⟩ := yct f h
 have hb := yjR h he ht
 have hen := yqj h he ht neg
 have hb' : e * 2 ^ (fp f - 1) + t < Q6 := yr2 (by omega) hb
 have he1 : e * 2 ^ (fp f - 1) < Q6 := by omega
 have ht1 : t < Q6 := yr2 (by omega) ht
 rw [zay.is]; unfold zay.d
 rw [yaU (by omega) (by omega), ynX e (by omega), yaI f h, ypa f h]
 refine yjq e (fp f - 1) (yr2 (a := 64) (by omega) (by omega)) (by omega) _ fun bb => ?_
 rw [Nat.mod_eq_of_lt he1]
 refine yoC _ _ he1 ht1 _ ?_
 rw [yup _ _ _ ht]
 cases neg with
 | false =>
  rw [yau rfl]
  rw [yeO _ (yud (by omega) hb)]
  have : enc f false e t = e * 2 ^ (fp f - 1) + t := by simp [enc, sg]
  rw [this] at hK; exact hK
 | true =>
  have e1 : enc f true e t = e * 2 ^ (fp f - 1) + t + 2 ^ (fw f - 1) := by simp [enc, sg]; omega
  rw [e1] at hK hen
  have q1 : yaG IntKind.i64 (yan IntKind.i64 (fw f : Int) 1) 64 = (((fw f - 1) / 64 : Nat) : Int) := by rw [yrt f h, ypU _ (by omega)]
  have q2 : cvI IntKind.u64 (ycg IntKind.i64 (yan IntKind.i64 (fw f : Int) 1) 64) = (((fw f - 1) % 64 : Nat) : Int) := by rw [yrt f h, yo3, yaU (by omega) (by omega)]
  have g1 : (leI 0 (((fw f - 1) / 64 : Nat) : Int) && ltI (((fw f - 1) / 64 : Nat) : Int) 6) = true := ybN (by omega) (by omega)
  have g2 : (!ltI (((fw f - 1) % 64 : Nat) : Int) 0) = true := yhY (by omega)
  rw [yaA rfl, ybe f h, q1, q2, yby g1, yby g2, yby g1, Int.toNat_natCast, ymR, yrJ _ _ hb, yeO _ (yud (by omega) hen)]
  exact hK
def pl (f : Nat) (t : Int) : Int := (if t < 1 - fe f then 1 - (fe f : Int) else t) - fp f + 1
def yeD (f : Nat) (n : Bool) (at_ : Int) (w : Nat) : Nat := sg f n + ((at_ + fe f + fp f - 2).toNat * 2 ^ (fp f - 1) + w)
theorem yr1 {f : Nat} (h : f ≤ 3) (n : Bool) {t : Int} {w : Nat} (h1 : 2 ^ (fp f - 1) ≤ w) (h2 : w < 2 ^ fp f) :
  yeD f n (pl f t) w = enc f n ((pl f t + fe f + fp f - 2).toNat + 1) (w % 2 ^ (fp f - 1)) := by
 have e2 : 2 ^ fp f = 2 ^ (fp f - 1) + 2 ^ (fp f - 1) := by rcases yeq h with rfl | rfl | rfl | rfl <;> decide
 have e3 : w % 2 ^ (fp f - 1) = w - 2 ^ (fp f - 1) := by
  rw [Nat.mod_eq_sub_mod h1, Nat.mod_eq_of_lt (by omega)]
 rw [e3]; unfold yeD enc
 rw [Nat.add_mul]; omega
theorem ys1 {f : Nat} (n : Bool) {t : Int} {w : Nat} (ht : t < 1 - fe f) : yeD f n (pl f t) w = enc f n 0 w := by
 unfold yeD enc pl
 rw [if_pos ht, show (1 - (fe f : Int) - fp f + 1 + fe f + fp f - 2).toNat = 0 from by omega, Nat.add_assoc]
theorem yrI {a : Nat} (h : a ≠ 0) : tp a 1 = (yaw a : Int) - 1 := by
 have h1 : yaw 1 = 1 := by decide
 have h2 := yj9 h
 have h3 : 1 ≤ yaw a := by
  rcases Nat.eq_zero_or_pos (yaw a) with h0 | h0
  ·have := (yaT a 0).1 (by omega); omega
  ·exact h0
 unfold tp
 rw [h1, if_pos h3, Nat.one_mul, if_pos h2]; omega
def ofE (f : Nat) (n : Bool) (a b : Nat) (e : Int) (K : Int → Int → Bool → Prop) : Prop :=
 if a = 0 then K 0 0 true else if b ≠ 1 ∨ (fe f : Int) < tp a b + e ∨ e < pl f (tp a b + e) then K 0 0 false else
  K (Hi (yeD f n (pl f (tp a b + e)) (a * 2 ^ (e - pl f (tp a b + e)).toNat))) (Lo (yeD f n (pl f (tp a b + e)) (a * 2 ^ (e - pl f (tp a b + e)).toNat))) true
theorem yqn {a : Nat} (h : a ≠ 0) (k : Nat) : 2 ^ (yaw a - 1 + k) ≤ a * 2 ^ k ∧ a * 2 ^ k < 2 ^ (yaw a + k) := by
 rw [Nat.pow_add, Nat.pow_add]
 exact ⟨Nat.mul_le_mul_right _ (yj9 h), Nat.mul_lt_mul_of_pos_right ((yaT a _).1 (Nat.le_refl _)) (Nat.two_pow_pos k)⟩
theorem yjA {f : Nat} (h : f ≤ 3) (t : Int) (h1 : t ≤ fe f) : -16494 ≤ pl f t ∧ pl f t ≤ 16384 ∧ 0 ≤ pl f t + fe f + fp f - 2 := by
 unfold pl
 rcases yeq h with rfl | rfl | rfl | rfl <;> simp only [fe, fp] at * <;> split <;> omega
theorem ysL {w : Nat} (h : w < Q6) : May (nb w) ∧ (nb w).length ≤ 48 := by
 refine ⟨ybl (ykX h), ?_⟩
 obtain ⟨N, hN⟩ : ∃ N, N = 48 := ⟨_, rfl⟩
 have : (nb w).length ≤ N := by rw [ya7, ynU, yts hN]; exact h
 omega
theorem ylw {w : Nat} (h : w < Q6) (K : (Nat → Int) → Bool → Prop) (hK : K (W w) true) : zbs (nb w) K := by
 refine ykb _ _ ?_
 rw [if_pos (ysL h), yaZ]; exact hK
theorem yr9 {w p : Nat} (hp : 1 ≤ p) (hw : w < 2 ^ p) : w.testBit (p - 1) = decide (2 ^ (p - 1) ≤ w) := by
 have e2 : 2 ^ p = 2 ^ (p - 1) + 2 ^ (p - 1) := by obtain ⟨q, rfl⟩ : ∃ q, p = q + 1 := ⟨p - 1, by omega⟩; rw [Nat.pow_succ, Nat.add_sub_cancel]; omega
 by_cases h : 2 ^ (p - 1) ≤ w
 ·rw [decide_eq_true h, show w = 2 ^ (p - 1) + (w - 2 ^ (p - 1)) from by omega, Nat.testBit_two_pow_add_eq, Nat.testBit_lt_two_pow (by omega)]; rfl
 ·rw [decide_eq_false h, Nat.testBit_lt_two_pow (by omega)]
section
variable {n : Bool} {a b : Nat} {e : Int}
theorem ytN {f : Nat} (h : f ≤ 3) (h0 : a ≠ 0) (h1 : ¬ (b ≠ 1 ∨ (fe f : Int) < tp a b + e ∨ e < pl f (tp a b + e))) :
  a * 2 ^ (e - pl f (tp a b + e)).toNat < 2 ^ fp f ∧ (1 - (fe f : Int) ≤ tp a b + e ↔ 2 ^ (fp f - 1) ≤ a * 2 ^ (e - pl f (tp a b + e)).toNat) := by
 obtain ⟨w1, w2, w3, w4, w5, w6⟩ := yct f h
 have hb : b = 1 := by omega
 subst hb
 have ht := yrI h0
 have hm := yqn h0 (e - pl f (tp a 1 + e)).toNat
 have h3 : 1 ≤ yaw a := by
  rcases Nat.eq_zero_or_pos (yaw a) with hh | hh
  ·have := (yaT a 0).1 (by omega); omega
  ·exact hh
 have hpl : pl f (tp a 1 + e) ≤ e := by omega
 by_cases hs : tp a 1 + e < 1 - fe f
 ·have hp1 : pl f (tp a 1 + e) = 2 - fe f - fp f := by unfold pl; rw [if_pos hs]; omega
  have l1 : yaw a + (e - pl f (tp a 1 + e)).toNat ≤ fp f - 1 := by omega
  have l2 := Nat.pow_le_pow_right (show 0 < 2 by omega) l1
  have l3 := Nat.pow_lt_pow_right (show 1 < 2 by omega) (show fp f - 1 < fp f by omega)
  exact ⟨by omega, by omega, by omega⟩
 ·have hp1 : pl f (tp a 1 + e) = tp a 1 + e - fp f + 1 := by unfold pl; rw [if_neg hs]
  have l1 : yaw a + (e - pl f (tp a 1 + e)).toNat = fp f := by omega
  have l2 : yaw a - 1 + (e - pl f (tp a 1 + e)).toNat = fp f - 1 := by omega
  rw [l1, l2] at hm
  exact ⟨by omega, fun _ => by omega, fun _ => by omega⟩
theorem yiN (f : Nat) (h : f ≤ 3) (c : Can n a b e) (K : Int → Int → Bool → Int → Prop) (hK : ofE f n a b e fun y0 y1 y2 => K y0 y1 y2 0) : zau f n (nb a) (nb b) e K := by
 obtain ⟨w1, w2, w3, w4, w5, w6⟩ := yct f h
 have we := c.e64
 have hr := yj7 c.fa c.fb
 unfold ofE at hK
 rw [zau.is]; unfold zau.d
 rw [ybt f h, yau (by rfl)]
 refine yaY _ _ _ _ _ (fun _ => ?_) (fun hn => absurd c.may hn)
 rw [yau (by rfl), ycX]
 refine yeg (fun h0 => ?_) fun h0 => ?_
 ·rw [if_pos h0] at hK; exact hK
 rw [if_neg h0] at hK
 rw [yaI f h]
 refine ygm n c _ (fun hh => absurd hh h0) fun _ => ?_
 rw [ybp f h, yjt]
 refine yea (fun hb => ?_) fun hb => ?_
 ·rw [if_pos (.inl hb)] at hK; exact hK
 rw [ybo f h]
 by_cases h2 : (fe f : Int) < tp a b + e
 ·rw [yaA (ya9 h2)]; rw [if_pos (.inr (.inl h2))] at hK; exact hK
 rw [yau (ybq (by omega))]
 have hp := yjA h (tp a b + e) (by omega)
 have e1 : yaj .i64 (yan .i64 (yia (tp a b + e) (1 - (fe f : Int))) (fp f : Int)) 1 = pl f (tp a b + e) := by
  have : yia (tp a b + e) (1 - (fe f : Int)) = if tp a b + e < 1 - fe f then 1 - (fe f : Int) else tp a b + e := yga _ _
  rw [this]
  unfold pl
  have hh : -200000 ≤ (if tp a b + e < 1 - (fe f : Int) then 1 - (fe f : Int) else tp a b + e) ∧ (if tp a b + e < 1 - (fe f : Int) then 1 - (fe f : Int) else tp a b + e) ≤ 200000 := by split <;> omega
  rw [yat (by omega) (by omega), yas (by omega) (by omega)]
 rw [e1]
 by_cases h3 : e < pl f (tp a b + e)
 ·rw [yaA (ya9 h3)]; rw [if_pos (.inr (.inr h3))] at hK; exact hK
 rw [yau (ybq (by omega))]
 have hc : ¬ (b ≠ 1 ∨ (fe f : Int) < tp a b + e ∨ e < pl f (tp a b + e)) := by omega
 rw [if_neg hc] at hK
 have hw := ytN h h0 hc
 generalize hwd : a * 2 ^ (e - pl f (tp a b + e)).toNat = w at hw hK
 have hwQ : w < Q6 := yr2 (by omega) hw.1
 refine yeJ n c _ (by omega) _ ?_
 unfold ys8
 rw [if_neg (by omega), if_neg h0, if_pos (show pl f (tp a b + e) ≤ e by omega), hwd, if_pos (ykX hwQ), hb, Nat.div_one]
 rw [hb] at hw hK
 refine ylw hwQ _ ?_
 rw [ypa f h, ydt w (fp f - 1) (by omega), yr9 (by omega) hw.1]
 refine yeg (fun hl => ?_) fun hl => ?_
 ·rw [ybp f h]
  refine yd4 _ (by omega) _ ?_
  refine yeR _ _ hwQ _ ?_
  rw [Nat.and_two_pow_sub_one_eq_mod]
  rw [hb] at hp h2
  have e2 : yaj .i64 (yan .i64 (pl f (tp a 1 + e)) (1 - (fe f : Int))) (fp f : Int) = (((pl f (tp a 1 + e) + fe f + fp f - 2).toNat + 1 : Nat) : Int) := by
   rw [yat (by omega) (by omega), yas (by omega) (by omega)]; omega
  rw [e2]
  rw [yr1 h n hl hw.1] at hK
  refine yfs f _ _ h ?_ (Nat.mod_lt _ (Nat.two_pow_pos _)) n _ hK
  have hs := hw.2.2 hl
  unfold pl; rw [if_neg (by omega)]; omega
 ·refine yd4 _ (by omega) _ ?_
  refine yeR _ _ hwQ _ ?_
  rw [Nat.and_two_pow_sub_one_eq_mod, Nat.mod_eq_of_lt (by omega)]
  rw [ys1 n (by have := hw.2; omega)] at hK
  exact yfs f 0 w h (by omega) (by omega) n _ hK
end
end Go.Ev.S

/- Rounding: what is delivered, by a floor function; the program's packing. -/
set_option linter.unusedVariables false
set_option linter.unusedSimpArgs false
set_option maxRecDepth 8000
namespace Go.Ev.S
open Go Go.Ev
def hf (F : Int → Nat × Bool) (at_ : Int) : Int := if (F (at_ - 1)).1 % 2 = 1 then (if (F (at_ - 1)).2 = true then 0 else 1) else -1
def upB (m : Nat) (n o : Bool) (a : Int) (e : Bool) : Bool :=
 if e = true then false else if m = 0 then (decide (0 < a) || (decide (a = 0) && o)) else if m = 4 then decide (0 ≤ a) else if m = 2 then n else if m = 3 then !n else false
def tk (F : Int → Nat × Bool) (m : Nat) (n : Bool) (at_ : Int) : Nat := (F at_).1 + cond (upB m n (decide ((F at_).1 % 2 = 1)) (hf F at_) (F at_).2) 1 0
def yjM (f m : Nat) (n : Bool) (F : Int → Nat × Bool) (top : Int) : Bool :=
 if top = -(fe f : Int) then decide (yaw (tk F m n (top - fp f + 1)) ≤ fp f) else decide (top < 1 - (fe f : Int))
def dlv (f m : Nat) (n : Bool) (F : Int → Nat × Bool) (top : Int) (K : Int → Int → Int → Int → Prop) : Prop :=
 if (fe f : Int) < top then K (Hi (ov f m n)) (Lo (ov f m n)) 5 0 else
 if (fe f : Int) < (yaw (tk F m n (pl f top)) : Int) - 1 + pl f top then K (Hi (ov f m n)) (Lo (ov f m n)) 5 0 else
 K (Hi (yeD f n (pl f top) (tk F m n (pl f top)))) (Lo (yeD f n (pl f top) (tk F m n (pl f top)))) (if (F (pl f top)).2 = true then 0 else if yjM f m n F top = true then 3 else 1) 0
def hj (S k : Nat) : Int := if S / 2 ^ (k - 1) % 2 = 1 then (if S % 2 ^ (k - 1) = 0 then 0 else 1) else -1
theorem yr3 (b : Bool) : cond b 1 0 ≤ 1 := by cases b <;> decide
theorem ysX (F : Int → Nat × Bool) (m : Nat) (n : Bool) (at_ : Int) : tk F m n at_ ≤ (F at_).1 + 1 := by
 unfold tk; have := yr3 (upB m n (decide ((F at_).1 % 2 = 1)) (hf F at_) (F at_).2); omega
theorem yuf {f : Nat} (h : f ≤ 3) : 2 ^ fp f + 1 < Q6 := by
 have w := yct f h
 have h1 : 2 ^ (fp f + 1) < Q6 := yus (by omega)
 have h2 := Nat.pow_le_pow_right (show 0 < 2 by omega) (show 1 ≤ fp f by omega)
 rw [Nat.pow_succ] at h1
 omega
end Go.Ev.S

/- Exact numbers: made, signs, products, places, sums. -/
set_option linter.unusedVariables false
set_option linter.unusedSimpArgs false
set_option maxRecDepth 8000
namespace Go.Ev.S
open Go Go.Ev
abbrev K5 := Bool → List UInt8 → List UInt8 → Int → Int → Prop
end Go.Ev.S

/- Exact numbers as rational ones: bounds, sums, products, whole parts. -/
set_option linter.unusedVariables false
set_option linter.unusedSimpArgs false
set_option maxRecDepth 8000
namespace Go.Ev.S
open Go Go.Ev
structure Bd (P E : Nat) (a b : Nat) (e : Int) : Prop where
 a : a < 2 ^ P
 b : b < 2 ^ P
 l : -(E : Int) ≤ e
 u : e ≤ E
theorem Bd.mono {P E P' E' : Nat} {a b : Nat} {e : Int} (h : Bd P E a b e) (hP : P ≤ P') (hE : E ≤ E') : Bd P' E' a b e :=
 ⟨Nat.lt_of_lt_of_le h.a (Nat.pow_le_pow_right (by omega) hP), Nat.lt_of_lt_of_le h.b (Nat.pow_le_pow_right (by omega) hP), by have := h.l; omega, by have := h.u; omega⟩
theorem yc2 {x P : Nat} (h : x < 2 ^ P) (hP : P ≤ 131072) : fit x := by
 rw [yne]; have := (yaT x P).2 h; omega
theorem ymL {a b P P' : Nat} (ha : a < 2 ^ P) (hb : b < 2 ^ P') : a * b < 2 ^ (P + P') := by
 rw [Nat.pow_add]; exact Nat.mul_lt_mul'' ha hb
theorem ypG {a b P P' k : Nat} {e m : Int} (ha : a < 2 ^ P) (hb : b < 2 ^ P') (hk : (e - m).toNat ≤ k) : lv a b e m < 2 ^ (P + P' + k) := by
 unfold lv
 rw [Nat.pow_add]
 have h1 := ymL ha hb
 have h2 : 2 ^ (e - m).toNat ≤ 2 ^ k := Nat.pow_le_pow_right (by omega) hk
 have h3 : 0 < 2 ^ (e - m).toNat := Nat.two_pow_pos _
 exact Nat.lt_of_lt_of_le (Nat.mul_lt_mul_of_pos_right h1 h3) (Nat.mul_le_mul_left _ h2)
theorem ypD {x P : Nat} (h : x < 2 ^ P) : ybm x ≤ P := by
 by_cases h0 : x = 0
 ·subst h0; rw [yhG]; omega
 ·exact Nat.le_of_lt (yfX x P h0 h)
theorem yuw (n : Bool) {P E : Nat} {a b : Nat} {e : Int} (h : Bd P E a b e) (hb : b ≠ 0) (hP : P ≤ 131072) (hE : P + E ≤ 1048576) (K : K5)
  (h1 : ∀ n' a' b' e', Can n' a' b' e' → V n' a' b' e' = V n a b e → Bd P (P + E) a' b' e' → K n' (nb a') (nb b') e' 0) : mkE n a b e K := by
 have la := ypD h.a
 have lb := ypD h.b
 have hl := h.l
 have hu := h.u
 unfold mkE
 by_cases h0 : a = 0
 ·rw [if_pos h0]
  have := h1 false 0 1 0 ⟨ynA, ydu, rfl, by unfold win; omega, fun _ => ⟨rfl, rfl, rfl⟩, fun h => absurd rfl h⟩ (by rw [h0, yd1, yd1]) ⟨Nat.two_pow_pos _, by have := h.b; omega, by omega, by omega⟩
  rwa [yaJ, ycO] at this
 ·rw [if_neg h0]
  have w : win (rdE a b e) := by unfold win rdE; omega
  rw [if_pos w]
  obtain ⟨r1, r2, r3⟩ := yjz h0 hb
  have l1 : rdA a b ≤ a := Nat.le_trans (Nat.div_le_self _ _) (Nat.div_le_self _ _)
  have l2 : rdB a b ≤ b := Nat.le_trans (Nat.div_le_self _ _) (Nat.div_le_self _ _)
  refine h1 _ _ _ _ ⟨ydI (yc2 h.a hP) l1, ydI (yc2 h.b hP) l2, r2, w, fun h => by omega, fun _ => ⟨r1, r3⟩⟩ (yuD n e h0 hb) ⟨?_, ?_, ?_, ?_⟩
  ·have := h.a; omega
  ·have := h.b; omega
  ·unfold rdE; omega
  ·unfold rdE; omega
theorem yoo {n : Bool} {a b : Nat} {e : Int} : V (!n && decide (a ≠ 0)) a b e = -V n a b e := by
 by_cases h0 : a = 0
 ·rw [h0, yd1, yd1]; grind
 ·rw [show decide (a ≠ 0) = true from by simpa using h0, Bool.and_true, yse]
section
variable {n1 n2 : Bool} {a1 b1 a2 b2 : Nat} {e1 e2 : Int} {P1 E1 P2 E2 : Nat}
theorem yrL (n : Bool) (A B D : Nat) (m : Int) (hD : D ≠ 0) : V n (A + B) D m = V n A D m + V n B D m := by
 have := yf3 hD
 unfold V; rw [Rat.natCast_add]; grind
theorem yrT (n : Bool) (A B D : Nat) (m : Int) (hD : D ≠ 0) (h : B ≤ A) : V n (A - B) D m = V n A D m - V n B D m := by
 have h1 := yrL n (A - B) B D m hD
 rw [Nat.sub_add_cancel h] at h1
 rw [h1]; grind
theorem ym6 (n : Bool) (a b b' : Nat) (e m : Int) (hb : b ≠ 0) (hb' : b' ≠ 0) (hm : m ≤ e) : V n (lv a b' e m) (b * b') m = V n a b e := by
 have h1 := yuh n a b b' e m hb hm
 have hD := Nat.mul_ne_zero hb hb'
 have h2 := ypC n (lv a b' e m) (b * b') m hD
 have h3 := yf3 hD
 rw [← h1] at h2
 generalize V n (lv a b' e m) (b * b') m = u at h2
 generalize V n a b e = v at h2
 generalize ((b * b' : Nat) : Rat) = d at h2 h3
 have : u * d * d⁻¹ = v * d * d⁻¹ := by rw [h2]
 grind
theorem yto (c1 : Can n1 a1 b1 e1) (c2 : Can n2 a2 b2 e2) (d1 : Bd P1 E1 a1 b1 e1) (d2 : Bd P2 E2 a2 b2 e2) (hP : P1 + P2 + (E1 + E2) + 1 + (E1 + E2) ≤ 131072) (K : K5)
  (h : ∀ n a b e, Can n a b e → V n a b e = V n1 a1 b1 e1 + V n2 a2 b2 e2 → Bd (P1 + P2 + (E1 + E2) + 1) (P1 + P2 + (E1 + E2) + 1 + (E1 + E2)) a b e → K n (nb a) (nb b) e 0) : yty n1 a1 b1 e1 n2 a2 b2 e2 K := by
 have u1 := d1.u
 have l1 := d1.l
 have u2 := d2.u
 have l2 := d2.l
 have m1 : mn e1 e2 ≤ e1 := by unfold mn; split <;> omega
 have m2 : mn e1 e2 ≤ e2 := by unfold mn; split <;> omega
 have m3 : -((E1 + E2 : Nat) : Int) ≤ mn e1 e2 ∧ mn e1 e2 ≤ (E1 + E2 : Nat) := by unfold mn; split <;> omega
 unfold yty
 by_cases z1 : a1 = 0
 ·rw [if_pos z1]
  exact h _ _ _ _ c2 (by rw [z1, yd1]; grind) (d2.mono (by omega) (by omega))
 rw [if_neg z1]
 by_cases z2 : a2 = 0
 ·rw [if_pos z2]
  exact h _ _ _ _ c1 (by rw [z2, yd1]; grind) (d1.mono (by omega) (by omega))
 rw [if_neg z2]
 have hA : lv a1 b2 e1 (mn e1 e2) < 2 ^ (P1 + P2 + (E1 + E2)) := ypG d1.a d2.b (by unfold mn; split <;> omega)
 have hB : lv a2 b1 e2 (mn e1 e2) < 2 ^ (P1 + P2 + (E1 + E2)) := by
  rw [Nat.add_comm P1 P2]
  exact ypG d2.a d1.b (by unfold mn; split <;> omega)
 have hD : b1 * b2 < 2 ^ (P1 + P2) := ymL d1.b d2.b
 have hD0 := Nat.mul_ne_zero c1.b0 c2.b0
 rw [if_pos ⟨yc2 hA (by omega), yc2 hB (by omega), yc2 hD (by omega)⟩]
 have vA := ym6 n1 a1 b1 b2 e1 (mn e1 e2) c1.b0 c2.b0 m1
 have vB := ym6 n2 a2 b2 b1 e2 (mn e1 e2) c2.b0 c1.b0 m2
 rw [Nat.mul_comm b2 b1] at vB
 have hp2 : 2 ^ (P1 + P2 + (E1 + E2) + 1) = 2 ^ (P1 + P2 + (E1 + E2)) + 2 ^ (P1 + P2 + (E1 + E2)) := by rw [Nat.pow_succ]; omega
 have hD' : b1 * b2 < 2 ^ (P1 + P2 + (E1 + E2) + 1) := Nat.lt_of_lt_of_le hD (Nat.pow_le_pow_right (by omega) (by omega))
 have fin : ∀ n X, X < 2 ^ (P1 + P2 + (E1 + E2) + 1) → V n X (b1 * b2) (mn e1 e2) = V n1 a1 b1 e1 + V n2 a2 b2 e2 → mkE n X (b1 * b2) (mn e1 e2) K := by
  intro n X hX hV
  refine yuw n (P := P1 + P2 + (E1 + E2) + 1) (E := E1 + E2) ⟨hX, hD', m3.1, m3.2⟩ hD0 (by omega) (by omega) K ?_
  intro n' a' b' e' c' v' d'
  exact h _ _ _ _ c' (v'.trans hV) d'
 by_cases hn : n1 = n2
 ·rw [if_pos hn]
  have hS : lv a1 b2 e1 (mn e1 e2) + lv a2 b1 e2 (mn e1 e2) < 2 ^ (P1 + P2 + (E1 + E2) + 1) := by omega
  rw [if_pos (yc2 hS (by omega))]
  refine fin n1 _ hS ?_
  rw [yrL _ _ _ _ _ hD0, vA, hn, vB]
 ·rw [if_neg hn]
  by_cases hl : lv a2 b1 e2 (mn e1 e2) ≤ lv a1 b2 e1 (mn e1 e2)
  ·rw [if_pos hl]
   refine fin n1 _ (by omega) ?_
   rw [yrT _ _ _ _ _ hD0 hl, vA]
   have : n2 = !n1 := by cases n1 <;> cases n2 <;> simp_all
   rw [← vB, this, yse]; grind
  ·rw [if_neg hl]
   refine fin n2 _ (by omega) ?_
   rw [yrT _ _ _ _ _ hD0 (by omega), vB]
   have : n1 = !n2 := by cases n1 <;> cases n2 <;> simp_all
   rw [← vA, this, yse]; grind
end
theorem ydd {x y d : Rat} (hd : 0 < d) : x * d ≤ y * d ↔ x ≤ y := by
 have h := yba (x := y) (y := x) hd
 constructor
 ·intro hh; apply Classical.byContradiction; intro hc
  have := h.2 (by grind); grind
 ·intro hh; exact Rat.mul_le_mul_of_nonneg_right hh (by grind)
theorem yiW {x y d : Rat} (hd : 0 < d) : x * d = y * d ↔ x = y := by
 constructor
 ·intro hh
  have h1 := (ydd (x := x) (y := y) hd).1 (by grind)
  have h2 := (ydd (x := y) (y := x) hd).1 (by grind)
  grind
 ·intro hh; rw [hh]
structure Flr (X : Rat) (n : Int) (m : Nat) (is : Bool) : Prop where
 le : (m : Rat) * p2 n ≤ X
 lt : X < ((m + 1 : Nat) : Rat) * p2 n
 eq : is = true ↔ (m : Rat) * p2 n = X
theorem yng {X : Rat} {N D : Nat} {n : Int} (hD : D ≠ 0) (h : X * D = N * p2 n) : Flr X n (N / D) (decide (N % D = 0)) := by
 have hd := yei hD
 have hp := yc1 n
 have hdm := Nat.div_add_mod N D
 have hml := Nat.mod_lt N (Nat.pos_of_ne_zero hD)
 have e1 : ∀ m : Nat, (m : Rat) * p2 n * D = ((m * D : Nat) : Rat) * p2 n := by intro m; rw [Rat.natCast_mul]; grind
 refine ⟨?_, ?_, ?_⟩
 ·rw [← ydd hd, h, e1, ydd hp, Rat.natCast_le_natCast]
  exact Nat.div_mul_le_self N D
 ·rw [← yba hd, h, e1, yba hp, Rat.natCast_lt_natCast, Nat.add_mul, Nat.mul_comm]
  omega
 ·rw [decide_eq_true_iff, ← yiW hd, h, e1, yiW hp, Rat.natCast_inj, Nat.mul_comm]
  omega
theorem yuC (a b : Nat) (e n : Int) (hb : b ≠ 0) (hn : n ≤ e) : V false a b e * (b : Rat) = ((a * 2 ^ (e - n).toNat : Nat) : Rat) * p2 n := by
 rw [ypC false a b e hb, show sR false = 1 from rfl, Rat.natCast_mul, ← ycU]
 have : p2 ((e - n).toNat : Int) * p2 n = p2 e := by rw [← ycJ]; congr 1; omega
 grind
theorem ytC (a b : Nat) (e n : Int) (hb : b ≠ 0) (hn : e ≤ n) : V false a b e * ((b * 2 ^ (n - e).toNat : Nat) : Rat) = (a : Rat) * p2 n := by
 have h := ypC false a b e hb
 rw [show sR false = 1 from rfl] at h
 rw [Rat.natCast_mul, ← ycU]
 have : p2 ((n - e).toNat : Int) * p2 e = p2 n := by rw [← ycJ]; congr 1; omega
 grind
theorem ytp {s : Bool} {a b : Nat} {e n : Int} (c : Can s a b e) (ha : a ≠ 0) (h1 : -2097152 ≤ n) (h2 : n ≤ 2097152) (hf : n ≤ e → fit (a * 2 ^ (e - n).toNat)) (K : List UInt8 → Bool → Int → Prop)
  (h : ∀ m is, Flr (V false a b e) n m is → (n ≤ e → m ≤ a * 2 ^ (e - n).toNat) → (e < n → m ≤ a) → K (nb m) is 0) : ys8 a b e n K := by
 unfold ys8
 rw [if_neg (by omega), if_neg ha]
 by_cases hn : n ≤ e
 ·rw [if_pos hn, if_pos (hf hn)]
  exact h _ _ (yng c.b0 (yuC a b e n c.b0 hn)) (fun _ => Nat.div_le_self _ _) (fun _ => by omega)
 ·rw [if_neg hn]
  have hB : b * 2 ^ (n - e).toNat ≠ 0 := Nat.mul_ne_zero c.b0 (Nat.pos_iff_ne_zero.1 (Nat.two_pow_pos _))
  have fl := yng hB (ytC a b e n c.b0 (by omega))
  by_cases ht : tp a b + e < n
  ·rw [if_pos ht]
   have hlt : a < b * 2 ^ (n - e).toNat := by
    have hs := ylT ha c.b0
    by_cases h0 : 0 ≤ tp a b
    ·refine Nat.lt_of_lt_of_le (hs.1 h0).2 (Nat.mul_le_mul_left _ (Nat.pow_le_pow_right (by omega) (by omega)))
    ·have h3 := (hs.2 (by omega)).2
     have h4 : a * 1 ≤ a * 2 ^ ((-tp a b).toNat - 1) := Nat.mul_le_mul_left _ (Nat.two_pow_pos _)
     have h5 : b * 1 ≤ b * 2 ^ (n - e).toNat := Nat.mul_le_mul_left _ (Nat.two_pow_pos _)
     omega
   rw [Nat.div_eq_of_lt hlt, Nat.mod_eq_of_lt hlt, show decide (a = 0) = false from by simpa using ha] at fl
   have := h 0 false fl (fun _ => by omega) (fun _ => by omega)
   rwa [yaJ] at this
  ·rw [if_neg ht]
   exact h _ _ fl (fun _ => by omega) (fun _ => Nat.div_le_self _ _)
theorem yqP {a b x y : Rat} (hx : 0 < x) (h : x * y = 1) (hh : b ≤ a * y) : x * b ≤ a := by
 have h1 := Rat.mul_le_mul_of_nonneg_right hh (show 0 ≤ x by grind)
 have h2 : a * y * x = a := by rw [show a * y * x = a * (x * y) from by grind, h]; grind
 grind
theorem yqL {a b x y : Rat} (hx : 0 < x) (h : x * y = 1) (hh : a * y < b) : a < x * b := by
 have h1 := Rat.mul_lt_mul_of_pos_right hh hx
 have h2 : a * y * x = a := by rw [show a * y * x = a * (x * y) from by grind, h]; grind
 grind
theorem yuE {a b : Nat} (e : Int) (ha : a ≠ 0) (hb : b ≠ 0) : p2 (tp a b + e) ≤ V false a b e ∧ V false a b e < p2 (tp a b + e + 1) := by
 have hs := ylT ha hb
 have hd := yei hb
 have hv := ypC false a b e hb
 rw [show sR false = 1 from rfl] at hv
 have hp := yc1 e
 have key : p2 (tp a b) * (b : Rat) ≤ a ∧ (a : Rat) < p2 (tp a b + 1) * b := by
  by_cases h0 : 0 ≤ tp a b
  ·obtain ⟨h1, h2⟩ := hs.1 h0
   have e1 : p2 (tp a b) = ((2 ^ (tp a b).toNat : Nat) : Rat) := by rw [← ycU]; congr 1; omega
   have e2 : p2 (tp a b + 1) = ((2 ^ ((tp a b).toNat + 1) : Nat) : Rat) := by rw [← ycU]; congr 1; omega
   rw [e1, e2, ← Rat.natCast_mul, ← Rat.natCast_mul, Rat.natCast_le_natCast, Rat.natCast_lt_natCast, Nat.mul_comm, Nat.mul_comm _ b]
   exact ⟨h1, h2⟩
  ·obtain ⟨h1, h2⟩ := hs.2 (by omega)
   have q1 : p2 (tp a b) * ((2 ^ (-tp a b).toNat : Nat) : Rat) = 1 := by rw [← ycU, ← ycJ, show tp a b + ((-tp a b).toNat : Int) = 0 from by omega, yo5]
   have q2 : p2 (tp a b + 1) * ((2 ^ ((-tp a b).toNat - 1) : Nat) : Rat) = 1 := by rw [← ycU, ← ycJ, show tp a b + 1 + (((-tp a b).toNat - 1 : Nat) : Int) = 0 from by omega, yo5]
   have r1 := Rat.natCast_le_natCast.2 h1
   have r2 := Rat.natCast_lt_natCast.2 h2
   rw [Rat.natCast_mul] at r1 r2
   have s1 := yc1 (tp a b)
   have s2 := yc1 (tp a b + 1)
   exact ⟨yqP s1 q1 r1, yqL s2 q2 r2⟩
 constructor
 ·rw [← ydd hd, hv, ycJ]
  have := Rat.mul_le_mul_of_nonneg_right key.1 (show 0 ≤ p2 e by grind)
  grind
 ·rw [← yba hd, hv, show tp a b + e + 1 = (tp a b + 1) + e from by omega, ycJ]
  have := Rat.mul_lt_mul_of_pos_right key.2 hp
  grind
end Go.Ev.S

/- Doubling does not change what is delivered. -/
set_option linter.unusedVariables false
set_option linter.unusedSimpArgs false
set_option maxRecDepth 8000
namespace Go.Ev.S
open Go Go.Ev
end Go.Ev.S

/- Rounding as the document has it. -/
set_option linter.unusedVariables false
set_option linter.unusedSimpArgs false
set_option maxRecDepth 8000
namespace Go.Ev.S
open Go Go.Ev
structure FF (F : Int → Nat × Bool) (p : Nat) (top : Int) : Prop where
 lt : ∀ at_, top - p + 1 ≤ at_ → (F at_).1 < 2 ^ p
 ge : 2 ^ (p - 1) ≤ (F (top - p + 1)).1
 ex : ∀ at_, (F at_).2 = true → (F at_).1 ≠ 0
 half : ∀ at_, (F (at_ + 1)).1 = (F at_).1 / 2
theorem ytl (n : Bool) {t : Nat} (h0 : t ≠ 0) {P : Nat} (ht : t < 2 ^ P) (hP : P = 200) {at_ : Int} (hr : -100000 ≤ at_ ∧ at_ ≤ 100000) (K : Bool → List UInt8 → List UInt8 → Int → Int → Prop)
  (hK : ∀ a e, Can n a 1 e → a ≠ 0 → t = a * 2 ^ (e - at_).toNat → at_ ≤ e → e ≤ at_ + 200 → K n (nb a) [1] e 0) : mkE n t 1 at_ K := by
 unfold mkE
 have hl := yfX t P h0 ht
 have o1 : odp 1 = 1 := by unfold odp; rw [show ybm 1 = 0 from yml 0 0]
 have hB : rdB t 1 = 1 := by unfold rdB; rw [o1, Nat.gcd_one_right]
 have hA : rdA t 1 = odp t := by unfold rdA; rw [o1, Nat.gcd_one_right, Nat.div_one]
 have hE : rdE t 1 at_ = at_ + ybm t := by unfold rdE; rw [show ybm 1 = 0 from yml 0 0]; omega
 rw [if_neg h0, hA, hB, hE, if_pos (by unfold win; omega), ycO]
 have ho := yem h0
 have hne := ynk h0
 have hfit : fit t := yc2 ht (by omega)
 refine hK _ _ ⟨ymA hfit _, ydu, rfl, by unfold win; omega, fun hh => absurd hh hne, fun _ => ⟨ho.2, Nat.gcd_one_right _⟩⟩ hne ?_ (by omega) (by omega)
 rw [show (at_ + (ybm t : Int) - at_).toNat = ybm t from by omega, Nat.mul_comm]; exact ho.1
theorem ytg {f : Nat} (h : f ≤ 3) {n : Bool} {a t : Nat} {e at_ : Int} (c : Can n a 1 e) (h0 : a ≠ 0) (ht : t = a * 2 ^ (e - at_).toNat) (hle : at_ ≤ e) (h1 : t ≤ 2 ^ fp f)
  (hat : 2 - (fe f : Int) - fp f ≤ at_) (hs : at_ = 2 - (fe f : Int) - fp f ∨ 2 ^ (fp f - 1) ≤ t) (K : Int → Int → Bool → Prop)
  (hK : if (fe f : Int) < (yaw t : Int) - 1 + at_ then K 0 0 false else K (Hi (yeD f n at_ t)) (Lo (yeD f n at_ t)) true) : ofE f n a 1 e K := by
 obtain ⟨w1, w2, w3, w4, w5, w6⟩ := yct f h
 obtain ⟨k, hk⟩ : ∃ k : Nat, (k : Int) = e - at_ := ⟨(e - at_).toNat, by omega⟩
 rw [show (e - at_).toNat = k from by omega] at ht
 have hb : yaw t = yaw a + k := by rw [ht, ygY _ _ h0]
 have htp : tp a 1 + e = (yaw t : Int) - 1 + at_ := by rw [yrI h0, hb]; omega
 unfold ofE
 rw [if_neg h0, htp]
 by_cases hf : (fe f : Int) < (yaw t : Int) - 1 + at_
 ·rw [if_pos (.inr (.inl hf))]; rw [if_pos hf] at hK; exact hK
 rw [if_neg hf] at hK
 by_cases hp : t < 2 ^ fp f
 ·have hbl := (yaT t (fp f)).2 hp
  have hpl : pl f ((yaw t : Int) - 1 + at_) = at_ := by
   unfold pl
   rcases hs with hs | hs
   ·split <;> omega
   ·have hb2 : ¬ yaw t ≤ fp f - 1 := by rw [yaT]; omega
    rw [if_neg (by omega)]; omega
  rw [hpl, if_neg (by omega), show (e - at_).toNat = k from by omega, ← ht]
  exact hK
 ·have hte : t = 2 ^ fp f := by omega
  have hb2 : yaw t = fp f + 1 := by
   have h3 : ¬ yaw t ≤ fp f := by rw [yaT]; omega
   have h4 : yaw t ≤ fp f + 1 := by rw [yaT, hte]; exact Nat.pow_lt_pow_right (by omega) (by omega)
   omega
  have hpl : pl f ((yaw t : Int) - 1 + at_) = at_ + 1 := by
   unfold pl; rw [if_neg (by omega)]; omega
  have hk1 : 1 ≤ k := by
   apply Classical.byContradiction; intro hn
   have hk0 : k = 0 := by omega
   rw [hk0, Nat.pow_zero, Nat.mul_one] at ht
   have ho := (c.r h0).1
   have : t % 2 = 0 := by
    rw [hte]
    obtain ⟨q, hq⟩ : ∃ q, fp f = q + 1 := ⟨fp f - 1, by omega⟩
    rw [hq, Nat.pow_succ]; omega
   omega
  rw [hpl, if_neg (by omega), show (e - (at_ + 1)).toNat = k - 1 from by omega]
  have e2 : 2 ^ fp f = 2 ^ (fp f - 1) + 2 ^ (fp f - 1) := by rcases yeq h with rfl | rfl | rfl | rfl <;> decide
  have hw : a * 2 ^ (k - 1) = 2 ^ (fp f - 1) := by
   have : a * 2 ^ k = a * 2 ^ (k - 1) * 2 := by rw [Nat.mul_assoc, ← Nat.pow_succ, show (k - 1).succ = k from by omega]
   omega
  have he : yeD f n (at_ + 1) (a * 2 ^ (k - 1)) = yeD f n at_ t := by
   unfold yeD
   rw [hw, hte, e2, show (at_ + 1 + (fe f : Int) + fp f - 2).toNat = (at_ + (fe f : Int) + fp f - 2).toNat + 1 from by omega, Nat.add_mul]
   omega
  rw [he]; exact hK
theorem ymO {f : Nat} (h : f ≤ 3) {x : Nat} (hx : x < 2 ^ fp f) : fit (x + 1) := ykX (by have := yuf h; omega)
section
variable {f m : Nat} {n root : Bool} {x y : List UInt8} {e top : Int} {F : Int → Nat × Bool}
theorem FF.tk_facts (h : f ≤ 3) (m : Nat) (n : Bool) (H : FF F (fp f) top) : tk F m n (pl f top) ≤ 2 ^ fp f ∧ (pl f top = 2 - (fe f : Int) - fp f ∨ 2 ^ (fp f - 1) ≤ tk F m n (pl f top)) ∧ 2 - (fe f : Int) - fp f ≤ pl f top ∧ top - fp f + 1 ≤ pl f top := by
 have w := yct f h
 have hge : top - fp f + 1 ≤ pl f top := by unfold pl; split <;> omega
 have hl := H.lt (pl f top) hge
 have ht := ysX F m n (pl f top)
 refine ⟨by omega, ?_, by unfold pl; split <;> omega, hge⟩
 by_cases hs : top < 1 - (fe f : Int)
 ·left; unfold pl; rw [if_pos hs]; omega
 ·right
  have hp : pl f top = top - fp f + 1 := by unfold pl; rw [if_neg hs]
  have := H.ge
  rw [← hp] at this
  unfold tk; omega
theorem FF.none (h : f ≤ 3) (m : Nat) (n : Bool) (H : FF F (fp f) top) (h0 : tk F m n (pl f top) = 0) : (F (pl f top)).2 = false ∧ yjM f m n F top = true ∧ pl f top = 2 - (fe f : Int) - fp f := by
 have w := yct f h
 have hf1 := H.tk_facts h m n
 have hpos := Nat.two_pow_pos (fp f - 1)
 have hz : (F (pl f top)).1 = 0 := by unfold tk at h0; omega
 have hpl : pl f top = 2 - (fe f : Int) - fp f := by omega
 have hex : (F (pl f top)).2 = false := by
  cases he : (F (pl f top)).2 with
  | false => rfl
  | true => exact absurd hz (H.ex _ he)
 refine ⟨hex, ?_, hpl⟩
 have hge := H.ge
 have hp2 : 2 ≤ 2 ^ (fp f - 1) := by
  have := Nat.pow_le_pow_right (show 0 < 2 by omega) (show 1 ≤ fp f - 1 by omega); omega
 have n1 : top ≠ 1 - (fe f : Int) := by
  intro hh
  rw [show top - (fp f : Int) + 1 = pl f top from by omega, hz] at hge; omega
 have n2 : top ≠ -(fe f : Int) := by
  intro hh
  have h2 := H.half (pl f top - 1)
  rw [show pl f top - 1 + 1 = pl f top from by omega, hz] at h2
  rw [show top - (fp f : Int) + 1 = pl f top - 1 from by omega] at hge
  omega
 have n3 : top < 1 - (fe f : Int) := by
  apply Classical.byContradiction; intro hh
  have : pl f top = top - fp f + 1 := by unfold pl; rw [if_neg hh]
  omega
 unfold yjM
 rw [if_neg n2, decide_eq_true (by omega)]
end
end Go.Ev.S

/- Floor functions of exact numbers. -/
set_option linter.unusedVariables false
set_option linter.unusedSimpArgs false
set_option maxRecDepth 8000
namespace Go.Ev.S
open Go Go.Ev
theorem yue {a b : Int} (h : a < b) : p2 a < p2 b := by
 obtain ⟨k, hk⟩ : ∃ k : Nat, b = a + ((k + 1 : Nat) : Int) := ⟨(b - a - 1).toNat, by omega⟩
 rw [hk, ycJ, ycU]
 have h1 := yc1 a
 have h2 : (1 : Rat) < ((2 ^ (k + 1) : Nat) : Rat) := by
  have : (1 : Nat) < 2 ^ (k + 1) := Nat.one_lt_two_pow (by omega)
  exact Rat.natCast_lt_natCast.2 this
 have := Rat.mul_lt_mul_of_pos_right h2 h1
 grind
theorem yuy {a b : Int} (h : a ≤ b) : p2 a ≤ p2 b := by
 rcases Int.lt_or_eq_of_le h with h | h
 ·have := yue h; grind
 ·rw [h]; exact Rat.le_refl
theorem yq6 {X : Rat} {at_ : Int} {m m' : Nat} {is is' : Bool} (h : Flr X at_ m is) (h' : Flr X at_ m' is') : m = m' ∧ is = is' := by
 have hp := yc1 at_
 have h1 := h.le
 have h2 := h.lt
 have h3 := h'.le
 have h4 := h'.lt
 have l1 : m < m' + 1 := by
  rw [← Rat.natCast_lt_natCast, ← yba hp]; grind
 have l2 : m' < m + 1 := by
  rw [← Rat.natCast_lt_natCast, ← yba hp]; grind
 have e : m = m' := by omega
 subst e
 refine ⟨rfl, ?_⟩
 rw [Bool.eq_iff_iff, h.eq, h'.eq]
def FX (a b : Nat) (e at_ : Int) : Nat × Bool :=
 if at_ ≤ e then (a * 2 ^ (e - at_).toNat / b, decide (a * 2 ^ (e - at_).toNat % b = 0)) else (a / (b * 2 ^ (at_ - e).toNat), decide (a % (b * 2 ^ (at_ - e).toNat) = 0))
theorem yp0 {a b : Nat} (e at_ : Int) (hb : b ≠ 0) : Flr (V false a b e) at_ (FX a b e at_).1 (FX a b e at_).2 := by
 unfold FX
 by_cases h : at_ ≤ e
 ·rw [if_pos h]; exact yng hb (yuC a b e at_ hb h)
 ·rw [if_neg h]
  have hB : b * 2 ^ (at_ - e).toNat ≠ 0 := Nat.mul_ne_zero hb (Nat.pos_iff_ne_zero.1 (Nat.two_pow_pos _))
  exact yng hB (ytC a b e at_ hb (by omega))
theorem ytq {X : Rat} {F : Int → Nat × Bool} {p : Nat} {top : Int} (hp : 1 ≤ p) (hF : ∀ at_, Flr X at_ (F at_).1 (F at_).2) (h1 : p2 top ≤ X) (h2 : X < p2 (top + 1)) : FF F p top := by
 have hX : 0 < X := by have := yc1 top; grind
 refine ⟨fun at_ hat => ?_, ?_, fun at_ hat hz => ?_, fun at_ => ?_⟩
 ·have hq := yc1 at_
  have h3 := (hF at_).le
  have h4 := yuy (show top + 1 ≤ (p : Int) + at_ by omega)
  rw [ycJ (p : Int), ycU] at h4
  generalize 2 ^ p = N at h4
  rw [← Rat.natCast_lt_natCast, ← yba hq]; grind
 ·have hq := yc1 (top - p + 1)
  have h3 := (hF (top - p + 1)).lt
  have h4 : p2 top = ((2 ^ (p - 1) : Nat) : Rat) * p2 (top - p + 1) := by rw [← ycU, ← ycJ]; congr 1; omega
  have : 2 ^ (p - 1) < (F (top - p + 1)).1 + 1 := by
   generalize 2 ^ (p - 1) = N at h4
   rw [← Rat.natCast_lt_natCast, ← yba hq]; grind
  omega
 ·have h3 := (hF at_).eq.1 hat
  rw [hz] at h3
  have : ((0 : Nat) : Rat) = 0 := rfl
  grind
 ·have hq := yc1 at_
  have hq1 : p2 (at_ + 1) = 2 * p2 at_ := by rw [ycJ, yrX]; grind
  have a1 := (hF at_).le
  have a2 := (hF at_).lt
  have b1 := (hF (at_ + 1)).le
  have b2 := (hF (at_ + 1)).lt
  rw [hq1] at b1 b2
  have e0 : ((2 : Nat) : Rat) = 2 := rfl
  generalize (F at_).1 = m at a1 a2 ⊢
  generalize (F (at_ + 1)).1 = k at b1 b2 ⊢
  have l1 : k * 2 < m + 1 := by
   rw [← Rat.natCast_lt_natCast, ← yba hq, Rat.natCast_mul, e0]
   grind
  have l2 : m < (k + 1) * 2 := by
   rw [← Rat.natCast_lt_natCast, ← yba hq, Rat.natCast_mul, e0]
   grind
  omega
theorem ysp {a b : Nat} {e : Int} {p : Nat} (hp : 1 ≤ p) (ha : a ≠ 0) (hb : b ≠ 0) : FF (FX a b e) p (tp a b + e) :=
 ytq hp (fun at_ => yp0 e at_ hb) (yuE e ha hb).1 (yuE e ha hb).2
theorem ytr (a b : Nat) : (yaw a : Int) - yaw b - 1 ≤ tp a b := by unfold tp; (repeat' split) <;> omega
theorem yst {n : Bool} {a b : Nat} {e at_ : Int} (c : Can n a b e) (ha : a ≠ 0) (h1 : -2097152 ≤ at_) (h2 : at_ ≤ 2097152) (hb : yaw b ≤ 66000) (hl : tp a b + e - 2000 ≤ at_) (K : List UInt8 → Bool → Int → Prop)
  (hK : K (nb (FX a b e at_).1) (FX a b e at_).2 0) : ys8 a b e at_ K := by
 refine ytp c ha h1 h2 (fun hle => ?_) K fun m is fl _ _ => ?_
 ·rw [yjU ha]
  have := ytr a b
  omega
 ·obtain ⟨e1, e2⟩ := yq6 fl (yp0 (a := a) e at_ c.b0)
  rw [e1, e2]; exact hK
theorem yjw {b : Nat} {N : Nat} (h : (nb b).length ≤ N) : yaw b ≤ 8 * N := by
 have := (ya7 b N).1 h
 rw [ynU] at this
 exact (yaT _ _).2 this
theorem ygD (m : Nat) (hm : m ≤ 4) (K : Bool → Prop) : zdc m K = K true := by
 rw [zdc.is]; unfold zdc.d; rw [ybb (by omega)]
theorem ygE (m : Nat) (hm : 4 < m) (K : Bool → Prop) : zdc m K = K false := by
 rw [zdc.is]; unfold zdc.d; rw [yff (by omega)]
end Go.Ev.S

/- Rounding as the program has it. -/
set_option linter.unusedVariables false
set_option linter.unusedSimpArgs false
set_option maxRecDepth 8000
namespace Go.Ev.S
open Go Go.Ev
theorem yhM {x : Nat} (hf : fit x) (K : Int → Prop) (h : K (ybm x)) : zbm (nb x) K := by
 refine yex _ _ ?_
 rw [if_pos (ybl hf), yaZ]; exact h
theorem ylI {x : Nat} (h0 : x ≠ 0) : eqI (ybm x : Int) 0 = decide (x % 2 = 1) := by
 have h1 : ybm x = 0 ↔ x % 2 = 1 := by
  constructor
  ·intro h
   obtain ⟨q, hq⟩ := yed x h0
   rw [h, Nat.pow_zero, Nat.one_mul] at hq; omega
  ·intro h; rw [ybm]; simp [h]
 by_cases h : x % 2 = 1
 ·rw [decide_eq_true h]; exact yhy (by have := h1.2 h; omega)
 ·rw [decide_eq_false h]; exact yfN (by intro hh; exact h (h1.1 (by omega)))
theorem ygq (f m : Nat) (n : Bool) (h : f ≤ 3) (hm : m ≤ 4) (K : Int → Int → Int → Int → Prop) (hK : K (Hi (ov f m n)) (Lo (ov f m n)) 5 0) : zdg f m n K := by
 rw [zdg.is]; unfold zdg.d
 rw [ygh f h, yfS f h]
 rcases ysg hm with rfl | rfl | rfl | rfl | rfl <;> cases n <;> exact hK
theorem yt7 (n o0 o1 none : Bool) : upB 0 n o0 (if o1 = true then (if none = true then 0 else 1) else -1) false = (o1 && (!none || o0)) := by
 cases o0 <;> cases o1 <;> cases none <;> rfl
theorem yt6 (n o0 o1 none : Bool) : upB 4 n o0 (if o1 = true then (if none = true then 0 else 1) else -1) false = o1 := by
 cases o0 <;> cases o1 <;> cases none <;> rfl
section
variable {f m : Nat} {n neg root : Bool} {x y : List UInt8} {e top : Int} {F : Int → Nat × Bool}
def ynB (f : Nat) (n root : Bool) (x y : List UInt8) (e top : Int) (F : Int → Nat × Bool) : Prop :=
 ∀ at_ : Int, top - fp f ≤ at_ → at_ ≤ 20000 → ∀ K : List UInt8 → Bool → Prop, K (nb (F at_).1) (F at_).2 → zdj n x y e root at_ K
theorem yjd (h : f ≤ 3) (hm : m ≤ 4) (H : FF F (fp f) top) (hfl : ynB f n root x y e top F) {at_ : Int} (hr : -3000000 ≤ top) (h1 : top - fp f + 1 ≤ at_) (h2 : at_ ≤ 20000) (K : List UInt8 → Bool → Prop)
  (hK : K (nb (tk F m neg at_)) (F at_).2) : zdk n x y e root m neg at_ K := by
 have w := yct f h
 have l0 := H.lt at_ h1
 have f0 : fit (F at_).1 := ydI (ymO h l0) (by omega)
 have f1 : fit (F (at_ - 1)).1 := by
  have h4 := H.half (at_ - 1)
  rw [show at_ - 1 + 1 = at_ from by omega] at h4
  have h6 : (F (at_ - 1)).1 < 2 ^ (fp f + 1) := by rw [Nat.pow_succ]; omega
  obtain ⟨P, hP⟩ : ∃ P, P = fp f + 1 := ⟨_, rfl⟩
  rw [← hP] at h6
  exact yc2 h6 (by omega)
 have f2 : fit ((F at_).1 + 1) := ymO h l0
 rw [zdk.is]; unfold zdk.d
 refine hfl at_ (by omega) h2 _ ?_
 unfold tk at hK
 cases hx : (F at_).2 with
 | true =>
  rw [hx] at hK
  have : upB m neg (decide ((F at_).1 % 2 = 1)) (hf F at_) true = false := rfl
  rw [this] at hK
  exact hK
 | false =>
 rw [hx] at hK
 rw [yau rfl, yat (by omega) (by omega)]
 refine hfl (at_ - 1) (by omega) (by omega) _ ?_
 have hh : hf F at_ = if decide ((F (at_ - 1)).1 % 2 = 1) = true then (if (F (at_ - 1)).2 = true then 0 else 1) else -1 := by
  unfold hf
  by_cases g : (F (at_ - 1)).1 % 2 = 1
  ·rw [if_pos g, if_pos (decide_eq_true g)]
  ·rw [if_neg g, if_neg (by rw [decide_eq_false g]; decide)]
 rw [hh] at hK
 generalize (F at_).1 = n0 at hK f0 f2 ⊢
 generalize (F (at_ - 1)).1 = n1 at hK f1 ⊢
 generalize (F (at_ - 1)).2 = none at hK ⊢
 have hP1 : upB m neg (decide (n0 % 2 = 1)) (if decide (n1 % 2 = 1) = true then (if none = true then 0 else 1) else -1) false = true → zbf (nb n0) [1] fun y0 y1 => K y0 false := by
  intro hu
  rw [hu] at hK
  rw [← ycO]
  exact yhg f0 ydu (ybS (fun _ => hK) fun g => absurd f2 g)
 have hP0 : upB m neg (decide (n0 % 2 = 1)) (if decide (n1 % 2 = 1) = true then (if none = true then 0 else 1) else -1) false = false → K (nb n0) false := by
  intro hu
  rw [hu] at hK; exact hK
 generalize hQ1 : (zbf (nb n0) [1] fun y0 y1 => K y0 false) = Q1 at hP1 ⊢
 generalize hQ0 : K (nb n0) false = Q0 at hP0 ⊢
 clear hK
 have m2 : ∀ p : Prop, (neg = true → Q1) → (neg = false → Q0) → br (ybf neg true) Q1 Q0 := by
  intro _ a b; cases neg
  ·exact b rfl
  ·exact a rfl
 have m3 : ∀ p : Prop, (neg = false → Q1) → (neg = true → Q0) → br (ybf neg false) Q1 Q0 := by
  intro _ a b; cases neg
  ·exact a rfl
  ·exact b rfl
 have d1 : m = 1 → Q0 := by rintro rfl; exact hP0 rfl
 have d2 : m = 2 → br (ybf neg true) Q1 Q0 := by rintro rfl; exact m2 True hP1 hP0
 have d3 : m = 3 → br (ybf neg false) Q1 Q0 := by
  rintro rfl
  refine m3 True (fun hn => hP1 ?_) fun hn => hP0 ?_
  ·rw [hn]; rfl
  ·rw [hn]; rfl
 rw [ycX, ycX]
 refine yea (fun z0 => ?_) fun z0 => ?_
 ·refine yhM f0 _ ?_
  refine yea (fun z1 => ?_) fun z1 => ?_
  ·refine yhM f1 _ ?_
   rw [ylI z0, ylI z1]
   generalize decide (n0 % 2 = 1) = o0 at hP1 hP0 ⊢
   generalize decide (n1 % 2 = 1) = o1 at hP1 hP0 ⊢
   rcases ysg hm with rfl | rfl | rfl | rfl | rfl
   ·rw [yt7] at hP1 hP0
    show br o1 (br (!none) Q1 (br o0 Q1 Q0)) Q0
    cases o1 <;> cases none <;> cases o0 <;> first | exact hP1 rfl | exact hP0 rfl
   ·exact d1 rfl
   ·exact d2 rfl
   ·exact d3 rfl
   ·rw [yt6] at hP1 hP0
    show br o1 Q1 Q0
    cases o1 <;> first | exact hP1 rfl | exact hP0 rfl
  ·have e1 : decide (n1 % 2 = 1) = false := by rw [z1]; rfl
   rw [e1] at hP1 hP0
   rcases ysg hm with rfl | rfl | rfl | rfl | rfl
   ·rw [yt7] at hP1 hP0; exact hP0 rfl
   ·exact d1 rfl
   ·exact d2 rfl
   ·exact d3 rfl
   ·rw [yt6] at hP1 hP0; exact hP0 rfl
 ·have e0 : decide (n0 % 2 = 1) = false := by rw [z0]; rfl
  rw [e0] at hP1 hP0
  refine yea (fun z1 => ?_) fun z1 => ?_
  ·refine yhM f1 _ ?_
   rw [ylI z1]
   generalize decide (n1 % 2 = 1) = o1 at hP1 hP0 ⊢
   rcases ysg hm with rfl | rfl | rfl | rfl | rfl
   ·rw [yt7] at hP1 hP0
    show br o1 (br (!none) Q1 Q0) Q0
    cases o1 <;> cases none <;> first | exact hP1 rfl | exact hP0 rfl
   ·exact d1 rfl
   ·exact d2 rfl
   ·exact d3 rfl
   ·rw [yt6] at hP1 hP0
    show br o1 Q1 Q0
    cases o1 <;> first | exact hP1 rfl | exact hP0 rfl
  ·have e1 : decide (n1 % 2 = 1) = false := by rw [z1]; rfl
   rw [e1] at hP1 hP0
   rcases ysg hm with rfl | rfl | rfl | rfl | rfl
   ·rw [yt7] at hP1 hP0; exact hP0 rfl
   ·exact d1 rfl
   ·exact d2 rfl
   ·exact d3 rfl
   ·rw [yt6] at hP1 hP0; exact hP0 rfl
theorem ykO (h : f ≤ 3) (hm : m ≤ 4) (H : FF F (fp f) top) (hfl : ynB f n root x y e top F) (htop : ∀ K : Int → Prop, K top → zdm n x y e root K) (hr : -2000000 ≤ top ∧ top ≤ 3000000) (K : Bool → Prop)
  (hK : K (yjM f m neg F top)) : zdl n x y e root f m neg K := by
 have w := yct f h
 rw [zdl.is]; unfold zdl.d
 refine htop _ ?_
 rw [yaI f h, ybp f h, yat (by omega) (by omega)]
 unfold yjM at hK
 by_cases ht : top = -(fe f : Int)
 ·rw [yau (by rw [yhy (show top = 1 - (fe f : Int) - 1 by omega)]; rfl)]
  rw [if_pos ht] at hK
  rw [yat (by omega) (by omega), yas (by omega) (by omega)]
  refine yjd h hm H hfl (by omega) (Int.le_refl _) (by omega) _ ?_
  have htk := ysX F m neg (top - fp f + 1)
  have hl := H.lt (top - fp f + 1) (Int.le_refl _)
  refine yfg (ydI (ymO h hl) htk) ?_
  have e1 : leI (yaw (tk F m neg (top - fp f + 1)) : Int) (fp f : Int) = decide (yaw (tk F m neg (top - fp f + 1)) ≤ fp f) := by
   unfold leI; rw [decide_eq_decide]; omega
  rw [e1]; exact hK
 ·rw [yaA (by rw [yfN (show top ≠ 1 - (fe f : Int) - 1 by omega)]; rfl)]
  rw [if_neg ht] at hK
  rw [ybp f h]; exact hK
theorem yhb (h : f ≤ 3) (hm : m ≤ 4) (H : FF F (fp f) top) (hfl : ynB f n root x y e top F) (htop : ∀ K : Int → Prop, K top → zdm n x y e root K) (hr : -2000000 ≤ top ∧ top ≤ 3000000) (K : Int → Int → Int → Int → Prop)
  (hK : dlv f m neg F top K) : zdi n x y e root f m neg K := by
 have w := yct f h
 have hf1 := H.tk_facts h m neg
 rw [zdi.is]; unfold zdi.d
 refine htop _ ?_
 rw [ybo f h]
 unfold dlv at hK
 by_cases h1 : (fe f : Int) < top
 ·rw [yaA (ya9 h1)]; rw [if_pos h1] at hK
  exact ygq f m neg h hm _ hK
 rw [yau (ybq (by omega)), ybp f h, yaI f h]
 rw [if_neg h1] at hK
 have hp := yjA h top (by omega)
 have hat : yaj .i64 (yan .i64 (yia top (1 - (fe f : Int))) (fp f : Int)) 1 = pl f top := by
  have e0 : yia top (1 - (fe f : Int)) = if top < 1 - fe f then 1 - (fe f : Int) else top := yga _ _
  rw [e0]; unfold pl
  have hh : -2000000 ≤ (if top < 1 - (fe f : Int) then 1 - (fe f : Int) else top) ∧ (if top < 1 - (fe f : Int) then 1 - (fe f : Int) else top) ≤ 2000000 := by split <;> omega
  rw [yat (by omega) (by omega), yas (by omega) (by omega)]
 rw [hat]
 refine yjd h hm H hfl (by omega) hf1.2.2.2 (by omega) _ ?_
 have hfit : fit (tk F m neg (pl f top)) := ydI (ymO h (H.lt _ hf1.2.2.2)) (ysX _ _ _ _)
 refine yfg hfit ?_
 have hbl : yaw (tk F m neg (pl f top)) ≤ fp f + 1 := by
  rw [yaT]
  exact Nat.lt_of_le_of_lt hf1.1 (Nat.pow_lt_pow_right (by omega) (by omega))
 rw [ybo f h, yat (by omega) (by omega), yas (by omega) (by omega)]
 by_cases h2 : (fe f : Int) < (yaw (tk F m neg (pl f top)) : Int) - 1 + pl f top
 ·rw [yaA (ya9 h2)]; rw [if_pos h2] at hK
  exact ygq f m neg h hm _ hK
 rw [yau (ybq (by omega))]
 rw [if_neg h2] at hK
 rw [← ycO]
 refine ycj neg hfit ydu (by decide) (by unfold win; omega) ?_
 have tail : ∀ y0 y1 : Int, y0 = Hi (yeD f neg (pl f top) (tk F m neg (pl f top))) → y1 = Lo (yeD f neg (pl f top) (tk F m neg (pl f top))) →
   br (F (pl f top)).2 (K y0 y1 0 0) (zdl n x y e root f m neg fun y0_7 => br y0_7 (K y0 y1 3 0) (K y0 y1 1 0)) := by
  rintro y0 y1 rfl rfl
  cases hx : (F (pl f top)).2 with
  | true => rw [hx, if_pos rfl] at hK; exact hK
  | false =>
   rw [hx, if_neg (by decide)] at hK
   rw [yau rfl]
   refine ykO h hm H hfl htop hr _ ?_
   cases ht : yjM f m neg F top with
   | true => rw [ht, if_pos rfl] at hK; exact hK
   | false => rw [ht, if_neg (by decide)] at hK; exact hK
 by_cases h0 : tk F m neg (pl f top) = 0
 ·have hn := H.none h m neg h0
  have he : yeD f neg (pl f top) 0 = enc f neg 0 0 := by
   unfold yeD enc; rw [show (pl f top + (fe f : Int) + fp f - 2).toNat = 0 from by omega, Nat.zero_mul, Nat.add_zero]
  rw [h0, he] at tail
  unfold mkE
  rw [if_pos h0]
  have c0 : Can false 0 1 0 := ⟨ynA, ydu, rfl, by unfold win; omega, fun _ => ⟨rfl, rfl, rfl⟩, fun hh => absurd rfl hh⟩
  have hz : zau f false [] [1] 0 = zau f false (nb 0) (nb 1) 0 := by rw [yaJ, ycO]
  show zau f false [] [1] 0 _
  rw [hz]
  refine yiN f h c0 _ ?_
  unfold ofE
  rw [if_pos rfl]
  show br (eqS (nb (tk F m neg (pl f top))) []) _ _
  rw [h0, ycX, yaA (by rfl), ye8 f h]
  exact tail _ _ rfl rfl
 ·obtain ⟨P, hP⟩ : ∃ P, P = 200 := ⟨_, rfl⟩
  have hlt : tk F m neg (pl f top) < 2 ^ P := Nat.lt_of_le_of_lt hf1.1 (Nat.pow_lt_pow_right (by omega) (by omega))
  refine ytl neg h0 hlt hP (by omega) _ fun a g c ha hta hag hg => ?_
  rw [← ycO]
  refine yiN f h c _ ?_
  refine ytg h c ha hta hag hf1.1 hf1.2.2.1 hf1.2.1 _ ?_
  rw [if_neg h2, ycX, yau (by simpa using h0)]
  exact tail _ _ rfl rfl
end
theorem Can.abs' {s : Bool} {a b : Nat} {e : Int} (c : Can s a b e) : Can false a b e := ⟨c.fa, c.fb, c.ob, c.we, fun h => ⟨rfl, (c.z h).2⟩, c.r⟩
theorem ypO {f : Nat} (h : f ≤ 3) {n : Bool} {a b : Nat} {e : Int} (c : Can n a b e) (ha : a ≠ 0) (hb : yaw b ≤ 66000) : ynB f n false (nb a) (nb b) e (tp a b + e) (FX a b e) := by
 have w := yct f h
 have we := c.e64
 have hr := yj7 c.fa c.fb
 intro at_ h1 h2 K hK
 rw [zdj.is]; unfold zdj.d
 rw [yaA (show (!false) = true from rfl)]
 exact yeJ n c at_ (by omega) _ (yst c ha (by omega) (by omega) hb (by omega) _ hK)
theorem ylX {n : Bool} {a b : Nat} {e : Int} (c : Can n a b e) (ha : a ≠ 0) (K : Int → Prop) (hK : K (tp a b + e)) : zdm n (nb a) (nb b) e false K := by
 rw [zdm.is]; unfold zdm.d
 exact ygm n c _ (fun hh => absurd hh ha) fun _ => hK
theorem yfJ {f m : Nat} (h : f ≤ 3) (hm : m ≤ 4) {n : Bool} {a b : Nat} {e : Int} (c : Can n a b e) (ha : a ≠ 0) (la : (nb a).length ≤ 8192) (lb : (nb b).length ≤ 8192) (K : Int → Int → Int → Int → Prop)
  (hK : dlv f m n (FX a b e) (tp a b + e) K) : zde f m n (nb a) (nb b) e K := by
 have w := yct f h
 have we := c.e64
 have hr := yj7 c.fa c.fb
 have hb : yaw b ≤ 66000 := by have := yjw lb; omega
 rw [zde.is]; unfold zde.d
 rw [zdf.is]; unfold zdf.d
 rw [ybt f h, yau (show (!eqI 0 0) = false from rfl), yjY m hm, yau (show (!eqI 0 0) = false from rfl)]
 refine yaY _ _ _ _ _ (fun _ => ?_) fun g => absurd c.may g
 rw [yau (show (!eqI 0 0) = false from rfl), yau rfl, yau (ybq (by omega)), yau (ybq (by omega))]
 show br (!eqI 0 0) _ _
 rw [yau (show (!eqI 0 0) = false from rfl), ycX, yau (by simpa using ha)]
 refine ydV n c _ ?_
 exact yhb h hm (ysp (by omega) ha c.b0) (ypO h c.abs' ha hb) (fun K hK => ylX c.abs' ha K hK) (by omega) _ hK
end Go.Ev.S

/- The program's rounding is the document's. -/
set_option linter.unusedVariables false
set_option linter.unusedSimpArgs false
set_option maxRecDepth 8000
namespace Go.Ev.S
open Go Go.Ev
theorem ypw : Can false 1 3 0 := by
  have h3 : fit 3 := by unfold fit; have : nb 3 = [3] := by rw [ydL (by decide), show 3 / 256 = 0 from rfl, yaJ]; decide
                        rw [this]; decide
  exact ⟨ydu, h3, rfl, by unfold win; omega, fun hh => by omega, fun _ => ⟨rfl, by decide⟩⟩
theorem yrh : nb 3 = [3] := by rw [ydL (by decide), show 3 / 256 = 0 from rfl, yaJ]; decide
theorem yhp (m : Nat) (hm : m ≤ 4) (v : Nat) (hv : tk (FX 1 3 0) m false (-12) = v) (hb : yaw v = 11) (K : Int → Int → Int → Int → Prop) (hK : K (Hi (yeD 2 false (-12) v)) (Lo (yeD 2 false (-12) v)) 1 0) : zde 2 m false [1] [3] 0 K := by
  have h3 := yrh
  rw [← ycO, ← h3, show (2 : Int) = ((2 : Nat) : Int) from rfl]
  refine yfJ (by omega) hm ypw (by decide) (by rw [ycO]; decide) (by rw [h3]; decide) K ?_
  have ht : tp 1 3 + 0 = -2 := by decide
  have hp : pl 2 (-2) = -12 := by decide
  have hx : (FX 1 3 0 (-12)).2 = false := by decide
  have hf : (fe 2 : Int) = 15 := rfl
  unfold dlv
  rw [ht, hp, hv, hb, hx, if_neg (by rw [hf]; decide), if_neg (by rw [hf]; decide), if_neg (by decide)]
  have htn : yjM 2 m false (FX 1 3 0) (-2) = false := by
    unfold yjM; rw [if_neg (by rw [hf]; decide), hf]; rfl
  rw [htn, if_neg (by decide)]
  exact hK
theorem yib (K : Bool → Prop) (hK : K true) : zbc K := by
  rw [zbc.is]; unfold zbc.d
  refine yhp 0 (by omega) 1365 (by decide) (by decide) _ ?_
  refine yhp 3 (by omega) 1366 (by decide) (by decide) _ ?_
  exact hK
theorem yo7 (s : Bool) (x y : List UInt8) (e : Int) (K : Bool → Prop) (h1 : x.length ≤ 60 → y.length ≤ 60 → K true) (h2 : K false) : zbd s x y e K := by
  rw [zbd.is]; unfold zbd.d
  by_cases g1 : x.length ≤ 60
  · by_cases g2 : y.length ≤ 60
    · rw [yaA (ybb (by omega)), ybb (by omega)]; exact h1 g1 g2
    · rw [yaA (ybb (by omega)), yff (by omega)]; exact h2
  · rw [yau (yff (by omega))]; exact h2
end Go.Ev.S

/- The laws of natural numbers that need quotients. -/
set_option linter.unusedVariables false
set_option linter.unusedSimpArgs false
set_option maxRecDepth 8000
namespace Go.Ev.S
open Go Go.Ev
end Go.Ev.S

/- Roots of exact numbers. -/
set_option linter.unusedVariables false
set_option linter.unusedSimpArgs false
set_option maxRecDepth 8000
namespace Go.Ev.S
open Go Go.Ev
section
variable {f : Nat} {n : Bool} {a b : Nat} {e : Int}
end
end Go.Ev.S

/- The bound of what is rounded. -/
set_option linter.unusedVariables false
set_option linter.unusedSimpArgs false
set_option maxRecDepth 8000
namespace Go.Ev.S
open Go Go.Ev
end Go.Ev.S

/- Values of encodings and back; the next encoding is next. -/
set_option linter.unusedVariables false
set_option linter.unusedSimpArgs false
set_option maxRecDepth 8000
namespace Go.Ev.S
open Go Go.Ev
theorem ytj (f x : Nat) (h : f ≤ 3) : mg f x < 2 ^ (fw f - 1) := yjR h (yqD f x) (yl4 f x)
theorem yt3 {f : Nat} (h : f ≤ 3) (n : Bool) {m : Nat} (hm : m < 2 ^ (fw f - 1)) : sg f n + m < 2 ^ fw f := by
 have e : 2 ^ fw f = 2 ^ (fw f - 1) + 2 ^ (fw f - 1) := by rcases yeq h with rfl | rfl | rfl | rfl <;> decide
 cases n
 ·have : sg f false = 0 := rfl
  omega
 ·have : sg f true = 2 ^ (fw f - 1) := rfl
  omega
theorem yes {f : Nat} (h : f ≤ 3) (n : Bool) {m : Nat} (hm : m < 2 ^ (fw f - 1)) : ng f (sg f n + m) = n ∧ mg f (sg f n + m) = m := by
 have e := yuB f _ h (yt3 h n hm)
 have h2 := ytj f (sg f n + m) h
 have s1 : sg f true = 2 ^ (fw f - 1) := rfl
 have s0 : sg f false = 0 := rfl
 generalize ng f (sg f n + m) = k at e
 generalize mg f (sg f n + m) = q at e h2
 cases n <;> cases k <;> simp only [s0, s1] at e <;> refine ⟨?_, ?_⟩ <;> first | rfl | omega
theorem ymJ (f x : Nat) : fin f x ↔ mg f x < (2 * fe f + 1) * 2 ^ (fp f - 1) := by
 have h1 := yqD f x
 have h2 := yl4 f x
 unfold fin mg
 constructor
 ·intro h
  have h3 : ex f x + 1 ≤ 2 * fe f + 1 := by omega
  have := Nat.mul_le_mul_right (2 ^ (fp f - 1)) h3
  rw [Nat.add_mul] at this; omega
 ·intro h h3
  rw [h3] at h; omega
theorem ymF {f x : Nat} (hf : fin f x) : (ng f x = true → cls f x < 4 ∧ (cls f x = 3 ↔ mg f x = 0)) ∧ (ng f x = false → 4 ≤ cls f x) := by
 have z := yjK f x
 unfold fin at hf
 unfold cls
 cases ng f x <;> simp only [cond_true, cond_false] <;> refine ⟨fun hh => ?_, fun hh => ?_⟩ <;> first | exact absurd hh (by decide) | skip
 ·rw [if_neg hf]; (repeat' split) <;> omega
 ·rw [if_neg hf]
  (repeat' split) <;> omega
def sm (f x : Nat) : Int := cond (ng f x) (-(mg f x : Int)) (mg f x)
theorem yfA (f x : Nat) (h : f ≤ 3) (hx : x < 2 ^ fw f) (hf : fin f x) (K : Bool → List UInt8 → List UInt8 → Int → Int → Prop)
  (hK : mkE (ng f x) (yfQ f x) 1 (yhJ f x) K) : zax f (Hi x) (Lo x) K := by
 have hc := (yl8 f x).1 hf
 have hs := ymF hf
 rw [zax.is]; unfold zax.d
 refine yeK f x h hx _ ?_
 rw [yau (by rfl), yau (yfN (by omega)), yau (yff (by omega))]
 refine yjy _ (ylW f x h) _ ?_
 have we : win (yhJ f x) := by have := yiM f x h; unfold win; omega
 have en : ltI (cls f x) 4 = ng f x := by
  cases hn : ng f x
  ·exact ybq (by have := hs.2 hn; omega)
  ·exact ya9 (by have := (hs.1 hn).1; omega)
 rw [en, ← ycO]
 exact ycj (ng f x) (ykX (ylW f x h)) ydu (by decide) we hK
theorem ysa {f x : Nat} (hf : ¬ fin f x) : cls f x = 0 ∨ 7 ≤ cls f x := by
 have h1 := yld f x
 have h2 := yl8 f x
 have h3 : ¬ (1 ≤ cls f x ∧ cls f x ≤ 6) := fun hh => hf (h2.2 hh)
 omega
theorem yeF (f x : Nat) (h : f ≤ 3) (hx : x < 2 ^ fw f) (hf : ¬ fin f x) (K : Bool → List UInt8 → List UInt8 → Int → Int → Prop)
  (hK : K false [] [] 0 80) : zax f (Hi x) (Lo x) K := by
 rw [zax.is]; unfold zax.d
 refine yeK f x h hx _ ?_
 rw [yau (by rfl)]
 rcases ysa hf with c | c
 ·rw [yaA (yhy c)]; exact hK
 ·rw [yau (yfN (by omega)), yaA (ybb c)]; exact hK
end Go.Ev.S

/- The next encoding is next. -/
set_option linter.unusedVariables false
set_option linter.unusedSimpArgs false
set_option maxRecDepth 8000
namespace Go.Ev.S
open Go Go.Ev
theorem yqy {f : Nat} (h : f ≤ 3) : fin f 0 ∧ V (ng f 0) (yfQ f 0) 1 (yhJ f 0) = 0 := by
 have hp := Nat.two_pow_pos (fw f - 1)
 have p := yes h false (show 0 < 2 ^ (fw f - 1) by omega)
 have e0 : sg f false + 0 = 0 := rfl
 rw [e0] at p
 have hf : fin f 0 := by
  rw [ymJ, p.2]; exact Nat.mul_pos (by omega) (Nat.two_pow_pos _)
 refine ⟨hf, ?_⟩
 rw [ysO f 0 hf, p.2, ymf, show ((0 : Nat) : Rat) = 0 from rfl]; grind
theorem yrF {f a : Nat} {e : Int} (h : f ≤ 3) (h1 : a < 2 ^ fp f) (h2 : -16495 ≤ e) (h3 : e ≤ 16385) {P E : Nat} (hP : P = 113) (hE : E = 16495) : Bd P E a 1 e := by
 have hp : fp f ≤ 113 := by rcases yeq h with rfl | rfl | rfl | rfl <;> decide
 subst hP
 exact ⟨Nat.lt_of_lt_of_le h1 (Nat.pow_le_pow_right (by omega) hp), Nat.one_lt_two_pow (by omega), by omega, by omega⟩
end Go.Ev.S

/- Rounding turned about. -/
set_option linter.unusedVariables false
set_option linter.unusedSimpArgs false
set_option maxRecDepth 8000
namespace Go.Ev.S
open Go Go.Ev
def sw (m : Nat) : Nat := if m = 2 then 3 else if m = 3 then 2 else m
theorem yun {f : Nat} (h : f ≤ 3) (m : Nat) (n : Bool) : ov f m n < 2 ^ fw f := by
 have hp := Nat.two_pow_pos (fp f - 1)
 unfold ov
 cases gr m n
 ·exact yqj h (Nat.le_refl _) hp n
 ·exact yqj h (by omega) (by omega) n
end Go.Ev.S

/- The neighbours and tininess. -/
set_option linter.unusedVariables false
set_option linter.unusedSimpArgs false
set_option maxRecDepth 8000
namespace Go.Ev.S
open Go Go.Ev
theorem ygp {f z : Nat} (h : f ≤ 3) (K : Int → Int → Prop) (hK : K (Hi (uz f z)) (Lo (uz f z))) : zdh f (Hi z) (Lo z) K := by
 rw [zdh.is]; unfold zdh.d
 have e1 : enc f true 0 0 = sg f true := by unfold enc; omega
 rw [ye8 f h, e1, yoX]
 unfold uz at hK
 refine yeg (fun hz => ?_) fun hz => ?_
 ·rw [if_pos hz] at hK; exact hK
 ·rw [if_neg hz] at hK; exact hK
theorem ytY {f z : Nat} (h : f ≤ 3) (hz : z < 2 ^ fw f) : (cls f z = 3 ↔ z = sg f true) ∧ (cls f z = 4 ↔ z = 0) := by
 have hp := Nat.two_pow_pos (fw f - 1)
 have hx := yuB f z h hz
 have s1 : sg f true = 2 ^ (fw f - 1) := rfl
 have s0 : sg f false = 0 := rfl
 have hm := ytj f z h
 have hzr := yjK f z
 have hfi := yl8 f z
 have c3 : cls f z = 3 → ng f z = true := by
  intro hc
  have hf := hfi.2 (by omega)
  cases hn : ng f z with
  | true => rfl
  | false => have := (ymF hf).2 hn; omega
 have c4 : cls f z = 4 → ng f z = false := by
  intro hc
  have hf := hfi.2 (by omega)
  cases hn : ng f z with
  | false => rfl
  | true => have := (ymF hf).1 hn; omega
 have c34 : (cls f z = 3 ∨ cls f z = 4) ↔ mg f z = 0 := by
  rw [hzr]
  constructor
  ·intro hc
   have hf := hfi.2 (by omega)
   unfold fin at hf
   unfold cls at hc
   rw [if_neg hf] at hc
   by_cases h1 : ex f z = 0
   ·rw [if_neg (by omega)] at hc
    by_cases h2 : fr f z = 0
    ·exact ⟨h1, h2⟩
    ·rw [if_pos h2] at hc
     revert hc; cases ng f z <;> intro hc <;> simp at hc
   ·rw [if_pos h1] at hc
    revert hc; cases ng f z <;> intro hc <;> simp at hc
  ·rintro ⟨h1, h2⟩
   unfold cls
   rw [if_neg (by omega), if_neg (by omega), if_neg (by omega)]
   cases ng f z
   ·right; rfl
   ·left; rfl
 refine ⟨⟨fun hc => ?_, fun hh => ?_⟩, ⟨fun hc => ?_, fun hh => ?_⟩⟩
 ·rw [c3 hc] at hx; have := c34.1 (.inl hc); omega
 ·have hn : ng f z = true := by
   cases hn : ng f z with
   | true => rfl
   | false => rw [hn] at hx; omega
  rw [hn] at hx
  rcases c34.2 (by omega) with g | g
  ·exact g
  ·rw [c4 g] at hn; cases hn
 ·rw [c4 hc] at hx; have := c34.1 (.inr hc); omega
 ·have hn : ng f z = false := by
   cases hn : ng f z with
   | false => rfl
   | true => rw [hn] at hx; omega
  rw [hn] at hx
  rcases c34.2 (by omega) with g | g
  ·rw [c3 g] at hn; cases hn
  ·exact g
end Go.Ev.S

/- Parts packed: the same on both sides. -/
set_option linter.unusedVariables false
set_option linter.unusedSimpArgs false
set_option maxRecDepth 8000
namespace Go.Ev.S
open Go Go.Ev
section
variable {f : Nat} {s r : Nat → Int} {x : Int} {K : Int → Int → Int → Prop}
end
end Go.Ev.S

/- Parts: apart and together. -/
set_option linter.unusedVariables false
set_option linter.unusedSimpArgs false
set_option maxRecDepth 8000
namespace Go.Ev.S
open Go Go.Ev
theorem ye9 {f : Nat} (h : f ≤ 3) (n : Bool) {E t : Nat} (he : E ≤ 2 * fe f + 1) (ht : t < 2 ^ (fp f - 1)) : ng f (enc f n E t) = n ∧ ex f (enc f n E t) = E ∧ fr f (enc f n E t) = t := by
 have hb := yjR h he ht
 have p := yes h n hb
 have e1 : enc f n E t = sg f n + (E * 2 ^ (fp f - 1) + t) := by unfold enc; omega
 rw [← e1] at p
 have h2 := p.2
 unfold mg at h2
 have d1 := yrD (ex f (enc f n E t)) (fr f (enc f n E t)) (2 ^ (fp f - 1)) (yl4 _ _)
 have d2 := yrD E t (2 ^ (fp f - 1)) ht
 rw [h2] at d1
 exact ⟨p.1, by rw [← d1.1, d2.1], by rw [← d1.2, d2.2]⟩
end Go.Ev.S

/- What is exact is delivered as it is; the root of a square. -/
set_option linter.unusedVariables false
set_option linter.unusedSimpArgs false
set_option maxRecDepth 8000
namespace Go.Ev.S
open Go Go.Ev
end Go.Ev.S

/- What is delivered is one of the neighbours, the nearest by the nearest modes. -/
set_option linter.unusedVariables false
set_option linter.unusedSimpArgs false
set_option maxRecDepth 8000
namespace Go.Ev.S
open Go Go.Ev
theorem ydA {f : Nat} (h : f ≤ 3) (n : Bool) {top : Int} (ht : top ≤ fe f) {w : Nat} (hw : w ≤ 2 ^ fp f) (hs : pl f top = 2 - (fe f : Int) - fp f ∨ 2 ^ (fp f - 1) ≤ w) :
  yeD f n (pl f top) w < 2 ^ fw f ∧ ng f (yeD f n (pl f top) w) = n ∧ mg f (yeD f n (pl f top) w) = (pl f top + fe f + fp f - 2).toNat * 2 ^ (fp f - 1) + w ∧
  (fin f (yeD f n (pl f top) w) ↔ ¬ (fe f : Int) < (yaw w : Int) - 1 + pl f top) ∧
  (¬ fin f (yeD f n (pl f top) w) → w = 2 ^ fp f ∧ yeD f n (pl f top) w = enc f n (2 * fe f + 1) 0) ∧
  (fin f (yeD f n (pl f top) w) → V (ng f (yeD f n (pl f top) w)) (yfQ f (yeD f n (pl f top) w)) 1 (yhJ f (yeD f n (pl f top) w)) = sR n * (w : Rat) * p2 (pl f top)) := by
 obtain ⟨w1, w2, w3, w4, w5, w6⟩ := yct f h
 have hp := yjA h top ht
 have hB := Nat.two_pow_pos (fp f - 1)
 have hfe : 1 ≤ fe f := by rcases yeq h with rfl | rfl | rfl | rfl <;> decide
 have e2 : 2 ^ fp f = 2 ^ (fp f - 1) + 2 ^ (fp f - 1) := by rcases yeq h with rfl | rfl | rfl | rfl <;> decide
 have hpu : pl f top ≤ fe f - fp f + 1 := by unfold pl; split <;> omega
 have hbl1 : yaw w ≤ fp f ↔ w < 2 ^ fp f := yaT w (fp f)
 have hbl2 : yaw w ≤ fp f + 1 := by rw [yaT, Nat.pow_succ]; omega
 obtain ⟨q, hq⟩ : ∃ q : Nat, (q : Int) = pl f top + fe f + fp f - 2 := ⟨(pl f top + fe f + fp f - 2).toNat, by omega⟩
 have hq' : (pl f top + fe f + fp f - 2).toNat = q := by omega
 have hq2 : q ≤ 2 * fe f - 1 := by omega
 have hfw := ytU f h
 have hz : yeD f n (pl f top) w = sg f n + (q * 2 ^ (fp f - 1) + w) := by unfold yeD; rw [hq']
 rw [hq', hz]
 have hm2 : q * 2 ^ (fp f - 1) + w ≤ (2 * fe f + 1) * 2 ^ (fp f - 1) := by
  have := Nat.mul_le_mul_right (2 ^ (fp f - 1)) (show q + 2 ≤ 2 * fe f + 1 by omega)
  rw [Nat.add_mul] at this; omega
 have hm3 : q * 2 ^ (fp f - 1) + w < 2 ^ (fw f - 1) := by
  rw [hfw]
  have : (2 * fe f + 2) * 2 ^ (fp f - 1) = (2 * fe f + 1) * 2 ^ (fp f - 1) + 2 ^ (fp f - 1) := by rw [show 2 * fe f + 2 = 2 * fe f + 1 + 1 from rfl, Nat.add_mul (2 * fe f + 1) 1, Nat.one_mul]
  omega
 have p := yes h n hm3
 have hfin : fin f (sg f n + (q * 2 ^ (fp f - 1) + w)) ↔ ¬ (w = 2 ^ fp f ∧ q = 2 * fe f - 1) := by
  rw [ymJ, p.2]
  constructor
  ·rintro hl ⟨g1, g2⟩
   have : (2 * fe f + 1) * 2 ^ (fp f - 1) = q * 2 ^ (fp f - 1) + w := by
    rw [g1, e2, show 2 * fe f + 1 = q + 2 from by omega, Nat.add_mul]; omega
   omega
  ·intro hn
   by_cases g : w = 2 ^ fp f
   ·have := Nat.mul_le_mul_right (2 ^ (fp f - 1)) (show q + 3 ≤ 2 * fe f + 1 by omega)
    rw [Nat.add_mul] at this; omega
   ·have := Nat.mul_le_mul_right (2 ^ (fp f - 1)) (show q + 2 ≤ 2 * fe f + 1 by omega)
    rw [Nat.add_mul] at this; omega
 refine ⟨yt3 h n hm3, p.1, p.2, ?_, ?_, ?_⟩
 ·rw [hfin]
  constructor
  ·intro hn hh; apply hn; omega
  ·rintro hn ⟨g1, g2⟩; apply hn; omega
 ·intro hn
  have hn' : w = 2 ^ fp f ∧ q = 2 * fe f - 1 := Classical.byContradiction fun hh => hn (hfin.2 hh)
  refine ⟨hn'.1, ?_⟩
  unfold enc
  have : (2 * fe f + 1) * 2 ^ (fp f - 1) = q * 2 ^ (fp f - 1) + w := by
   rw [hn'.1, e2, show 2 * fe f + 1 = q + 2 from by omega, Nat.add_mul]; omega
  omega
 ·intro hf
  have hN : Nm (fp f - 1) (q * 2 ^ (fp f - 1) + w) = w * 2 ^ q := by
   by_cases g1 : w < 2 ^ (fp f - 1)
   ·have q0 : q = 0 := by omega
    rw [yq7 _ _ _ g1, if_pos q0, q0]; omega
   by_cases g2 : w < 2 ^ fp f
   ·have : q * 2 ^ (fp f - 1) + w = (q + 1) * 2 ^ (fp f - 1) + (w - 2 ^ (fp f - 1)) := by rw [Nat.add_mul]; omega
    rw [this, yq7 _ _ _ (by omega), if_neg (by omega)]
    rw [show w - 2 ^ (fp f - 1) + 2 ^ (fp f - 1) = w from by omega, Nat.add_sub_cancel]
   ·have : q * 2 ^ (fp f - 1) + w = (q + 2) * 2 ^ (fp f - 1) + 0 := by rw [Nat.add_mul]; omega
    rw [this, yq7 _ _ _ (by omega), if_neg (by omega), show w = 2 ^ (fp f - 1) * 2 from by omega, show q + 2 - 1 = q + 1 from by omega, Nat.pow_succ, Nat.zero_add, Nat.mul_assoc, Nat.mul_comm 2]
  rw [ysO f _ hf, p.1, p.2, hN, Rat.natCast_mul, ← ycU, show pl f top = (q : Int) + eL f from by unfold eL; omega, ycJ]
  grind
def zz (f m : Nat) (n : Bool) (F : Int → Nat × Bool) (top : Int) : Nat := if (fe f : Int) < top then ov f m n else yeD f n (pl f top) (tk F m n (pl f top))
def zf (f m : Nat) (n : Bool) (F : Int → Nat × Bool) (top : Int) : Int :=
 if (fe f : Int) < top then 5 else if (fe f : Int) < (yaw (tk F m n (pl f top)) : Int) - 1 + pl f top then 5 else if (F (pl f top)).2 = true then 0 else if yjM f m n F top = true then 3 else 1
theorem yut {m : Nat} (hm : m ≤ 4) {n o e : Bool} {a : Int} (h : upB m n o a e = true) : gr m n = false ∧ e = false := by
 have he : e = false := by
  cases e with
  | false => rfl
  | true => exact absurd h (by unfold upB; rw [if_pos rfl]; decide)
 subst he
 refine ⟨?_, rfl⟩
 unfold upB at h
 rw [if_neg (by decide)] at h
 rcases ysg hm with rfl | rfl | rfl | rfl | rfl
 ·rfl
 ·have : false = true := h
  cases this
 ·have : n = true := h
  subst this; rfl
 ·have : (!n) = true := h
  cases n
  ·rfl
  ·cases this
 ·rfl
section
variable {f m : Nat} {n : Bool} {F : Int → Nat × Bool} {top : Int}
theorem ytJ (h : f ≤ 3) (hm : m ≤ 4) (n : Bool) (H : FF F (fp f) top) (K : Int → Int → Int → Int → Prop) (hK : K (Hi (zz f m n F top)) (Lo (zz f m n F top)) (zf f m n F top) 0) : dlv f m n F top K := by
 unfold zz zf at hK
 unfold dlv
 by_cases h1 : (fe f : Int) < top
 ·rw [if_pos h1] at hK ⊢; rw [if_pos h1] at hK; exact hK
 ·rw [if_neg h1] at hK ⊢; rw [if_neg h1] at hK
  have t := ydA h n (show top ≤ fe f by omega) (H.tk_facts h m n).1 (H.tk_facts h m n).2.1
  by_cases h2 : (fe f : Int) < (yaw (tk F m n (pl f top)) : Int) - 1 + pl f top
  ·rw [if_pos h2] at hK ⊢
   have hnf := t.2.2.2.2.1 fun hh => t.2.2.2.1.1 hh h2
   have hl := H.lt (pl f top) (H.tk_facts h m n).2.2.2
   have hu : upB m n (decide ((F (pl f top)).1 % 2 = 1)) (hf F (pl f top)) (F (pl f top)).2 = true := by
    have e1 := hnf.1
    unfold tk at e1
    cases hu : upB m n (decide ((F (pl f top)).1 % 2 = 1)) (hf F (pl f top)) (F (pl f top)).2 with
    | true => rfl
    | false => rw [hu] at e1; simp only [cond_false] at e1; omega
   have hg := (yut hm hu).1
   have : ov f m n = enc f n (2 * fe f + 1) 0 := by unfold ov; rw [hg]; rfl
   rw [this, ← hnf.2]; exact hK
  ·rw [if_neg h2] at hK ⊢; exact hK
theorem ygU (h : f ≤ 3) (m : Nat) (n : Bool) (H : FF F (fp f) top) : zz f m n F top < 2 ^ fw f ∧ ng f (zz f m n F top) = n ∧ (zf f m n F top = 0 ∨ zf f m n F top = 1 ∨ zf f m n F top = 3 ∨ zf f m n F top = 5) ∧ (¬ fin f (zz f m n F top) → zf f m n F top = 5) := by
 have hB := Nat.two_pow_pos (fp f - 1)
 unfold zz zf
 by_cases h1 : (fe f : Int) < top
 ·rw [if_pos h1, if_pos h1]
  refine ⟨yun h m n, ?_, .inr (.inr (.inr rfl)), fun _ => rfl⟩
  unfold ov
  cases gr m n
  ·exact (ye9 h n (Nat.le_refl _) hB).1
  ·exact (ye9 h n (by omega) (by omega)).1
 ·rw [if_neg h1, if_neg h1]
  have t := ydA h n (show top ≤ fe f by omega) (H.tk_facts h m n).1 (H.tk_facts h m n).2.1
  refine ⟨t.1, t.2.1, ?_, fun hn => ?_⟩
  ·(repeat' split) <;> simp
  ·have := t.2.2.2.1
   rw [if_pos (Classical.byContradiction fun hh => hn (this.2 hh))]
theorem ym8 (F : Int → Nat × Bool) (n : Bool) (at_ : Int) : tk F 2 n at_ = (F at_).1 + cond ((F at_).2) 0 (cond n 1 0) ∧ tk F 3 n at_ = (F at_).1 + cond ((F at_).2) 0 (cond n 0 1) ∧ tk F 1 n at_ = (F at_).1 := by
 unfold tk
 cases (F at_).2 <;> cases n <;> exact ⟨rfl, rfl, rfl⟩
theorem yth (F : Int → Nat × Bool) (m : Nat) (n : Bool) (at_ : Int) : tk F m n at_ = tk F 2 n at_ ∨ tk F m n at_ = tk F 3 n at_ := by
 have h := ym8 F n at_
 rw [h.1, h.2.1]
 have hx : (F at_).2 = true → tk F m n at_ = (F at_).1 := by
  intro hh; unfold tk; rw [hh]; rfl
 cases hh : (F at_).2 with
 | true => left; exact hx hh
 | false =>
  unfold tk
  rw [hh]
  cases upB m n (decide ((F at_).1 % 2 = 1)) (hf F at_) false <;> cases n
  ·left; rfl
  ·right; rfl
  ·right; rfl
  ·left; rfl
theorem ytD (f : Nat) (hm : m ≤ 4) (n : Bool) (F : Int → Nat × Bool) (top : Int) : zz f m n F top = zz f 2 n F top ∨ zz f m n F top = zz f 3 n F top := by
 unfold zz
 by_cases h1 : (fe f : Int) < top
 ·simp only [if_pos h1]
  rcases ysg hm with rfl | rfl | rfl | rfl | rfl <;> cases n <;> first | exact .inl rfl | exact .inr rfl
 ·simp only [if_neg h1]
  rcases yth F m n (pl f top) with g | g
  ·left; rw [g]
  ·right; rw [g]
theorem ysN (f : Nat) (n : Bool) (F : Int → Nat × Bool) (top : Int) : zz f 1 n F top = cond n (zz f 3 n F top) (zz f 2 n F top) := by
 unfold zz
 by_cases h1 : (fe f : Int) < top
 ·simp only [if_pos h1]
  cases n <;> rfl
 ·simp only [if_neg h1]
  have t := ym8 F n (pl f top)
  rw [t.1, t.2.1, t.2.2]
  cases n <;> cases (F (pl f top)).2 <;> rfl
theorem yoT {f x : Nat} (h : f ≤ 3) : mg f (uz f x) = mg f x := by
 unfold uz
 have hp := Nat.two_pow_pos (fw f - 1)
 by_cases hx : x = sg f true
 ·rw [if_pos hx, hx]
  have p1 := yes h true hp
  have p0 := yes h false hp
  rw [Nat.add_zero] at p1 p0
  rw [p1.2]; exact p0.2
 ·rw [if_neg hx]
theorem yrW {f : Nat} (h : f ≤ 3) (n : Bool) {E t : Nat} (he : E ≤ 2 * fe f + 1) (ht : t < 2 ^ (fp f - 1)) : mg f (enc f n E t) = E * 2 ^ (fp f - 1) + t := by
 have p := ye9 h n he ht
 unfold mg; rw [p.2.1, p.2.2]
theorem ysQ (h : f ≤ 3) (m : Nat) (n : Bool) (H : FF F (fp f) top) : (uz f (zz f 2 n F top) = uz f (zz f 3 n F top)) ↔ zf f m n F top = 0 := by
 have hB := Nat.two_pow_pos (fp f - 1)
 unfold zz zf
 by_cases h1 : (fe f : Int) < top
 ·simp only [if_pos h1]
  refine ⟨fun hh => ?_, fun hh => absurd hh (by decide)⟩
  have hh2 := congrArg (mg f) hh
  rw [yoT h, yoT h] at hh2
  have m1 := yrW h n (Nat.le_refl _) hB
  have m2 := yrW h n (show 2 * fe f ≤ 2 * fe f + 1 by omega) (show 2 ^ (fp f - 1) - 1 < 2 ^ (fp f - 1) by omega)
  have e3 : (2 * fe f + 1) * 2 ^ (fp f - 1) = 2 * fe f * 2 ^ (fp f - 1) + 2 ^ (fp f - 1) := by rw [Nat.add_mul, Nat.one_mul]
  unfold ov at hh2
  cases n
  ·rw [show gr 2 false = true from rfl, show gr 3 false = false from rfl, cond_true, cond_false, m1, m2] at hh2
   omega
  ·rw [show gr 2 true = false from rfl, show gr 3 true = true from rfl, cond_true, cond_false, m1, m2] at hh2
   omega
 ·simp only [if_neg h1]
  have t := ydA h n (show top ≤ fe f by omega) (H.tk_facts h m n).1 (H.tk_facts h m n).2.1
  have t2 := ydA h n (show top ≤ fe f by omega) (H.tk_facts h 2 n).1 (H.tk_facts h 2 n).2.1
  have t3 := ydA h n (show top ≤ fe f by omega) (H.tk_facts h 3 n).1 (H.tk_facts h 3 n).2.1
  have tt := ym8 F n (pl f top)
  cases hx : (F (pl f top)).2 with
  | true =>
   have hl := H.lt (pl f top) (H.tk_facts h m n).2.2.2
   have htk : tk F m n (pl f top) = (F (pl f top)).1 := by unfold tk; rw [hx]; rfl
   rw [tt.1, tt.2.1, hx]
   refine ⟨fun _ => ?_, fun _ => rfl⟩
   rw [if_neg, if_pos rfl]
   apply t.2.2.2.1.1
   apply Classical.byContradiction; intro hn
   have := (t.2.2.2.2.1 hn).1
   omega
  | false =>
   refine ⟨fun hh => ?_, fun hh => ?_⟩
   ·have hh2 := congrArg (mg f) hh
    rw [yoT h, yoT h, t2.2.2.1, t3.2.2.1, tt.1, tt.2.1, hx] at hh2
    cases n
    ·simp only [cond_false, cond_true] at hh2; omega
    ·simp only [cond_false, cond_true] at hh2; omega
   ·exfalso
    revert hh
    rw [if_neg Bool.false_ne_true]
    (repeat' split) <;> decide
theorem ysV {X A h u v : Rat} (h0 : 0 < h) (u0 : 0 ≤ u) (v0 : 0 ≤ v) (x1 : A + h ≤ X) (x2 : X < A + 2 * h) (hu : u = X - (A + 2 * h) ∨ u = -(X - (A + 2 * h))) (hv : (v = X - A ∨ v = -(X - A)) ∨ v = X - (A + 2 * h) ∨ v = -(X - (A + 2 * h))) : u ≤ v := by
 grind
theorem ys3 {X A h u v : Rat} (h0 : 0 < h) (u0 : 0 ≤ u) (v0 : 0 ≤ v) (x1 : A ≤ X) (x2 : X ≤ A + h) (hu : u = X - A ∨ u = -(X - A)) (hv : (v = X - A ∨ v = -(X - A)) ∨ v = X - (A + 2 * h) ∨ v = -(X - (A + 2 * h))) : u ≤ v := by
 grind
theorem yqO {X : Rat} (hm : m = 0 ∨ m = 4) (hF : ∀ at_, Flr X at_ (F at_).1 (F at_).2) (H : FF F (fp f) top) {at_ : Int} {k : Nat} (hk : k = 2 ∨ k = 3) {u v : Rat}
  (u0 : 0 ≤ u) (v0 : 0 ≤ v) (hu : u = X - (tk F m n at_ : Rat) * p2 at_ ∨ u = -(X - (tk F m n at_ : Rat) * p2 at_)) (hv : v = X - (tk F k n at_ : Rat) * p2 at_ ∨ v = -(X - (tk F k n at_ : Rat) * p2 at_)) : u ≤ v := by
 have h0 := yc1 (at_ - 1)
 have f1 := (hF at_).le
 have f2 := (hF at_).lt
 have f3 := (hF at_).eq
 have g1 := (hF (at_ - 1)).le
 have g2 := (hF (at_ - 1)).lt
 have g3 := (hF (at_ - 1)).eq
 have hh := H.half (at_ - 1)
 rw [show at_ - 1 + 1 = at_ from by omega] at hh
 have hq1 : p2 at_ = 2 * p2 (at_ - 1) := by
  have := ycJ (at_ - 1) 1
  rw [show at_ - 1 + 1 = at_ from by omega, yrX] at this; grind
 have tt := ym8 F n at_
 have hhf : hf F at_ = if (F (at_ - 1)).1 % 2 = 1 then (if (F (at_ - 1)).2 = true then 0 else 1) else -1 := rfl
 have htk : (F at_).2 = false → tk F m n at_ = (F at_).1 + cond (upB m n (decide ((F at_).1 % 2 = 1)) (hf F at_) false) 1 0 := by intro hx; unfold tk; rw [hx]
 have htk1 : (F at_).2 = true → tk F m n at_ = (F at_).1 := by intro hx; unfold tk; rw [hx]; rfl
 generalize (F at_).1 = M at *
 generalize (F at_).2 = is at *
 generalize (F (at_ - 1)).1 = k1 at *
 generalize (F (at_ - 1)).2 = no at *
 have a1 : ((M + 1 : Nat) : Rat) * p2 at_ = (M : Rat) * p2 at_ + 2 * p2 (at_ - 1) := by
  rw [Rat.natCast_add, show ((1 : Nat) : Rat) = 1 from rfl, hq1]; grind
 have a2 : ((2 * M : Nat) : Rat) * p2 (at_ - 1) = (M : Rat) * p2 at_ := by
  rw [Rat.natCast_mul, show ((2 : Nat) : Rat) = 2 from rfl, hq1]; grind
 have a3 : ((2 * M + 1 : Nat) : Rat) * p2 (at_ - 1) = (M : Rat) * p2 at_ + p2 (at_ - 1) := by
  rw [Rat.natCast_add, show ((1 : Nat) : Rat) = 1 from rfl, ← a2]; grind
 have a4 : ((2 * M + 1 + 1 : Nat) : Rat) * p2 (at_ - 1) = (M : Rat) * p2 at_ + 2 * p2 (at_ - 1) := by
  rw [Rat.natCast_add, show ((1 : Nat) : Rat) = 1 from rfl]; grind
 have hv' : (v = X - (M : Rat) * p2 at_ ∨ v = -(X - (M : Rat) * p2 at_)) ∨ v = X - ((M : Rat) * p2 at_ + 2 * p2 (at_ - 1)) ∨ v = -(X - ((M : Rat) * p2 at_ + 2 * p2 (at_ - 1))) := by
  have hkk : tk F k n at_ = M ∨ tk F k n at_ = M + 1 := by
   rcases hk with rfl | rfl
   ·rw [tt.1]; cases is <;> cases n <;> simp
   ·rw [tt.2.1]; cases is <;> cases n <;> simp
  rcases hkk with g | g
  ·left; rw [g] at hv; exact hv
  ·right; rw [g, a1] at hv; exact hv
 rw [a1] at f2
 have up : tk F m n at_ = M + 1 → (M : Rat) * p2 at_ + p2 (at_ - 1) ≤ X → u ≤ v := by
  intro g x1
  rw [g, a1] at hu
  exact ysV h0 u0 v0 x1 f2 hu hv'
 have dn : tk F m n at_ = M → X ≤ (M : Rat) * p2 at_ + p2 (at_ - 1) → u ≤ v := by
  intro g x1
  rw [g] at hu
  exact ys3 h0 u0 v0 f1 x1 hu hv'
 clear hu hv hv' tt
 cases is with
 | true =>
  have := f3.1 rfl
  exact dn (htk1 rfl) (by grind)
 | false =>
  have ht := htk rfl
  by_cases ho : k1 % 2 = 1
  ·have hk1 : k1 = 2 * M + 1 := by omega
   rw [hk1] at g1 g2 g3
   rw [a3] at g1 g3
   rw [a4] at g2
   rw [if_pos ho] at hhf
   cases no with
   | true =>
    have g4 := g3.1 rfl
    revert ht
    cases upB m n (decide (M % 2 = 1)) (hf F at_) false with
    | true => intro ht; exact up ht (by grind)
    | false => intro ht; exact dn ht (by grind)
   | false =>
    rw [if_neg Bool.false_ne_true] at hhf
    rw [hhf] at ht
    have hu1 : upB m n (decide (M % 2 = 1)) 1 false = true := by rcases hm with rfl | rfl <;> rfl
    rw [hu1] at ht
    exact up ht (by grind)
  ·have hk1 : k1 = 2 * M := by omega
   rw [hk1] at g2
   rw [a3] at g2
   rw [if_neg ho] at hhf
   rw [hhf] at ht
   have hu1 : upB m n (decide (M % 2 = 1)) (-1) false = false := by rcases hm with rfl | rfl <;> rfl
   rw [hu1] at ht
   exact dn ht (by grind)
end
theorem yuM {f x : Nat} (h : f ≤ 3) (hx : x < 2 ^ fw f) (hf : fin f x) : fin f (uz f x) ∧ V (ng f (uz f x)) (yfQ f (uz f x)) 1 (yhJ f (uz f x)) = V (ng f x) (yfQ f x) 1 (yhJ f x) := by
 have hp := Nat.two_pow_pos (fw f - 1)
 unfold uz
 by_cases hz : x = sg f true
 ·rw [if_pos hz]
  have z := yqy h
  refine ⟨z.1, ?_⟩
  have p1 := yes h true hp
  rw [Nat.add_zero] at p1
  rw [z.2, ysO f x hf, hz, p1.2, ymf, show ((0 : Nat) : Rat) = 0 from rfl]; grind
 ·rw [if_neg hz]; exact ⟨hf, rfl⟩
theorem yt0 {f x : Nat} (h : f ≤ 3) : fin f (uz f x) ↔ fin f x := by rw [ymJ, ymJ, yoT h]
theorem ytv {f x : Nat} (hx : x < 2 ^ fw f) : uz f x < 2 ^ fw f := by
 unfold uz; split
 ·exact Nat.two_pow_pos _
 ·exact hx
theorem yr8 {a1 b1 a2 b2 : Nat} {e1 e2 : Int} (c1 : Can false a1 b1 e1) (c2 : Can false a2 b2 e2) (h : V false a1 b1 e1 ≤ V false a2 b2 e2) (K : Int → Int → Prop) (h0 : ∀ c : Int, c ≤ 0 → K c 0) (h4 : K 0 4) : yt4 false a1 b1 e1 false a2 b2 e2 K := by
 unfold yt4
 by_cases g1 : sgE false a1 < sgE false a2
 ·rw [if_pos g1]; exact h0 _ (by omega)
 rw [if_neg g1]
 by_cases g2 : sgE false a2 < sgE false a1
 ·exfalso
  have z2 : a2 = 0 := by
   apply Classical.byContradiction; intro hh
   unfold sgE at g2
   rw [if_neg hh, if_neg Bool.false_ne_true] at g2
   by_cases z1 : a1 = 0
   ·rw [if_pos z1] at g2; omega
   ·rw [if_neg z1] at g2; omega
  have z1 : a1 ≠ 0 := by
   intro hh; rw [hh, z2] at g2; exact absurd g2 (by decide)
  have := yti z1 c1.b0 e1
  rw [z2, yd1] at h
  grind
 rw [if_neg g2]
 by_cases g3 : sgE false a1 = 0
 ·rw [if_pos g3]; exact h0 _ (by omega)
 rw [if_neg g3]
 by_cases g4 : fit (lv a1 b2 e1 (mn e1 e2)) ∧ fit (lv a2 b1 e2 (mn e1 e2))
 ·rw [if_pos g4]
  apply h0
  have hc := ytP c1 c2 rfl
  have hle : yoG (V false a1 b1 e1) (V false a2 b2 e2) ≤ 0 := by
   unfold yoG; (repeat' split) <;> first | omega | (exfalso; grind)
  rw [hc] at hle
  simp only [cond_false, Int.one_mul] at hle
  have s1 := yly false a1
  unfold sgE at g3 s1 ⊢
  by_cases z1 : a1 = 0
  ·rw [if_pos z1] at g3; exact absurd rfl g3
  ·rw [if_neg z1, if_neg Bool.false_ne_true, Int.one_mul]; exact hle
 ·rw [if_neg g4]; exact h4
theorem yrH {n n' : Bool} {a b a' : Nat} {e e' : Int} {P1 E1 P2 E2 : Nat} (c : Can n a b e) (c' : Can n' a' 1 e') (d : Bd P1 E1 a b e) (d' : Bd P2 E2 a' 1 e') (hP : P1 + P2 + (E1 + E2) + 1 + (E1 + E2) ≤ 131072) (K : K5)
  (hK : ∀ s u w g, Can s u w g → V s u w g = V n a b e - V n' a' 1 e' → K s (nb u) (nb w) g 0) : zak n (nb a) (nb b) e n' (nb a') (nb 1) e' K := by
 refine ylu c c' _ (yto c c'.neg d ⟨d'.a, d'.b, d'.l, d'.u⟩ hP _ fun s u w g c3 v3 _ => hK s u w g c3 ?_)
 rw [v3, yoo]; grind
theorem ysA {c d : Prop} [Decidable c] [Decidable d] {p T : Prop} (hcd : c ∨ d) (hT : T) : br (!decide c) (br (!decide d) p T) T :=
 yea (fun h1 => yea (fun h2 => absurd hcd (fun g => g.elim h1 h2)) fun _ => hT) fun _ => hT
theorem ysr {fl : Int} (hfl : fl = 0 ∨ fl = 1 ∨ fl = 3 ∨ fl = 5) {p M : Prop} (hM : M) : br (!eqI (ycp .u8 fl 6) 0) (br (eqI (ycp .u8 fl 1) 0) p M) M := by
 rcases hfl with rfl | rfl | rfl | rfl <;> exact hM
theorem ynn {c d : Prop} [Decidable c] [Decidable d] (h : c ↔ d) : ybf (decide c) (decide d) = true := by
 by_cases hc : c
 ·rw [decide_eq_true hc, decide_eq_true (h.1 hc)]; rfl
 ·rw [decide_eq_false hc, decide_eq_false (fun hd => hc (h.2 hd))]; rfl
section
variable {f m : Nat} {n : Bool} {a b : Nat} {e : Int}
theorem yhI (h : f ≤ 3) (hm : m ≤ 4) (c : Can n a b e) (ha : a ≠ 0) (la : (nb a).length ≤ 60) (lb : (nb b).length ≤ 60) (K : Bool → Prop) (hal : zbc fun y0 => K y0) {z lo hi Z : Nat} {fl : Int}
  (ez : z = zz f m n (FX a b e) (tp a b + e)) (el : lo = uz f (zz f 2 n (FX a b e) (tp a b + e))) (eh : hi = uz f (zz f 3 n (FX a b e) (tp a b + e))) (ef : fl = zf f m n (FX a b e) (tp a b + e)) (eZ : Z = uz f z) {p q : Int} (ep : p = Hi Z) (eq : q = Lo Z) :
  (fun (y0 y1 y2 y0_1 y1_1 y2_1 y3_1 : Int) => br (!(eqI p y0_1 && eqI q y1_1)) (br (!(eqI p y2_1 && eqI q y3_1)) (K false) (br (!ybf (eqI y2 0) (eqI y0_1 y2_1 && eqI y1_1 y3_1)) (K false) (br (!eqI (ycp IntKind.u8 y2 6) 0) (br (eqI (ycp IntKind.u8 y2 1) 0) (K false) (br (eqI (m : Int) 2) (br (eqI p y0_1 && eqI q y1_1) (zbc fun y0 => K y0) (K false)) (br (eqI (m : Int) 3) (br (eqI p y2_1 && eqI q y3_1) (zbc fun y0 => K y0) (K false)) (br (eqI (m : Int) 1) (zaj n (nb a) (nb b) e fun y0 => br (ltI 0 y0) (br (ybf (eqI p y0_1 && eqI q y1_1) true) (zbc fun y0 => K y0) (K false)) (br (ybf (eqI p y0_1 && eqI q y1_1) (eqI y0_1 y2_1 && eqI y1_1 y3_1)) (zbc fun y0 => K y0) (K false))) (zbe (f : Int) y0 y1 fun y0 y1 y2_2 y3 y4 => br (!y4) (br (!eqI (ycp IntKind.u8 y2 4) 0) (zbc fun y0 => K y0) (K false)) (br (ltI 17000 e) (zbc fun y0 => K y0) (br (ltI e (-17000)) (zbc fun y0 => K y0) (zak n (nb a) (nb b) e y0 y1 y2_2 y3 fun y0 y1 y2 y3 y4 => ∃ k, zbb.l29 (fun y0 => K y0) (zbc fun y0 => K y0) k (f : Int) 0 n (nb a) (nb b) e y0_1 y1_1 y2_1 y3_1 y0 y1 y2 y3)))))))) (br (eqI (m : Int) 2) (br (eqI p y0_1 && eqI q y1_1) (zbc fun y0 => K y0) (K false)) (br (eqI (m : Int) 3) (br (eqI p y2_1 && eqI q y3_1) (zbc fun y0 => K y0) (K false)) (br (eqI (m : Int) 1) (zaj n (nb a) (nb b) e fun y0 => br (ltI 0 y0) (br (ybf (eqI p y0_1 && eqI q y1_1) true) (zbc fun y0 => K y0) (K false)) (br (ybf (eqI p y0_1 && eqI q y1_1) (eqI y0_1 y2_1 && eqI y1_1 y3_1)) (zbc fun y0 => K y0) (K false))) (zbe (f : Int) y0 y1 fun y0 y1 y2_2 y3 y4 => br (!y4) (br (!eqI (ycp IntKind.u8 y2 4) 0) (zbc fun y0 => K y0) (K false)) (br (ltI 17000 e) (zbc fun y0 => K y0) (br (ltI e (-17000)) (zbc fun y0 => K y0) (zak n (nb a) (nb b) e y0 y1 y2_2 y3 fun y0 y1 y2 y3 y4 => ∃ k, zbb.l29 (fun y0 => K y0) (zbc fun y0 => K y0) k (f : Int) 0 n (nb a) (nb b) e y0_1 y1_1 y2_1 y3_1 y0 y1 y2 y3)))))))))) (br (!ybf (eqI y2 0) (eqI y0_1 y2_1 && eqI y1_1 y3_1)) (K false) (br (!eqI (ycp IntKind.u8 y2 6) 0) (br (eqI (ycp IntKind.u8 y2 1) 0) (K false) (br (eqI (m : Int) 2) (br (eqI p y0_1 && eqI q y1_1) (zbc fun y0 => K y0) (K false)) (br (eqI (m : Int) 3) (br (eqI p y2_1 && eqI q y3_1) (zbc fun y0 => K y0) (K false)) (br (eqI (m : Int) 1) (zaj n (nb a) (nb b) e fun y0 => br (ltI 0 y0) (br (ybf (eqI p y0_1 && eqI q y1_1) true) (zbc fun y0 => K y0) (K false)) (br (ybf (eqI p y0_1 && eqI q y1_1) (eqI y0_1 y2_1 && eqI y1_1 y3_1)) (zbc fun y0 => K y0) (K false))) (zbe (f : Int) y0 y1 fun y0 y1 y2_2 y3 y4 => br (!y4) (br (!eqI (ycp IntKind.u8 y2 4) 0) (zbc fun y0 => K y0) (K false)) (br (ltI 17000 e) (zbc fun y0 => K y0) (br (ltI e (-17000)) (zbc fun y0 => K y0) (zak n (nb a) (nb b) e y0 y1 y2_2 y3 fun y0 y1 y2 y3 y4 => ∃ k, zbb.l29 (fun y0 => K y0) (zbc fun y0 => K y0) k (f : Int) 0 n (nb a) (nb b) e y0_1 y1_1 y2_1 y3_1 y0 y1 y2 y3)))))))) (br (eqI (m : Int) 2) (br (eqI p y0_1 && eqI q y1_1) (zbc fun y0 => K y0) (K false)) (br (eqI (m : Int) 3) (br (eqI p y2_1 && eqI q y3_1) (zbc fun y0 => K y0) (K false)) (br (eqI (m : Int) 1) (zaj n (nb a) (nb b) e fun y0 => br (ltI 0 y0) (br (ybf (eqI p y0_1 && eqI q y1_1) true) (zbc fun y0 => K y0) (K false)) (br (ybf (eqI p y0_1 && eqI q y1_1) (eqI y0_1 y2_1 && eqI y1_1 y3_1)) (zbc fun y0 => K y0) (K false))) (zbe (f : Int) y0 y1 fun y0 y1 y2_2 y3 y4 => br (!y4) (br (!eqI (ycp IntKind.u8 y2 4) 0) (zbc fun y0 => K y0) (K false)) (br (ltI 17000 e) (zbc fun y0 => K y0) (br (ltI e (-17000)) (zbc fun y0 => K y0) (zak n (nb a) (nb b) e y0 y1 y2_2 y3 fun y0 y1 y2 y3 y4 => ∃ k, zbb.l29 (fun y0 => K y0) (zbc fun y0 => K y0) k (f : Int) 0 n (nb a) (nb b) e y0_1 y1_1 y2_1 y3_1 y0 y1 y2 y3)))))))))) (Hi z) (Lo z) fl (Hi lo) (Lo lo) (Hi hi) (Lo hi) := by
 have w := yct f h
 have H := ysp (e := e) (p := fp f) (by omega) ha c.b0
 have hF := fun at_ => yp0 (a := a) e at_ c.b0
 have z1 := ygU h m n H
 have l1 := ygU h 2 n H
 have u1 := ygU h 3 n H
 have zo := ytD f hm n (FX a b e) (tp a b + e)
 have zs := ysQ h m n H
 have z0 := ysN f n (FX a b e) (tp a b + e)
 have hsg : sgE n a = if n = true then -1 else 1 := by unfold sgE; rw [if_neg ha]
 have nearer : (m = 0 ∨ m = 4) → fin f (zz f m n (FX a b e) (tp a b + e)) → ∀ k, (k = 2 ∨ k = 3) → fin f (zz f k n (FX a b e) (tp a b + e)) → ∀ u v : Rat, 0 ≤ u → 0 ≤ v → 
   (u = V n a b e - V (ng f (zz f m n (FX a b e) (tp a b + e))) (yfQ f (zz f m n (FX a b e) (tp a b + e))) 1 (yhJ f (zz f m n (FX a b e) (tp a b + e))) ∨ u = -(V n a b e - V (ng f (zz f m n (FX a b e) (tp a b + e))) (yfQ f (zz f m n (FX a b e) (tp a b + e))) 1 (yhJ f (zz f m n (FX a b e) (tp a b + e))))) →
   (v = V n a b e - V (ng f (zz f k n (FX a b e) (tp a b + e))) (yfQ f (zz f k n (FX a b e) (tp a b + e))) 1 (yhJ f (zz f k n (FX a b e) (tp a b + e))) ∨ v = -(V n a b e - V (ng f (zz f k n (FX a b e) (tp a b + e))) (yfQ f (zz f k n (FX a b e) (tp a b + e))) 1 (yhJ f (zz f k n (FX a b e) (tp a b + e))))) → u ≤ v := by
  intro hm2 fz k hk fk u v u0 v0 hu hv
  by_cases ht : (fe f : Int) < tp a b + e
  ·exfalso
   have : zz f m n (FX a b e) (tp a b + e) = enc f n (2 * fe f + 1) 0 := by
    unfold zz; rw [if_pos ht]; unfold ov
    rcases hm2 with rfl | rfl <;> rfl
   rw [this] at fz
   exact fz (ye9 h n (Nat.le_refl _) (Nat.two_pow_pos _)).2.1
  ·have hz : ∀ k, zz f k n (FX a b e) (tp a b + e) = yeD f n (pl f (tp a b + e)) (tk (FX a b e) k n (pl f (tp a b + e))) := by
    intro k; unfold zz; rw [if_neg ht]
   rw [hz] at fz fk
   rw [hz, (ydA h n (show tp a b + e ≤ fe f by omega) (H.tk_facts h m n).1 (H.tk_facts h m n).2.1).2.2.2.2.2 fz, ysF n] at hu
   rw [hz, (ydA h n (show tp a b + e ≤ fe f by omega) (H.tk_facts h k n).1 (H.tk_facts h k n).2.1).2.2.2.2.2 fk, ysF n] at hv
   refine yqO (n := n) hm2 hF H (at_ := pl f (tp a b + e)) hk u0 v0 ?_ ?_
   ·revert hu; cases n <;> intro hu <;> simp only [sR] at hu <;> grind
   ·revert hv; cases n <;> intro hv <;> simp only [sR] at hv <;> grind
 clear hF H
 generalize tp a b + e = top at *
 rw [← ez] at z1 zo nearer
 rw [← ef] at z1 zs
 rw [← el, ← eh] at zs
 generalize hG2 : zz f 2 n (FX a b e) top = L at *
 generalize hG3 : zz f 3 n (FX a b e) top = U at *
 have hZ : Z = lo ∨ Z = hi := by
  rw [eZ, el, eh]
  rcases zo with g | g
  ·left; rw [g]
  ·right; rw [g]
 have hE : (eqI fl 0) = decide (fl = 0) := rfl
 subst ep eq
 show br (!(eqI (Hi Z) (Hi lo) && eqI (Lo Z) (Lo lo))) (br (!(eqI (Hi Z) (Hi hi) && eqI (Lo Z) (Lo hi))) _ _) _
 simp only [yoX]
 refine ysA hZ ?_
 rw [yau (show (!ybf (eqI fl 0) (decide (lo = hi))) = false by rw [hE, ynn zs.symm]; rfl)]
 refine ysr z1.2.2.1 ?_
 by_cases m2 : m = 2
 ·rw [yaA (yhy (by omega)), decide_eq_true (show Z = lo by rw [eZ, el, ez, m2, hG2])]; exact hal
 rw [yau (yfN (by omega))]
 by_cases m3 : m = 3
 ·rw [yaA (yhy (by omega)), decide_eq_true (show Z = hi by rw [eZ, eh, ez, m3, hG3])]; exact hal
 rw [yau (yfN (by omega))]
 by_cases m1 : m = 1
 ·rw [yaA (yhy (by omega))]
  refine ybG n c _ ?_
  rw [hsg]
  have e1 : Z = uz f (cond n U L) := by rw [eZ, ez, m1, z0]
  cases n with
  | false =>
   rw [if_neg Bool.false_ne_true, yaA (show ltI 0 1 = true from rfl), decide_eq_true (show Z = lo by rw [e1, el]; rfl)]
   exact hal
  | true =>
   rw [if_pos rfl, yau (show ltI 0 (-1) = false from rfl), yaA (ynn (by
    rw [show Z = hi by rw [e1, eh]; rfl]
    exact ⟨fun hh => hh.symm, fun hh => hh.symm⟩))]
   exact hal
 rw [yau (yfN (by omega)), zbe.is]; unfold zbe.d
 by_cases fz : fin f z
 rotate_left
 ·refine yeF f z h z1.1 fz _ ?_
  have h5 := z1.2.2.2 fz
  rw [h5]
  exact hal
 refine yfA f z h z1.1 fz _ (ynm f z h _ fun n' a' e' c' v' q1 q2 q3 => ?_)
 show br (!eqI 0 0) _ _
 rw [yau (show (!eqI 0 0) = false from rfl)]
 by_cases e1 : 17000 < e
 ·rw [yaA (ya9 e1)]; exact hal
 rw [yau (ybq (by omega))]
 by_cases e2 : e < -17000
 ·rw [yaA (ya9 e2)]; exact hal
 rw [yau (ybq (by omega)), ← ycO]
 obtain ⟨P, hP⟩ : ∃ P, P = 113 := ⟨_, rfl⟩
 obtain ⟨E, hE⟩ : ∃ E, E = 16495 := ⟨_, rfl⟩
 obtain ⟨N, hN⟩ : ∃ N, N = 480 := ⟨_, rfl⟩
 have ba : yaw a ≤ N := by have := yjw la; omega
 have bb : yaw b ≤ N := by have := yjw lb; omega
 have d : Bd N 17000 a b e := ⟨(yaT _ _).1 ba, (yaT _ _).1 bb, by omega, by omega⟩
 refine yrH c c' d (yrF h q1 q2 q3 hP hE) (by omega) _ fun s u w2 g c3 v3 => ?_
 rw [v'] at v3
 have hm2 : m = 0 ∨ m = 4 := by omega
 have absV : ∀ {s : Bool} {u w g}, 0 ≤ V false u w g ∧ (V false u w g = V s u w g ∨ V false u w g = -V s u w g) := by
  intro s u w g
  refine ⟨?_, ?_⟩
  ·by_cases hu : u = 0
   ·rw [hu, yd1]; grind
   ·by_cases hw : w = 0
    ·rw [hw]; unfold V
     rw [show ((0 : Nat) : Rat) = 0 from rfl, Rat.div_def, Rat.inv_zero]; grind
    ·have := yti hu hw g; grind
  ·rw [ysF s]; cases s <;> simp only [sR] <;> grind
 have one : ∀ k o, (k = 2 ∨ k = 3) → o = uz f (zz f k n (FX a b e) top) → zz f k n (FX a b e) top < 2 ^ fw f → ∀ T F' : Prop, T → zax f (Hi o) (Lo o) fun y0 y1 y2 y3 y4 => br (!eqI y4 0) T (zak n (nb a) (nb b) e y0 y1 y2 y3 fun y0 y1 y2 y3 y4 => zac s (nb u) (nb w2) g fun y0_1 y1_1 y2_1 y3_1 => zac y0 y1 y2 y3 fun y0 y1 y2 y3 => zaf y0_1 y1_1 y2_1 y3_1 y0 y1 y2 y3 fun y0 y1 => br (eqI y1 0) (br (ltI 0 y0) F' T) T) := by
  intro k o hk ho hzo T F' hT
  have ho1 : o < 2 ^ fw f := by rw [ho]; exact ytv hzo
  by_cases fo : fin f o
  rotate_left
  ·exact yeF f o h ho1 fo _ hT
  have fk : fin f (zz f k n (FX a b e) top) := by rw [ho, yt0 h] at fo; exact fo
  have vo := (yuM h hzo fk).2
  rw [← ho] at vo
  refine yfA f o h ho1 fo _ (ynm f o h _ fun n' a' e' c' v' q1 q2 q3 => ?_)
  show br (!eqI 0 0) _ _
  rw [yau (show (!eqI 0 0) = false from rfl), ← ycO]
  refine yrH c c' d (yrF h q1 q2 q3 hP hE) (by omega) _ fun s' u' w' g' c4 v4 => ?_
  rw [v', vo] at v4
  refine ydV s c3 _ (ydV s' c4 _ ?_)
  refine ykK c3.abs' c4.abs' _ (yr8 c3.abs' c4.abs' ?_ _ (fun cc hc => ?_) hT)
  ·have a1 := absV (s := s) (u := u) (w := w2) (g := g)
   have a2 := absV (s := s') (u := u') (w := w') (g := g')
   rw [v3] at a1
   rw [v4] at a2
   exact nearer hm2 fz k hk fk _ _ a1.1 a2.1 a1.2 a2.2
  ·rw [yaA (show eqI 0 0 = true from rfl), yau (ybq (by omega))]; exact hT
 refine ⟨3, ?_⟩
 unfold zbb.l29 zbb.l29.step
 rw [yaA (show ltI 0 2 = true from rfl), yau (show eqI 0 1 = false from rfl), zbe.is]; unfold zbe.d
 refine one 2 lo (.inl rfl) (by rw [hG2, el]) (by rw [hG2]; exact l1.1) _ _ ?_
 unfold zbb.l29 zbb.l29.step
 rw [show yaj .i64 0 1 = 1 from rfl, yaA (show ltI 1 2 = true from rfl), yaA (show eqI 1 1 = true from rfl), zbe.is]; unfold zbe.d
 refine one 3 hi (.inr rfl) (by rw [hG3, eh]) (by rw [hG3]; exact u1.1) _ _ ?_
 unfold zbb.l29 zbb.l29.step
 rw [show yaj .i64 1 1 = 2 from rfl, yau (show ltI 2 2 = false from rfl)]
 exact hal
end
theorem ruleNearest (a0 a1 : Int) (a2_0 : Bool) (a2_1 a2_2 : List UInt8) (a2_3 : Int) (w0 : (Lit.int .u8 a0).wf = true) (w1 : (Lit.int .u8 a1).wf = true)
  (w2 : a2_1.length ≤ maxLen) (w3 : a2_2.length ≤ maxLen) (w4 : (Lit.int .i64 a2_3).wf = true) (K : Bool → Prop) (hK : K true) : zbb a0 a1 a2_0 a2_1 a2_2 a2_3 K := by
 obtain ⟨f, rfl, hf⟩ := yrO w0
 obtain ⟨m, rfl, hm⟩ := yrO w1
 have hal : zbc fun y0 => K y0 := yib _ hK
 rw [zbb.is]; unfold zbb.d
 refine yo7 _ _ _ _ _ (fun s1 s2 => ?_) hal
 rw [yau (show (!true) = false from rfl)]
 refine yoj _ _ _ _ _ (fun hM => ?_) fun _ => hal
 rw [yau (show (!true) = false from rfl)]
 by_cases h : f ≤ 3
 rotate_left
 ·rw [ykS f (by omega)]; exact hal
 rw [ykR f h, yau (show (!true) = false from rfl)]
 by_cases hm4 : m ≤ 4
 rotate_left
 ·rw [ygE m (by omega)]; exact hal
 rw [ygD m hm4, yau (show (!true) = false from rfl)]
 obtain ⟨a, b, rfl, rfl, c⟩ := hM.can
 refine ybG a2_0 c _ ?_
 by_cases ha : a = 0
 ·subst ha; exact hal
 have hsg : sgE a2_0 a = if a2_0 = true then -1 else 1 := by unfold sgE; rw [if_neg ha]
 rw [hsg, yau (show eqI (if a2_0 = true then -1 else 1) 0 = false by cases a2_0 <;> rfl)]
 have w := yct f h
 have H := ysp (e := a2_3) (p := fp f) (by omega) ha c.b0
 have rd : ∀ m, m ≤ 4 → ∀ Q : Int → Int → Int → Int → Prop, Q (Hi (zz f m a2_0 (FX a b a2_3) (tp a b + a2_3))) (Lo (zz f m a2_0 (FX a b a2_3) (tp a b + a2_3))) (zf f m a2_0 (FX a b a2_3) (tp a b + a2_3)) 0 → zde f m a2_0 (nb a) (nb b) a2_3 Q :=
  fun m hm Q hQ => yfJ h hm c ha (by omega) (by omega) Q (ytJ h hm a2_0 H Q hQ)
 refine rd m hm4 _ ?_
 rw [zdd.is]; unfold zdd.d
 refine rd 2 (by omega) _ ?_
 rw [yau (show (!eqI 0 0) = false from rfl)]
 refine rd 3 (by omega) _ ?_
 refine ygp h _ (ygp h _ ?_)
 show br (!eqI 0 0) _ (br (!eqI 0 0) _ _)
 rw [yau (show (!eqI 0 0) = false from rfl), yau (show (!eqI 0 0) = false from rfl)]
 have z1 := ygU h m a2_0 H
 generalize hz : zz f m a2_0 (FX a b a2_3) (tp a b + a2_3) = z at z1 ⊢
 have hc := ytY h z1.1
 refine yjL f z h z1.1 _ ?_
 by_cases g3 : cls f z = 3
 ·have hzz := hc.1.1 g3
  rw [yaA (yhy (by omega)), ygf f z h z1.1, z1.2.1]
  refine ybG a2_0 c _ ?_
  rw [hsg, yau (show (!ybf a2_0 (ltI (if a2_0 = true then -1 else 1) 0)) = false by cases a2_0 <;> rfl)]
  exact yhI h hm4 c ha s1 s2 K hal hz.symm rfl rfl rfl (Z := 0) (by unfold uz; rw [if_pos hzz]) rfl rfl
 rw [yau (yfN (by omega))]
 by_cases g4 : cls f z = 4
 ·have hzz := hc.2.1 g4
  rw [yaA (yhy (by omega)), ygf f z h z1.1, z1.2.1]
  refine ybG a2_0 c _ ?_
  rw [hsg, yau (show (!ybf a2_0 (ltI (if a2_0 = true then -1 else 1) 0)) = false by cases a2_0 <;> rfl)]
  exact yhI h hm4 c ha s1 s2 K hal hz.symm rfl rfl rfl (Z := 0) (by unfold uz; rw [hzz]; split <;> rfl) rfl rfl
 rw [yau (yfN (by omega))]
 refine yhI h hm4 c ha s1 s2 K hal hz.symm rfl rfl rfl (Z := z) ?_ rfl rfl
 unfold uz; rw [if_neg fun hh => g3 (hc.1.2 hh)]
end Go.Ev.S
