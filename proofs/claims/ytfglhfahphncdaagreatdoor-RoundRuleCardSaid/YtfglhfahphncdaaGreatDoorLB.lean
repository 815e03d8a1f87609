/- Natural numbers made of words, told as words. -/
import Derived.Test.YtfglhfahphncdaaGreatDoorLA
import Derived.Test.YtfglhfahphncdaaGreatDoorDA
set_option linter.unusedVariables false
set_option linter.unusedSimpArgs false
set_option maxRecDepth 8000
namespace Go.Ev.S
open Go Go.Ev
theorem yhI (a : List UInt8) (x : Nat) (n : Nat) (hn : n ≤ 12) (k0 : List UInt8 → (Nat → Int) → Prop) (h : k0 a (G 64 (x % 2 ^ (32 * n)))) :
  ∀ (j i : Nat), i + j = n → zba.l4 k0 (j + 1) a n (G 32 x) n i (G 64 (x % 2 ^ (32 * i))) := by
 intro j
 induction j with
 | zero =>
  intro i hi
  unfold zba.l4 zba.l4.step
  rw [yaw (ybe (by omega)), show i = n from by omega]
  exact h
 | succ j ih =>
  intro i hi
  have ih := ih (i + 1) (by omega)
  have e : ((i + 1 : Nat) : Int) = (i : Int) + 1 := by omega
  rw [e] at ih
  unfold zba.l4 zba.l4.step
  simp (disch := omega) only [ybI, yfP, yap, ybH, yaU, ya9, yba, ybe, yaE, ya5, Bool.and_self, Bool.not_false]
  have e1 : Int.toNat ((i : Int) / 2) = i / 2 := by omega
  have e2 : Int.toNat (i : Int) = i := by omega
  have e3 : 32 * ((i : Int) % 2) = ((32 * (i % 2) : Nat) : Int) := by omega
  have hd := ya0 32 x i
  have e8 : (2 : Nat) ^ 32 = 4294967296 := rfl
  have hlow := yku 64 (x % 2 ^ (32 * i)) (i / 2) (32 * (i % 2)) (by rw [show 64 * (i / 2) + 32 * (i % 2) = 32 * i from by omega]; exact Nat.mod_lt _ (Nat.two_pow_pos _))
  rw [e1, e2, e3, ybr, ybr, yaU (by omega) (by omega), yq5 _ _ _ 32 hlow (by omega) hd]
  rw [yg4 (k := 64) (N' := x % 2 ^ (32 * (i + 1)))]
  ·exact ih
  ·rw [ybd, Nat.add_mul, Nat.mul_assoc, ← Nat.pow_add, show 32 * (i % 2) + 64 * (i / 2) = 32 * i from by omega]; omega
  ·exact yqW hlow (by omega) hd
theorem yjm (a : List UInt8) (K : (Nat → Int) → Bool → Prop) (h : if May a ∧ a.length ≤ 48 then K (W (val a)) true else K (W 0) false) : zba a K := by
 rw [zba.is]; unfold zba.d
 rw [yaY]
 by_cases hm : May a
 ·rw [if_pos hm, yaw (by rfl)]
  by_cases hl : a.length ≤ 48
  ·rw [if_pos ⟨hm, hl⟩] at h
   rw [yaw (ybe (by omega))]
   refine yge a (by omega) _ ?_
   refine ⟨(a.length + 3) / 4 + 1, ?_⟩
   have hlt : val a < 2 ^ (32 * ((a.length + 3) / 4)) := Nat.lt_of_lt_of_le (ybj a) (Nat.pow_le_pow_right (by omega) (by omega))
   have hQ : val a < Q6 := Nat.lt_of_lt_of_le (ybj a) (yrV (by omega))
   have := yhI a (val a) ((a.length + 3) / 4) (by omega) (fun y0 y1 => zdy y1 fun y0_1 => zaw y0 fun y0 => K y1 (eqI y0_1 y0)) ?_ ((a.length + 3) / 4) 0 (by omega)
   ·rw [show (2 : Nat) ^ (32 * 0) = 1 from rfl, Nat.mod_one, yb7] at this
    exact this
   ·rw [Nat.mod_eq_of_lt hlt, ← W_G]
    refine ybo (val a) hQ _ ?_
    refine yfW a _ ?_
    rw [if_pos hm, yj7 rfl]; exact h
  ·rw [if_neg (by omega)] at h
   rw [yaD (ya9 (by omega))]
   rw [yhQ] at h; exact h
 ·rw [if_neg (by simp [hm])] at h
  rw [if_neg hm, yaD (by rfl)]
  rw [yhQ] at h; exact h
theorem ym2 (g : Nat → Int) : ∀ (n : Nat), (∀ i, i < n → (Lit.int .u64 (g i)).wf = true) → ∃ x, x < 2 ^ (64 * n) ∧ ∀ j, G 64 x j = if j < n then g j else 0
 | 0, _ => ⟨0, by rw [Nat.mul_zero]; decide, fun j => by rw [yb7]; simp⟩
 | n + 1, h => by
  obtain ⟨x, hx, hg⟩ := ym2 g n fun i hi => h i (by omega)
  obtain ⟨w, hw, hw2⟩ := yoM (h n (by omega))
  refine ⟨x + w * 2 ^ (64 * n), yf8 64 x w n hx hw2, fun j => ?_⟩
  rw [← yhZ 64 x w n hx hw2]
  by_cases hj : j = n
  ·subst hj; rw [ybP, if_pos (by omega), hw]
  ·rw [ycP _ _ _ _ hj, hg]
   by_cases h2 : j < n
   ·rw [if_pos h2, if_pos (by omega)]
   ·rw [if_neg h2, if_neg (by omega)]
theorem yr3 (g : Nat → Int) (h : ∀ i, i < 6 → (Lit.int .u64 (g i)).wf = true) (z : ∀ i, 6 ≤ i → g i = 0) : ∃ x, x < Q6 ∧ g = W x := by
 obtain ⟨n, hn⟩ : ∃ n, n = 6 := ⟨_, rfl⟩
 rw [← hn] at h z
 obtain ⟨x, hx, hg⟩ := ym2 g n h
 refine ⟨x, by rwa [ycK (by omega)] at hx, ?_⟩
 rw [W_G]
 funext j
 rw [hg]
 split
 ·rfl
 ·exact z j (by omega)
end Go.Ev.S

/- Exact numbers: which may be; made, told. -/
set_option linter.unusedVariables false
set_option linter.unusedSimpArgs false
set_option maxRecDepth 8000
namespace Go.Ev.S
open Go Go.Ev
def fit (x : Nat) : Prop := (nb x).length ≤ 16384
instance (x : Nat) : Decidable (fit x) := by unfold fit; infer_instance
theorem yeB (K : List UInt8 → Int → Prop) (x : Nat) : yom K x = if fit x then K (nb x) 0 else K [] 4 := by
 unfold yom
 by_cases h : 16384 < (nb x).length
 ·rw [if_pos h, if_neg (show ¬ fit x from Nat.not_le.2 h)]
 ·rw [if_neg h, if_pos (show fit x from Nat.not_lt.1 h)]
theorem yeR {K : List UInt8 → Int → Prop} {x : Nat} (h1 : fit x → K (nb x) 0) (h2 : ¬ fit x → K [] 4) : yom K x := by
 rw [yeB]; split
 ·exact h1 ‹_›
 ·exact h2 ‹_›
theorem ybc {x : Nat} (h : fit x) : May (nb x) := ⟨h, ylZ x⟩
theorem yrw {a : List UInt8} (h : May a) : nb (val a) = a := yiY h.2
theorem yjh {a : List UInt8} (h : May a) : fit (val a) := by unfold fit; rw [yrw h]; exact h.1
theorem yhK {x y : Nat} (h : fit y) (hl : x ≤ y) : fit x := (ybs x 16384).2 (Nat.lt_of_le_of_lt hl ((ybs y 16384).1 h))
theorem yf9 {a : List UInt8} (h : May a) : val a ≠ 0 ↔ a ≠ [] := by
 constructor
 ·rintro h1 rfl; exact h1 yhf
 ·intro h1 h2
  have := yrw h
  rw [h2, yaZ] at this
  exact h1 this.symm
theorem ym9 (x : Nat) : fit x ↔ yav x ≤ 131072 := ygB x
theorem yfv {x n : Nat} (h : x ≠ 0) : fit (x * 2 ^ n) ↔ yav x + n ≤ 131072 := by
 rw [ym9, ygW x n h]
theorem ynO {a : List UInt8} (n : Int) (h0 : 0 ≤ n) (hn : n < 9223372036854775808) (ha : May a) {K : List UInt8 → Int → Prop} (h : yom K (val a * 2 ^ n.toNat)) : zav a n K := by
 refine ylT a n hn K (fun hh => absurd ha hh) (fun _ hh => by omega) ?_ ?_ ?_
 ·rintro _ _ rfl
  rw [yhf, Nat.zero_mul, yeB, yaZ, if_pos (by unfold fit; rw [yaZ]; decide)] at h
  exact h
 ·intro _ _ h1 h2
  rw [yeB, if_neg (by rw [yfv ((yf9 ha).2 h1)]; omega)] at h
  exact h
 ·intro _ _ h1 h2
  rw [yeB, if_pos (by rw [yfv ((yf9 ha).2 h1)]; omega)] at h
  exact h
theorem ynp {a : List UInt8} (n : Int) (h0 : 0 ≤ n) (hn : n < 9223372036854775808) (ha : May a) {K : List UInt8 → Int → Prop} (h : yom K (val a * 2 ^ n.toNat)) : zbz a n K := by
 refine ylS a n hn ha K (fun hh => by omega) ?_ ?_ ?_
 ·rintro _ rfl
  rw [yhf, Nat.zero_mul, yeB, yaZ, if_pos (by unfold fit; rw [yaZ]; decide)] at h
  exact h
 ·intro _ h1 h2
  rw [yeB, if_neg (by rw [yfv ((yf9 ha).2 h1)]; omega)] at h
  exact h
 ·intro _ h1 h2
  rw [yeB, if_pos (by rw [yfv ((yf9 ha).2 h1)]; omega)] at h
  exact h
theorem yg5 {a : List UInt8} (n : Nat) (hn : (n : Int) < 9223372036854775808) (ha : May a) (hne : a ≠ []) {K : List UInt8 → Bool → Int → Prop} (h : K (nb (val a / 2 ^ n)) (decide (ybk (val a) < n)) 0) : zay a n K := by
 refine ykm a n hn K (fun hh => absurd ha hh) (fun _ hh => by omega) (fun _ _ hh => absurd hh hne) ?_
 intro _ _ _
 rw [show decide ((ybk (val a) : Int) < (n : Int)) = decide (ybk (val a) < n) from by rw [decide_eq_decide]; omega]
 exact h
theorem yhl {a : List UInt8} (n : Nat) (hn : (n : Int) < 9223372036854775808) (ha : May a) (hne : a ≠ []) {K : List UInt8 → Bool → Int → Prop} (h : K (nb (val a / 2 ^ n)) (decide (ybk (val a) < n)) 0) : zcf a n K := by
 refine ygb a n hn ha K (fun hh => by omega) (fun _ hh => absurd hh hne) ?_
 intro _ _
 rw [show decide ((ybk (val a) : Int) < (n : Int)) = decide (ybk (val a) < n) from by rw [decide_eq_decide]; omega]
 exact h
theorem ygH {a : List UInt8} (ha : May a) (h : val a ≠ 0) : ybk (val a) < 131072 := by
 have h1 := yf0 _ _ h (ybj a)
 have := ha.1; omega
theorem yqd (a : List UInt8) (h : a ≠ []) : eqI (yh5 .u8 (ybm a (a.length - 1)) 1) 1 = decide (val a % 2 = 1) := by
 have hl : 0 < a.length := List.length_pos_iff.2 h
 have := yfa a 0 hl
 rw [Nat.sub_zero] at this
 rw [this]
 unfold dg
 rw [Nat.mul_zero, Nat.pow_zero, Nat.div_one]
 have hb : val a % 2 ^ 8 < 256 := Nat.mod_lt _ (by decide)
 have e : val a % 2 = (val a % 2 ^ 8) % 2 := by rw [show (2 : Nat) ^ 8 = 256 from rfl]; omega
 rw [e]
 generalize val a % 2 ^ 8 = v at hb
 revert v
 decide
theorem ygm (a : List UInt8) (K : Bool → Prop) (hl : a.length < 9223372036854775808) (h : K (decide (val a % 2 = 1))) : zai a K := by
 rw [zai.is]; unfold zai.d
 rw [ybn]
 by_cases h0 : a = []
 ·subst h0
  rw [yaw (by rfl)]; exact h
 ·have hp : 0 < a.length := List.length_pos_iff.2 h0
  rw [yaD (by simp [h0]), yas (by omega) (by omega), yba (by omega), ya9 (by omega), yby (by rfl), show Int.toNat ((a.length : Int) - 1) = a.length - 1 from by omega, yqd a h0]
  exact h
def win (e : Int) : Prop := -1048576 ≤ e ∧ e ≤ 1048576
instance (e : Int) : Decidable (win e) := by unfold win; infer_instance
theorem ycO (e : Int) (K : Bool → Prop) (h : K (decide (win e))) : zak e K := by
 rw [zak.is]; unfold zak.d
 by_cases h1 : -1048576 ≤ e
 ·rw [yaD (yba h1)]
  refine cast (congrArg K ?_) h
  unfold leI
  rw [decide_eq_decide]; unfold win; omega
 ·rw [yaw (yeK (by omega))]
  refine cast (congrArg K ?_) h
  rw [decide_eq_false_iff_not]; unfold win; omega
theorem yrv {e : Int} {p q : Prop} (h1 : ¬ win e → p) (h2 : win e → q) : br (ltI e (-1048576)) p (br (ltI 1048576 e) p q) := by
 by_cases c1 : e < -1048576
 ·rw [yaD (ya9 c1)]; exact h1 (by unfold win; omega)
 ·rw [yaw (ybe (by omega))]
  by_cases c2 : 1048576 < e
  ·rw [yaD (ya9 c2)]; exact h1 (by unfold win; omega)
  ·rw [yaw (ybe (by omega))]; exact h2 (by unfold win; omega)
structure ytf (n : Bool) (a b : List UInt8) (e : Int) : Prop where
 ma : May a
 mb : May b
 ob : val b % 2 = 1
 we : win e
 z : a = [] → n = false ∧ b = [1] ∧ e = 0
 r : a ≠ [] → val a % 2 = 1 ∧ Nat.gcd (val a) (val b) = 1
theorem yfE : nb 1 = [1] := by rw [yfb (by decide), yaZ]; decide
theorem yjx (g : Nat) : eqS (nb g) [1] = decide (g = 1) := by
 rw [yjA, decide_eq_decide, ← yfE]
 exact ⟨fun h => ysD h, fun h => by rw [h]⟩
noncomputable instance (n : Bool) (a b : List UInt8) (e : Int) : Decidable (ytf n a b e) := Classical.propDecidable _
theorem yff (K : Bool → List UInt8 → List UInt8 → Int → Prop) : zah K = K false [] [1] 0 := by rw [zah.is]; rfl
theorem yl6 (K : Bool → List UInt8 → List UInt8 → Int → Prop) : zco K = K false [] [1] 0 := by rw [zco.is]; rfl
theorem ysw (n : Bool) (b : List UInt8) (e : Int) : (ydF n false && (eqS [] [] && (eqS b [1] && eqI e 0))) = decide (n = false ∧ b = [1] ∧ e = 0) := by
 rw [yjA, yjA]
 cases n
 ·by_cases h1 : b = [1]
  ·by_cases h2 : e = 0
   ·simp [h1, h2, ydF, eqI]
   ·simp [h1, h2, ydF, eqI]
  ·simp [h1, ydF]
 ·simp [ydF]
theorem ybK (n : Bool) (a b : List UInt8) (e : Int) (K : Int → Prop) (h1 : ytf n a b e → K 0) (h2 : ¬ ytf n a b e → K 2) : zad n a b e K := by
 rw [zad.is]; unfold zad.d
 rw [yaY]
 by_cases ma : May a
 rotate_left
 ·rw [if_neg ma]; exact h2 fun h => ma h.ma
 rw [if_pos ma, yaw (by rfl), yaY]
 by_cases mb : May b
 rotate_left
 ·rw [if_neg mb]; exact h2 fun h => mb h.mb
 rw [if_pos mb, yaw (by rfl)]
 have la := ma.1
 have lb := mb.1
 refine ygm b _ (by omega) ?_
 by_cases ob : val b % 2 = 1
 rotate_left
 ·rw [show decide (val b % 2 = 1) = false from by simpa using ob]; exact h2 fun h => ob h.ob
 rw [show decide (val b % 2 = 1) = true from by simpa using ob, yaw (by rfl)]
 refine ycO e _ ?_
 by_cases we : win e
 rotate_left
 ·rw [show decide (win e) = false from by simpa using we]; exact h2 fun h => we h.we
 rw [show decide (win e) = true from by simpa using we, yaw (by rfl), ybn]
 by_cases ha : a = []
 ·subst ha
  rw [yaD (by rfl), yff, ysw]
  by_cases hz : n = false ∧ b = [1] ∧ e = 0
  ·rw [yaw (by simp [hz])]; exact h1 ⟨ma, mb, ob, we, fun _ => hz, fun h => absurd rfl h⟩
  ·rw [yaD (by simp only [hz, decide_false]; rfl)]; exact h2 fun h => hz (h.z rfl)
 ·rw [yaw (by simpa using ha)]
  refine yiL a b _ (fun h => absurd ⟨ma, mb⟩ h) fun _ _ => ?_
  refine ygm a _ (by omega) ?_
  by_cases oa : val a % 2 = 1
  rotate_left
  ·rw [show decide (val a % 2 = 1) = false from by simpa using oa]; exact h2 fun h => oa (h.r ha).1
  rw [show decide (val a % 2 = 1) = true from by simpa using oa, yaw (by rfl), yjx]
  by_cases hg : Nat.gcd (val a) (val b) = 1
  ·rw [yaw (by simp [hg])]; exact h1 ⟨ma, mb, ob, we, fun h => absurd h ha, fun _ => ⟨oa, hg⟩⟩
  ·rw [yaD (by simp [hg])]; exact h2 fun h => hg (h.r ha).2
def odp (a : Nat) : Nat := a / 2 ^ ybk a
def rdA (a b : Nat) : Nat := odp a / Nat.gcd (odp a) (odp b)
def rdB (a b : Nat) : Nat := odp b / Nat.gcd (odp a) (odp b)
def rdE (a b : Nat) (e : Int) : Int := e + ((ybk a : Int) - ybk b)
def mkE (n : Bool) (a b : Nat) (e : Int) (K : Bool → List UInt8 → List UInt8 → Int → Int → Prop) : Prop :=
 if a = 0 then K false [] [1] 0 0 else if win (rdE a b e) then K n (nb (rdA a b)) (nb (rdB a b)) (rdE a b e) 0 else K false [] [] 0 4
theorem yhk {x : Nat} (h : fit x) (d : Nat) : fit (x / d) := yhK h (Nat.div_le_self x d)
theorem yer {a : Nat} (h : a ≠ 0) : a = 2 ^ ybk a * odp a ∧ odp a % 2 = 1 := by
 obtain ⟨q, hq⟩ := yd6 a h
 have e : odp a = 2 * q + 1 := by
  unfold odp
  exact Nat.div_eq_of_eq_mul_right (Nat.two_pow_pos _) hq
 rw [e]
 exact ⟨hq, by omega⟩
theorem yi5 {a : Nat} (h : a ≠ 0) : odp a ≠ 0 := by have := (yer h).2; omega
theorem yjN (n : Bool) (x y : List UInt8) (e : Int) (K : Bool → List UInt8 → List UInt8 → Int → Int → Prop) (h1 : ¬ (May x ∧ May y ∧ y ≠ [] ∧ win e) → K false [] [] 0 2)
  (h2 : May x → May y → y ≠ [] → win e → mkE n (val x) (val y) e K) : zaf n x y e K := by
 rw [zaf.is]; unfold zaf.d
 rw [yaY]
 by_cases mx : May x
 rotate_left
 ·rw [if_neg mx]; exact h1 fun h => mx h.1
 rw [if_pos mx, yaw (by rfl), yaY]
 by_cases my : May y
 rotate_left
 ·rw [if_neg my]; exact h1 fun h => my h.2.1
 rw [if_pos my, yaw (by rfl), ybn]
 by_cases hy : y = []
 ·rw [yaD (by simpa using hy)]; exact h1 fun h => h.2.2.1 hy
 rw [yaw (by simpa using hy)]
 refine ycO e _ ?_
 by_cases we : win e
 rotate_left
 ·rw [show decide (win e) = false from by simpa using we]; exact h1 fun h => we h.2.2.2
 rw [show decide (win e) = true from by simpa using we, yaw (by rfl), ybn]
 have h2 := h2 mx my hy we
 unfold mkE at h2
 by_cases hx : x = []
 ·rw [yaD (by simpa using hx), yff]
  rw [if_pos (by rw [hx]; rfl)] at h2; exact h2
 rw [yaw (by simpa using hx)]
 have nx := (yf9 mx).2 hx
 have ny := (yf9 my).2 hy
 rw [if_neg nx] at h2
 refine yej x _ ?_
 refine yej y _ ?_
 rw [if_pos mx, if_pos my]
 have bx := ygH mx nx
 have by' := ygH my ny
 refine yg5 _ (by omega) mx hx ?_
 refine yg5 _ (by omega) my hy ?_
 have fx : fit (odp (val x)) := yhk (yjh mx) _
 have fy : fit (odp (val y)) := yhk (yjh my) _
 refine yiL _ _ _ (fun h => absurd ⟨ybc fx, ybc fy⟩ h) fun _ _ => ?_
 rw [yaK, yaK]
 show br (!eqS (nb (Nat.gcd (odp (val x)) (odp (val y)))) [1]) _ _
 rw [yjx]
 have we' := we
 unfold win at we'
 have ee : yai .i64 e (yan .i64 (ybk (val x) : Int) (ybk (val y) : Int)) = rdE (val x) (val y) e := by
  unfold rdE
  rw [yas (by omega) (by omega), yap (by omega) (by omega)]
 rw [ee]
 have gne : Nat.gcd (odp (val x)) (odp (val y)) ≠ 0 := by
  intro h0; exact yi5 nx (Nat.gcd_eq_zero_iff.1 h0).1
 have fin : ∀ p q, p = nb (rdA (val x) (val y)) → q = nb (rdB (val x) (val y)) → zak (rdE (val x) (val y) e) fun y0_7 => br (!y0_7) (K false [] [] 0 4) (K n p q (rdE (val x) (val y) e) 0) := by
  rintro p q rfl rfl
  refine ycO _ _ ?_
  by_cases w : win (rdE (val x) (val y) e)
  ·rw [if_pos w] at h2
   rw [show decide (win (rdE (val x) (val y) e)) = true from by simpa using w]; exact h2
  ·rw [if_neg w] at h2
   rw [show decide (win (rdE (val x) (val y) e)) = false from by simpa using w]; exact h2
 by_cases hg : Nat.gcd (odp (val x)) (odp (val y)) = 1
 ·rw [yaw (by simp [hg])]
  refine fin _ _ ?_ ?_
  ·unfold rdA; rw [hg, Nat.div_one]; rfl
  ·unfold rdB; rw [hg, Nat.div_one]; rfl
 ·rw [yaD (by simp [hg])]
  have fg : fit (Nat.gcd (odp (val x)) (odp (val y))) := yhK fx (Nat.gcd_le_left _ (Nat.pos_of_ne_zero (yi5 nx)))
  refine yfO _ _ _ (fun h => absurd ⟨ybc fx, ybc fg⟩ h) (fun h => absurd h (yli gne)) fun _ _ _ => ?_
  refine yfO _ _ _ (fun h => absurd ⟨ybc fy, ybc fg⟩ h) (fun h => absurd h (yli gne)) fun _ _ _ => ?_
  refine fin _ _ ?_ ?_
  ·rw [yaK, yaK]; rfl
  ·rw [yaK, yaK]; rfl
theorem yms (n : Bool) (x y : List UInt8) (e : Int) (K : Bool → List UInt8 → List UInt8 → Int → Int → Prop) (h1 : ¬ (May x ∧ May y ∧ y ≠ [] ∧ win e) → K false [] [] 0 2)
  (h2 : May x → May y → y ≠ [] → win e → mkE n (val x) (val y) e K) : zcn n x y e K := by
 rw [zcn.is]; unfold zcn.d
 rw [yem]
 by_cases mx : May x
 rotate_left
 ·rw [show decide (May x) = false from by simpa using mx]; exact h1 fun h => mx h.1
 rw [show decide (May x) = true from by simpa using mx, yaw (by rfl), yem]
 by_cases my : May y
 rotate_left
 ·rw [show decide (May y) = false from by simpa using my]; exact h1 fun h => my h.2.1
 rw [show decide (May y) = true from by simpa using my, yaw (by rfl), ybn]
 by_cases hy : y = []
 ·rw [yaD (by simpa using hy)]; exact h1 fun h => h.2.2.1 hy
 rw [yaw (by simpa using hy)]
 refine yrv (fun we => h1 fun h => we h.2.2.2) fun we => ?_
 rw [ybn]
 have h2 := h2 mx my hy we
 unfold mkE at h2
 by_cases hx : x = []
 ·rw [yaD (by simpa using hx), yl6]
  rw [if_pos (by rw [hx]; rfl)] at h2; exact h2
 rw [yaw (by simpa using hx)]
 have nx := (yf9 mx).2 hx
 have ny := (yf9 my).2 hy
 rw [if_neg nx] at h2
 refine yfI x _ ?_
 refine yfI y _ ?_
 rw [if_pos mx, if_pos my]
 have bx := ygH mx nx
 have by' := ygH my ny
 refine yhl _ (by omega) mx hx ?_
 refine yhl _ (by omega) my hy ?_
 have fx : fit (odp (val x)) := yhk (yjh mx) _
 have fy : fit (odp (val y)) := yhk (yjh my) _
 refine ynM _ _ (ybc fx) (ybc fy) _ ?_
 rw [yaK, yaK]
 show br (!eqS (nb (Nat.gcd (odp (val x)) (odp (val y)))) [1]) _ _
 rw [yjx]
 have we' := we
 unfold win at we'
 have ee : yan .i64 (yai .i64 e (ybk (val x) : Int)) (ybk (val y) : Int) = rdE (val x) (val y) e := by
  unfold rdE
  rw [yap (by omega) (by omega), yas (by omega) (by omega)]; omega
 rw [ee]
 have gne : Nat.gcd (odp (val x)) (odp (val y)) ≠ 0 := by
  intro h0; exact yi5 nx (Nat.gcd_eq_zero_iff.1 h0).1
 have fin : ∀ p q, p = nb (rdA (val x) (val y)) → q = nb (rdB (val x) (val y)) → br (ltI (rdE (val x) (val y) e) (-1048576)) (K false [] [] 0 4) (br (ltI 1048576 (rdE (val x) (val y) e)) (K false [] [] 0 4) (K n p q (rdE (val x) (val y) e) 0)) := by
  rintro p q rfl rfl
  refine yrv (fun w => ?_) fun w => ?_
  ·rw [if_neg w] at h2; exact h2
  ·rw [if_pos w] at h2; exact h2
 by_cases hg : Nat.gcd (odp (val x)) (odp (val y)) = 1
 ·rw [yaw (by simp [hg])]
  refine fin _ _ ?_ ?_
  ·unfold rdA; rw [hg, Nat.div_one]; rfl
  ·unfold rdB; rw [hg, Nat.div_one]; rfl
 ·rw [yaD (by simp [hg])]
  have fg : fit (Nat.gcd (odp (val x)) (odp (val y))) := yhK fx (Nat.gcd_le_left _ (Nat.pos_of_ne_zero (yi5 nx)))
  refine yfM _ _ (ybc fx) (ybc fg) _ (fun h => absurd h (yli gne)) fun _ => ?_
  refine yfM _ _ (ybc fy) (ybc fg) _ (fun h => absurd h (yli gne)) fun _ => ?_
  refine fin _ _ ?_ ?_
  ·rw [yaK, yaK]; rfl
  ·rw [yaK, yaK]; rfl
end Go.Ev.S

/- Exact numbers as rational ones. -/
set_option linter.unusedVariables false
set_option linter.unusedSimpArgs false
set_option maxRecDepth 8000
namespace Go.Ev.S
open Go Go.Ev
def p2 (e : Int) : Rat := (2 : Rat) ^ e
theorem ytd : (2 : Rat) ≠ 0 := by decide
theorem yd3 (e : Int) : 0 < p2 e := Rat.zpow_pos (by decide)
theorem ysH (e : Int) : p2 e ≠ 0 := by have := yd3 e; grind
theorem ydM (a b : Int) : p2 (a + b) = p2 a * p2 b := Rat.zpow_add ytd a b
theorem ydN (n : Nat) : p2 (n : Int) = ((2 ^ n : Nat) : Rat) := by
 unfold p2; rw [Rat.zpow_natCast, Rat.natCast_pow]; rfl
theorem ypk : p2 0 = 1 := Rat.zpow_zero 2
theorem ytb : p2 1 = 2 := by have := ydN 1; rw [show ((1 : Nat) : Int) = 1 from rfl] at this; rw [this]; rfl
def sR (n : Bool) : Rat := if n then -1 else 1
def V (n : Bool) (a b : Nat) (e : Int) : Rat := sR n * ((a : Rat) / (b : Rat)) * p2 e
theorem yjL {b : Nat} (h : b ≠ 0) : 0 < (b : Rat) := Rat.natCast_pos.2 (by omega)
theorem yjp {b : Nat} (h : b ≠ 0) : (b : Rat) ≠ 0 := by have := yjL h; grind
theorem ysi (n : Bool) (a b : Nat) (e : Int) (hb : b ≠ 0) : V n a b e * b = sR n * a * p2 e := by
 have := yjp hb
 unfold V; grind
theorem ysq (n : Bool) (a b k : Nat) (e : Int) : V n (a * 2 ^ k) b e = V n a b (e + k) := by
 unfold V
 rw [ydM, ydN, Rat.natCast_mul]; grind
theorem yq2 (n : Bool) (a b g : Nat) (e : Int) (hg : g ≠ 0) (hb : b ≠ 0) : V n (g * a) (g * b) e = V n a b e := by
 have h1 := yjp hg
 have h2 := yjp hb
 unfold V
 rw [Rat.natCast_mul, Rat.natCast_mul]
 have : (g : Rat) * a / (g * b) = a / b := by grind
 rw [this]
theorem yiN {a b : Nat} (ha : a ≠ 0) : Nat.gcd (odp a) (odp b) ≠ 0 := by
 intro h0; exact yi5 ha (Nat.gcd_eq_zero_iff.1 h0).1
theorem yq6 {a b : Nat} (ha : a ≠ 0) (hb : b ≠ 0) : a = Nat.gcd (odp a) (odp b) * rdA a b * 2 ^ ybk a ∧ b = Nat.gcd (odp a) (odp b) * rdB a b * 2 ^ ybk b := by
 have h1 := (yer ha).1
 have h2 := (yer hb).1
 have h3 : Nat.gcd (odp a) (odp b) * rdA a b = odp a := Nat.mul_div_cancel' (Nat.gcd_dvd_left _ _)
 have h4 : Nat.gcd (odp a) (odp b) * rdB a b = odp b := Nat.mul_div_cancel' (Nat.gcd_dvd_right _ _)
 rw [h3, h4]
 exact ⟨by rw [Nat.mul_comm]; exact h1, by rw [Nat.mul_comm]; exact h2⟩
theorem ym7 {a b : Nat} (ha : a ≠ 0) (hb : b ≠ 0) : rdA a b % 2 = 1 ∧ rdB a b % 2 = 1 ∧ Nat.gcd (rdA a b) (rdB a b) = 1 := by
 have h1 := (yer ha).2
 have h2 := (yer hb).2
 have h3 : Nat.gcd (odp a) (odp b) * rdA a b = odp a := Nat.mul_div_cancel' (Nat.gcd_dvd_left _ _)
 have h4 : Nat.gcd (odp a) (odp b) * rdB a b = odp b := Nat.mul_div_cancel' (Nat.gcd_dvd_right _ _)
 refine ⟨?_, ?_, ?_⟩
 ·rcases Nat.mod_two_eq_zero_or_one (rdA a b) with h | h
  ·rw [← h3, Nat.mul_mod, h, Nat.mul_zero, Nat.zero_mod] at h1; cases h1
  ·exact h
 ·rcases Nat.mod_two_eq_zero_or_one (rdB a b) with h | h
  ·rw [← h4, Nat.mul_mod, h, Nat.mul_zero, Nat.zero_mod] at h2; cases h2
  ·exact h
 ·exact Nat.coprime_div_gcd_div_gcd (Nat.pos_of_ne_zero (yiN ha))
theorem ytJ (n : Bool) {a b : Nat} (e : Int) (ha : a ≠ 0) (hb : b ≠ 0) : V n (rdA a b) (rdB a b) (rdE a b e) = V n a b e := by
 obtain ⟨h1, h2⟩ := yq6 ha hb
 have hg := yiN (b := b) ha
 have hB : rdB a b ≠ 0 := by have := (ym7 ha hb).2.1; omega
 have h3 : V n a b e * p2 (ybk b) = V n (rdA a b) (rdB a b) (e + ybk a) := by
  rw [← yq2 n (rdA a b) (rdB a b) _ _ hg hB, ← ysq, ← h1]
  have h4 : (b : Rat) = ((Nat.gcd (odp a) (odp b) * rdB a b : Nat) : Rat) * p2 (ybk b) := by
   rw [ydN, ← Rat.natCast_mul, ← h2]
  have h5 : ((Nat.gcd (odp a) (odp b) * rdB a b : Nat) : Rat) ≠ 0 := yjp (Nat.mul_ne_zero hg hB)
  have h6 := ysH (ybk b)
  unfold V
  rw [h4]
  generalize ((Nat.gcd (odp a) (odp b) * rdB a b : Nat) : Rat) = u at h5
  generalize p2 (ybk b) = v at h6
  generalize (a : Rat) = w
  have : w / (u * v) * v = w / u := by grind
  grind
 have h7 : V n (rdA a b) (rdB a b) (e + ybk a) = V n (rdA a b) (rdB a b) (rdE a b e) * p2 (ybk b) := by
  have e1 : e + (ybk a : Int) = rdE a b e + ybk b := by unfold rdE; omega
  rw [e1]
  unfold V
  rw [ydM]; grind
 have h8 := ysH (ybk b)
 rw [h7] at h3
 grind
end Go.Ev.S

/- Exact numbers added, multiplied, compared, measured: the document's. -/
set_option linter.unusedVariables false
set_option linter.unusedSimpArgs false
set_option maxRecDepth 8000
namespace Go.Ev.S
open Go Go.Ev
structure Can (n : Bool) (a b : Nat) (e : Int) : Prop where
 fa : fit a
 fb : fit b
 ob : b % 2 = 1
 we : win e
 z : a = 0 → n = false ∧ b = 1 ∧ e = 0
 r : a ≠ 0 → a % 2 = 1 ∧ Nat.gcd a b = 1
theorem nb_nil {a : Nat} : nb a = [] ↔ a = 0 := by
 constructor
 ·intro h; rw [← yaK a, h, yhf]
 ·rintro rfl; exact yaZ
theorem Can.may {n : Bool} {a b : Nat} {e : Int} (h : Can n a b e) : ytf n (nb a) (nb b) e := by
 refine ⟨ybc h.fa, ybc h.fb, by rw [yaK]; exact h.ob, h.we, ?_, ?_⟩
 ·intro h0
  obtain ⟨h1, h2, h3⟩ := h.z (nb_nil.1 h0)
  exact ⟨h1, by rw [h2]; exact yfE, h3⟩
 ·intro h0
  rw [yaK, yaK]; exact h.r fun h1 => h0 (nb_nil.2 h1)
theorem Can.b0 {n : Bool} {a b : Nat} {e : Int} (h : Can n a b e) : b ≠ 0 := by have := h.ob; omega
theorem Can.e64 {n : Bool} {a b : Nat} {e : Int} (h : Can n a b e) : -1048576 ≤ e ∧ e ≤ 1048576 := h.we
theorem yew (a : Nat) : eqS (nb a) [] = decide (a = 0) := by rw [ybn, decide_eq_decide]; exact nb_nil
theorem ynu {a : Nat} (n : Int) (h0 : 0 ≤ n) (hn : n < 9223372036854775808) (ha : fit a) {K : List UInt8 → Int → Prop} (h : yom K (a * 2 ^ n.toNat)) : zbz (nb a) n K := by
 refine ynp n h0 hn (ybc ha) ?_; rw [yaK]; exact h
theorem yee {a : Nat} (n : Int) (h0 : 0 ≤ n) (hn : n < 9223372036854775808) (ha : fit a) {K : List UInt8 → Int → Prop} (h : yom K (a * 2 ^ n.toNat)) : zav (nb a) n K := by
 refine ynO n h0 hn (ybc ha) ?_; rw [yaK]; exact h
theorem yky {a b : Nat} (ha : fit a) (hb : fit b) {K : Int → Int → Prop} (h : K (sgn a b) 0) : zas (nb a) (nb b) K := by
 refine ynJ _ _ K (fun hn => absurd ⟨ybc ha, ybc hb⟩ hn) fun _ _ => ?_
 rw [yaK, yaK]; exact h
theorem yoH {a : Nat} (h : fit a) : (nb a).length ≤ 16384 := h
theorem ypY {a b : Nat} (ha : fit a) (hb : fit b) {K : List UInt8 → Int → Prop} (h : yom K (a + b)) : zbv (nb a) (nb b) K := by
 have h1 := yoH ha
 have h2 := yoH hb
 refine ynB _ _ (by omega) (by omega) K ?_; rw [yaK, yaK]; exact h
theorem yo1 {a b : Nat} (ha : fit a) (hb : fit b) {K : List UInt8 → Int → Prop} (h : yom K (a + b)) : zaq (nb a) (nb b) K := by
 refine yoi _ _ K (fun hn => absurd ⟨ybc ha, ybc hb⟩ hn) fun _ _ => ?_; rw [yaK, yaK]; exact h
theorem ykL {a b : Nat} (ha : fit a) (hb : fit b) (h0 : b ≠ 0) {K : List UInt8 → List UInt8 → Int → Prop} (h : K (nb (a / b)) (nb (a % b)) 0) : zat (nb a) (nb b) K := by
 refine yfO _ _ K (fun hn => absurd ⟨ybc ha, ybc hb⟩ hn) (fun hh => absurd (nb_nil.1 hh) h0) fun _ _ _ => ?_; rw [yaK, yaK]; exact h
theorem ye9 {a : Nat} (ha : fit a) {K : Int → Prop} (h : K (yav a)) : zaw (nb a) K := by
 refine yfW _ K ?_; rw [if_pos (ybc ha), yaK]; exact h
theorem yoq (n : Bool) {a b : Nat} {e : Int} (ha : fit a) (hb : fit b) (h0 : b ≠ 0) (we : win e) {K : Bool → List UInt8 → List UInt8 → Int → Int → Prop} (h : mkE n a b e K) : zcn n (nb a) (nb b) e K := by
 refine yms n _ _ e K (fun hn => absurd ⟨ybc ha, ybc hb, yli h0, we⟩ hn) fun _ _ _ _ => ?_; rw [yaK, yaK]; exact h
theorem ylo (n : Bool) {a b : Nat} {e : Int} (ha : fit a) (hb : fit b) (h0 : b ≠ 0) (we : win e) {K : Bool → List UInt8 → List UInt8 → Int → Int → Prop} (h : mkE n a b e K) : zaf n (nb a) (nb b) e K := by
 refine yjN n _ _ e K (fun hn => absurd ⟨ybc ha, ybc hb, yli h0, we⟩ hn) fun _ _ _ _ => ?_; rw [yaK, yaK]; exact h
def lv (a bd : Nat) (ae n : Int) : Nat := a * bd * 2 ^ (ae - n).toNat
section
variable {n1 n2 : Bool} {a1 b1 a2 b2 : Nat} {e1 e2 : Int}
theorem ylf {c : Prop} [Decidable c] {p q : Prop} (h1 : c → p) (h2 : ¬ c → q) : br (decide c) p q := by
 by_cases h : c
 ·rw [yaD (by simpa using h)]; exact h1 h
 ·rw [yaw (by simpa using h)]; exact h2 h
theorem yd5 {c : Prop} [Decidable c] {p q : Prop} (h1 : ¬ c → p) (h2 : c → q) : br (!decide c) p q := by
 by_cases h : c
 ·rw [yaw (by simpa using h)]; exact h2 h
 ·rw [yaD (by simpa using h)]; exact h1 h
end
end Go.Ev.S

/- Exact numbers scaled, measured, cut: the document's. -/
set_option linter.unusedVariables false
set_option linter.unusedSimpArgs false
set_option maxRecDepth 8000
namespace Go.Ev.S
open Go Go.Ev
def tp (a b : Nat) : Int :=
 if yav b ≤ yav a then (if b * 2 ^ (yav a - yav b) ≤ a then ((yav a - yav b : Nat) : Int) else ((yav a - yav b : Nat) : Int) - 1)
 else (if b ≤ a * 2 ^ (yav b - yav a) then -((yav b - yav a : Nat) : Int) else -((yav b - yav a : Nat) : Int) - 1)
theorem yeW {a : Nat} (h : fit a) : yav a ≤ 131072 := (ym9 a).1 h
theorem yrq {a b : Nat} (ha : fit a) (hb : b ≠ 0) (hl : yav b ≤ yav a) : fit (b * 2 ^ (yav a - yav b)) := by
 rw [ym9, ygW _ _ hb]; have := yeW ha; omega
theorem ypR (a b : Nat) : ltI (sgn a b) 0 = !decide (b ≤ a) := by
 unfold sgn ltI
 by_cases h : b ≤ a
 ·(repeat' split) <;> simp <;> omega
 ·rw [if_pos (by omega)]; simp; omega
theorem yjY (a n : Nat) : yav a ≤ n ↔ a < 2 ^ n := yaL a n
theorem yjI {a : Nat} (h : a ≠ 0) : 2 ^ (yav a - 1) ≤ a := by
 have h1 : ¬ yav a ≤ yav a - 1 := by
  have : 0 < yav a := by unfold yav; rw [if_neg h]; omega
  omega
 rw [yjY] at h1; omega
theorem ymg {a b : Nat} (ha : a ≠ 0) (hb : b ≠ 0) : (0 ≤ tp a b → b * 2 ^ (tp a b).toNat ≤ a ∧ a < b * 2 ^ ((tp a b).toNat + 1)) ∧ (tp a b < 0 → b ≤ a * 2 ^ (-tp a b).toNat ∧ a * 2 ^ ((-tp a b).toNat - 1) < b) := by
 have a1 := yjI ha
 have a2 := (yjY a _).1 (Nat.le_refl _)
 have b1 := yjI hb
 have b2 := (yjY b _).1 (Nat.le_refl _)
 have pa : 0 < yav a := by unfold yav; rw [if_neg ha]; omega
 have pb : 0 < yav b := by unfold yav; rw [if_neg hb]; omega
 unfold tp
 by_cases hl : yav b ≤ yav a
 ·rw [if_pos hl]
  obtain ⟨d, hd⟩ : ∃ d, d = yav a - yav b := ⟨_, rfl⟩
  rw [← hd]
  -- a < b 2^(d+1)
  have h1 : a < b * 2 ^ (d + 1) := by
   have : 2 ^ (yav b - 1) * 2 ^ (d + 1) ≤ b * 2 ^ (d + 1) := Nat.mul_le_mul_right _ b1
   rw [← Nat.pow_add, show yav b - 1 + (d + 1) = yav a from by omega] at this
   omega
  by_cases h2 : b * 2 ^ d ≤ a
  ·rw [if_pos h2]
   refine ⟨fun _ => ?_, fun h => by omega⟩
   rw [show ((d : Int)).toNat = d from by omega]
   exact ⟨h2, h1⟩
  ·rw [if_neg h2]
   rcases Nat.eq_zero_or_pos d with h0 | h0
   ·refine ⟨fun h => by omega, fun _ => ?_⟩
    rw [h0] at h2 ⊢
    rw [show (-(((0 : Nat) : Int) - 1)).toNat = 1 from by omega, Nat.sub_self]
    refine ⟨?_, by omega⟩
    have : b < a * 2 := by
     have : 2 ^ (yav a - 1) * 2 ≤ a * 2 := Nat.mul_le_mul_right _ a1
     rw [← Nat.pow_succ, show (yav a - 1).succ = yav b from by omega] at this
     omega
    omega
   ·refine ⟨fun _ => ?_, fun h => by omega⟩
    rw [show ((d : Int) - 1).toNat = d - 1 from by omega, show d - 1 + 1 = d from by omega]
    refine ⟨?_, by omega⟩
    have : b * 2 ^ (d - 1) ≤ 2 ^ yav b * 2 ^ (d - 1) := Nat.mul_le_mul_right _ (by omega)
    rw [← Nat.pow_add, show yav b + (d - 1) = yav a - 1 from by omega] at this
    omega
 ·rw [if_neg hl]
  obtain ⟨d, hd⟩ : ∃ d, d = yav b - yav a := ⟨_, rfl⟩
  rw [← hd]
  have h1 : b < a * 2 ^ (d + 1) := by
   have : 2 ^ (yav a - 1) * 2 ^ (d + 1) ≤ a * 2 ^ (d + 1) := Nat.mul_le_mul_right _ a1
   rw [← Nat.pow_add, show yav a - 1 + (d + 1) = yav b from by omega] at this
   omega
  have h3 : a * 2 ^ (d - 1) < b := by
   have : a * 2 ^ (d - 1) < 2 ^ yav a * 2 ^ (d - 1) := Nat.mul_lt_mul_of_pos_right a2 (Nat.two_pow_pos _)
   rw [← Nat.pow_add, show yav a + (d - 1) = yav b - 1 from by omega] at this
   omega
  by_cases h2 : b ≤ a * 2 ^ d
  ·rw [if_pos h2]
   refine ⟨fun h => by omega, fun _ => ?_⟩
   rw [show (- -(d : Int)).toNat = d from by omega]
   exact ⟨h2, h3⟩
  ·rw [if_neg h2]
   refine ⟨fun h => by omega, fun _ => ?_⟩
   rw [show (-(-(d : Int) - 1)).toNat = d + 1 from by omega, show d + 1 - 1 = d from by omega]
   exact ⟨by omega, by omega⟩
theorem yjU {a b : Nat} (ha : fit a) (hb : fit b) : -131073 ≤ tp a b ∧ tp a b ≤ 131072 := by
 have := yeW ha
 have := yeW hb
 unfold tp; (repeat' split) <;> omega
def ysx (a b : Nat) (e n : Int) (K : List UInt8 → Bool → Int → Prop) : Prop :=
 if n < -2097152 ∨ 2097152 < n then K [] false 2 else if a = 0 then K [] true 0 else
 if n ≤ e then (if fit (a * 2 ^ (e - n).toNat) then K (nb (a * 2 ^ (e - n).toNat / b)) (decide (a * 2 ^ (e - n).toNat % b = 0)) 0 else K [] false 4)
 else if tp a b + e < n then K [] false 0 else K (nb (a / (b * 2 ^ (n - e).toNat))) (decide (a % (b * 2 ^ (n - e).toNat) = 0)) 0
theorem ysv {a b : Nat} {e n : Int} (ha : a ≠ 0) (hb : b ≠ 0) (fa : fit a) (h1 : ¬ n ≤ e) (h2 : ¬ tp a b + e < n) : fit (b * 2 ^ (n - e).toNat) := by
 have h := (ymg ha hb).1 (by omega)
 refine yhK fa (Nat.le_trans (Nat.mul_le_mul_left _ ?_) h.1)
 exact Nat.pow_le_pow_right (by omega) (by omega)
end Go.Ev.S

/- Differences: of words, bit by bit; of numbers of six words. -/
set_option linter.unusedVariables false
set_option linter.unusedSimpArgs false
set_option maxRecDepth 8000
namespace Go.Ev.S
open Go Go.Ev
end Go.Ev.S

/- Quiet and next encodings: the abacus and the document's answer; the law KindSigns. -/
set_option linter.unusedVariables false
set_option linter.unusedSimpArgs false
set_option maxRecDepth 8000
namespace Go.Ev.S
open Go Go.Ev
def ytw (f : Nat) : Nat := enc f false (2 * fe f + 1) (2 ^ (fp f - 2))
def quiet (f x : Nat) : Nat := if 8 ≤ cls f x then x ||| ytw f else x
end Go.Ev.S

/- The parts of an encoding: the abacus and the document's answer. -/
set_option linter.unusedVariables false
set_option linter.unusedSimpArgs false
set_option maxRecDepth 8000
namespace Go.Ev.S
open Go Go.Ev
end Go.Ev.S

/- Signs put together, words and classes: the abacus and the document's answer; the laws of signs. -/
set_option linter.unusedVariables false
set_option linter.unusedSimpArgs false
set_option maxRecDepth 8000
namespace Go.Ev.S
open Go Go.Ev
end Go.Ev.S

/- The plain laws of SignWords and SignBack. -/
set_option linter.unusedVariables false
set_option linter.unusedSimpArgs false
set_option maxRecDepth 8000
namespace Go.Ev.S
open Go Go.Ev
def ext (w x : Nat) : Nat := cond (x.testBit (w - 1)) (x % 2 ^ w + (18446744073709551616 - 2 ^ w)) (x % 2 ^ w)
end Go.Ev.S

/- Encodings compared: what the functions come to. -/
set_option linter.unusedVariables false
set_option linter.unusedSimpArgs false
set_option maxRecDepth 8000
namespace Go.Ev.S
open Go Go.Ev
end Go.Ev.S

/- The order of all encodings; the lesser and the greater one. -/
set_option linter.unusedVariables false
set_option linter.unusedSimpArgs false
set_option maxRecDepth 8000
namespace Go.Ev.S
open Go Go.Ev
end Go.Ev.S

/- What encodings say: their exact values, in order. -/
set_option linter.unusedVariables false
set_option linter.unusedSimpArgs false
set_option maxRecDepth 8000
namespace Go.Ev.S
open Go Go.Ev
def fin (f x : Nat) : Prop := ex f x ≠ 2 * fe f + 1
end Go.Ev.S

/- Exact numbers compared, as rational ones; encodings compared by their values. -/
set_option linter.unusedVariables false
set_option linter.unusedSimpArgs false
set_option maxRecDepth 8000
namespace Go.Ev.S
open Go Go.Ev
theorem ybt {x y d : Rat} (hd : 0 < d) : x * d < y * d ↔ x < y := by
 constructor
 ·intro hh
  apply Classical.byContradiction; intro hn
  have h1 : y ≤ x := by grind
  have h2 := Rat.mul_le_mul_of_nonneg_right h1 (show 0 ≤ d by grind)
  grind
 ·intro hh; exact Rat.mul_lt_mul_of_pos_right hh hd
section
variable {n1 n2 : Bool} {a1 b1 a2 b2 : Nat} {e1 e2 : Int}
end
theorem ymJ {x : Nat} (h : x < Q6) : fit x := by
 unfold fit
 obtain ⟨N, hN⟩ : ∃ N, N = 48 := ⟨_, rfl⟩
 have : (nb x).length ≤ N := by rw [ybs, ymN, yrj hN]; exact h
 omega
theorem yhn : fit 1 := by unfold fit; rw [yfE]; decide
end Go.Ev.S

/- Exact numbers added, multiplied, compared, measured: the abacus. -/
set_option linter.unusedVariables false
set_option linter.unusedSimpArgs false
set_option maxRecDepth 8000
namespace Go.Ev.S
open Go Go.Ev
theorem yqa : fit 0 := by unfold fit; rw [yaZ]; decide
section
variable {n1 n2 : Bool} {a1 b1 a2 b2 : Nat} {e1 e2 : Int}
theorem ylm (s : Bool) {a b : Nat} {e : Int} (c : Can s a b e) (K : Bool → List UInt8 → List UInt8 → Int → Prop) (h : K false (nb a) (nb b) e) : zac s (nb a) (nb b) e K := by
 rw [zac.is]; unfold zac.d
 refine ybK _ _ _ _ _ (fun _ => ?_) fun hh => absurd c.may hh
 rw [yaw (by rfl)]; exact h
end
theorem yf7 (n : Bool) {a b : Nat} {e : Int} (c : Can n a b e) (h0 : a ≠ 0) (K : Int → Prop) (h2 : K (tp a b + e)) : zaj n (nb a) (nb b) e K := by
 have w := c.e64
 have la := yeW c.fa
 have lb := yeW c.fb
 rw [zaj.is]; unfold zaj.d
 refine ye9 c.fa ?_
 refine ye9 c.fb ?_
 rw [yas (by omega) (by omega)]
 unfold tp at h2
 by_cases hl : yav b ≤ yav a
 ·rw [if_pos hl] at h2
  rw [yaD (yba (by omega))]
  have et : ((yav a : Int) - yav b).toNat = yav a - yav b := by omega
  have hf := yrq c.fa c.b0 hl
  refine yee _ (by omega) (by omega) c.fb (yeR (fun f => ?_) fun f => absurd (by rw [et]; exact hf) f)
  refine yky c.fa f ?_
  rw [et, ypR]
  refine yd5 (fun h3 => ?_) fun h3 => ?_
  ·rw [if_neg h3] at h2
   rw [yas (by omega) (by omega), yap (by omega) (by omega), show ((yav a : Int) - yav b - 1 + e) = ((yav a - yav b : Nat) : Int) - 1 + e from by omega]; exact h2
  ·rw [if_pos h3] at h2
   rw [yap (by omega) (by omega), show ((yav a : Int) - yav b + e) = ((yav a - yav b : Nat) : Int) + e from by omega]; exact h2
 ·rw [if_neg hl] at h2
  rw [yaw (yeK (by omega))]
  have en : yqh .i64 ((yav a : Int) - yav b) = (yav b : Int) - yav a := by
   show IntKind.wrap .i64 _ = _
   rw [yd9 (by omega) (by omega)]; omega
  have et : ((yav b : Int) - yav a).toNat = yav b - yav a := by omega
  have hf := yrq c.fb h0 (show yav a ≤ yav b by omega)
  rw [en]
  refine yee _ (by omega) (by omega) c.fa (yeR (fun f => ?_) fun f => absurd (by rw [et]; exact hf) f)
  refine yky f c.fb ?_
  rw [et, ypR]
  refine yd5 (fun h3 => ?_) fun h3 => ?_
  ·rw [if_neg h3] at h2
   rw [yas (by omega) (by omega), yap (by omega) (by omega), show ((yav a : Int) - yav b - 1 + e) = -((yav b - yav a : Nat) : Int) - 1 + e from by omega]; exact h2
  ·rw [if_pos h3] at h2
   rw [yap (by omega) (by omega), show ((yav a : Int) - yav b + e) = -((yav b - yav a : Nat) : Int) + e from by omega]; exact h2
theorem ygc (n : Bool) {a b : Nat} {e : Int} (c : Can n a b e) (K : Int → Int → Prop) (h1 : a = 0 → K 0 2) (h2 : a ≠ 0 → K (tp a b + e) 0) : zag n (nb a) (nb b) e K := by
 rw [zag.is]; unfold zag.d
 refine ybK _ _ _ _ _ (fun _ => ?_) fun hh => absurd c.may hh
 rw [yaw (by rfl), yew]
 refine ylf h1 fun h0 => ?_
 exact yf7 n c h0 _ (h2 h0)
theorem yeu (s : Bool) {a b : Nat} {e : Int} (c : Can s a b e) (n : Int) (hn : -9223372036854775808 ≤ n ∧ n < 9223372036854775808) (K : List UInt8 → Bool → Int → Prop) (h : ysx a b e n K) : zae s (nb a) (nb b) e n K := by
 have w := c.e64
 rw [zae.is]; unfold zae.d
 refine ybK _ _ _ _ _ (fun _ => ?_) fun hh => absurd c.may hh
 rw [yaw (by rfl)]
 unfold ysx at h
 by_cases g1 : n < -2097152
 ·rw [yaD (ya9 g1)]; rw [if_pos (.inl g1)] at h; exact h
 rw [yaw (ybe (by omega))]
 by_cases g2 : 2097152 < n
 ·rw [yaD (ya9 g2)]; rw [if_pos (.inr g2)] at h; exact h
 rw [yaw (ybe (by omega)), yew]
 rw [if_neg (by omega)] at h
 refine ylf (fun h0 => ?_) fun h0 => ?_
 ·rw [if_pos h0] at h; exact h
 rw [if_neg h0] at h
 by_cases g3 : n ≤ e
 ·rw [yaD (yba g3)]
  rw [if_pos g3] at h
  rw [yas (by omega) (by omega)]
  refine yee _ (by omega) (by omega) c.fa (yeR (fun f1 => ?_) fun f1 => ?_)
  ·rw [if_pos f1] at h
   rw [yaw (by rfl)]
   refine ykL f1 c.fb c.b0 ?_
   rw [yew]; exact h
  ·rw [if_neg f1] at h
   rw [yaD (by rfl)]; exact h
 ·rw [yaw (yeK (by omega))]
  rw [if_neg g3] at h
  refine yf7 s c h0 _ ?_
  by_cases g4 : tp a b + e < n
  ·rw [yaD (ya9 g4)]; rw [if_pos g4] at h; exact h
  rw [yaw (ybe (by omega))]
  rw [if_neg g4] at h
  have hf := ysv h0 c.b0 c.fa g3 g4
  rw [yas (by omega) (by omega)]
  refine yee _ (by omega) (by omega) c.fb (yeR (fun f1 => ?_) fun f1 => absurd hf f1)
  refine ykL c.fa hf (Nat.mul_ne_zero c.b0 (Nat.pos_iff_ne_zero.1 (Nat.two_pow_pos _))) ?_
  rw [yew]; exact h
end Go.Ev.S

/- Encodings of exact numbers. -/
set_option linter.unusedVariables false
set_option linter.unusedSimpArgs false
set_option maxRecDepth 8000
namespace Go.Ev.S
open Go Go.Ev
theorem ytk (e k t : Nat) (ht : t < 2 ^ k) : (e * 2 ^ k) ||| t = e * 2 ^ k + t := by
 rw [Nat.mul_comm]; exact (Nat.two_pow_add_eq_or_of_lt ht e).symm
theorem ye5 (f e t : Nat) (h : f ≤ 3) (he : e ≤ 2 * fe f + 1) (ht : t < 2 ^ (fp f - 1)) (neg : Bool) (K : Int → Int → Prop) (hK : K (Hi (enc f neg e t)) (Lo (enc f neg e t))) : zan f neg e (W t) K := by
 obtain ⟨w1, w2, w3, w4, w5, w6⟩ := yd2 f h
 have hb := yoW h he ht
 have hen := ysI h he ht neg
 have hb' : e * 2 ^ (fp f - 1) + t < Q6 := yp3 (by omega) hb
 have he1 : e * 2 ^ (fp f - 1) < Q6 := by omega
 have ht1 : t < Q6 := yp3 (by omega) ht
 rw [zan.is]; unfold zan.d
 rw [yaU (by omega) (by omega), ydb e (by omega), yaC f h, yrU f h]
 refine ycu e (fp f - 1) (yp3 (a := 64) (by omega) (by omega)) (by omega) _ fun bb => ?_
 rw [Nat.mod_eq_of_lt he1]
 refine yn8 _ _ he1 ht1 _ ?_
 rw [ytk _ _ _ ht]
 cases neg with
 | false =>
  rw [yaw rfl]
  rw [ycf _ (yts (by omega) hb)]
  have : enc f false e t = e * 2 ^ (fp f - 1) + t := by simp [enc, sg]
  rw [this] at hK; exact hK
 | true =>
  have e1 : enc f true e t = e * 2 ^ (fp f - 1) + t + 2 ^ (fw f - 1) := by simp [enc, sg]; omega
  rw [e1] at hK hen
  have q1 : yaI IntKind.i64 (yan IntKind.i64 (fw f : Int) 1) 64 = (((fw f - 1) / 64 : Nat) : Int) := by rw [yte f h, yrp _ (by omega)]
  have q2 : cvI IntKind.u64 (ycm IntKind.i64 (yan IntKind.i64 (fw f : Int) 1) 64) = (((fw f - 1) % 64 : Nat) : Int) := by rw [yte f h, yqI, yaU (by omega) (by omega)]
  have g1 : (leI 0 (((fw f - 1) / 64 : Nat) : Int) && ltI (((fw f - 1) / 64 : Nat) : Int) 6) = true := ybG (by omega) (by omega)
  have g2 : (!ltI (((fw f - 1) % 64 : Nat) : Int) 0) = true := ykX (by omega)
  rw [yaD rfl, yc1 f h, q1, q2, yby g1, yby g2, yby g1, Int.toNat_natCast, yq4, yrE _ _ hb, ycf _ (yts (by omega) hen)]
  exact hK
def pl (f : Nat) (t : Int) : Int := (if t < 1 - fe f then 1 - (fe f : Int) else t) - fp f + 1
def yiu (f : Nat) (n : Bool) (at_ : Int) (w : Nat) : Nat := sg f n + ((at_ + fe f + fp f - 2).toNat * 2 ^ (fp f - 1) + w)
theorem yrQ {f : Nat} (h : f ≤ 3) (n : Bool) {t : Int} {w : Nat} (h1 : 2 ^ (fp f - 1) ≤ w) (h2 : w < 2 ^ fp f) :
  yiu f n (pl f t) w = enc f n ((pl f t + fe f + fp f - 2).toNat + 1) (w % 2 ^ (fp f - 1)) := by
 have e2 : 2 ^ fp f = 2 ^ (fp f - 1) + 2 ^ (fp f - 1) := by rcases yh6 h with rfl | rfl | rfl | rfl <;> decide
 have e3 : w % 2 ^ (fp f - 1) = w - 2 ^ (fp f - 1) := by
  rw [Nat.mod_eq_sub_mod h1, Nat.mod_eq_of_lt (by omega)]
 rw [e3]; unfold yiu enc
 rw [Nat.add_mul]; omega
theorem yr4 {f : Nat} (n : Bool) {t : Int} {w : Nat} (ht : t < 1 - fe f) : yiu f n (pl f t) w = enc f n 0 w := by
 unfold yiu enc pl
 rw [if_pos ht, show (1 - (fe f : Int) - fp f + 1 + fe f + fp f - 2).toNat = 0 from by omega, Nat.add_assoc]
theorem yoP {a : Nat} (h : a ≠ 0) : tp a 1 = (yav a : Int) - 1 := by
 have h1 : yav 1 = 1 := by decide
 have h2 := yjI h
 have h3 : 1 ≤ yav a := by
  rcases Nat.eq_zero_or_pos (yav a) with h0 | h0
  ·have := (yaL a 0).1 (by omega); omega
  ·exact h0
 unfold tp
 rw [h1, if_pos h3, Nat.one_mul, if_pos h2]; omega
def ofE (f : Nat) (n : Bool) (a b : Nat) (e : Int) (K : Int → Int → Bool → Prop) : Prop :=
 if a = 0 then K 0 0 true else if b ≠ 1 ∨ (fe f : Int) < tp a b + e ∨ e < pl f (tp a b + e) then K 0 0 false else
  K (Hi (yiu f n (pl f (tp a b + e)) (a * 2 ^ (e - pl f (tp a b + e)).toNat))) (Lo (yiu f n (pl f (tp a b + e)) (a * 2 ^ (e - pl f (tp a b + e)).toNat))) true
theorem ykU {a : Nat} (h : a ≠ 0) (k : Nat) : 2 ^ (yav a - 1 + k) ≤ a * 2 ^ k ∧ a * 2 ^ k < 2 ^ (yav a + k) := by
 rw [Nat.pow_add, Nat.pow_add]
 exact ⟨Nat.mul_le_mul_right _ (yjI h), Nat.mul_lt_mul_of_pos_right ((yaL a _).1 (Nat.le_refl _)) (Nat.two_pow_pos k)⟩
theorem ygY {f : Nat} (h : f ≤ 3) (t : Int) (h1 : t ≤ fe f) : -16494 ≤ pl f t ∧ pl f t ≤ 16384 ∧ 0 ≤ pl f t + fe f + fp f - 2 := by
 unfold pl
 rcases yh6 h with rfl | rfl | rfl | rfl <;> simp only [fe, fp] at * <;> split <;> omega
theorem yrM {w : Nat} (h : w < Q6) : May (nb w) ∧ (nb w).length ≤ 48 := by
 refine ⟨ybc (ymJ h), ?_⟩
 obtain ⟨N, hN⟩ : ∃ N, N = 48 := ⟨_, rfl⟩
 have : (nb w).length ≤ N := by rw [ybs, ymN, yrj hN]; exact h
 omega
theorem ykS {w : Nat} (h : w < Q6) (K : (Nat → Int) → Bool → Prop) (hK : K (W w) true) : zba (nb w) K := by
 refine yjm _ _ ?_
 rw [if_pos (yrM h), yaK]; exact hK
theorem ysh {w p : Nat} (hp : 1 ≤ p) (hw : w < 2 ^ p) : w.testBit (p - 1) = decide (2 ^ (p - 1) ≤ w) := by
 have e2 : 2 ^ p = 2 ^ (p - 1) + 2 ^ (p - 1) := by obtain ⟨q, rfl⟩ : ∃ q, p = q + 1 := ⟨p - 1, by omega⟩; rw [Nat.pow_succ, Nat.add_sub_cancel]; omega
 by_cases h : 2 ^ (p - 1) ≤ w
 ·rw [decide_eq_true h, show w = 2 ^ (p - 1) + (w - 2 ^ (p - 1)) from by omega, Nat.testBit_two_pow_add_eq, Nat.testBit_lt_two_pow (by omega)]; rfl
 ·rw [decide_eq_false h, Nat.testBit_lt_two_pow (by omega)]
section
variable {n : Bool} {a b : Nat} {e : Int}
theorem ysO {f : Nat} (h : f ≤ 3) (h0 : a ≠ 0) (h1 : ¬ (b ≠ 1 ∨ (fe f : Int) < tp a b + e ∨ e < pl f (tp a b + e))) :
  a * 2 ^ (e - pl f (tp a b + e)).toNat < 2 ^ fp f ∧ (1 - (fe f : Int) ≤ tp a b + e ↔ 2 ^ (fp f - 1) ≤ a * 2 ^ (e - pl f (tp a b + e)).toNat) := by
 obtain ⟨w1, w2, w3, w4, w5, w6⟩ := yd2 f h
 have hb : b = 1 := by omega
 subst hb
 have ht := yoP h0
 have hm := ykU h0 (e - pl f (tp a 1 + e)).toNat
 have h3 : 1 ≤ yav a := by
  rcases Nat.eq_zero_or_pos (yav a) with hh | hh
  ·have := (yaL a 0).1 (by omega); omega
  ·exact hh
 have hpl : pl f (tp a 1 + e) ≤ e := by omega
 by_cases hs : tp a 1 + e < 1 - fe f
 ·have hp1 : pl f (tp a 1 + e) = 2 - fe f - fp f := by unfold pl; rw [if_pos hs]; omega
  have l1 : yav a + (e - pl f (tp a 1 + e)).toNat ≤ fp f - 1 := by omega
  have l2 := Nat.pow_le_pow_right (show 0 < 2 by omega) l1
  have l3 := Nat.pow_lt_pow_right (show 1 < 2 by omega) (show fp f - 1 < fp f by omega)
  exact ⟨by omega, by omega, by omega⟩
 ·have hp1 : pl f (tp a 1 + e) = tp a 1 + e - fp f + 1 := by unfold pl; rw [if_neg hs]
  have l1 : yav a + (e - pl f (tp a 1 + e)).toNat = fp f := by omega
  have l2 : yav a - 1 + (e - pl f (tp a 1 + e)).toNat = fp f - 1 := by omega
  rw [l1, l2] at hm
  exact ⟨by omega, fun _ => by omega, fun _ => by omega⟩
theorem yiE (f : Nat) (h : f ≤ 3) (c : Can n a b e) (K : Int → Int → Bool → Int → Prop) (hK : ofE f n a b e fun y0 y1 y2 => K y0 y1 y2 0) : zam f n (nb a) (nb b) e K := by
 obtain ⟨w1, w2, w3, w4, w5, w6⟩ := yd2 f h
 have we := c.e64
 have hr := yjU c.fa c.fb
 unfold ofE at hK
 rw [zam.is]; unfold zam.d
 rw [ybg f h, yaw (by rfl)]
 refine ybK _ _ _ _ _ (fun _ => ?_) (fun hn => absurd c.may hn)
 rw [yaw (by rfl), yew]
 refine ylf (fun h0 => ?_) fun h0 => ?_
 ·rw [if_pos h0] at hK; exact hK
 rw [if_neg h0] at hK
 rw [yaC f h]
 refine ygc n c _ (fun hh => absurd hh h0) fun _ => ?_
 rw [ya3 f h, yjx]
 refine yd5 (fun hb => ?_) fun hb => ?_
 ·rw [if_pos (.inl hb)] at hK; exact hK
 rw [ya6 f h]
 by_cases h2 : (fe f : Int) < tp a b + e
 ·rw [yaD (ya9 h2)]; rw [if_pos (.inr (.inl h2))] at hK; exact hK
 rw [yaw (ybe (by omega))]
 have hp := ygY h (tp a b + e) (by omega)
 have e1 : yai .i64 (yan .i64 (ycF (tp a b + e) (1 - (fe f : Int))) (fp f : Int)) 1 = pl f (tp a b + e) := by
  have : ycF (tp a b + e) (1 - (fe f : Int)) = if tp a b + e < 1 - fe f then 1 - (fe f : Int) else tp a b + e := yds _ _
  rw [this]
  unfold pl
  have hh : -200000 ≤ (if tp a b + e < 1 - (fe f : Int) then 1 - (fe f : Int) else tp a b + e) ∧ (if tp a b + e < 1 - (fe f : Int) then 1 - (fe f : Int) else tp a b + e) ≤ 200000 := by split <;> omega
  rw [yas (by omega) (by omega), yap (by omega) (by omega)]
 rw [e1]
 by_cases h3 : e < pl f (tp a b + e)
 ·rw [yaD (ya9 h3)]; rw [if_pos (.inr (.inr h3))] at hK; exact hK
 rw [yaw (ybe (by omega))]
 have hc : ¬ (b ≠ 1 ∨ (fe f : Int) < tp a b + e ∨ e < pl f (tp a b + e)) := by omega
 rw [if_neg hc] at hK
 have hw := ysO h h0 hc
 generalize hwd : a * 2 ^ (e - pl f (tp a b + e)).toNat = w at hw hK
 have hwQ : w < Q6 := yp3 (by omega) hw.1
 refine yeu n c _ (by omega) _ ?_
 unfold ysx
 rw [if_neg (by omega), if_neg h0, if_pos (show pl f (tp a b + e) ≤ e by omega), hwd, if_pos (ymJ hwQ), hb, Nat.div_one]
 rw [hb] at hw hK
 refine ykS hwQ _ ?_
 rw [yrU f h, yeT w (fp f - 1) (by omega), ysh (by omega) hw.1]
 refine ylf (fun hl => ?_) fun hl => ?_
 ·rw [ya3 f h]
  refine ycT _ (by omega) _ ?_
  refine ydp _ _ hwQ _ ?_
  rw [Nat.and_two_pow_sub_one_eq_mod]
  rw [hb] at hp h2
  have e2 : yai .i64 (yan .i64 (pl f (tp a 1 + e)) (1 - (fe f : Int))) (fp f : Int) = (((pl f (tp a 1 + e) + fe f + fp f - 2).toNat + 1 : Nat) : Int) := by
   rw [yas (by omega) (by omega), yap (by omega) (by omega)]; omega
  rw [e2]
  rw [yrQ h n hl hw.1] at hK
  refine ye5 f _ _ h ?_ (Nat.mod_lt _ (Nat.two_pow_pos _)) n _ hK
  have hs := hw.2.2 hl
  unfold pl; rw [if_neg (by omega)]; omega
 ·refine ycT _ (by omega) _ ?_
  refine ydp _ _ hwQ _ ?_
  rw [Nat.and_two_pow_sub_one_eq_mod, Nat.mod_eq_of_lt (by omega)]
  rw [yr4 n (by have := hw.2; omega)] at hK
  exact ye5 f 0 w h (by omega) (by omega) n _ hK
end
end Go.Ev.S

/- Rounding: what is delivered, by a floor function; the program's packing. -/
set_option linter.unusedVariables false
set_option linter.unusedSimpArgs false
set_option maxRecDepth 8000
namespace Go.Ev.S
open Go Go.Ev
def FS (S : Nat) (e : Int) (more : Bool) (at_ : Int) : Nat × Bool :=
 if at_ ≤ e then (S * 2 ^ (e - at_).toNat, true) else (S / 2 ^ (at_ - e).toNat, decide (S % 2 ^ (at_ - e).toNat = 0) && !more)
def hf (F : Int → Nat × Bool) (at_ : Int) : Int := if (F (at_ - 1)).1 % 2 = 1 then (if (F (at_ - 1)).2 = true then 0 else 1) else -1
def upB (m : Nat) (n o : Bool) (a : Int) (e : Bool) : Bool :=
 if e = true then false else if m = 0 then (decide (0 < a) || (decide (a = 0) && o)) else if m = 4 then decide (0 ≤ a) else if m = 2 then n else if m = 3 then !n else false
def tk (F : Int → Nat × Bool) (m : Nat) (n : Bool) (at_ : Int) : Nat := (F at_).1 + cond (upB m n (decide ((F at_).1 % 2 = 1)) (hf F at_) (F at_).2) 1 0
def ygt (f m : Nat) (n : Bool) (F : Int → Nat × Bool) (top : Int) : Bool :=
 if top = -(fe f : Int) then decide (yav (tk F m n (top - fp f + 1)) ≤ fp f) else decide (top < 1 - (fe f : Int))
def dlv (f m : Nat) (n : Bool) (F : Int → Nat × Bool) (top : Int) (K : Int → Int → Int → Int → Prop) : Prop :=
 if (fe f : Int) < top then K (Hi (ov f m n)) (Lo (ov f m n)) 5 0 else
 if (fe f : Int) < (yav (tk F m n (pl f top)) : Int) - 1 + pl f top then K (Hi (ov f m n)) (Lo (ov f m n)) 5 0 else
 K (Hi (yiu f n (pl f top) (tk F m n (pl f top)))) (Lo (yiu f n (pl f top) (tk F m n (pl f top)))) (if (F (pl f top)).2 = true then 0 else if ygt f m n F top = true then 3 else 1) 0
theorem yeJ (m : Nat) (hm : m ≤ 4) (n o e : Bool) (a : Int) (K : Bool → Prop) : zcv m n o a e K = K (upB m n o a e) := by
 rw [zcv.is]; unfold zcv.d upB
 cases e with
 | true => rfl
 | false =>
  rw [yaw rfl]
  rcases ysp hm with rfl | rfl | rfl | rfl | rfl
  ·show br (ltI 0 a) (K true) (br (eqI a 0) (K o) (K false)) = K (decide (0 < a) || (decide (a = 0) && o))
   by_cases h1 : 0 < a
   ·rw [yaD (ya9 h1), decide_eq_true h1]; rfl
   ·rw [yaw (ybe (by omega)), decide_eq_false h1]
    by_cases h2 : a = 0
    ·rw [yaD (yj7 h2), decide_eq_true h2]; simp
    ·rw [yaw (ygQ h2), decide_eq_false h2]; rfl
  ·rfl
  ·cases n <;> rfl
  ·cases n <;> rfl
  ·rfl
theorem yie (x : Nat) (hx : x < Q6) (K : (Nat → Int) → Bool → Prop) (h : K (W 0) (decide (x ≠ 0))) : zed (W x) 385 K := by
 obtain ⟨N, hN⟩ : ∃ N, N = 384 := ⟨_, rfl⟩
 have hQ := ycK hN
 have e1 : zed (W x) 385 K = zed (W x) N K := by
  rw [zed.is]; unfold zed.d
  rw [ycC N (by omega), hN, zef.is]; rfl
 rw [e1]
 refine ydw x N hx (by omega) K ?_
 rw [hQ, Nat.div_eq_of_lt hx, Nat.mod_eq_of_lt hx]; exact h
def hj (S k : Nat) : Int := if S / 2 ^ (k - 1) % 2 = 1 then (if S % 2 ^ (k - 1) = 0 then 0 else 1) else -1
theorem yn7 (S k : Nat) (hS : S < Q6) (hk : 0 < k) (hk2 : k < 9223372036854775808) (K : (Nat → Int) → Int → Bool → Prop) (h : K (W (S / 2 ^ k)) (hj S k) (decide (S % 2 ^ k = 0))) : zal (W S) k K := by
 obtain ⟨N, hN⟩ : ∃ N, N = 384 := ⟨_, rfl⟩
 have hQ := ycK hN
 rw [zal.is]; unfold zal.d
 have dn : ∀ p : Prop, ∀ _ : Decidable p, (!decide (¬ p)) = decide p := by intro p _; by_cases hp : p <;> simp [hp]
 by_cases hb : k ≤ 384
 ·have e1 : yiP (ycF (k : Int) 0) 385 = (k : Int) := by rw [yds, yfX]; (repeat' split) <;> omega
  rw [e1]
  refine ydw S k hS hb _ ?_
  rw [yaw (ygQ (by omega)), yaw (ygQ (by omega)), show yan .i64 (k : Int) 1 = ((k - 1 : Nat) : Int) from by rw [yas (by omega) (by omega)]; omega]
  rw [yeT S (k - 1) (by omega), dn]
  have hb : S.testBit (k - 1) = decide (S / 2 ^ (k - 1) % 2 = 1) := by rw [Nat.testBit_eq_decide_div_mod_eq]
  rw [hb]
  unfold hj at h
  refine yd5 (fun h1 => ?_) fun h1 => ?_
  ·rw [if_neg h1] at h; exact h
  ·rw [if_pos h1] at h
   refine ycT _ (by omega) _ ?_
   refine ydp _ _ hS _ ?_
   rw [Nat.and_two_pow_sub_one_eq_mod, yfh _ (Nat.lt_of_le_of_lt (Nat.mod_le _ _) hS)]
   refine yd5 (fun h2 => ?_) fun h2 => ?_
   ·rw [if_neg h2] at h; exact h
   ·rw [if_pos h2] at h; exact h
 ·have e1 : yiP (ycF (k : Int) 0) 385 = 385 := by rw [yds, yfX]; (repeat' split) <;> omega
  rw [e1]
  refine yie S hS _ ?_
  rw [yaw (show eqI 385 0 = false from rfl), yaD (show eqI 385 385 = true from rfl), dn]
  have l1 : S < 2 ^ (k - 1) := Nat.lt_of_lt_of_le (hQ ▸ hS) (Nat.pow_le_pow_right (by omega) (by omega))
  have l2 : S < 2 ^ k := Nat.lt_of_lt_of_le l1 (Nat.pow_le_pow_right (by omega) (by omega))
  have e2 : hj S k = -1 := by unfold hj; rw [Nat.div_eq_of_lt l1]; rfl
  rw [Nat.div_eq_of_lt l2, Nat.mod_eq_of_lt l2, e2] at h
  exact h
theorem yrb (q : Nat) : eqI (yh5 .u64 (W q 0) 1) 1 = decide (q % 2 = 1) := by
 have h1 := (yrL (q % 18446744073709551616) 1 (by omega) (by omega)).2
 have e1 : Lo (q % 18446744073709551616) = W q 0 := by
  rw [ya8]; unfold Lo wd
  rw [Nat.mul_zero, Nat.pow_zero, Nat.div_one, Nat.mod_mod]
 rw [e1, show Lo 1 = 1 from rfl, Nat.and_one_is_mod] at h1
 rw [h1]
 have : q % 18446744073709551616 % 2 = q % 2 := by omega
 rw [this]
 have h2 := Nat.mod_two_eq_zero_or_one q
 rcases h2 with h2 | h2 <;> rw [h2] <;> rfl
theorem yo3 (q : Nat) (hq : q + 1 < Q6) (b : Bool) (K : (Nat → Int) → Prop) (h : K (W (q + cond b 1 0))) : br b (zeb 1 fun y2 => zdu (W q) y2 fun y0 y1 => K y0) (K (W q)) := by
 cases b with
 | false => exact h
 | true =>
  rw [yaD rfl, show (1 : Int) = ((1 : Nat) : Int) from rfl, ydb 1 (by omega)]
  refine ydn _ _ (by omega) (yp3 (a := 64) (by omega) (by omega)) _ ?_
  rw [Nat.mod_eq_of_lt hq]; exact h
theorem yfo (m : Nat) (hm : m ≤ 4) (neg : Bool) {S : Nat} (h0 : S ≠ 0) (hS : S < Q6) {e at_ : Int} (b1 : -3000000 ≤ e ∧ e ≤ 3000000) (b2 : -3000000 ≤ at_ ∧ at_ ≤ 3000000) (more : Bool)
  (hmo : more = true → e + 2 ≤ at_) (hfit : (FS S e more at_).1 + 1 < Q6) (K : (Nat → Int) → Bool → Prop) (hK : K (W (tk (FS S e more) m neg at_)) (FS S e more at_).2) : zcw m neg (W S) e more at_ K := by
 obtain ⟨N, hN⟩ : ∃ N, N = 384 := ⟨_, rfl⟩
 have hQ := ycK hN
 rw [zcw.is]; unfold zcw.d
 rw [yas (by omega) (by omega)]
 unfold tk at hK
 by_cases hc : at_ ≤ e
 ·have hF : FS S e more at_ = (S * 2 ^ (e - at_).toNat, true) := if_pos hc
  rw [hF] at hK hfit
  have hmf : more = false := by cases more with | false => rfl | true => have := hmo rfl; omega
  have hup : upB m neg (decide (S * 2 ^ (e - at_).toNat % 2 = 1)) (hf (FS S e more) at_) true = false := if_pos rfl
  rw [yaD (yba (by omega))]
  have hk : (e - at_).toNat < N := by
   apply Classical.byContradiction; intro hn
   have := Nat.pow_le_pow_right (show 0 < 2 by omega) (show N ≤ (e - at_).toNat by omega)
   have h3 : 2 ^ (e - at_).toNat ≤ S * 2 ^ (e - at_).toNat := Nat.le_mul_of_pos_left _ (by omega)
   simp only at hfit
   omega
  have e1 : yqh .i64 (at_ - e) = (((e - at_).toNat : Nat) : Int) := by
   show IntKind.wrap .i64 _ = _
   rw [yd9 (by omega) (by omega)]; omega
  rw [e1]
  refine ycu S _ hS (by omega) _ fun b => ?_
  rw [Nat.mod_eq_of_lt (by simp only at hfit; omega), hmf]
  simp only [hup, cond_false, Nat.add_zero] at hK
  exact hK
 ·obtain ⟨k, hk⟩ : ∃ k : Nat, (k : Int) = at_ - e := ⟨(at_ - e).toNat, by omega⟩
  have hF : FS S e more at_ = (S / 2 ^ k, decide (S % 2 ^ k = 0) && !more) := by
   unfold FS; rw [if_neg hc, show (at_ - e).toNat = k from by omega]
  rw [hF] at hK hfit
  rw [yaw (yeK (by omega)), ← hk]
  refine yn7 S k hS (by omega) (by omega) _ ?_
  rw [yrb]
  cases more with
  | false =>
   have hh : hf (FS S e false) at_ = hj S k := by
    unfold hf hj FS
    by_cases h1 : at_ - 1 ≤ e
    ·rw [if_pos h1, show (e - (at_ - 1)).toNat = 0 from by omega, show k - 1 = 0 from by omega]
     simp only [Nat.pow_zero, Nat.mul_one, Nat.div_one, Nat.mod_one, if_true]
    ·rw [if_neg h1, show (at_ - 1 - e).toNat = k - 1 from by omega]
     simp only [Bool.not_false, Bool.and_true, decide_eq_true_eq]
   rw [hh, Bool.not_false, Bool.and_true] at hK
   rw [yaw rfl, yeJ m hm]
   exact yo3 _ hfit _ (fun y0 => K y0 (decide (S % 2 ^ k = 0))) hK
  | true =>
   have h2 := hmo rfl
   have hh : hf (FS S e true) at_ = if hj S k = 0 then 1 else hj S k := by
    unfold hf hj FS
    rw [if_neg (show ¬ at_ - 1 ≤ e by omega), show (at_ - 1 - e).toNat = k - 1 from by omega]
    simp only [Bool.not_true, Bool.and_false]
    by_cases g1 : S / 2 ^ (k - 1) % 2 = 1
    ·simp only [if_pos g1]
     by_cases g2 : S % 2 ^ (k - 1) = 0
     ·simp only [if_pos g2]; rfl
     ·simp only [if_neg g2]; rfl
    ·simp only [if_neg g1]; rfl
   rw [hh, Bool.not_true, Bool.and_false] at hK
   rw [yaD rfl]
   by_cases g : hj S k = 0
   ·rw [yaD (yj7 g), yeJ m hm]
    rw [if_pos g] at hK
    exact yo3 _ hfit _ (fun y0 => K y0 false) hK
   ·rw [yaw (ygQ g), yeJ m hm]
    rw [if_neg g] at hK
    exact yo3 _ hfit _ (fun y0 => K y0 false) hK
theorem ysr (b : Bool) : cond b 1 0 ≤ 1 := by cases b <;> decide
theorem ypz (F : Int → Nat × Bool) (m : Nat) (n : Bool) (at_ : Int) : tk F m n at_ ≤ (F at_).1 + 1 := by
 unfold tk; have := ysr (upB m n (decide ((F at_).1 % 2 = 1)) (hf F at_) (F at_).2); omega
theorem ys8 {S : Nat} {e at_ : Int} {more : Bool} {p : Nat} (h : (yav S : Int) - 1 + e - p + 1 ≤ at_) : (FS S e more at_).1 < 2 ^ p := by
 have hs := (yaL S _).1 (Nat.le_refl _)
 unfold FS
 by_cases hc : at_ ≤ e
 ·rw [if_pos hc]
  have h1 : S * 2 ^ (e - at_).toNat < 2 ^ yav S * 2 ^ (e - at_).toNat := Nat.mul_lt_mul_of_pos_right hs (Nat.two_pow_pos _)
  rw [← Nat.pow_add] at h1
  exact Nat.lt_of_lt_of_le h1 (Nat.pow_le_pow_right (by omega) (by omega))
 ·rw [if_neg hc]
  refine Nat.div_lt_of_lt_mul ?_
  rw [← Nat.pow_add]
  exact Nat.lt_of_lt_of_le hs (Nat.pow_le_pow_right (by omega) (by omega))
theorem yrS {f : Nat} (h : f ≤ 3) : 2 ^ fp f + 1 < Q6 := by
 have w := yd2 f h
 have h1 : 2 ^ (fp f + 1) < Q6 := ytu (by omega)
 have h2 := Nat.pow_le_pow_right (show 0 < 2 by omega) (show 1 ≤ fp f by omega)
 rw [Nat.pow_succ] at h1
 omega
theorem ylW {S : Nat} (h : S < Q6) : yav S ≤ 384 := by
 obtain ⟨N, hN⟩ : ∃ N, N = 384 := ⟨_, rfl⟩
 have := (yaL S N).2 (by rw [ycK hN]; exact h)
 omega
theorem yjy (f m : Nat) (h : f ≤ 3) (hm : m ≤ 4) (neg : Bool) {S : Nat} (h0 : S ≠ 0) (hS : S < Q6) {e : Int} (b1 : -1048576 ≤ e ∧ e ≤ 1048576) (more : Bool) (hmo : more = true → fp f + 2 ≤ yav S) (K : Bool → Prop)
  (hK : K (ygt f m neg (FS S e more) ((yav S : Int) - 1 + e))) : zcy f m neg (W S) e more ((yav S : Int) - 1 + e) K := by
 have w := yd2 f h
 have hb := ylW hS
 have hb2 := yfC h0
 have hp := yrS h
 rw [zcy.is]; unfold zcy.d
 rw [ya3 f h, yaC f h, yas (by omega) (by omega)]
 unfold ygt at hK
 by_cases ht : (yav S : Int) - 1 + e = -(fe f : Int)
 ·rw [yaw (by rw [yj7 (show (yav S : Int) - 1 + e = 1 - fe f - 1 by omega)]; rfl)]
  rw [if_pos ht] at hK
  rw [yas (by omega) (by omega), yap (by omega) (by omega)]
  have hl := ys8 (S := S) (e := e) (at_ := (yav S : Int) - 1 + e - fp f + 1) (more := more) (p := fp f) (Int.le_refl _)
  refine yfo m hm neg h0 hS (by omega) (by omega) more (fun hh => by have := hmo hh; omega) (by omega) _ ?_
  have ht := ypz (FS S e more) m neg ((yav S : Int) - 1 + e - fp f + 1)
  refine ybo _ (by omega) _ ?_
  have e1 : leI (yav (tk (FS S e more) m neg ((yav S : Int) - 1 + e - fp f + 1)) : Int) (fp f : Int) = decide (yav (tk (FS S e more) m neg ((yav S : Int) - 1 + e - fp f + 1)) ≤ fp f) := by
   unfold leI; rw [decide_eq_decide]; omega
  rw [e1]; exact hK
 ·rw [yaD (by rw [ygQ (show (yav S : Int) - 1 + e ≠ 1 - fe f - 1 by omega)]; rfl)]
  rw [if_neg ht] at hK
  exact hK
theorem yqg {f : Nat} (h : f ≤ 3) {top : Int} (ht : top ≤ fe f) {n : Nat} (h1 : n ≤ 2 ^ fp f) (h2 : (yav n : Int) - 1 + pl f top ≤ fe f) :
  (pl f top + fe f + fp f - 2).toNat * 2 ^ (fp f - 1) + n < (2 * fe f + 1) * 2 ^ (fp f - 1) := by
 obtain ⟨w1, w2, w3, w4, w5, w6⟩ := yd2 f h
 have hp := ygY h top ht
 have e2 : 2 ^ fp f = 2 ^ (fp f - 1) + 2 ^ (fp f - 1) := by rcases yh6 h with rfl | rfl | rfl | rfl <;> decide
 have hfe : 1 ≤ fe f := by rcases yh6 h with rfl | rfl | rfl | rfl <;> decide
 have hpos := Nat.two_pow_pos (fp f - 1)
 obtain ⟨q, hq⟩ : ∃ q : Nat, (q : Int) = pl f top + fe f + fp f - 2 := ⟨(pl f top + fe f + fp f - 2).toNat, by omega⟩
 rw [show (pl f top + fe f + fp f - 2).toNat = q from by omega]
 have hq2 : q + 2 ≤ 2 * fe f + 1 := by
  have : pl f top ≤ fe f - fp f + 1 ∨ q = 0 := by
   by_cases hs : top < 1 - fe f
   ·right; unfold pl at hq; rw [if_pos hs] at hq; omega
   ·left; unfold pl; rw [if_neg hs]; omega
  omega
 by_cases hn : n < 2 ^ fp f
 ·have := Nat.mul_le_mul_right (2 ^ (fp f - 1)) hq2
  rw [Nat.add_mul] at this; omega
 ·have hb : ¬ yav n ≤ fp f := by rw [yaL]; exact hn
  have hq3 : q + 2 + 1 ≤ 2 * fe f + 1 := by omega
  have := Nat.mul_le_mul_right (2 ^ (fp f - 1)) hq3
  rw [Nat.add_mul, Nat.add_mul q] at this; omega
theorem yjJ (f m : Nat) (h : f ≤ 3) (hm : m ≤ 4) (neg : Bool) {S : Nat} (h0 : S ≠ 0) (hS : S < Q6) {e : Int} (b1 : -1048576 ≤ e ∧ e ≤ 1048576) (more : Bool) (hmo : more = true → fp f + 2 ≤ yav S)
  (K : Int → Int → Int → Int → Prop) (hK : dlv f m neg (FS S e more) ((yav S : Int) - 1 + e) K) : zcu f m neg (W S) e more K := by
 obtain ⟨w1, w2, w3, w4, w5, w6⟩ := yd2 f h
 have hb := ylW hS
 have hb2 := yfC h0
 have hpQ := yrS h
 have key : br (eqN 6 (W S) fun x => 0) (zdp f neg fun y0 y1 => K y0 y1 0 0) (zdy (W S) fun y0_2 => zdk f fun y0_3 => zdj f fun y0_4 => br (ltI y0_4 (yai IntKind.i64 (yan IntKind.i64 y0_2 1) e)) (zct f m neg fun y0 y1 y2 y3 => K y0 y1 y2 y3) (zcw m neg (W S) e more (yai IntKind.i64 (yan IntKind.i64 (ycF (yai IntKind.i64 (yan IntKind.i64 y0_2 1) e) y0_3) (fp f : Int)) 1) fun y0_5 y1 => zdy y0_5 fun y0_6 => zdj f fun y0_7 => br (ltI y0_7 (yai IntKind.i64 (yan IntKind.i64 y0_6 1) (yai IntKind.i64 (yan IntKind.i64 (ycF (yai IntKind.i64 (yan IntKind.i64 y0_2 1) e) y0_3) (fp f : Int)) 1))) (zct f m neg fun y0 y1 y2 y3 => K y0 y1 y2 y3) (br (!y1) (zcy f m neg (W S) e more (yai IntKind.i64 (yan IntKind.i64 y0_2 1) e) fun y0_8 => br y0_8 (zeb (cvI IntKind.u64 (yan IntKind.i64 (yai IntKind.i64 (yan IntKind.i64 (yai IntKind.i64 (yan IntKind.i64 (ycF (yai IntKind.i64 (yan IntKind.i64 y0_2 1) e) y0_3) (fp f : Int)) 1) y0_3) (fp f : Int)) 1)) fun y0_9 => zdx y0_9 (yan IntKind.i64 (fp f : Int) 1) fun y0 y1 => zdu y0 y0_5 fun y0 y1 => zee y0 fun y0 y1 y2 => zdp f neg fun y0_10 y1_1 => K (orI IntKind.u64 y0 y0_10) (orI IntKind.u64 y1 y1_1) 3 0) (zeb (cvI IntKind.u64 (yan IntKind.i64 (yai IntKind.i64 (yan IntKind.i64 (yai IntKind.i64 (yan IntKind.i64 (ycF (yai IntKind.i64 (yan IntKind.i64 y0_2 1) e) y0_3) (fp f : Int)) 1) y0_3) (fp f : Int)) 1)) fun y0_9 => zdx y0_9 (yan IntKind.i64 (fp f : Int) 1) fun y0 y1 => zdu y0 y0_5 fun y0 y1 => zee y0 fun y0 y1 y2 => zdp f neg fun y0_10 y1_1 => K (orI IntKind.u64 y0 y0_10) (orI IntKind.u64 y1 y1_1) 1 0)) (zeb (cvI IntKind.u64 (yan IntKind.i64 (yai IntKind.i64 (yan IntKind.i64 (yai IntKind.i64 (yan IntKind.i64 (ycF (yai IntKind.i64 (yan IntKind.i64 y0_2 1) e) y0_3) (fp f : Int)) 1) y0_3) (fp f : Int)) 1)) fun y0_8 => zdx y0_8 (yan IntKind.i64 (fp f : Int) 1) fun y0 y1 => zdu y0 y0_5 fun y0 y1 => zee y0 fun y0 y1 y2 => zdp f neg fun y0_9 y1_1 => K (orI IntKind.u64 y0 y0_9) (orI IntKind.u64 y1 y1_1) 0 0)))) := by
  rw [yfh S hS, yaw (by simpa using h0)]
  refine ybo S hS _ ?_
  rw [ya3 f h, ya6 f h, yas (show -9223372036854775808 ≤ (yav S : Int) - 1 by omega) (by omega), yap (show -9223372036854775808 ≤ (yav S : Int) - 1 + e by omega) (by omega)]
  generalize htop : (yav S : Int) - 1 + e = top at hK ⊢
  unfold dlv at hK
  by_cases h1 : (fe f : Int) < top
  ·rw [yaD (ya9 h1)]; rw [if_pos h1] at hK
   exact yfD f m neg h hm _ hK
  rw [yaw (ybe (by omega))]; rw [if_neg h1] at hK
  have hp := ygY h top (by omega)
  have hat : yai .i64 (yan .i64 (ycF top (1 - (fe f : Int))) (fp f : Int)) 1 = pl f top := by
   have e0 : ycF top (1 - (fe f : Int)) = if top < 1 - fe f then 1 - (fe f : Int) else top := yds _ _
   rw [e0]; unfold pl
   have hh : -2000000 ≤ (if top < 1 - (fe f : Int) then 1 - (fe f : Int) else top) ∧ (if top < 1 - (fe f : Int) then 1 - (fe f : Int) else top) ≤ 2000000 := by split <;> omega
   rw [yas (by omega) (by omega), yap (by omega) (by omega)]
  rw [hat]
  have hge : top - fp f + 1 ≤ pl f top := by unfold pl; split <;> omega
  have hl := ys8 (S := S) (e := e) (at_ := pl f top) (more := more) (p := fp f) (by omega)
  refine yfo m hm neg h0 hS (by omega) (by omega) more (fun hh => by have := hmo hh; omega) (by omega) _ ?_
  have htk := ypz (FS S e more) m neg (pl f top)
  generalize hn : tk (FS S e more) m neg (pl f top) = n at hK htk ⊢
  have hnQ : n < Q6 := by omega
  refine ybo n hnQ _ ?_
  have hbn := ylW hnQ
  rw [ya6 f h, yas (by omega) (by omega), yap (by omega) (by omega)]
  by_cases h2 : (fe f : Int) < (yav n : Int) - 1 + pl f top
  ·rw [yaD (ya9 h2)]; rw [if_pos h2] at hK
   exact yfD f m neg h hm _ hK
  rw [yaw (ybe (by omega))]; rw [if_neg h2] at hK
  have hbd := yqg h (show top ≤ fe f by omega) (show n ≤ 2 ^ fp f by omega) (by omega)
  have fin_ : ∀ fl : Int, K (Hi (yiu f neg (pl f top) n)) (Lo (yiu f neg (pl f top) n)) fl 0 → zeb (cvI IntKind.u64 (yan IntKind.i64 (yai IntKind.i64 (yan IntKind.i64 (pl f top) (1 - (fe f : Int))) (fp f : Int)) 1)) fun y0_8 => zdx y0_8 (yan IntKind.i64 (fp f : Int) 1) fun y0 y1 => zdu y0 (W n) fun y0 y1 => zee y0 fun y0 y1 y2 => zdp f neg fun y0_9 y1_1 => K (orI IntKind.u64 y0 y0_9) (orI IntKind.u64 y1 y1_1) fl 0 := by
   intro fl hfl
   unfold yiu at hfl
   generalize hqv : (pl f top + fe f + fp f - 2).toNat = q at hbd hfl
   have hq : (q : Int) = pl f top + fe f + fp f - 2 := by omega
   have e1 : cvI IntKind.u64 (yan IntKind.i64 (yai IntKind.i64 (yan IntKind.i64 (pl f top) (1 - (fe f : Int))) (fp f : Int)) 1) = (q : Int) := by
    rw [yas (show -9223372036854775808 ≤ pl f top - (1 - (fe f : Int)) by omega) (by omega), yap (by omega) (by omega), yas (by omega) (by omega), show pl f top - (1 - (fe f : Int)) + (fp f : Int) - 1 = (q : Int) from by omega, yaU (by omega) (by omega)]
   have hm1 : q * 2 ^ (fp f - 1) + n < 2 ^ (fw f - 1) := by
    rw [ysK f h]; exact Nat.lt_of_lt_of_le hbd (Nat.mul_le_mul_right _ (by omega))
   have hm2 : q * 2 ^ (fp f - 1) + n < 2 ^ 128 := yts (by omega) hm1
   have hm3 : q * 2 ^ (fp f - 1) + n < Q6 := yp3 (a := 128) (by omega) hm2
   rw [e1, ydb q (by omega), yrU f h]
   refine ycu q (fp f - 1) (yp3 (a := 64) (by omega) (by omega)) (by omega) _ fun bb => ?_
   rw [Nat.mod_eq_of_lt (by omega)]
   refine ydn _ _ (by omega) hnQ _ ?_
   rw [Nat.mod_eq_of_lt hm3, ycf _ hm2, ydr f h]
   have e2 : enc f neg 0 0 = sg f neg := by unfold enc; omega
   have e3 : (q * 2 ^ (fp f - 1) + n) ||| sg f neg = sg f neg + (q * 2 ^ (fp f - 1) + n) := by
    cases neg with
    | false => show _ ||| 0 = 0 + _; rw [Nat.or_zero, Nat.zero_add]
    | true => show _ ||| 2 ^ (fw f - 1) = 2 ^ (fw f - 1) + _; rw [yrE _ _ hm1, Nat.add_comm]
   rw [e2, (ypb _ _ hm2 (yrP f h neg)).1, (ypb _ _ hm2 (yrP f h neg)).2, e3]
   exact hfl
  cases hex : (FS S e more (pl f top)).2 with
  | true =>
   rw [yaw (show (!true) = false from rfl)]
   rw [hex, if_pos rfl] at hK
   exact fin_ 0 hK
  | false =>
   rw [yaD (show (!false) = true from rfl)]
   rw [hex, if_neg (by decide)] at hK
   rw [← htop] at hK ⊢
   refine yjy f m h hm neg h0 hS b1 more hmo _ ?_
   cases htn : ygt f m neg (FS S e more) ((yav S : Int) - 1 + e) with
   | true =>
    rw [htn, if_pos rfl, htop] at hK
    rw [yaD rfl, htop]
    exact fin_ 3 hK
   | false =>
    rw [htn, if_neg (by decide), htop] at hK
    rw [yaw rfl, htop]
    exact fin_ 1 hK
 rw [zcu.is]; unfold zcu.d
 rw [yaC f h, yce f m h hm, yaw (show (!true) = false from rfl), yaw (ybe (by omega)), yaw (ybe (by omega))]
 cases more with
 | false => exact key
 | true =>
  have := hmo rfl
  rw [yaD rfl]
  refine ybo S hS _ ?_
  rw [yap (by omega) (by omega), yaw (ybe (by omega))]
  exact key
end Go.Ev.S

/- Exact numbers: made, signs, products, places, sums. -/
set_option linter.unusedVariables false
set_option linter.unusedSimpArgs false
set_option maxRecDepth 8000
namespace Go.Ev.S
open Go Go.Ev
end Go.Ev.S

/- Exact numbers as rational ones: bounds, sums, products, whole parts. -/
set_option linter.unusedVariables false
set_option linter.unusedSimpArgs false
set_option maxRecDepth 8000
namespace Go.Ev.S
open Go Go.Ev
theorem ycS {x P : Nat} (h : x < 2 ^ P) (hP : P ≤ 131072) : fit x := by
 rw [ym9]; have := (yaL x P).2 h; omega
section
variable {n1 n2 : Bool} {a1 b1 a2 b2 : Nat} {e1 e2 : Int} {P1 E1 P2 E2 : Nat}
end
theorem yda {x y d : Rat} (hd : 0 < d) : x * d ≤ y * d ↔ x ≤ y := by
 have h := ybt (x := y) (y := x) hd
 constructor
 ·intro hh; apply Classical.byContradiction; intro hc
  have := h.2 (by grind); grind
 ·intro hh; exact Rat.mul_le_mul_of_nonneg_right hh (by grind)
theorem yiM {x y d : Rat} (hd : 0 < d) : x * d = y * d ↔ x = y := by
 constructor
 ·intro hh
  have h1 := (yda (x := x) (y := y) hd).1 (by grind)
  have h2 := (yda (x := y) (y := x) hd).1 (by grind)
  grind
 ·intro hh; rw [hh]
structure Flr (X : Rat) (n : Int) (m : Nat) (is : Bool) : Prop where
 le : (m : Rat) * p2 n ≤ X
 lt : X < ((m + 1 : Nat) : Rat) * p2 n
 eq : is = true ↔ (m : Rat) * p2 n = X
theorem ymV {X : Rat} {N D : Nat} {n : Int} (hD : D ≠ 0) (h : X * D = N * p2 n) : Flr X n (N / D) (decide (N % D = 0)) := by
 have hd := yjL hD
 have hp := yd3 n
 have hdm := Nat.div_add_mod N D
 have hml := Nat.mod_lt N (Nat.pos_of_ne_zero hD)
 have e1 : ∀ m : Nat, (m : Rat) * p2 n * D = ((m * D : Nat) : Rat) * p2 n := by intro m; rw [Rat.natCast_mul]; grind
 refine ⟨?_, ?_, ?_⟩
 ·rw [← yda hd, h, e1, yda hp, Rat.natCast_le_natCast]
  exact Nat.div_mul_le_self N D
 ·rw [← ybt hd, h, e1, ybt hp, Rat.natCast_lt_natCast, Nat.add_mul, Nat.mul_comm]
  omega
 ·rw [decide_eq_true_iff, ← yiM hd, h, e1, yiM hp, Rat.natCast_inj, Nat.mul_comm]
  omega
theorem ytI (a b : Nat) (e n : Int) (hb : b ≠ 0) (hn : n ≤ e) : V false a b e * (b : Rat) = ((a * 2 ^ (e - n).toNat : Nat) : Rat) * p2 n := by
 rw [ysi false a b e hb, show sR false = 1 from rfl, Rat.natCast_mul, ← ydN]
 have : p2 ((e - n).toNat : Int) * p2 n = p2 e := by rw [← ydM]; congr 1; omega
 grind
theorem ysY (a b : Nat) (e n : Int) (hb : b ≠ 0) (hn : e ≤ n) : V false a b e * ((b * 2 ^ (n - e).toNat : Nat) : Rat) = (a : Rat) * p2 n := by
 have h := ysi false a b e hb
 rw [show sR false = 1 from rfl] at h
 rw [Rat.natCast_mul, ← ydN]
 have : p2 ((n - e).toNat : Int) * p2 e = p2 n := by rw [← ydM]; congr 1; omega
 grind
theorem ysT {s : Bool} {a b : Nat} {e n : Int} (c : Can s a b e) (ha : a ≠ 0) (h1 : -2097152 ≤ n) (h2 : n ≤ 2097152) (hf : n ≤ e → fit (a * 2 ^ (e - n).toNat)) (K : List UInt8 → Bool → Int → Prop)
  (h : ∀ m is, Flr (V false a b e) n m is → (n ≤ e → m ≤ a * 2 ^ (e - n).toNat) → (e < n → m ≤ a) → K (nb m) is 0) : ysx a b e n K := by
 unfold ysx
 rw [if_neg (by omega), if_neg ha]
 by_cases hn : n ≤ e
 ·rw [if_pos hn, if_pos (hf hn)]
  exact h _ _ (ymV c.b0 (ytI a b e n c.b0 hn)) (fun _ => Nat.div_le_self _ _) (fun _ => by omega)
 ·rw [if_neg hn]
  have hB : b * 2 ^ (n - e).toNat ≠ 0 := Nat.mul_ne_zero c.b0 (Nat.pos_iff_ne_zero.1 (Nat.two_pow_pos _))
  have fl := ymV hB (ysY a b e n c.b0 (by omega))
  by_cases ht : tp a b + e < n
  ·rw [if_pos ht]
   have hlt : a < b * 2 ^ (n - e).toNat := by
    have hs := ymg ha c.b0
    by_cases h0 : 0 ≤ tp a b
    ·refine Nat.lt_of_lt_of_le (hs.1 h0).2 (Nat.mul_le_mul_left _ (Nat.pow_le_pow_right (by omega) (by omega)))
    ·have h3 := (hs.2 (by omega)).2
     have h4 : a * 1 ≤ a * 2 ^ ((-tp a b).toNat - 1) := Nat.mul_le_mul_left _ (Nat.two_pow_pos _)
     have h5 : b * 1 ≤ b * 2 ^ (n - e).toNat := Nat.mul_le_mul_left _ (Nat.two_pow_pos _)
     omega
   rw [Nat.div_eq_of_lt hlt, Nat.mod_eq_of_lt hlt, show decide (a = 0) = false from by simpa using ha] at fl
   have := h 0 false fl (fun _ => by omega) (fun _ => by omega)
   rwa [yaZ] at this
  ·rw [if_neg ht]
   exact h _ _ fl (fun _ => by omega) (fun _ => Nat.div_le_self _ _)
theorem yqZ {a b x y : Rat} (hx : 0 < x) (h : x * y = 1) (hh : b ≤ a * y) : x * b ≤ a := by
 have h1 := Rat.mul_le_mul_of_nonneg_right hh (show 0 ≤ x by grind)
 have h2 : a * y * x = a := by rw [show a * y * x = a * (x * y) from by grind, h]; grind
 grind
theorem yp6 {a b x y : Rat} (hx : 0 < x) (h : x * y = 1) (hh : a * y < b) : a < x * b := by
 have h1 := Rat.mul_lt_mul_of_pos_right hh hx
 have h2 : a * y * x = a := by rw [show a * y * x = a * (x * y) from by grind, h]; grind
 grind
theorem ytj {a b : Nat} (e : Int) (ha : a ≠ 0) (hb : b ≠ 0) : p2 (tp a b + e) ≤ V false a b e ∧ V false a b e < p2 (tp a b + e + 1) := by
 have hs := ymg ha hb
 have hd := yjL hb
 have hv := ysi false a b e hb
 rw [show sR false = 1 from rfl] at hv
 have hp := yd3 e
 have key : p2 (tp a b) * (b : Rat) ≤ a ∧ (a : Rat) < p2 (tp a b + 1) * b := by
  by_cases h0 : 0 ≤ tp a b
  ·obtain ⟨h1, h2⟩ := hs.1 h0
   have e1 : p2 (tp a b) = ((2 ^ (tp a b).toNat : Nat) : Rat) := by rw [← ydN]; congr 1; omega
   have e2 : p2 (tp a b + 1) = ((2 ^ ((tp a b).toNat + 1) : Nat) : Rat) := by rw [← ydN]; congr 1; omega
   rw [e1, e2, ← Rat.natCast_mul, ← Rat.natCast_mul, Rat.natCast_le_natCast, Rat.natCast_lt_natCast, Nat.mul_comm, Nat.mul_comm _ b]
   exact ⟨h1, h2⟩
  ·obtain ⟨h1, h2⟩ := hs.2 (by omega)
   have q1 : p2 (tp a b) * ((2 ^ (-tp a b).toNat : Nat) : Rat) = 1 := by rw [← ydN, ← ydM, show tp a b + ((-tp a b).toNat : Int) = 0 from by omega, ypk]
   have q2 : p2 (tp a b + 1) * ((2 ^ ((-tp a b).toNat - 1) : Nat) : Rat) = 1 := by rw [← ydN, ← ydM, show tp a b + 1 + (((-tp a b).toNat - 1 : Nat) : Int) = 0 from by omega, ypk]
   have r1 := Rat.natCast_le_natCast.2 h1
   have r2 := Rat.natCast_lt_natCast.2 h2
   rw [Rat.natCast_mul] at r1 r2
   have s1 := yd3 (tp a b)
   have s2 := yd3 (tp a b + 1)
   exact ⟨yqZ s1 q1 r1, yp6 s2 q2 r2⟩
 constructor
 ·rw [← yda hd, hv, ydM]
  have := Rat.mul_le_mul_of_nonneg_right key.1 (show 0 ≤ p2 e by grind)
  grind
 ·rw [← ybt hd, hv, show tp a b + e + 1 = (tp a b + 1) + e from by omega, ydM]
  have := Rat.mul_lt_mul_of_pos_right key.2 hp
  grind
end Go.Ev.S

/- Doubling does not change what is delivered. -/
set_option linter.unusedVariables false
set_option linter.unusedSimpArgs false
set_option maxRecDepth 8000
namespace Go.Ev.S
open Go Go.Ev
theorem yr6 (f m : Nat) (n : Bool) (F : Int → Nat × Bool) (top : Int) : ∃ x y z w, ∀ K : Int → Int → Int → Int → Prop, dlv f m n F top K ↔ K x y z w := by
 unfold dlv
 by_cases h1 : (fe f : Int) < top
 ·simp only [if_pos h1]; exact ⟨_, _, _, _, fun K => Iff.rfl⟩
 ·simp only [if_neg h1]
  by_cases h2 : (fe f : Int) < (yav (tk F m n (pl f top)) : Int) - 1 + pl f top
  ·simp only [if_pos h2]; exact ⟨_, _, _, _, fun K => Iff.rfl⟩
  ·simp only [if_neg h2]; exact ⟨_, _, _, _, fun K => Iff.rfl⟩
theorem ysS (S n : Nat) (e : Int) : FS (S * 2 ^ n) (e - n) false = FS S e false := by
 funext at_
 unfold FS
 have hn := Nat.two_pow_pos n
 by_cases h1 : at_ ≤ e - n
 ·rw [if_pos h1, if_pos (by omega), Nat.mul_assoc, ← Nat.pow_add]
  congr 3; omega
 ·rw [if_neg h1]
  by_cases h2 : at_ ≤ e
  ·obtain ⟨k, hk⟩ : ∃ k : Nat, (k : Int) = at_ - (e - n) := ⟨(at_ - (e - n)).toNat, by omega⟩
   obtain ⟨j, hj⟩ : ∃ j : Nat, (j : Int) = e - at_ := ⟨(e - at_).toNat, by omega⟩
   rw [if_pos h2, show (at_ - (e - n)).toNat = k from by omega, show (e - at_).toNat = j from by omega]
   have e1 : S * 2 ^ n = S * 2 ^ j * 2 ^ k := by rw [Nat.mul_assoc, ← Nat.pow_add, show j + k = n from by omega]
   rw [e1, Nat.mul_div_cancel _ (Nat.two_pow_pos k), Nat.mul_mod_left]; rfl
  ·obtain ⟨k, hk⟩ : ∃ k : Nat, (k : Int) = at_ - e := ⟨(at_ - e).toNat, by omega⟩
   rw [if_neg h2, show (at_ - (e - n)).toNat = k + n from by omega, show (at_ - e).toNat = k from by omega]
   rw [Nat.pow_add, Nat.mul_div_mul_right _ _ hn, Nat.mul_mod_mul_right]
   congr 2
   rw [decide_eq_decide]
   constructor
   ·intro hh; rcases Nat.mul_eq_zero.1 hh with g | g <;> omega
   ·intro hh; rw [hh, Nat.zero_mul]
end Go.Ev.S

/- Rounding as the document has it. -/
set_option linter.unusedVariables false
set_option linter.unusedSimpArgs false
set_option maxRecDepth 8000
namespace Go.Ev.S
open Go Go.Ev
structure FF (F : Int → Nat × Bool) (p : Nat) (top : Int) : Prop where
 lt : ∀ at_, top - p + 1 ≤ at_ → (F at_).1 < 2 ^ p
 ge : 2 ^ (p - 1) ≤ (F (top - p + 1)).1
 ex : ∀ at_, (F at_).2 = true → (F at_).1 ≠ 0
 half : ∀ at_, (F (at_ + 1)).1 = (F at_).1 / 2
theorem ys1 (n : Bool) {t : Nat} (h0 : t ≠ 0) {P : Nat} (ht : t < 2 ^ P) (hP : P = 200) {at_ : Int} (hr : -100000 ≤ at_ ∧ at_ ≤ 100000) (K : Bool → List UInt8 → List UInt8 → Int → Int → Prop)
  (hK : ∀ a e, Can n a 1 e → a ≠ 0 → t = a * 2 ^ (e - at_).toNat → at_ ≤ e → e ≤ at_ + 200 → K n (nb a) [1] e 0) : mkE n t 1 at_ K := by
 unfold mkE
 have hl := yf0 t P h0 ht
 have o1 : odp 1 = 1 := by unfold odp; rw [show ybk 1 = 0 from ymn 0 0]
 have hB : rdB t 1 = 1 := by unfold rdB; rw [o1, Nat.gcd_one_right]
 have hA : rdA t 1 = odp t := by unfold rdA; rw [o1, Nat.gcd_one_right, Nat.div_one]
 have hE : rdE t 1 at_ = at_ + ybk t := by unfold rdE; rw [show ybk 1 = 0 from ymn 0 0]; omega
 rw [if_neg h0, hA, hB, hE, if_pos (by unfold win; omega), yfE]
 have ho := yer h0
 have hne := yi5 h0
 have hfit : fit t := ycS ht (by omega)
 refine hK _ _ ⟨yhk hfit _, yhn, rfl, by unfold win; omega, fun hh => absurd hh hne, fun _ => ⟨ho.2, Nat.gcd_one_right _⟩⟩ hne ?_ (by omega) (by omega)
 rw [show (at_ + (ybk t : Int) - at_).toNat = ybk t from by omega, Nat.mul_comm]; exact ho.1
theorem ysU {f : Nat} (h : f ≤ 3) {n : Bool} {a t : Nat} {e at_ : Int} (c : Can n a 1 e) (h0 : a ≠ 0) (ht : t = a * 2 ^ (e - at_).toNat) (hle : at_ ≤ e) (h1 : t ≤ 2 ^ fp f)
  (hat : 2 - (fe f : Int) - fp f ≤ at_) (hs : at_ = 2 - (fe f : Int) - fp f ∨ 2 ^ (fp f - 1) ≤ t) (K : Int → Int → Bool → Prop)
  (hK : if (fe f : Int) < (yav t : Int) - 1 + at_ then K 0 0 false else K (Hi (yiu f n at_ t)) (Lo (yiu f n at_ t)) true) : ofE f n a 1 e K := by
 obtain ⟨w1, w2, w3, w4, w5, w6⟩ := yd2 f h
 obtain ⟨k, hk⟩ : ∃ k : Nat, (k : Int) = e - at_ := ⟨(e - at_).toNat, by omega⟩
 rw [show (e - at_).toNat = k from by omega] at ht
 have hb : yav t = yav a + k := by rw [ht, ygW _ _ h0]
 have htp : tp a 1 + e = (yav t : Int) - 1 + at_ := by rw [yoP h0, hb]; omega
 unfold ofE
 rw [if_neg h0, htp]
 by_cases hf : (fe f : Int) < (yav t : Int) - 1 + at_
 ·rw [if_pos (.inr (.inl hf))]; rw [if_pos hf] at hK; exact hK
 rw [if_neg hf] at hK
 by_cases hp : t < 2 ^ fp f
 ·have hbl := (yaL t (fp f)).2 hp
  have hpl : pl f ((yav t : Int) - 1 + at_) = at_ := by
   unfold pl
   rcases hs with hs | hs
   ·split <;> omega
   ·have hb2 : ¬ yav t ≤ fp f - 1 := by rw [yaL]; omega
    rw [if_neg (by omega)]; omega
  rw [hpl, if_neg (by omega), show (e - at_).toNat = k from by omega, ← ht]
  exact hK
 ·have hte : t = 2 ^ fp f := by omega
  have hb2 : yav t = fp f + 1 := by
   have h3 : ¬ yav t ≤ fp f := by rw [yaL]; omega
   have h4 : yav t ≤ fp f + 1 := by rw [yaL, hte]; exact Nat.pow_lt_pow_right (by omega) (by omega)
   omega
  have hpl : pl f ((yav t : Int) - 1 + at_) = at_ + 1 := by
   unfold pl; rw [if_neg (by omega)]; omega
  have hk1 : 1 ≤ k := by
   apply Classical.byContradiction; intro hn
   have hk0 : k = 0 := by omega
   rw [hk0, Nat.pow_zero, Nat.mul_one] at ht
   have ho := (c.r h0).1
   have : t % 2 = 0 := by
    rw [hte]
    obtain ⟨q, hq⟩ : ∃ q, fp f = q + 1 := ⟨fp f - 1, by omega⟩
    rw [hq, Nat.pow_succ]; omega
   omega
  rw [hpl, if_neg (by omega), show (e - (at_ + 1)).toNat = k - 1 from by omega]
  have e2 : 2 ^ fp f = 2 ^ (fp f - 1) + 2 ^ (fp f - 1) := by rcases yh6 h with rfl | rfl | rfl | rfl <;> decide
  have hw : a * 2 ^ (k - 1) = 2 ^ (fp f - 1) := by
   have : a * 2 ^ k = a * 2 ^ (k - 1) * 2 := by rw [Nat.mul_assoc, ← Nat.pow_succ, show (k - 1).succ = k from by omega]
   omega
  have he : yiu f n (at_ + 1) (a * 2 ^ (k - 1)) = yiu f n at_ t := by
   unfold yiu
   rw [hw, hte, e2, show (at_ + 1 + (fe f : Int) + fp f - 2).toNat = (at_ + (fe f : Int) + fp f - 2).toNat + 1 from by omega, Nat.add_mul]
   omega
  rw [he]; exact hK
theorem yng {f : Nat} (h : f ≤ 3) {x : Nat} (hx : x < 2 ^ fp f) : fit (x + 1) := ymJ (by have := yrS h; omega)
section
variable {f m : Nat} {n root : Bool} {x y : List UInt8} {e top : Int} {F : Int → Nat × Bool}
theorem FF.tk_facts (h : f ≤ 3) (m : Nat) (n : Bool) (H : FF F (fp f) top) : tk F m n (pl f top) ≤ 2 ^ fp f ∧ (pl f top = 2 - (fe f : Int) - fp f ∨ 2 ^ (fp f - 1) ≤ tk F m n (pl f top)) ∧ 2 - (fe f : Int) - fp f ≤ pl f top ∧ top - fp f + 1 ≤ pl f top := by
 have w := yd2 f h
 have hge : top - fp f + 1 ≤ pl f top := by unfold pl; split <;> omega
 have hl := H.lt (pl f top) hge
 have ht := ypz F m n (pl f top)
 refine ⟨by omega, ?_, by unfold pl; split <;> omega, hge⟩
 by_cases hs : top < 1 - (fe f : Int)
 ·left; unfold pl; rw [if_pos hs]; omega
 ·right
  have hp : pl f top = top - fp f + 1 := by unfold pl; rw [if_neg hs]
  have := H.ge
  rw [← hp] at this
  unfold tk; omega
theorem FF.none (h : f ≤ 3) (m : Nat) (n : Bool) (H : FF F (fp f) top) (h0 : tk F m n (pl f top) = 0) : (F (pl f top)).2 = false ∧ ygt f m n F top = true ∧ pl f top = 2 - (fe f : Int) - fp f := by
 have w := yd2 f h
 have hf1 := H.tk_facts h m n
 have hpos := Nat.two_pow_pos (fp f - 1)
 have hz : (F (pl f top)).1 = 0 := by unfold tk at h0; omega
 have hpl : pl f top = 2 - (fe f : Int) - fp f := by omega
 have hex : (F (pl f top)).2 = false := by
  cases he : (F (pl f top)).2 with
  | false => rfl
  | true => exact absurd hz (H.ex _ he)
 refine ⟨hex, ?_, hpl⟩
 have hge := H.ge
 have hp2 : 2 ≤ 2 ^ (fp f - 1) := by
  have := Nat.pow_le_pow_right (show 0 < 2 by omega) (show 1 ≤ fp f - 1 by omega); omega
 have n1 : top ≠ 1 - (fe f : Int) := by
  intro hh
  rw [show top - (fp f : Int) + 1 = pl f top from by omega, hz] at hge; omega
 have n2 : top ≠ -(fe f : Int) := by
  intro hh
  have h2 := H.half (pl f top - 1)
  rw [show pl f top - 1 + 1 = pl f top from by omega, hz] at h2
  rw [show top - (fp f : Int) + 1 = pl f top - 1 from by omega] at hge
  omega
 have n3 : top < 1 - (fe f : Int) := by
  apply Classical.byContradiction; intro hh
  have : pl f top = top - fp f + 1 := by unfold pl; rw [if_neg hh]
  omega
 unfold ygt
 rw [if_neg n2, decide_eq_true (by omega)]
end
end Go.Ev.S

/- Floor functions of exact numbers. -/
set_option linter.unusedVariables false
set_option linter.unusedSimpArgs false
set_option maxRecDepth 8000
namespace Go.Ev.S
open Go Go.Ev
theorem ytr {a b : Int} (h : a < b) : p2 a < p2 b := by
 obtain ⟨k, hk⟩ : ∃ k : Nat, b = a + ((k + 1 : Nat) : Int) := ⟨(b - a - 1).toNat, by omega⟩
 rw [hk, ydM, ydN]
 have h1 := yd3 a
 have h2 : (1 : Rat) < ((2 ^ (k + 1) : Nat) : Rat) := by
  have : (1 : Nat) < 2 ^ (k + 1) := Nat.one_lt_two_pow (by omega)
  exact Rat.natCast_lt_natCast.2 this
 have := Rat.mul_lt_mul_of_pos_right h2 h1
 grind
theorem ysj {a b : Int} (h : a ≤ b) : p2 a ≤ p2 b := by
 rcases Int.lt_or_eq_of_le h with h | h
 ·have := ytr h; grind
 ·rw [h]; exact Rat.le_refl
theorem yq7 {X : Rat} {s t : Int} (h1 : p2 s ≤ X) (h2 : X < p2 (s + 1)) (h3 : p2 t ≤ X) (h4 : X < p2 (t + 1)) : s = t := by
 apply Classical.byContradiction; intro hn
 rcases Int.lt_or_gt_of_ne hn with h | h
 ·have := ysj (show s + 1 ≤ t by omega); grind
 ·have := ysj (show t + 1 ≤ s by omega); grind
theorem ymF {X : Rat} {at_ : Int} {m m' : Nat} {is is' : Bool} (h : Flr X at_ m is) (h' : Flr X at_ m' is') : m = m' ∧ is = is' := by
 have hp := yd3 at_
 have h1 := h.le
 have h2 := h.lt
 have h3 := h'.le
 have h4 := h'.lt
 have l1 : m < m' + 1 := by
  rw [← Rat.natCast_lt_natCast, ← ybt hp]; grind
 have l2 : m' < m + 1 := by
  rw [← Rat.natCast_lt_natCast, ← ybt hp]; grind
 have e : m = m' := by omega
 subst e
 refine ⟨rfl, ?_⟩
 rw [Bool.eq_iff_iff, h.eq, h'.eq]
def FX (a b : Nat) (e at_ : Int) : Nat × Bool :=
 if at_ ≤ e then (a * 2 ^ (e - at_).toNat / b, decide (a * 2 ^ (e - at_).toNat % b = 0)) else (a / (b * 2 ^ (at_ - e).toNat), decide (a % (b * 2 ^ (at_ - e).toNat) = 0))
theorem ym8 {a b : Nat} (e at_ : Int) (hb : b ≠ 0) : Flr (V false a b e) at_ (FX a b e at_).1 (FX a b e at_).2 := by
 unfold FX
 by_cases h : at_ ≤ e
 ·rw [if_pos h]; exact ymV hb (ytI a b e at_ hb h)
 ·rw [if_neg h]
  have hB : b * 2 ^ (at_ - e).toNat ≠ 0 := Nat.mul_ne_zero hb (Nat.pos_iff_ne_zero.1 (Nat.two_pow_pos _))
  exact ymV hB (ysY a b e at_ hb (by omega))
theorem yr2 {a b a' b' : Nat} {e e' : Int} (hb : b ≠ 0) (hb' : b' ≠ 0) (h : V false a b e = V false a' b' e') : FX a b e = FX a' b' e' := by
 funext at_
 have h1 := ym8 (a := a) e at_ hb
 have h2 := ym8 (a := a') e' at_ hb'
 rw [h] at h1
 obtain ⟨e1, e2⟩ := ymF h1 h2
 exact Prod.ext e1 e2
theorem ysQ {X : Rat} {F : Int → Nat × Bool} {p : Nat} {top : Int} (hp : 1 ≤ p) (hF : ∀ at_, Flr X at_ (F at_).1 (F at_).2) (h1 : p2 top ≤ X) (h2 : X < p2 (top + 1)) : FF F p top := by
 have hX : 0 < X := by have := yd3 top; grind
 refine ⟨fun at_ hat => ?_, ?_, fun at_ hat hz => ?_, fun at_ => ?_⟩
 ·have hq := yd3 at_
  have h3 := (hF at_).le
  have h4 := ysj (show top + 1 ≤ (p : Int) + at_ by omega)
  rw [ydM (p : Int), ydN] at h4
  generalize 2 ^ p = N at h4
  rw [← Rat.natCast_lt_natCast, ← ybt hq]; grind
 ·have hq := yd3 (top - p + 1)
  have h3 := (hF (top - p + 1)).lt
  have h4 : p2 top = ((2 ^ (p - 1) : Nat) : Rat) * p2 (top - p + 1) := by rw [← ydN, ← ydM]; congr 1; omega
  have : 2 ^ (p - 1) < (F (top - p + 1)).1 + 1 := by
   generalize 2 ^ (p - 1) = N at h4
   rw [← Rat.natCast_lt_natCast, ← ybt hq]; grind
  omega
 ·have h3 := (hF at_).eq.1 hat
  rw [hz] at h3
  have : ((0 : Nat) : Rat) = 0 := rfl
  grind
 ·have hq := yd3 at_
  have hq1 : p2 (at_ + 1) = 2 * p2 at_ := by rw [ydM, ytb]; grind
  have a1 := (hF at_).le
  have a2 := (hF at_).lt
  have b1 := (hF (at_ + 1)).le
  have b2 := (hF (at_ + 1)).lt
  rw [hq1] at b1 b2
  have e0 : ((2 : Nat) : Rat) = 2 := rfl
  generalize (F at_).1 = m at a1 a2 ⊢
  generalize (F (at_ + 1)).1 = k at b1 b2 ⊢
  have l1 : k * 2 < m + 1 := by
   rw [← Rat.natCast_lt_natCast, ← ybt hq, Rat.natCast_mul, e0]
   grind
  have l2 : m < (k + 1) * 2 := by
   rw [← Rat.natCast_lt_natCast, ← ybt hq, Rat.natCast_mul, e0]
   grind
  omega
theorem ytG {a b : Nat} {e : Int} {p : Nat} (hp : 1 ≤ p) (ha : a ≠ 0) (hb : b ≠ 0) : FF (FX a b e) p (tp a b + e) :=
 ysQ hp (fun at_ => ym8 e at_ hb) (ytj e ha hb).1 (ytj e ha hb).2
theorem ys7 (a b : Nat) : (yav a : Int) - yav b - 1 ≤ tp a b := by unfold tp; (repeat' split) <;> omega
theorem ysg {n : Bool} {a b : Nat} {e at_ : Int} (c : Can n a b e) (ha : a ≠ 0) (h1 : -2097152 ≤ at_) (h2 : at_ ≤ 2097152) (hb : yav b ≤ 66000) (hl : tp a b + e - 2000 ≤ at_) (K : List UInt8 → Bool → Int → Prop)
  (hK : K (nb (FX a b e at_).1) (FX a b e at_).2 0) : ysx a b e at_ K := by
 refine ysT c ha h1 h2 (fun hle => ?_) K fun m is fl _ _ => ?_
 ·rw [yfv ha]
  have := ys7 a b
  omega
 ·obtain ⟨e1, e2⟩ := ymF fl (ym8 (a := a) e at_ c.b0)
  rw [e1, e2]; exact hK
theorem yrg {b : Nat} {N : Nat} (h : (nb b).length ≤ N) : yav b ≤ 8 * N := by
 have := (ybs b N).1 h
 rw [ymN] at this
 exact (yaL _ _).2 this
theorem ymK {F F' : Int → Nat × Bool} {at_ : Int} (m : Nat) (n : Bool) (h1 : F at_ = F' at_) (h2 : F (at_ - 1) = F' (at_ - 1)) : tk F m n at_ = tk F' m n at_ := by
 unfold tk hf; rw [h1, h2]
theorem ypM {f : Nat} {F F' : Int → Nat × Bool} {top : Int} (m : Nat) (n : Bool) (h : ∀ at_, top - fp f ≤ at_ → F at_ = F' at_) (K : Int → Int → Int → Int → Prop) : dlv f m n F top K ↔ dlv f m n F' top K := by
 have hge : top - fp f + 1 ≤ pl f top := by unfold pl; split <;> omega
 have e1 := ymK m n (h (pl f top) (by omega)) (h (pl f top - 1) (by omega))
 have e2 : ygt f m n F top = ygt f m n F' top := by
  unfold ygt
  have := ymK m n (h (top - fp f + 1) (by omega)) (h (top - fp f + 1 - 1) (by omega))
  rw [this]
 unfold dlv
 rw [e1, e2, h (pl f top) (by omega)]
theorem ygz (m : Nat) (hm : m ≤ 4) (K : Bool → Prop) : zcr m K = K true := by
 rw [zcr.is]; unfold zcr.d; rw [yba (by omega)]
theorem ygu (m : Nat) (hm : 4 < m) (K : Bool → Prop) : zcr m K = K false := by
 rw [zcr.is]; unfold zcr.d; rw [yeK (by omega)]
end Go.Ev.S

/- The program's packing is the document's. -/
set_option linter.unusedVariables false
set_option linter.unusedSimpArgs false
set_option maxRecDepth 8000
namespace Go.Ev.S
open Go Go.Ev
theorem ytz (S : Nat) (e : Int) : FS S e false = FX S 1 e := by
 funext at_
 unfold FS FX
 by_cases h : at_ ≤ e
 ·rw [if_pos h, if_pos h, Nat.div_one, Nat.mod_one]; rfl
 ·rw [if_neg h, if_neg h, Nat.one_mul, Bool.not_false, Bool.and_true]
section
variable {f m : Nat} {n : Bool} {S : Nat} {e : Int} {more : Bool}
end
end Go.Ev.S

/- Rounding as the program has it. -/
set_option linter.unusedVariables false
set_option linter.unusedSimpArgs false
set_option maxRecDepth 8000
namespace Go.Ev.S
open Go Go.Ev
theorem yhp {x : Nat} (hf : fit x) (K : Int → Prop) (h : K (ybk x)) : zax (nb x) K := by
 refine yej _ _ ?_
 rw [if_pos (ybc hf), yaK]; exact h
theorem ylL {x : Nat} (h0 : x ≠ 0) : eqI (ybk x : Int) 0 = decide (x % 2 = 1) := by
 have h1 : ybk x = 0 ↔ x % 2 = 1 := by
  constructor
  ·intro h
   obtain ⟨q, hq⟩ := yd6 x h0
   rw [h, Nat.pow_zero, Nat.one_mul] at hq; omega
  ·intro h; rw [ybk]; simp [h]
 by_cases h : x % 2 = 1
 ·rw [decide_eq_true h]; exact yj7 (by have := h1.2 h; omega)
 ·rw [decide_eq_false h]; exact ygQ (by intro hh; exact h (h1.1 (by omega)))
theorem ygn (f m : Nat) (n : Bool) (h : f ≤ 3) (hm : m ≤ 4) (K : Int → Int → Int → Int → Prop) (hK : K (Hi (ov f m n)) (Lo (ov f m n)) 5 0) : zdb f m n K := by
 rw [zdb.is]; unfold zdb.d
 rw [ydX f h, yc7 f h]
 rcases ysp hm with rfl | rfl | rfl | rfl | rfl <;> cases n <;> exact hK
theorem yth (n o0 o1 none : Bool) : upB 0 n o0 (if o1 = true then (if none = true then 0 else 1) else -1) false = (o1 && (!none || o0)) := by
 cases o0 <;> cases o1 <;> cases none <;> rfl
theorem ytg (n o0 o1 none : Bool) : upB 4 n o0 (if o1 = true then (if none = true then 0 else 1) else -1) false = o1 := by
 cases o0 <;> cases o1 <;> cases none <;> rfl
section
variable {f m : Nat} {n neg root : Bool} {x y : List UInt8} {e top : Int} {F : Int → Nat × Bool}
def ymR (f : Nat) (n root : Bool) (x y : List UInt8) (e top : Int) (F : Int → Nat × Bool) : Prop :=
 ∀ at_ : Int, top - fp f ≤ at_ → at_ ≤ 20000 → ∀ K : List UInt8 → Bool → Prop, K (nb (F at_).1) (F at_).2 → zdd n x y e root at_ K
theorem yiW (h : f ≤ 3) (hm : m ≤ 4) (H : FF F (fp f) top) (hfl : ymR f n root x y e top F) {at_ : Int} (hr : -3000000 ≤ top) (h1 : top - fp f + 1 ≤ at_) (h2 : at_ ≤ 20000) (K : List UInt8 → Bool → Prop)
  (hK : K (nb (tk F m neg at_)) (F at_).2) : zde n x y e root m neg at_ K := by
 have w := yd2 f h
 have l0 := H.lt at_ h1
 have f0 : fit (F at_).1 := yhK (yng h l0) (by omega)
 have f1 : fit (F (at_ - 1)).1 := by
  have h4 := H.half (at_ - 1)
  rw [show at_ - 1 + 1 = at_ from by omega] at h4
  have h6 : (F (at_ - 1)).1 < 2 ^ (fp f + 1) := by rw [Nat.pow_succ]; omega
  obtain ⟨P, hP⟩ : ∃ P, P = fp f + 1 := ⟨_, rfl⟩
  rw [← hP] at h6
  exact ycS h6 (by omega)
 have f2 : fit ((F at_).1 + 1) := yng h l0
 rw [zde.is]; unfold zde.d
 refine hfl at_ (by omega) h2 _ ?_
 unfold tk at hK
 cases hx : (F at_).2 with
 | true =>
  rw [hx] at hK
  have : upB m neg (decide ((F at_).1 % 2 = 1)) (hf F at_) true = false := rfl
  rw [this] at hK
  exact hK
 | false =>
 rw [hx] at hK
 rw [yaw rfl, yas (by omega) (by omega)]
 refine hfl (at_ - 1) (by omega) (by omega) _ ?_
 have hh : hf F at_ = if decide ((F (at_ - 1)).1 % 2 = 1) = true then (if (F (at_ - 1)).2 = true then 0 else 1) else -1 := by
  unfold hf
  by_cases g : (F (at_ - 1)).1 % 2 = 1
  ·rw [if_pos g, if_pos (decide_eq_true g)]
  ·rw [if_neg g, if_neg (by rw [decide_eq_false g]; decide)]
 rw [hh] at hK
 generalize (F at_).1 = n0 at hK f0 f2 ⊢
 generalize (F (at_ - 1)).1 = n1 at hK f1 ⊢
 generalize (F (at_ - 1)).2 = none at hK ⊢
 have hP1 : upB m neg (decide (n0 % 2 = 1)) (if decide (n1 % 2 = 1) = true then (if none = true then 0 else 1) else -1) false = true → zaq (nb n0) [1] fun y0 y1 => K y0 false := by
  intro hu
  rw [hu] at hK
  rw [← yfE]
  exact yo1 f0 yhn (yeR (fun _ => hK) fun g => absurd f2 g)
 have hP0 : upB m neg (decide (n0 % 2 = 1)) (if decide (n1 % 2 = 1) = true then (if none = true then 0 else 1) else -1) false = false → K (nb n0) false := by
  intro hu
  rw [hu] at hK; exact hK
 generalize hQ1 : (zaq (nb n0) [1] fun y0 y1 => K y0 false) = Q1 at hP1 ⊢
 generalize hQ0 : K (nb n0) false = Q0 at hP0 ⊢
 clear hK
 have m2 : ∀ p : Prop, (neg = true → Q1) → (neg = false → Q0) → br (ydF neg true) Q1 Q0 := by
  intro _ a b; cases neg
  ·exact b rfl
  ·exact a rfl
 have m3 : ∀ p : Prop, (neg = false → Q1) → (neg = true → Q0) → br (ydF neg false) Q1 Q0 := by
  intro _ a b; cases neg
  ·exact a rfl
  ·exact b rfl
 have d1 : m = 1 → Q0 := by rintro rfl; exact hP0 rfl
 have d2 : m = 2 → br (ydF neg true) Q1 Q0 := by rintro rfl; exact m2 True hP1 hP0
 have d3 : m = 3 → br (ydF neg false) Q1 Q0 := by
  rintro rfl
  refine m3 True (fun hn => hP1 ?_) fun hn => hP0 ?_
  ·rw [hn]; rfl
  ·rw [hn]; rfl
 rw [yew, yew]
 refine yd5 (fun z0 => ?_) fun z0 => ?_
 ·refine yhp f0 _ ?_
  refine yd5 (fun z1 => ?_) fun z1 => ?_
  ·refine yhp f1 _ ?_
   rw [ylL z0, ylL z1]
   generalize decide (n0 % 2 = 1) = o0 at hP1 hP0 ⊢
   generalize decide (n1 % 2 = 1) = o1 at hP1 hP0 ⊢
   rcases ysp hm with rfl | rfl | rfl | rfl | rfl
   ·rw [yth] at hP1 hP0
    show br o1 (br (!none) Q1 (br o0 Q1 Q0)) Q0
    cases o1 <;> cases none <;> cases o0 <;> first | exact hP1 rfl | exact hP0 rfl
   ·exact d1 rfl
   ·exact d2 rfl
   ·exact d3 rfl
   ·rw [ytg] at hP1 hP0
    show br o1 Q1 Q0
    cases o1 <;> first | exact hP1 rfl | exact hP0 rfl
  ·have e1 : decide (n1 % 2 = 1) = false := by rw [z1]; rfl
   rw [e1] at hP1 hP0
   rcases ysp hm with rfl | rfl | rfl | rfl | rfl
   ·rw [yth] at hP1 hP0; exact hP0 rfl
   ·exact d1 rfl
   ·exact d2 rfl
   ·exact d3 rfl
   ·rw [ytg] at hP1 hP0; exact hP0 rfl
 ·have e0 : decide (n0 % 2 = 1) = false := by rw [z0]; rfl
  rw [e0] at hP1 hP0
  refine yd5 (fun z1 => ?_) fun z1 => ?_
  ·refine yhp f1 _ ?_
   rw [ylL z1]
   generalize decide (n1 % 2 = 1) = o1 at hP1 hP0 ⊢
   rcases ysp hm with rfl | rfl | rfl | rfl | rfl
   ·rw [yth] at hP1 hP0
    show br o1 (br (!none) Q1 Q0) Q0
    cases o1 <;> cases none <;> first | exact hP1 rfl | exact hP0 rfl
   ·exact d1 rfl
   ·exact d2 rfl
   ·exact d3 rfl
   ·rw [ytg] at hP1 hP0
    show br o1 Q1 Q0
    cases o1 <;> first | exact hP1 rfl | exact hP0 rfl
  ·have e1 : decide (n1 % 2 = 1) = false := by rw [z1]; rfl
   rw [e1] at hP1 hP0
   rcases ysp hm with rfl | rfl | rfl | rfl | rfl
   ·rw [yth] at hP1 hP0; exact hP0 rfl
   ·exact d1 rfl
   ·exact d2 rfl
   ·exact d3 rfl
   ·rw [ytg] at hP1 hP0; exact hP0 rfl
theorem ylw (h : f ≤ 3) (hm : m ≤ 4) (H : FF F (fp f) top) (hfl : ymR f n root x y e top F) (htop : ∀ K : Int → Prop, K top → zdg n x y e root K) (hr : -2000000 ≤ top ∧ top ≤ 3000000) (K : Bool → Prop)
  (hK : K (ygt f m neg F top)) : zdf n x y e root f m neg K := by
 have w := yd2 f h
 rw [zdf.is]; unfold zdf.d
 refine htop _ ?_
 rw [yaC f h, ya3 f h, yas (by omega) (by omega)]
 unfold ygt at hK
 by_cases ht : top = -(fe f : Int)
 ·rw [yaw (by rw [yj7 (show top = 1 - (fe f : Int) - 1 by omega)]; rfl)]
  rw [if_pos ht] at hK
  rw [yas (by omega) (by omega), yap (by omega) (by omega)]
  refine yiW h hm H hfl (by omega) (Int.le_refl _) (by omega) _ ?_
  have htk := ypz F m neg (top - fp f + 1)
  have hl := H.lt (top - fp f + 1) (Int.le_refl _)
  refine ye9 (yhK (yng h hl) htk) ?_
  have e1 : leI (yav (tk F m neg (top - fp f + 1)) : Int) (fp f : Int) = decide (yav (tk F m neg (top - fp f + 1)) ≤ fp f) := by
   unfold leI; rw [decide_eq_decide]; omega
  rw [e1]; exact hK
 ·rw [yaD (by rw [ygQ (show top ≠ 1 - (fe f : Int) - 1 by omega)]; rfl)]
  rw [if_neg ht] at hK
  rw [ya3 f h]; exact hK
theorem yg2 (h : f ≤ 3) (hm : m ≤ 4) (H : FF F (fp f) top) (hfl : ymR f n root x y e top F) (htop : ∀ K : Int → Prop, K top → zdg n x y e root K) (hr : -2000000 ≤ top ∧ top ≤ 3000000) (K : Int → Int → Int → Int → Prop)
  (hK : dlv f m neg F top K) : zdc n x y e root f m neg K := by
 have w := yd2 f h
 have hf1 := H.tk_facts h m neg
 rw [zdc.is]; unfold zdc.d
 refine htop _ ?_
 rw [ya6 f h]
 unfold dlv at hK
 by_cases h1 : (fe f : Int) < top
 ·rw [yaD (ya9 h1)]; rw [if_pos h1] at hK
  exact ygn f m neg h hm _ hK
 rw [yaw (ybe (by omega)), ya3 f h, yaC f h]
 rw [if_neg h1] at hK
 have hp := ygY h top (by omega)
 have hat : yai .i64 (yan .i64 (ycF top (1 - (fe f : Int))) (fp f : Int)) 1 = pl f top := by
  have e0 : ycF top (1 - (fe f : Int)) = if top < 1 - fe f then 1 - (fe f : Int) else top := yds _ _
  rw [e0]; unfold pl
  have hh : -2000000 ≤ (if top < 1 - (fe f : Int) then 1 - (fe f : Int) else top) ∧ (if top < 1 - (fe f : Int) then 1 - (fe f : Int) else top) ≤ 2000000 := by split <;> omega
  rw [yas (by omega) (by omega), yap (by omega) (by omega)]
 rw [hat]
 refine yiW h hm H hfl (by omega) hf1.2.2.2 (by omega) _ ?_
 have hfit : fit (tk F m neg (pl f top)) := yhK (yng h (H.lt _ hf1.2.2.2)) (ypz _ _ _ _)
 refine ye9 hfit ?_
 have hbl : yav (tk F m neg (pl f top)) ≤ fp f + 1 := by
  rw [yaL]
  exact Nat.lt_of_le_of_lt hf1.1 (Nat.pow_lt_pow_right (by omega) (by omega))
 rw [ya6 f h, yas (by omega) (by omega), yap (by omega) (by omega)]
 by_cases h2 : (fe f : Int) < (yav (tk F m neg (pl f top)) : Int) - 1 + pl f top
 ·rw [yaD (ya9 h2)]; rw [if_pos h2] at hK
  exact ygn f m neg h hm _ hK
 rw [yaw (ybe (by omega))]
 rw [if_neg h2] at hK
 rw [← yfE]
 refine ylo neg hfit yhn (by decide) (by unfold win; omega) ?_
 have tail : ∀ y0 y1 : Int, y0 = Hi (yiu f neg (pl f top) (tk F m neg (pl f top))) → y1 = Lo (yiu f neg (pl f top) (tk F m neg (pl f top))) →
   br (F (pl f top)).2 (K y0 y1 0 0) (zdf n x y e root f m neg fun y0_7 => br y0_7 (K y0 y1 3 0) (K y0 y1 1 0)) := by
  rintro y0 y1 rfl rfl
  cases hx : (F (pl f top)).2 with
  | true => rw [hx, if_pos rfl] at hK; exact hK
  | false =>
   rw [hx, if_neg (by decide)] at hK
   rw [yaw rfl]
   refine ylw h hm H hfl htop hr _ ?_
   cases ht : ygt f m neg F top with
   | true => rw [ht, if_pos rfl] at hK; exact hK
   | false => rw [ht, if_neg (by decide)] at hK; exact hK
 by_cases h0 : tk F m neg (pl f top) = 0
 ·have hn := H.none h m neg h0
  have he : yiu f neg (pl f top) 0 = enc f neg 0 0 := by
   unfold yiu enc; rw [show (pl f top + (fe f : Int) + fp f - 2).toNat = 0 from by omega, Nat.zero_mul, Nat.add_zero]
  rw [h0, he] at tail
  unfold mkE
  rw [if_pos h0]
  have c0 : Can false 0 1 0 := ⟨yqa, yhn, rfl, by unfold win; omega, fun _ => ⟨rfl, rfl, rfl⟩, fun hh => absurd rfl hh⟩
  have hz : zam f false [] [1] 0 = zam f false (nb 0) (nb 1) 0 := by rw [yaZ, yfE]
  show zam f false [] [1] 0 _
  rw [hz]
  refine yiE f h c0 _ ?_
  unfold ofE
  rw [if_pos rfl]
  show br (eqS (nb (tk F m neg (pl f top))) []) _ _
  rw [h0, yew, yaD (by rfl), ydr f h]
  exact tail _ _ rfl rfl
 ·obtain ⟨P, hP⟩ : ∃ P, P = 200 := ⟨_, rfl⟩
  have hlt : tk F m neg (pl f top) < 2 ^ P := Nat.lt_of_le_of_lt hf1.1 (Nat.pow_lt_pow_right (by omega) (by omega))
  refine ys1 neg h0 hlt hP (by omega) _ fun a g c ha hta hag hg => ?_
  rw [← yfE]
  refine yiE f h c _ ?_
  refine ysU h c ha hta hag hf1.1 hf1.2.2.1 hf1.2.1 _ ?_
  rw [if_neg h2, yew, yaw (by simpa using h0)]
  exact tail _ _ rfl rfl
end
theorem Can.abs' {s : Bool} {a b : Nat} {e : Int} (c : Can s a b e) : Can false a b e := ⟨c.fa, c.fb, c.ob, c.we, fun h => ⟨rfl, (c.z h).2⟩, c.r⟩
theorem ypB {f : Nat} (h : f ≤ 3) {n : Bool} {a b : Nat} {e : Int} (c : Can n a b e) (ha : a ≠ 0) (hb : yav b ≤ 66000) : ymR f n false (nb a) (nb b) e (tp a b + e) (FX a b e) := by
 have w := yd2 f h
 have we := c.e64
 have hr := yjU c.fa c.fb
 intro at_ h1 h2 K hK
 rw [zdd.is]; unfold zdd.d
 rw [yaD (show (!false) = true from rfl)]
 exact yeu n c at_ (by omega) _ (ysg c ha (by omega) (by omega) hb (by omega) _ hK)
theorem ylO {n : Bool} {a b : Nat} {e : Int} (c : Can n a b e) (ha : a ≠ 0) (K : Int → Prop) (hK : K (tp a b + e)) : zdg n (nb a) (nb b) e false K := by
 rw [zdg.is]; unfold zdg.d
 exact ygc n c _ (fun hh => absurd hh ha) fun _ => hK
theorem yji {f m : Nat} (h : f ≤ 3) (hm : m ≤ 4) {n : Bool} {a b : Nat} {e : Int} (c : Can n a b e) (ha : a ≠ 0) (la : (nb a).length ≤ 8192) (lb : (nb b).length ≤ 8192) (K : Int → Int → Int → Int → Prop)
  (hK : dlv f m n (FX a b e) (tp a b + e) K) : zcz f m n (nb a) (nb b) e K := by
 have w := yd2 f h
 have we := c.e64
 have hr := yjU c.fa c.fb
 have hb : yav b ≤ 66000 := by have := yrg lb; omega
 rw [zcz.is]; unfold zcz.d
 rw [zda.is]; unfold zda.d
 rw [ybg f h, yaw (show (!eqI 0 0) = false from rfl), yeX m hm, yaw (show (!eqI 0 0) = false from rfl)]
 refine ybK _ _ _ _ _ (fun _ => ?_) fun g => absurd c.may g
 rw [yaw (show (!eqI 0 0) = false from rfl), yaw rfl, yaw (ybe (by omega)), yaw (ybe (by omega))]
 show br (!eqI 0 0) _ _
 rw [yaw (show (!eqI 0 0) = false from rfl), yew, yaw (by simpa using ha)]
 refine ylm n c _ ?_
 exact yg2 h hm (ytG (by omega) ha c.b0) (ypB h c.abs' ha hb) (fun K hK => ylO c.abs' ha K hK) (by omega) _ hK
end Go.Ev.S

/- Packing against the rule. -/
set_option linter.unusedVariables false
set_option linter.unusedSimpArgs false
set_option maxRecDepth 8000
namespace Go.Ev.S
open Go Go.Ev
theorem ype {x P : Nat} (hP : P ≤ 480) (h : x < 2 ^ P) : (nb x).length ≤ 8192 := by
 obtain ⟨N, hN⟩ : ∃ N, N = 60 := ⟨_, rfl⟩
 have : (nb x).length ≤ N := by rw [ybs, ymN]; exact Nat.lt_of_lt_of_le h (Nat.pow_le_pow_right (by omega) (by omega))
 omega
theorem ys6 (n : Bool) {A B P : Nat} (hA : A ≠ 0) (hB : B ≠ 0) (hP : P ≤ 480) (lA : A < 2 ^ P) (lB : B < 2 ^ P) {e : Int} (he : -30000 ≤ e ∧ e ≤ 30000) (K : Bool → List UInt8 → List UInt8 → Int → Int → Prop)
  (hK : ∀ a b g, Can n a b g → a ≠ 0 → V false a b g = V false A B e → (nb a).length ≤ 8192 → (nb b).length ≤ 8192 → K n (nb a) (nb b) g 0) : mkE n A B e K := by
 obtain ⟨r1, r2, r3⟩ := ym7 hA hB
 have l1 := yf0 A P hA lA
 have l2 := yf0 B P hB lB
 have w : win (rdE A B e) := by unfold win rdE; omega
 have q1 : rdA A B < 2 ^ P := Nat.lt_of_le_of_lt (Nat.le_trans (Nat.div_le_self _ _) (Nat.div_le_self _ _)) lA
 have q2 : rdB A B < 2 ^ P := Nat.lt_of_le_of_lt (Nat.le_trans (Nat.div_le_self _ _) (Nat.div_le_self _ _)) lB
 unfold mkE
 rw [if_neg hA, if_pos w]
 exact hK _ _ _ ⟨ycS q1 (by omega), ycS q2 (by omega), r2, w, fun hh => by omega, fun _ => ⟨r1, r3⟩⟩ (by omega) (ytJ false e hA hB) (ype hP q1) (ype hP q2)
theorem yrJ (S v : Nat) {k : Nat} (hv : 0 < v) (hv2 : v < 2 ^ k) {e at_ : Int} (h : e < at_) : FS S e true at_ = FX (S * 2 ^ k + v) 1 (e - k) at_ := by
 unfold FS FX
 obtain ⟨j, hj⟩ : ∃ j : Nat, (j : Int) = at_ - e := ⟨(at_ - e).toNat, by omega⟩
 rw [if_neg (by omega), if_neg (by omega), Bool.not_true, Bool.and_false, show (at_ - e).toNat = j from by omega, show (at_ - (e - k)).toNat = k + j from by omega, Nat.one_mul, Nat.pow_add]
 have hd : (S * 2 ^ k + v) / 2 ^ k = S := by rw [Nat.mul_comm, Nat.mul_add_div (Nat.two_pow_pos _), Nat.div_eq_of_lt hv2, Nat.add_zero]
 refine Prod.ext ?_ ?_
 ·show S / 2 ^ j = (S * 2 ^ k + v) / (2 ^ k * 2 ^ j)
  rw [← Nat.div_div_eq_div_mul, hd]
 ·show false = decide ((S * 2 ^ k + v) % (2 ^ k * 2 ^ j) = 0)
  symm
  rw [decide_eq_false_iff_not]
  intro hh
  have h1 := Nat.div_add_mod (S * 2 ^ k + v) (2 ^ k * 2 ^ j)
  rw [hh, Nat.mul_assoc, Nat.add_zero] at h1
  have h2 : (S * 2 ^ k + v) % 2 ^ k = v := by rw [Nat.mul_comm, Nat.mul_add_mod, Nat.mod_eq_of_lt hv2]
  rw [← h1, Nat.mul_mod_right] at h2
  omega
theorem ysN {S v k : Nat} (h0 : S ≠ 0) (hv2 : v < 2 ^ k) : yav (S * 2 ^ k + v) = yav S + k := by
 have h1 := ykU h0 k
 have h2 := (yaL S _).1 (Nat.le_refl _)
 have h3 := yfC h0
 have u : yav (S * 2 ^ k + v) ≤ yav S + k := by
  rw [yaL, Nat.pow_add]
  have := Nat.mul_le_mul_right (2 ^ k) h2
  rw [Nat.succ_mul] at this; omega
 have l : ¬ yav (S * 2 ^ k + v) ≤ yav S - 1 + k := by rw [yaL]; omega
 omega
theorem roundRule (a0 a1 : Int) (a2_0 : Bool) (a2_1 : Nat → Int) (a2_2 : Int) (a2_3 : Bool) (a3 : Int) (w0 : (Lit.int .u8 a0).wf = true) (w1 : (Lit.int .u8 a1).wf = true)
  (w2 : ∀ i, i < 6 → (Lit.int .u64 (a2_1 i)).wf = true) (z2 : ∀ i, 6 ≤ i → a2_1 i = 0) (w3 : (Lit.int .i64 a2_2).wf = true) (w4 : (Lit.int .u64 a3).wf = true)
  (K : Bool → Prop) (hK : K true) : zao a0 a1 a2_0 a2_1 a2_2 a2_3 a3 K := by
 obtain ⟨f, rfl, hf⟩ := yrD w0
 obtain ⟨m, rfl, hm⟩ := yrD w1
 obtain ⟨S, hS, rfl⟩ := yr3 _ w2 z2
 have hal : zap fun y0 => K y0 := yim _ hK
 rw [zao.is]; unfold zao.d
 by_cases h : f ≤ 3
 rotate_left
 ·rw [ykg f (by omega)]; exact hal
 rw [yke f h, yaw (show (!true) = false from rfl)]
 by_cases hm4 : m ≤ 4
 rotate_left
 ·rw [ygu m (by omega)]; exact hal
 rw [ygz m hm4, yaw (show (!true) = false from rfl)]
 have w := yd2 f h
 have may : ∀ Q : Bool → Prop, Q false → ((a2_3 = true → fp f + 2 ≤ yav S) → Q true) → zcs f a2_0 (W S) a2_2 a2_3 Q := by
  intro Q q1 q2
  rw [zcs.is]; unfold zcs.d
  by_cases c1 : -1048576 ≤ a2_2
  rotate_left
  ·rw [yaw (yeK (by omega))]; exact q1
  rw [yaD (yba c1)]
  by_cases c2 : a2_2 ≤ 1048576
  rotate_left
  ·rw [yaw (yeK (by omega))]; exact q1
  rw [yaD (yba c2)]
  cases a2_3 with
  | false => exact q2 (fun hh => by cases hh)
  | true =>
   rw [yaw (show (!true) = false from rfl)]
   refine yor S hS _ ?_
   rw [ygy f h, yap (by omega) (by omega)]
   by_cases c3 : fp f + 2 ≤ yav S
   ·rw [yba (by omega)]; exact q2 fun _ => c3
   ·rw [yeK (by omega)]; exact q1
 refine may _ hal fun hmo => ?_
 rw [yaw (show (!true) = false from rfl), yfh S hS]
 refine ylf (fun _ => hal) fun h0 => ?_
 by_cases c1 : (20000 : Int) < a2_2
 ·rw [yaD (ya9 c1)]; exact hal
 rw [yaw (ybe (by omega))]
 by_cases c2 : a2_2 < -20000
 ·rw [yaD (ya9 c2)]; exact hal
 rw [yaw (ybe (by omega))]
 obtain ⟨N, hN⟩ : ∃ N, N = 384 := ⟨_, rfl⟩
 obtain ⟨P, hP⟩ : ∃ P, P = 450 := ⟨_, rfl⟩
 obtain ⟨k, hk⟩ : ∃ k, k = 60 := ⟨_, rfl⟩
 have hQ := ycK hN
 have l2 : S * 2 ^ k + 2 ^ k < 2 ^ P := by
  have h1 : S + 1 ≤ 2 ^ N := by omega
  have h2 := Nat.mul_le_mul_right (2 ^ k) h1
  rw [Nat.succ_mul, ← Nat.pow_add] at h2
  exact Nat.lt_of_le_of_lt h2 (Nat.pow_lt_pow_right (by omega) (by omega))
 have hkp := Nat.two_pow_pos k
 have hf1 : fit (S * 2 ^ k) := ycS (P := P) (by omega) (by omega)
 have eK : (60 : Int).toNat = k := by rw [hk]; rfl
 obtain ⟨p, q, r, s, hd⟩ := yr6 f m a2_0 (FS S a2_2 a2_3) ((yav S : Int) - 1 + a2_2)
 have hs : s = 0 := by
  have h1 := (hd fun _ _ _ d => d = 0).1 (by
   unfold dlv; (repeat' split) <;> rfl)
  exact h1
 subst hs
 have fin_ : ∀ (v : Nat), v < 2 ^ k → (a2_3 = true → 0 < v) → (a2_3 = false → v = 0) → zcn a2_0 (nb (S * 2 ^ k + v)) [1] (yan IntKind.i64 a2_2 60) fun y0 y1 y2 y3 y4 => zcu f m a2_0 (W S) a2_2 a2_3 fun y0_1 y1_1 y2_1 y3_1 => zcz f m y0 y1 y2 y3 fun y0 y1 y2 y3 => br (eqI y3_1 0) (br (eqI y3 0) (br (eqI y0_1 y0 && eqI y1_1 y1) (br (eqI y2_1 y2) (zap fun y0 => K y0) (K false)) (K false)) (K false)) (K false) := by
  intro v hv hv1 hv0
  have hA0 : S * 2 ^ k + v ≠ 0 := by
   have := Nat.mul_ne_zero h0 (show 2 ^ k ≠ 0 by omega); omega
  rw [← yfE, yas (by omega) (by omega)]
  refine yoq a2_0 (ycS (P := P) (by omega) (by omega)) yhn (by decide) (by unfold win; omega) ?_
  refine ys6 a2_0 hA0 (by decide) (by omega) (P := P) (by omega) (by omega) (by omega) _ fun a b g c ha hv' la lb => ?_
  refine yjJ f m h hm4 _ h0 hS (by omega) _ hmo _ ((hd _).2 ?_)
  refine yji h hm4 c ha la lb _ ?_
  have t1 := ytj g ha c.b0
  have t2 := ytj (a2_2 - 60) hA0 (show (1 : Nat) ≠ 0 by decide)
  rw [hv'] at t1
  have htop : tp a b + g = (yav S : Int) - 1 + a2_2 := by
   rw [yq7 t1.1 t1.2 t2.1 t2.2, yoP hA0, ysN h0 hv]; omega
  rw [yr2 c.b0 (by decide) hv', htop]
  refine (ypM (F := FS S a2_2 a2_3) m a2_0 (fun at_ hat => ?_) _).1 ((hd _).2 ?_)
  ·cases hmr : a2_3 with
   | true =>
    have := yrJ S v (k := k) (hv1 hmr) hv (e := a2_2) (at_ := at_) (by have := hmo hmr; omega)
    rw [show a2_2 - 60 = a2_2 - (k : Int) from by omega]; exact this
   | false =>
    rw [hv0 hmr, Nat.add_zero, show a2_2 - 60 = a2_2 - (k : Int) from by omega, ← ytz, ysS]
  ·rw [ygF, ygF, ygF, ygF]; exact hal
 refine yjM S hS _ ?_
 refine ynu 60 (by omega) (by omega) (ymJ hS) (yeR (fun f1 => ?_) fun f1 => absurd (by rw [eK]; exact hf1) f1)
 rw [eK]
 cases hmr : a2_3 with
 | false =>
  rw [hmr] at fin_
  rw [yaw rfl]
  have := fin_ 0 hkp (fun hh => by cases hh) (fun _ => rfl)
  rw [Nat.add_zero] at this
  exact this
 | true =>
  rw [hmr] at fin_
  rw [yaD rfl]
  obtain ⟨a, rfl, ha⟩ := yoM w4
  have hr : yai .u64 (ycm .u64 (a : Int) 1152921504606846975) 1 = ((a % 1152921504606846975 + 1 : Nat) : Int) := by
   have e1 : ycm .u64 (a : Int) 1152921504606846975 = ((a % 1152921504606846975 : Nat) : Int) := by
    show Int.tmod _ _ = _
    rw [Int.tmod_eq_emod_of_nonneg (by omega)]; omega
   rw [e1, yfQ (by omega) (by omega)]; omega
  rw [hr]
  have hv : a % 1152921504606846975 + 1 < 2 ^ k := by rw [hk]; have : (2 : Nat) ^ 60 = 1152921504606846976 := rfl; omega
  refine ypi _ (by omega) _ ?_
  refine ypY hf1 (ycS (P := k) hv (by omega)) (yeR (fun f2 => ?_) fun f2 => absurd (ycS (P := P) (by omega) (by omega)) f2)
  exact fin_ _ hv (fun _ => by omega) (fun hh => by cases hh)
end Go.Ev.S
