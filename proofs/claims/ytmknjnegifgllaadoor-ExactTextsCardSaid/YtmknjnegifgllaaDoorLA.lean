/- Functions of Go's library by contracts that are proved elsewhere: that they fit the evaluator. -/
import Derived.Test.YtmknjnegifgllaaDoorEvC
import Derived.Below
import Derived.Sort.Grow
import Derived.Deep.Draws
import Derived.Lib.LaidTab
import Derived.Stop.LaidErr
import Derived.Test.YtmknjnegifgllaaDoorDA
import Derived.Shelf.Strconv.Itoa4
import Derived.Shelf.Strconv.AtoiAll
import Derived.Shelf.Strings.Search1
import Derived.KernelRfl
set_option linter.unusedVariables false
set_option linter.unusedSimpArgs false
namespace Go.Ev.S
open Go Go.Ev Go.RowKit Go.Sort
theorem yne {ρ : Ren} {H : yae} {w w' : World} (hS : Sim ρ H w) (h : Below w.heap.size w w') : Ext ρ w ρ w' ∧ Sim ρ H w' := by
 have hx : Ext ρ w ρ w' := ⟨h.os, h.tape, h.output, h.size, fun b hb _ => h.block b hb, fun _ _ hh => hh, fun _ _ hh => hh, fun _ _ hh => .inl hh, fun b cs e fz hh =>
  ⟨cs, e, fz, (h.block b (by rw [Array.getElem?_eq_some_iff] at hh; exact hh.1)).trans hh, rfl⟩⟩
 refine ⟨hx, hS.len, fun b hb => Nat.lt_of_lt_of_le (hS.fl b hb) h.size, fun b r hb => Nat.lt_of_lt_of_le (hS.lt b r hb) h.size, hS.sep, hS.nodup, fun b v hb => ?_⟩
 obtain ⟨r, h1, h2, cs, e, fz, x, h3, h4, h5, h6, h7⟩ := hS.live b v hb
 have hbl := h.block r.mb (hS.lt b r h1)
 exact ⟨r, h1, h2, cs, e, fz, x, hbl.trans h3, h4, Rel.ext hx _ _ h5, h6, h7.keep hbl⟩
theorem ypC {ρ : Ren} {H : yae} {w : World} (hS : Sim ρ H w) : ∀ b, b ∈ ρ.mbs → b < w.heap.size := by
 intro b hb
 rcases List.mem_append.1 hb with h | h
 ·exact hS.fl b h
 ·obtain ⟨c, r, hr, rfl⟩ := ybK h
  exact hS.lt c r hr
theorem SoundE.shelf {P : Program} {gl : Nat → Option EV} {f : FuncId} {en : Entry} (hk : ∃ fn, P.funcs[f]? = some fn ∧ fn.body.isNone = false ∧ (fn.name == "runtime.NumGoroutine") = false)
  (hd : ∀ args H, Det2 (en.spec args H))
  (hs : ∀ (ρ : Ren) (H : yae) (w : World) (args : List EV) (xs : List Value) (K : EV → yae → Prop), en.spec args H K → RelL ρ w args xs → GOk gl ρ w → (∀ b, b ∈ ρ.mbs → b < w.heap.size) →
   Calls P f xs.toArray w fun e w' => (∃ v x, e = .returned x ∧ K v H ∧ Rel ρ w' v x) ∧ Below w.heap.size w w') : SoundE P gl f en := by
 refine ⟨?_, hd, hk⟩
 intro ρ H w args xs K h hr hS hG
 refine (hs ρ H w args xs K h hr hG (ypC hS)).mono ?_
 rintro e w' ⟨⟨v, x, he, hK, hv⟩, hb⟩
 obtain ⟨h1, h2⟩ := yne hS hb
 exact ⟨v, x, H, ρ, he, hK, hv, h2, h1, rfl⟩
theorem yl4 (w : World) (k : Nat) (os : Array Obj) : Below w.heap.size w (grow (w.drewN k) os) := by
 refine ⟨rfl, rfl, rfl, ?_, fun b hb => ?_⟩
 ·show _ ≤ (w.heap ++ os).size; rw [Array.size_append]; omega
 ·show (w.heap ++ os)[b]? = _; rw [Array.getElem?_append_left hb]
theorem yot {P : Program} {gl : Nat → Option EV} {ρ : Ren} {w : World} {nm : String} {g n : Nat} {k : IntKind} {zs : List Int} {T : Nat → Int} (hG : GOk gl ρ w) (hg : P.globalNamed nm = some g) (hv : gl g = some (.arr k n T)) (hT : T = fun i => zs.getD i 0) (hn : zs.length = n) :
  Go.Lib.TabIs P w nm k zs := by
 obtain ⟨_, h1, h2⟩ := hG g _ hv
 obtain ⟨cs, t, fz, h3, h4⟩ := h2 k n T rfl
 obtain ⟨b, o, y, e, hy, hb, hm, hc⟩ := h1
 cases e
 have hy' : y = .agg (yaX k n T).toArray := hy
 subst hy'
 unfold Go.Lib.TabIs World.var?
 rw [hg]
 show (match w.heap[g]? with | some (.cells cs _ _) => some cs | _ => none) = _
 rw [h3]
 show some cs = _
 congr 1
 apply Array.ext_getElem?
 intro i
 by_cases hi : i < n
 ·have h5 := hc i (by simpa [Value.cells, yag] using hi)
  rw [Nat.zero_add] at h5
  have h6 : w.cell? ⟨g, i, none⟩ = cs[i]? := by
   simp only [World.cell?, h3]; rfl
  rw [h6] at h5
  rw [h5]
  simp only [Value.cells, List.getElem?_toArray]
  rw [yaq _ _ _ _ hi, hT]
  simp [List.getD, List.getElem?_eq_getElem (show i < zs.length by omega)]
 ·rw [Array.getElem?_eq_none (by omega), Array.getElem?_eq_none (by simp; omega)]
noncomputable def yf0 : Nat → Int := Classical.choose (⟨fun i => Go.Lib.pow10Tab.getD i 0, rfl⟩ : ∃ f, f = fun i => Go.Lib.pow10Tab.getD i 0)
theorem tab_pow10_is : yf0 = fun i => Go.Lib.pow10Tab.getD i 0 := Classical.choose_spec (⟨fun i => Go.Lib.pow10Tab.getD i 0, rfl⟩ : ∃ f, f = fun i => Go.Lib.pow10Tab.getD i 0)
noncomputable def ymC : Entry := ⟨[none], false, fun args H K => match args, H with
 | [.int .i64 a0], [] => zbx a0 (fun y0 => K (EV.str y0) [])
 | _, _ => False⟩
theorem yo7 {P : Program} {r : Go.Shelf.Ren} (L : Go.Proofs.LaysM.n171 P r) {gl : Nat → Option EV} {f g : Nat} (hf : r.f 171 = f) (hg : P.globalNamed "internal/strconv.uint64pow10" = some g) (hv : gl g = some (.arr .u64 20 yf0))
  (hk : ∃ fn, P.funcs[f]? = some fn ∧ fn.body.isNone = false ∧ (fn.name == "runtime.NumGoroutine") = false) : SoundE P gl f ymC := by
 subst hf
 refine SoundE.shelf hk (fun args H K h => ?_) ?_
 ·simp only [ymC] at h ⊢
  split at h
  ·rw [zbx.is] at h ⊢
   obtain ⟨h1, h2⟩ := h
   exact ⟨_, _, h2, fun K' hk => ⟨h1, hk⟩⟩
  ·exact h.elim
 ·intro ρ H w args xs K h hr hG hm
  simp only [ymC] at h
  split at h
  ·rename_i a0
   rw [zbx.is] at h
   obtain ⟨⟨h1, h2⟩, h3⟩ := h
   obtain ⟨x, ys, rfl, hx, hys⟩ := hr
   obtain rfl : ys = [] := hys
   obtain rfl : x = .int .i64 a0 := hx
   refine (Go.Proofs.Any.strconv_Itoa L a0 h1 h2 w (yot hG hg hv tab_pow10_is (by rw [Go.Lib.pow10Tab_length]))).mono ?_
   rintro e w' ⟨rfl, k, os, rfl⟩
   exact ⟨⟨_, _, rfl, h3, rfl⟩, yl4 _ _ _⟩
  ·exact h.elim
end Go.Ev.S

/- Numbers of several words as natural ones; bits set one by one. -/
set_option linter.unusedVariables false
set_option linter.unusedSimpArgs false
namespace Go.Ev.S
open Go Go.Ev
theorem yoE {i n : Int} (h : 0 ≤ i) (h2 : i < n) : (leI 0 i && ltI i n) = true := by rw [yaQ h, ybm h2]; rfl
theorem ypO {i : Int} (h : 0 ≤ i) : (!ltI i 0) = true := by rw [yca h]; rfl
theorem ymi (a b : Nat) (ha : a < 9223372036854775808) (hb : 0 < b) : ya1 .i64 (a : Int) (b : Int) = ((a / b : Nat) : Int) := by
 have h : a / b ≤ a := Nat.div_le_self a b
 show IntKind.wrap .i64 ((a : Int).tdiv b) = _
 rw [Int.tdiv_eq_ediv_of_nonneg (by omega)]
 have : (a : Int) / (b : Int) = ((a / b : Nat) : Int) := by simp
 rw [this]
 generalize a / b = q at h ⊢
 exact ydP (by omega) (by omega)
theorem ymh (k : IntKind) (a b : Nat) : ycn k (a : Int) (b : Int) = ((a % b : Nat) : Int) := by
 show (a : Int).tmod b = _
 rw [Int.tmod_eq_emod_of_nonneg (by omega)]
 simp
theorem ymp {i : Nat} (h : i < 64) : 2 ^ i < 18446744073709551616 := Nat.pow_lt_pow_right (a := 2) (m := i) (n := 64) (by omega) h
theorem yoK (a b : Nat) : ltI (a : Int) (b : Int) = decide (a < b) := by simp [ltI]
theorem ymZ {a b : Int} (h : 0 ≤ a - b) (h2 : a - b < 18446744073709551616) : yaw .u64 a b = a - b := yhm h h2
theorem yjR {a b : Int} (h : 0 ≤ a + b) (h2 : a + b < 18446744073709551616) : yal .u64 a b = a + b := yhm h h2
def Q6 : Nat := 2 ^ 192 * 2 ^ 192
theorem ypy {n : Nat} (h : n = 384) : 2 ^ n = Q6 := by
 obtain ⟨a, ha⟩ : ∃ a, a = 192 := ⟨_, rfl⟩
 have : n = a + a := by omega
 rw [this, Nat.pow_add, ha]; exact rfl
theorem ypL {a : Nat} (h : a ≤ 384) : 2 ^ a ≤ Q6 := by
 obtain ⟨n, hn⟩ : ∃ n, n = 384 := ⟨_, rfl⟩
 rw [← ypy hn]; exact Nat.pow_le_pow_right (by omega) (by omega)
theorem yp3 {a : Nat} (h : a ≤ 384) {x : Nat} (hx : x < 2 ^ a) : x < Q6 := Nat.lt_of_lt_of_le hx (ypL h)
def wd (x i : Nat) : Nat := x / 2 ^ (64 * i) % 18446744073709551616
def W (x : Nat) : Nat → Int := fun i => ((wd x i : Nat) : Int)
def Hi (x : Nat) : Int := ((x / 18446744073709551616 : Nat) : Int)
def Lo (x : Nat) : Int := ((x % 18446744073709551616 : Nat) : Int)
def two (hi lo : Nat) : Nat := hi * 18446744073709551616 + lo
end Go.Ev.S

/- Digits of natural numbers, as rows have them; texts of bytes as numbers. -/
set_option linter.unusedVariables false
set_option linter.unusedSimpArgs false
namespace Go.Ev.S
open Go Go.Ev
def dg (k x i : Nat) : Nat := x / 2 ^ (k * i) % 2 ^ k
def G (k x : Nat) : Nat → Int := fun i => ((dg k x i : Nat) : Int)
theorem ybp (k x i : Nat) : G k x i = ((dg k x i : Nat) : Int) := rfl
theorem ycx (k i : Nat) : 2 ^ (k * (i + 1)) = 2 ^ (k * i) * 2 ^ k := by rw [show k * (i + 1) = k * i + k from by rw [Nat.mul_add, Nat.mul_one], Nat.pow_add]
theorem ya4 (k x i : Nat) : dg k x i < 2 ^ k := Nat.mod_lt _ (Nat.two_pow_pos k)
theorem ydf (k x i : Nat) (h : x < 2 ^ (k * i)) : dg k x i = 0 := by unfold dg; rw [Nat.div_eq_of_lt h, Nat.zero_mod]
theorem yfE {k i j : Nat} (h : i ≤ j) : 2 ^ (k * i) ≤ 2 ^ (k * j) := Nat.pow_le_pow_right (by omega) (Nat.mul_le_mul_left k h)
theorem yfM (k x n i : Nat) (h : x < 2 ^ (k * n)) (hi : n ≤ i) : dg k x i = 0 := ydf k x i (Nat.lt_of_lt_of_le h (yfE hi))
theorem yc7 (k : Nat) : G k 0 = fun _ => 0 := by
 funext i
 rw [ybp, ydf k 0 i (Nat.two_pow_pos _)]; rfl
theorem ybl (k x i : Nat) : x % 2 ^ (k * (i + 1)) = x % 2 ^ (k * i) + dg k x i * 2 ^ (k * i) := by
 unfold dg
 rw [ycx, Nat.mod_mul, Nat.mul_comm (2 ^ (k * i))]
theorem ycE (k x i : Nat) : x / 2 ^ (k * i) = dg k x i + x / 2 ^ (k * (i + 1)) * 2 ^ k := by
 unfold dg
 rw [ycx, ← Nat.div_div_eq_div_mul]
 have := Nat.div_add_mod (x / 2 ^ (k * i)) (2 ^ k)
 rw [Nat.mul_comm] at this
 omega
theorem ykC (k x i j : Nat) : dg k (x / 2 ^ (k * i)) j = dg k x (i + j) := by
 unfold dg
 rw [Nat.div_div_eq_div_mul, ← Nat.pow_add, Nat.mul_add]
theorem ynk (k x i j : Nat) (h : j < i) : dg k (x % 2 ^ (k * i)) j = dg k x j := by
 unfold dg
 have h1 : 2 ^ (k * i) = 2 ^ (k * j) * (2 ^ k * 2 ^ (k * (i - j - 1))) := by
  rw [← Nat.pow_add, ← Nat.pow_add]; congr 1
  have : i = j + (1 + (i - j - 1)) := by omega
  conv => lhs; rw [this]
  rw [Nat.mul_add, Nat.mul_add, Nat.mul_one]
 rw [h1, Nat.mod_mul_right_div_self, Nat.mod_mul_right_mod]
theorem yoP (k x : Nat) (h : x < 2 ^ k) : dg k x 0 = x := by unfold dg; rw [Nat.mul_zero, Nat.pow_zero, Nat.div_one, Nat.mod_eq_of_lt h]
theorem ymy (k z w i j : Nat) (hz : z < 2 ^ (k * i)) (hw : w < 2 ^ k) : dg k (z + w * 2 ^ (k * i)) j = if j = i then w else dg k z j := by
 have hP := Nat.two_pow_pos (k * i)
 by_cases hj : j = i
 ·subst hj
  rw [if_pos rfl]
  unfold dg
  rw [Nat.add_mul_div_right _ _ hP, Nat.div_eq_of_lt hz, Nat.zero_add, Nat.mod_eq_of_lt hw]
 ·rw [if_neg hj]
  by_cases hlt : j < i
  ·have h1 := ynk k (z + w * 2 ^ (k * i)) i j hlt
   rw [Nat.add_mul_mod_self_right, Nat.mod_eq_of_lt hz] at h1
   exact h1.symm
  ·rw [yfM k z i j hz (by omega), ydf]
   have h1 : z + w * 2 ^ (k * i) < 2 ^ (k * (i + 1)) := by
    rw [ycx, Nat.mul_comm (2 ^ (k * i))]
    have : (w + 1) * 2 ^ (k * i) ≤ 2 ^ k * 2 ^ (k * i) := Nat.mul_le_mul_right _ hw
    rw [Nat.add_mul, Nat.one_mul] at this
    omega
   exact Nat.lt_of_lt_of_le h1 (yfE (by omega))
theorem yjl (k z w i : Nat) (hz : z < 2 ^ (k * i)) (hw : w < 2 ^ k) : z + w * 2 ^ (k * i) < 2 ^ (k * (i + 1)) := by
 rw [ycx, Nat.mul_comm (2 ^ (k * i))]
 have : (w + 1) * 2 ^ (k * i) ≤ 2 ^ k * 2 ^ (k * i) := Nat.mul_le_mul_right _ hw
 rw [Nat.add_mul, Nat.one_mul] at this
 omega
theorem ylA (k z w i : Nat) (hz : z < 2 ^ (k * i)) (hw : w < 2 ^ k) : upd (G k z) i (w : Int) = G k (z + w * 2 ^ (k * i)) := by
 funext j
 rw [ybp, ymy k z w i j hz hw]
 by_cases hj : j = i
 ·subst hj; rw [ydH, if_pos rfl]
 ·rw [ygb _ _ _ _ hj, if_neg hj, ybp]
theorem yfz (k x i : Nat) : x = x % 2 ^ (k * i) + dg k x i * 2 ^ (k * i) + x / 2 ^ (k * (i + 1)) * 2 ^ (k * (i + 1)) := by
 have h1 := Nat.div_add_mod x (2 ^ (k * (i + 1)))
 rw [ybl, Nat.mul_comm] at h1
 omega
theorem ypa (k x w i j : Nat) (hw : w < 2 ^ k) : dg k (x % 2 ^ (k * i) + w * 2 ^ (k * i) + x / 2 ^ (k * (i + 1)) * 2 ^ (k * (i + 1))) j = if j = i then w else dg k x j := by
 have hP := Nat.two_pow_pos (k * i)
 have hr : x % 2 ^ (k * i) < 2 ^ (k * i) := Nat.mod_lt _ hP
 have hl := yjl k _ w i hr hw
 by_cases hj : j ≤ i
 ·have h1 := ynk k (x % 2 ^ (k * i) + w * 2 ^ (k * i) + x / 2 ^ (k * (i + 1)) * 2 ^ (k * (i + 1))) (i + 1) j (by omega)
  rw [Nat.add_mul_mod_self_right, Nat.mod_eq_of_lt hl, ymy k _ w i j hr hw] at h1
  rw [← h1]
  by_cases he : j = i
  ·simp [he]
  ·rw [if_neg he, if_neg he, ynk k x i j (by omega)]
 ·rw [if_neg (by omega)]
  have h1 := ykC k (x % 2 ^ (k * i) + w * 2 ^ (k * i) + x / 2 ^ (k * (i + 1)) * 2 ^ (k * (i + 1))) (i + 1) (j - (i + 1))
  rw [show i + 1 + (j - (i + 1)) = j from by omega, Nat.add_mul_div_right _ _ (Nat.two_pow_pos _), Nat.div_eq_of_lt hl, Nat.zero_add] at h1
  rw [← h1, ykC, show i + 1 + (j - (i + 1)) = j from by omega]
theorem yoI (k x w i : Nat) (hw : w < 2 ^ k) : upd (G k x) i (w : Int) = G k (x % 2 ^ (k * i) + w * 2 ^ (k * i) + x / 2 ^ (k * (i + 1)) * 2 ^ (k * (i + 1))) := by
 funext j
 rw [ybp, ypa k x w i j hw]
 by_cases hj : j = i
 ·subst hj; rw [ydH, if_pos rfl]
 ·rw [ygb _ _ _ _ hj, if_neg hj, ybp]
def val (a : List UInt8) : Nat := a.foldl (fun v b => v * 256 + b.toNat) 0
theorem yiC (a : List UInt8) : ∀ (v : Nat), a.foldl (fun v b => v * 256 + b.toNat) v = v * 256 ^ a.length + val a := by
 induction a with
 | nil => intro v; simp [val]
 | cons b l ih =>
  intro v
  simp only [List.foldl_cons, List.length_cons, val]
  rw [ih, ih (0 * 256 + b.toNat), Nat.pow_succ]
  rw [Nat.add_mul, Nat.add_mul, Nat.mul_assoc, Nat.mul_comm 256]
  omega
theorem yeR : val [] = 0 := rfl
theorem yfC (b : UInt8) (l : List UInt8) : val (b :: l) = b.toNat * 256 ^ l.length + val l := by
 show (b :: l).foldl _ 0 = _
 rw [List.foldl_cons, yiC, Nat.zero_mul, Nat.zero_add]
theorem yk9 (a b : List UInt8) : val (a ++ b) = val a * 256 ^ b.length + val b := by
 show (a ++ b).foldl _ 0 = _
 rw [List.foldl_append, yiC]
 rfl
theorem yh8 (a : List UInt8) (b : UInt8) : val (a ++ [b]) = val a * 256 + b.toNat := by
 rw [yk9]; simp [val]
theorem ylj (b : UInt8) : b.toNat < 256 := b.toNat_lt
theorem yfa (a : List UInt8) : val a < 256 ^ a.length := by
 induction a with
 | nil => simp [val]
 | cons b l ih =>
  rw [yfC, List.length_cons, Nat.pow_succ]
  have := ylj b
  have : (b.toNat + 1) * 256 ^ l.length ≤ 256 * 256 ^ l.length := Nat.mul_le_mul_right _ (by omega)
  rw [Nat.add_mul] at this
  omega
theorem ynA (n : Nat) : 256 ^ n = 2 ^ (8 * n) := by rw [Nat.pow_mul]
def nb (x : Nat) : List UInt8 := if h : x = 0 then [] else nb (x / 256) ++ [UInt8.ofNat (x % 256)]
decreasing_by omega
theorem ya3 : nb 0 = [] := by rw [nb]; simp
theorem yc6 {x : Nat} (h : x ≠ 0) : nb x = nb (x / 256) ++ [UInt8.ofNat (x % 256)] := by rw [nb]; simp [h]
theorem ykU {n : Nat} (h : n < 256) : (UInt8.ofNat n).toNat = n := by
 rw [UInt8.toNat_ofNat']
 exact Nat.mod_eq_of_lt h
theorem ybQ (x : Nat) : val (nb x) = x := by
 induction x using Nat.strongRecOn with
 | _ x ih =>
  by_cases h : x = 0
  ·subst h; rw [ya3]; rfl
  ·rw [yc6 h, yh8, ih (x / 256) (by omega), ykU (Nat.mod_lt _ (by omega))]
   omega
def yfv (a : List UInt8) : Bool := match a with | [] => true | b :: _ => !(b.toNat == 0)
theorem yf5 {a b : List UInt8} (h : a ≠ []) : yfv (a ++ b) = yfv a := by cases a <;> simp_all [yfv]
theorem ykd (x : Nat) : yfv (nb x) = true := by
 induction x using Nat.strongRecOn with
 | _ x ih =>
  by_cases h : x = 0
  ·subst h; rw [ya3]; rfl
  ·rw [yc6 h]
   by_cases h2 : x / 256 = 0
   ·rw [h2, ya3]
    have : x % 256 ≠ 0 := by omega
    have h3 := ykU (Nat.mod_lt x (show 0 < 256 by omega))
    simp only [List.nil_append, yfv, h3]
    simpa using this
   ·have hne : nb (x / 256) ≠ [] := by rw [yc6 h2]; simp
    rw [yf5 hne]
    exact ih _ (by omega)
theorem yfK {a : List UInt8} (h : yfv a = true) : nb (val a) = a := by
 induction hn : a.length generalizing a with
 | zero => have := List.length_eq_zero_iff.1 hn; subst this; exact ya3
 | succ n ih =>
  have hne : a ≠ [] := by intro e; subst e; simp at hn
  have h1 := List.dropLast_concat_getLast hne
  generalize a.dropLast = c at h1
  generalize a.getLast hne = b at h1
  subst h1
  have hlen : c.length = n := by simpa using hn
  have hb := ylj b
  rw [yh8]
  by_cases hc : c = []
  ·subst hc
   have : b.toNat ≠ 0 := by simpa [yfv] using h
   rw [yeR, Nat.zero_mul, Nat.zero_add, yc6 this, Nat.div_eq_of_lt hb, ya3, Nat.mod_eq_of_lt hb]
   simp
  ·rw [yf5 hc] at h
   have ihc := ih h hlen
   have hv : val c ≠ 0 := by
    intro e
    rw [e, ya3] at ihc
    exact hc ihc.symm
   rw [yc6 (by omega), show (val c * 256 + b.toNat) / 256 = val c from by omega, show (val c * 256 + b.toNat) % 256 = b.toNat from by omega, ihc]
   simp
theorem yps {x y : Nat} (h : nb x = nb y) : x = y := by rw [← ybQ x, h, ybQ]
theorem yo3 {a b : List UInt8} (ha : yfv a = true) (hb : yfv b = true) (h : val a = val b) : a = b := by rw [← yfK ha, h, yfK hb]
theorem ybS (x n : Nat) : (nb x).length ≤ n ↔ x < 256 ^ n := by
 induction n generalizing x with
 | zero =>
  constructor
  ·intro h
   have : nb x = [] := List.length_eq_zero_iff.1 (by omega)
   have h2 := ybQ x
   rw [this] at h2
   simp [val] at h2 ⊢; omega
  ·intro h
   have : x = 0 := by simp at h; omega
   subst this; rw [ya3]; simp
 | succ n ih =>
  by_cases h : x = 0
  ·subst h; rw [ya3]; simp [Nat.pow_pos]
  ·rw [yc6 h, List.length_append, List.length_singleton, Nat.pow_succ]
   have := ih (x / 256)
   rw [Nat.div_lt_iff_lt_mul (by omega)] at this
   omega
theorem yny {x : Nat} (h : x ≠ 0) : nb x ≠ [] := by rw [yc6 h]; simp
theorem ykJ (a : List UInt8) : ∀ (i : Nat), i < a.length → ((a[a.length - 1 - i]?).getD 0).toNat = dg 8 (val a) i := by
 induction a with
 | nil => intro i hi; simp at hi
 | cons b l ih =>
  intro i hi
  rw [List.length_cons] at hi ⊢
  have hl := yfa l
  rw [ynA] at hl
  rw [yfC, ynA, Nat.add_comm (b.toNat * _)]
  have h2 := ymy 8 (val l) b.toNat l.length i hl (by have := ylj b; simpa using this)
  rw [h2]
  by_cases he : i = l.length
  ·subst he
   rw [if_pos rfl, show l.length + 1 - 1 - l.length = 0 from by omega]
   rfl
  ·rw [if_neg he, show l.length + 1 - 1 - i = (l.length - 1 - i) + 1 from by omega, List.getElem?_cons_succ]
   exact ih i (by omega)
end Go.Ev.S

/- Rows of digits: a digit set, carried, cut; bytes the highest first. Whole numbers of the machine, plainly. -/
set_option linter.unusedVariables false
set_option linter.unusedSimpArgs false
namespace Go.Ev.S
open Go Go.Ev
theorem yaG (p : Prop) : gd true p = p := rfl
theorem yaZ (p q : Prop) : br true p q = p := rfl
theorem yew (p q : Prop) : br false p q = q := rfl
theorem yb0 {a b : Int} (h : 0 ≤ a) (h2 : a < 9223372036854775808) (hb : 0 < b) : ya1 .i64 a b = a / b := by
 show IntKind.wrap .i64 (a.tdiv b) = _
 rw [Int.tdiv_eq_ediv_of_nonneg h]
 have h1 : 0 ≤ a / b := Int.ediv_nonneg h (by omega)
 have h3 : a / b ≤ a := Int.ediv_le_self _ h
 exact ydP (by omega) (by omega)
theorem ygP {k : IntKind} {a b : Int} (h : 0 ≤ a) : ycn k a b = a % b := Int.tmod_eq_emod_of_nonneg h
theorem yct (n : Int) : cvI .u32 n = n % 4294967296 := ykW n
theorem ykE (n : Int) : cvI .u8 n = n % 256 := ynp n
theorem ydZ {k : IntKind} {a : Int} {j : Nat} (h : j ≤ k.bits) : yaS k a (j : Int) = a / 2 ^ j := by
 have h1 : min (Int.toNat (j : Int)) k.bits = j := by rw [Int.toNat_natCast]; omega
 simp only [yaS, h1]
 exact Int.fdiv_eq_ediv_of_nonneg _ (Int.le_of_lt (Int.pow_pos (by omega)))
theorem yeS (a : Int) : yaS .u64 a 32 = a / 4294967296 := ydZ (k := .u64) (j := 32) (by decide)
theorem yl2 (a : Int) : yaS .i64 a 32 = a / 4294967296 := ydZ (k := .i64) (j := 32) (by decide)
theorem ymm (a : Int) : yaS .i64 a 8 = a / 256 := ydZ (k := .i64) (j := 8) (by decide)
theorem ynw {a b : Int} (h : 0 ≤ a * b) (h2 : a * b < 18446744073709551616) : ycB .u64 a b = a * b := yhm h h2
theorem yjd {k N N' w j : Nat} (h : N' + dg k N j * 2 ^ (k * j) = N + w * 2 ^ (k * j)) (hw : w < 2 ^ k) : upd (G k N) j (w : Int) = G k N' := by
 rw [yoI k N w j hw]
 congr 1
 have := yfz k N j
 omega
theorem yoR (g : Nat → Int) (i : Nat) (v w : Int) (h : v = w) : upd g i v = upd g i w := by rw [h]
def wl (k x : Nat) : Nat := if h : x = 0 ∨ k = 0 then 0 else wl k (x / 2 ^ k) + 1
termination_by x
decreasing_by
 have hk : 1 < 2 ^ k := Nat.one_lt_two_pow (by omega)
 exact Nat.div_lt_self (by omega) hk
theorem ycQ (k : Nat) : wl k 0 = 0 := by rw [wl]; simp
theorem yg3 {k x : Nat} (hx : x ≠ 0) (hk : k ≠ 0) : wl k x = wl k (x / 2 ^ k) + 1 := by rw [wl]; simp [hx, hk]
theorem ydU (k : Nat) (hk : k ≠ 0) (x : Nat) : x < 2 ^ (k * wl k x) := by
 induction x using Nat.strongRecOn with
 | _ x ih =>
  by_cases h : x = 0
  ·subst h; exact Nat.two_pow_pos _
  ·rw [yg3 h hk, ycx]
   have := ih (x / 2 ^ k) (Nat.div_lt_self (by omega) (Nat.one_lt_two_pow hk))
   exact (Nat.div_lt_iff_lt_mul (Nat.two_pow_pos k)).1 this
theorem yfh (k : Nat) (hk : k ≠ 0) (x n : Nat) : wl k x ≤ n ↔ x < 2 ^ (k * n) := by
 constructor
 ·intro h; exact Nat.lt_of_lt_of_le (ydU k hk x) (yfE h)
 ·induction n generalizing x with
  | zero =>
   intro h
   have : x = 0 := by simp at h; omega
   subst this; rw [ycQ]; omega
  | succ n ih =>
   intro h
   by_cases hx : x = 0
   ·subst hx; rw [ycQ]; omega
   ·rw [yg3 hx hk]
    have := ih (x / 2 ^ k) (by rw [Nat.div_lt_iff_lt_mul (Nat.two_pow_pos k), ← ycx]; exact h)
    omega
theorem ykx (k : Nat) (hk : k ≠ 0) (x : Nat) (h : x ≠ 0) : dg k x (wl k x - 1) ≠ 0 := by
 intro he
 have h1 := ydU k hk x
 have hp : wl k x ≠ 0 := by rw [yg3 h hk]; omega
 have h2 := ybl k x (wl k x - 1)
 rw [show wl k x - 1 + 1 = wl k x from by omega, Nat.mod_eq_of_lt h1, he, Nat.zero_mul, Nat.add_zero] at h2
 have h3 : x < 2 ^ (k * (wl k x - 1)) := by
  have := Nat.mod_lt x (Nat.two_pow_pos (k * (wl k x - 1)))
  omega
 have := (yfh k hk x _).2 h3
 omega
theorem yp0 (k : Nat) (hk : k ≠ 0) (x n : Nat) (h : x < 2 ^ (k * n)) (ht : n = 0 ∨ dg k x (n - 1) ≠ 0) : wl k x = n := by
 have h1 := (yfh k hk x n).2 h
 rcases ht with rfl | ht
 ·omega
 ·apply Classical.byContradiction
  intro hne
  exact ht (ydf k x (n - 1) ((yfh k hk x (n - 1)).1 (by omega)))
theorem ypS (x : Nat) : wl 8 x = (nb x).length := by
 have h1 := (yfh 8 (by omega) x (nb x).length).2 (by rw [← ynA]; exact (ybS x _).1 (Nat.le_refl _))
 have h2 := (ybS x (wl 8 x)).2 (by rw [ynA]; exact ydU 8 (by omega) x)
 omega
theorem ybB {k x y : Nat} (hk : k ≠ 0) (h : x ≤ y) : wl k x ≤ wl k y := (yfh k hk x _).2 (Nat.lt_of_le_of_lt h (ydU k hk y))
theorem ynU : ∀ (n x : Nat) (g : Nat → Int), (∀ j, j < n → g j = (dg 8 x (n - 1 - j) : Int)) → x < 2 ^ (8 * n) → (n = 0 ∨ dg 8 x (n - 1) ≠ 0) → yaL n g = nb x := by
 intro n
 induction n with
 | zero =>
  intro x g _ hx _
  have : x = 0 := by simp at hx; omega
  subst this; rw [ya3]; rfl
 | succ n ih =>
  intro x g hg hx ht
  have hx0 : x ≠ 0 := by
   intro e; subst e
   rcases ht with h | h
   ·omega
   ·exact h (ydf 8 0 _ (Nat.two_pow_pos _))
  have e8 : (2 : Nat) ^ 8 = 256 := rfl
  have hd : ∀ j, dg 8 (x / 256) j = dg 8 x (1 + j) := fun j => by
   have := ykC 8 x 1 j
   rwa [show 2 ^ (8 * 1) = 256 from rfl] at this
  have h1 : yaL n g = nb (x / 256) := by
   refine ih (x / 256) g (fun j hj => ?_) ?_ ?_
   ·rw [hg j (by omega), hd]; congr 2; omega
   ·rw [Nat.div_lt_iff_lt_mul (by omega)]; rw [ycx, e8] at hx; exact hx
   ·rcases Nat.eq_zero_or_pos n with h | h
    ·exact .inl h
    ·right
     rw [hd, show 1 + (n - 1) = n + 1 - 1 from by omega]
     exact ht.resolve_left (by omega)
  have h2 : yaL (n + 1) g = yaL n g ++ [UInt8.ofNat (g n).toNat] := by
   unfold yaL
   rw [List.range_succ, List.map_append]; rfl
  rw [h2, h1, yc6 hx0, hg n (by omega), Int.toNat_natCast, show n + 1 - 1 - n = 0 from by omega]
  congr 2
  unfold dg
  rw [Nat.mul_zero, Nat.pow_zero, Nat.div_one]
theorem ykh (n o : Nat) (g : Nat → Int) : yaL n (shift o g) = yaL n (fun j => g (o + j)) := by
 unfold yaL
 refine List.map_congr_left fun i _ => ?_
 rw [ybH]
def BE (L i x : Nat) : Nat → Int := fun j => if L - i ≤ j ∧ j < L then (dg 8 x (L - 1 - j) : Int) else 0
theorem yml (L x : Nat) : BE L 0 x = fun _ => 0 := by
 funext j; unfold BE; rw [if_neg (by omega)]
theorem ymU (L i x : Nat) (hi : i < L) : upd (BE L i x) (L - 1 - i) (dg 8 x i : Int) = BE L (i + 1) x := by
 funext j
 by_cases hj : j = L - 1 - i
 ·subst hj
  rw [ydH]; unfold BE
  rw [if_pos (by omega), show L - 1 - (L - 1 - i) = i from by omega]
 ·rw [ygb _ _ _ _ hj]; unfold BE
  by_cases h : L - i ≤ j ∧ j < L
  ·rw [if_pos h, if_pos (by omega)]
  ·rw [if_neg h, if_neg (by omega)]
theorem ypw (L x j : Nat) (hj : j < L) : BE L L x j = (dg 8 x (L - 1 - j) : Int) := by unfold BE; rw [if_pos (by omega)]
theorem ykK (L o n x : Nat) (ho : o + n = L) (hx : x < 2 ^ (8 * n)) (ht : n = 0 ∨ dg 8 x (n - 1) ≠ 0) : yaL n (fun j => BE L L x (o + j)) = nb x := by
 refine ynU n x _ (fun j hj => ?_) hx ht
 rw [ypw L x _ (by omega)]; congr 2; omega
end Go.Ev.S

/- Natural numbers as rows of words: made of texts, told as texts, cut, held against each other. -/
set_option linter.unusedVariables false
set_option linter.unusedSimpArgs false
set_option maxRecDepth 8000
namespace Go.Ev.S
open Go Go.Ev
theorem ypj {k : IntKind} (hk : k.signed = false) (a b : Nat) (ha : a < 2 ^ k.bits) (hb : b < 2 ^ k.bits) : orI k a b = ((a ||| b : Nat) : Int) := by
 have h3 : a ||| b < 2 ^ k.bits := Nat.or_lt_two_pow ha hb
 show IntKind.wrap k (((BitVec.ofInt k.bits (a : Int) ||| BitVec.ofInt k.bits (b : Int) : BitVec k.bits).toNat : Nat) : Int) = _
 rw [BitVec.toNat_or, BitVec.ofInt_natCast, BitVec.ofInt_natCast, BitVec.toNat_ofNat, BitVec.toNat_ofNat, Nat.mod_eq_of_lt ha, Nat.mod_eq_of_lt hb]
 simp only [IntKind.wrap, hk]
 have : ((a ||| b : Nat) : Int) % 2 ^ k.bits = ((a ||| b : Nat) : Int) := by
  refine Int.emod_eq_of_lt (by omega) ?_
  have e : ((2 ^ k.bits : Nat) : Int) = (2 : Int) ^ k.bits := by simp
  rw [← e]; omega
 simpa using this
theorem ymG {k : IntKind} (hk : k.signed = false) (a s : Nat) (hs : s ≤ k.bits) : yc0 k a s = ((a * 2 ^ s % 2 ^ k.bits : Nat) : Int) := by
 have h1 : min (Int.toNat (s : Int)) k.bits = s := by rw [Int.toNat_natCast]; omega
 simp only [yc0, h1, IntKind.wrap, hk]
 simp
theorem yn3 (d b s : Nat) (hd : d < 2 ^ s) (hs : s + 8 ≤ 32) (hb : b < 256) : orI .u32 (d : Int) (yc0 .u32 (b : Int) (s : Int)) = ((d + b * 2 ^ s : Nat) : Int) := by
 have hP := Nat.two_pow_pos s
 have e32 : (2 : Nat) ^ 32 = 4294967296 := rfl
 have h1 : b * 2 ^ s + 2 ^ s ≤ 2 ^ 32 := by
  have h2 : (b + 1) * 2 ^ s ≤ 256 * 2 ^ s := Nat.mul_le_mul_right _ (by omega)
  have h3 : 256 * 2 ^ s ≤ 2 ^ 32 := by
   rw [show (256 : Nat) = 2 ^ 8 from rfl, ← Nat.pow_add]; exact Nat.pow_le_pow_right (by omega) (by omega)
  rw [Nat.add_mul] at h2; omega
 rw [ymG (k := .u32) rfl b s (by simp [IntKind.bits]; omega)]
 have hb32 : IntKind.bits .u32 = 32 := rfl
 rw [hb32, Nat.mod_eq_of_lt (by omega), ypj (k := .u32) rfl _ _ (by rw [hb32]; omega) (by rw [hb32]; omega)]
 congr 1
 have := Nat.shiftLeft_add_eq_or_of_lt hd b
 rw [Nat.shiftLeft_eq] at this
 rw [Nat.or_comm, ← this]; omega
theorem yer (a : List UInt8) (i : Nat) (hi : i < a.length) : yap a (a.length - 1 - i) = (dg 8 (val a) i : Int) := by
 unfold yap
 rw [ykJ a i hi]
def May (a : List UInt8) : Prop := a.length ≤ 16384 ∧ yfv a = true
instance (a : List UInt8) : Decidable (May a) := inferInstanceAs (Decidable (_ ∧ _))
theorem ybg (a : List UInt8) : eqS a [] = decide (a = []) := by cases a <;> simp [eqS]
theorem ydR (b : UInt8) (l : List UInt8) : yap (b :: l) 0 = (b.toNat : Int) := rfl
theorem yaY (a : List UInt8) (K : Int → Prop) : zal a K = K (if May a then 0 else 2) := by
 rw [zal.is]; unfold zal.d
 by_cases h : a.length ≤ 16384
 ·rw [yaH (yca (by omega)), ybg]
  cases a with
  | nil => rw [yaH (by simp), if_pos ⟨by simp, rfl⟩]
  | cons b l =>
   have hl : (0 : Int) < ((b :: l).length : Int) := by simp only [List.length_cons]; omega
   rw [yaW (by simp), ybn (ybm hl), ydR]
   by_cases hb : b.toNat = 0
   ·rw [yaW (yme (by omega)), if_neg]
    intro hm; have := hm.2; simp [yfv, hb] at this
   ·rw [yaH (yjM (by omega)), if_pos ⟨h, by simpa [yfv] using hb⟩]
 ·rw [yaW (ybm (by omega)), if_neg fun hm => h hm.1]
theorem ymX (k x q s : Nat) (h : x < 2 ^ (k * q + s)) : dg k x q < 2 ^ s := by
 unfold dg
 refine Nat.lt_of_le_of_lt (Nat.mod_le _ _) ?_
 rw [Nat.div_lt_iff_lt_mul (Nat.two_pow_pos _), ← Nat.pow_add, Nat.add_comm s]
 exact h
theorem ygN (a : List UInt8) (hL : a.length ≤ 1000000) (n : Nat) (hn : n = (a.length + 3) / 4) (c m : Nat) (k0 : Nat → Nat → Nat → (Nat → Int) → Prop) (h : k0 n c m (G 32 (val a))) :
  ∀ (j i : Nat), i + j = a.length → zba.l3 k0 (j + 1) a n c a.length i m (G 32 (val a % 2 ^ (8 * i))) := by
 intro j
 induction j with
 | zero =>
  intro i hi
  unfold zba.l3 zba.l3.step
  rw [yaH (yca (by omega)), Nat.mod_eq_of_lt (by have := yfa a; rw [ynA] at this; rwa [show i = a.length from by omega])]
  exact h
 | succ j ih =>
  intro i hi
  have ih := ih (i + 1) (by omega)
  have e : ((i + 1 : Nat) : Int) = (i : Int) + 1 := by omega
  rw [e] at ih
  unfold zba.l3 zba.l3.step
  simp (disch := omega) only [yb0, ygP, yaB, yaD, ycv, ybi, ybm, yaQ, yca, yaG, yaZ, Bool.and_self, Bool.not_false]
  have e1 : Int.toNat ((i : Int) / 4) = i / 4 := by omega
  have e2 : Int.toNat ((a.length : Int) - 1 - i) = a.length - 1 - i := by omega
  have e3 : 8 * ((i : Int) % 4) = ((8 * (i % 4) : Nat) : Int) := by omega
  have hd := ya4 8 (val a) i
  have e8 : (2 : Nat) ^ 8 = 256 := rfl
  rw [e1, e2, e3, yer a i (by omega), yct, Int.emod_eq_of_lt (by omega) (by omega), ybp,
   yn3 _ _ _ (ymX 32 _ (i / 4) (8 * (i % 4)) (by rw [show 32 * (i / 4) + 8 * (i % 4) = 8 * i from by omega]; exact Nat.mod_lt _ (Nat.two_pow_pos _))) (by omega) (by omega)]
  rw [yjd (k := 32) (N' := val a % 2 ^ (8 * (i + 1)))]
  ·exact ih
  ·rw [ybl, Nat.add_mul, Nat.mul_assoc, ← Nat.pow_add, show 8 * (i % 4) + 32 * (i / 4) = 8 * i from by omega]; omega
  ·have h1 := ymX 32 (val a % 2 ^ (8 * i)) (i / 4) (8 * (i % 4)) (by rw [show 32 * (i / 4) + 8 * (i % 4) = 8 * i from by omega]; exact Nat.mod_lt _ (Nat.two_pow_pos _))
   have h2 : (dg 8 (val a) i + 1) * 2 ^ (8 * (i % 4)) ≤ 256 * 2 ^ (8 * (i % 4)) := Nat.mul_le_mul_right _ (by omega)
   have h3 : 256 * 2 ^ (8 * (i % 4)) ≤ 2 ^ 32 := by
    rw [show (256 : Nat) = 2 ^ 8 from rfl, ← Nat.pow_add]; exact Nat.pow_le_pow_right (by omega) (by omega)
   rw [Nat.add_mul] at h2
   omega
theorem yir (a : List UInt8) (hL : a.length ≤ 1000000) (K : Nat → (Nat → Int) → Prop) (h : K ((a.length + 3) / 4) (G 32 (val a))) : zba a K := by
 rw [zba.is]; unfold zba.d
 simp (disch := omega) only [yb0, yaD, yaQ, yaG, Bool.and_self]
 have e1 : Int.toNat (((a.length : Int) + 3) / 4) = (a.length + 3) / 4 := by omega
 rw [e1]
 refine ⟨a.length + 1, ?_⟩
 have := ygN a hL ((a.length + 3) / 4) rfl ((a.length + 3) / 4) ((a.length + 3) / 4) (fun y0 y1 y2 y3 => K y0 y3) h a.length 0 (by omega)
 rw [Nat.mul_zero, Nat.pow_zero, Nat.mod_one, yc7] at this
 exact this
theorem yhJ {x n : Nat} (hn : n ≠ 0) (hx : x < 2 ^ (32 * n)) : (dg 32 x (n - 1) = 0 → x < 2 ^ (32 * (n - 1))) ∧ (dg 32 x (n - 1) ≠ 0 → wl 32 x = n) := by
 refine ⟨fun h => ?_, fun h => yp0 32 (by omega) x n hx (.inr h)⟩
 have h2 := ybl 32 x (n - 1)
 rw [show n - 1 + 1 = n from by omega, Nat.mod_eq_of_lt hx, h, Nat.zero_mul, Nat.add_zero] at h2
 have := Nat.mod_lt x (Nat.two_pow_pos (32 * (n - 1)))
 omega
theorem ygQ (k0 : Nat → (Nat → Int) → Prop) (x : Nat) (h : k0 (wl 32 x) (G 32 x)) : ∀ (n : Nat), n ≤ 1000000000 → x < 2 ^ (32 * n) → zau.l1 k0 (n + 1) n (G 32 x) := by
 intro n
 induction n with
 | zero =>
  intro _ hx
  have hx0 : x = 0 := by simp at hx; omega
  unfold zau.l1 zau.l1.step
  rw [yaH (yca (by omega))]
  have e := ycQ 32
  subst hx0; rwa [e] at h
 | succ n ih =>
  intro hn hx
  obtain ⟨s1, s2⟩ := yhJ (show n + 1 ≠ 0 by omega) hx
  rw [show n + 1 - 1 = n from by omega] at s1 s2
  unfold zau.l1 zau.l1.step
  simp (disch := omega) only [yaB, ybm, yaQ, yaG, yaZ, Bool.and_self]
  have e1 : Int.toNat (((n + 1 : Nat) : Int) - 1) = n := by omega
  rw [e1, ybp]
  by_cases hd : dg 32 x n = 0
  ·rw [yaW (yme (by omega))]
   exact ih (by omega) (s1 hd)
  ·rw [yaH (yjM (by omega))]
   rw [s2 hd] at h; exact h
theorem yi9 (n x : Nat) (hn : n ≤ 1000000000) (hx : x < 2 ^ (32 * n)) (K : Nat → (Nat → Int) → Prop) (h : K (wl 32 x) (G 32 x)) : zau n (G 32 x) K := by
 rw [zau.is]; unfold zau.d
 exact ⟨n + 1, ygQ _ x h n hn hx⟩
theorem ygM (k0 : Nat → Nat → Nat → (Nat → Int) → Prop) (x m : Nat) (h : ∀ c, k0 (wl 32 x) c m (G 32 x)) : ∀ (n c : Nat), n ≤ 1000000000 → n ≤ c → x < 2 ^ (32 * n) → zat.l1 k0 (n + 1) n c m (G 32 x) := by
 intro n
 induction n with
 | zero =>
  intro c _ _ hx
  have hx0 : x = 0 := by simp at hx; omega
  unfold zat.l1 zat.l1.step
  rw [yaH (yca (by omega))]
  have e := ycQ 32
  subst hx0; rw [e] at h; exact h c
 | succ n ih =>
  intro c hn hc hx
  obtain ⟨s1, s2⟩ := yhJ (show n + 1 ≠ 0 by omega) hx
  rw [show n + 1 - 1 = n from by omega] at s1 s2
  unfold zat.l1 zat.l1.step
  simp (disch := omega) only [yaB, ybm, yaQ, yaG, yaZ, Bool.and_self]
  have e1 : Int.toNat (((n + 1 : Nat) : Int) - 1) = n := by omega
  rw [e1, ybp]
  by_cases hd : dg 32 x n = 0
  ·rw [yaW (yme (by omega))]
   exact ih (c - 0) (by omega) (by omega) (s1 hd)
  ·rw [yaH (yjM (by omega))]
   rw [s2 hd] at h; exact h c
theorem ydv (n c m x : Nat) (hn : n ≤ 1000000000) (hc : n ≤ c) (hx : x < 2 ^ (32 * n)) (K : Nat → Nat → Nat → (Nat → Int) → Prop) (h : ∀ c, K (wl 32 x) c m (G 32 x)) : zat n c m (G 32 x) K := by
 rw [zat.is]; unfold zat.d
 exact ⟨n + 1, ygM _ x m h n c hn hc hx⟩
theorem ygF (k0 : Nat → Nat → (Nat → Int) → Prop) (x m : Nat) (h : k0 (wl 32 x) m (G 32 x)) : ∀ (n : Nat), n ≤ 1000000000 → x < 2 ^ (32 * n) → zas.l1 k0 (n + 1) n m (G 32 x) := by
 intro n
 induction n with
 | zero =>
  intro _ hx
  have hx0 : x = 0 := by simp at hx; omega
  unfold zas.l1 zas.l1.step
  rw [yaH (yca (by omega))]
  have e := ycQ 32
  subst hx0; rwa [e] at h
 | succ n ih =>
  intro hn hx
  obtain ⟨s1, s2⟩ := yhJ (show n + 1 ≠ 0 by omega) hx
  rw [show n + 1 - 1 = n from by omega] at s1 s2
  unfold zas.l1 zas.l1.step
  simp (disch := omega) only [yaB, ybm, yaQ, yaG, yaZ, Bool.and_self]
  have e1 : Int.toNat (((n + 1 : Nat) : Int) - 1) = n := by omega
  rw [e1, ybp]
  by_cases hd : dg 32 x n = 0
  ·rw [yaW (yme (by omega))]
   exact ih (by omega) (s1 hd)
  ·rw [yaH (yjM (by omega))]
   rw [s2 hd] at h; exact h
theorem ydg (n m x : Nat) (hn : n ≤ 1000000000) (hx : x < 2 ^ (32 * n)) (K : Nat → Nat → (Nat → Int) → Prop) (h : K (wl 32 x) m (G 32 x)) : zas n m (G 32 x) K := by
 rw [zas.is]; unfold zas.d
 exact ⟨n + 1, ygF _ x m h n hn hx⟩
theorem ypx (x q s : Nat) (hs : s < 4) : dg 8 x (4 * q + s) = dg 32 x q / 2 ^ (8 * s) % 256 := by
 unfold dg
 rw [show 8 * (4 * q + s) = 32 * q + 8 * s from by omega, Nat.pow_add, ← Nat.div_div_eq_div_mul]
 generalize x / 2 ^ (32 * q) = y
 have h1 : (2 : Nat) ^ 32 = 2 ^ (8 * s) * (256 * 2 ^ (8 * (3 - s))) := by
  rw [show (256 : Nat) = 2 ^ 8 from rfl, ← Nat.pow_add, ← Nat.pow_add]; congr 1; omega
 rw [h1, Nat.mod_mul_right_div_self, Nat.mod_mul_right_mod]
theorem yoT (a s : Nat) (hs : s ≤ 32) : yaS .u32 (a : Int) (s : Int) = ((a / 2 ^ s : Nat) : Int) := by
 rw [ydZ (k := .u32) hs]; simp
theorem yfR (x n : Nat) (hn : n ≤ 100000000) (L c m : Nat) (hL : L = 4 * n) (k0 : Nat → Nat → Nat → (Nat → Int) → Prop) (h : k0 L c m (BE L L x)) :
  ∀ (j i : Nat), i + j = L → zaw.l4 k0 (j + 1) n (G 32 x) L c L i m (BE L i x) := by
 intro j
 induction j with
 | zero =>
  intro i hi
  unfold zaw.l4 zaw.l4.step
  rw [yaH (yca (by omega)), show i = L from by omega]
  exact h
 | succ j ih =>
  intro i hi
  have ih := ih (i + 1) (by omega)
  have e : ((i + 1 : Nat) : Int) = (i : Int) + 1 := by omega
  rw [e] at ih
  unfold zaw.l4 zaw.l4.step
  simp (disch := omega) only [yb0, ygP, yaB, yaD, ycv, ybi, ybm, yaQ, yca, yaG, yaZ, Bool.and_self, Bool.not_false]
  have e1 : Int.toNat ((i : Int) / 4) = i / 4 := by omega
  have e2 : Int.toNat ((L : Int) - 1 - i) = L - 1 - i := by omega
  have e3 : 8 * ((i : Int) % 4) = ((8 * (i % 4) : Nat) : Int) := by omega
  rw [e1, e2, e3, ybp, yoT _ _ (by omega), ykE, yoR _ _ _ (dg 8 x i : Int), ymU L i x (by omega)]
  ·exact ih
  ·have := ypx x (i / 4) (i % 4) (by omega)
   rw [show 4 * (i / 4) + i % 4 = i from by omega] at this
   rw [this]; simp
theorem yfk (x L : Nat) (hL : L ≤ 400000000) (c m : Nat) (k0 : Nat → Nat → Nat → Nat → (Nat → Int) → Prop)
  (h : ∀ o n c, o + n = L → x < 2 ^ (8 * n) → (n = 0 ∨ dg 8 x (n - 1) ≠ 0) → k0 o n c m (BE L L x)) :
  ∀ (n o c : Nat), o + n = L → n ≤ c → x < 2 ^ (8 * n) → zaw.l8 k0 (n + 1) o n c m (BE L L x) := by
 intro n
 induction n with
 | zero =>
  intro o c ho _ hx
  unfold zaw.l8 zaw.l8.step
  rw [yaH (yca (by omega))]
  exact h o 0 c ho hx (.inl rfl)
 | succ n ih =>
  intro o c ho hc hx
  unfold zaw.l8 zaw.l8.step
  simp (disch := omega) only [ybm, yaQ, yaG, yaZ, Bool.and_self, yd9]
  rw [ypw L x _ (by omega), show L - 1 - (o + 0) = n from by omega]
  by_cases hd : dg 8 x n = 0
  ·rw [yaW (yme (by omega))]
   have e1 : Int.toNat ((n + 1 : Nat) : Int) - 1 = n := by omega
   rw [e1]
   refine ih (o + 1) (c - 1) (by omega) (by omega) ?_
   have h2 := ybl 8 x n
   rw [Nat.mod_eq_of_lt hx, hd, Nat.zero_mul, Nat.add_zero] at h2
   have := Nat.mod_lt x (Nat.two_pow_pos (8 * n))
   omega
  ·rw [yaH (yjM (by omega))]
   exact h o (n + 1) c ho hx (.inr hd)
theorem yb5 (n x : Nat) (hn : n ≤ 100000000) (hx : x < 2 ^ (32 * n)) (K : List UInt8 → Prop) (h : K (nb x)) : zaw n (G 32 x) K := by
 rw [zaw.is]; unfold zaw.d
 refine yi9 n x (by omega) hx _ ?_
 have hw := (yfh 32 (by omega) x n).2 hx
 have hl := ydU 32 (by omega) x
 generalize wl 32 x = w at hw hl
 simp (disch := omega) only [ycv, yaQ, yaG, Bool.and_self]
 have e1 : Int.toNat (4 * (w : Int)) = 4 * w := by omega
 rw [e1]
 refine ⟨4 * w + 1, ?_⟩
 have := yfR x w (by omega) (4 * w) (4 * w) (4 * w) rfl (fun y0 y1 y2 y3 => ∃ n, zaw.l8 (fun y0 y1 y2 y3 y4 => K (yaL y1 (shift y0 y4))) n 0 y0 y1 y2 y3) ?_ (4 * w) 0 (by omega)
 ·rw [yml] at this
  exact this
 ·refine ⟨4 * w + 1, ?_⟩
  refine yfk x (4 * w) (by omega) (4 * w) (4 * w) _ ?_ (4 * w) 0 (4 * w) (by omega) (Nat.le_refl _) (by rw [show 8 * (4 * w) = 32 * w from by omega]; exact hl)
  intro o n c ho hx' ht
  rw [ykh, ykK (4 * w) o n x ho hx' ht]
  exact h
def sgn (x y : Nat) : Int := if x < y then -1 else if y < x then 1 else 0
theorem yip (x y n m : Nat) (k0 : Int → Prop) (k1 : Prop) (hn : n ≤ 1000000000) (h : x / 2 ^ (32 * n) = y / 2 ^ (32 * n)) :
  ∀ (i : Nat), i ≤ n → i ≤ m → x / 2 ^ (32 * i) = y / 2 ^ (32 * i) → (x < y → k0 (-1)) → (y < x → k0 1) → (x = y → k1) → ∀ (j : Nat), n = n → zar.l6 k0 k1 (i + 1) n (G 32 x) m (G 32 y) ((i : Int) - 1) := by
 intro i
 induction i with
 | zero =>
  intro _ _ he _ _ h3 _ _
  unfold zar.l6 zar.l6.step
  rw [yaH (ygj (by omega))]
  simp at he
  exact h3 he
 | succ i ih =>
  intro hin him he h1 h2 h3 j _
  unfold zar.l6 zar.l6.step
  have e0 : ((i + 1 : Nat) : Int) - 1 = (i : Int) := by omega
  rw [e0]
  simp (disch := omega) only [yaB, ybm, yaQ, yaG, yaZ, Bool.and_self, Int.toNat_natCast]
  rw [ybp, ybp, yoK, yoK]
  have d1 := ycE 32 x i
  have d2 := ycE 32 y i
  rw [← he] at d2
  by_cases hlt : dg 32 x i < dg 32 y i
  ·rw [yaW (by simpa using hlt)]
   refine h1 (Classical.byContradiction fun hc => ?_)
   have := Nat.div_le_div_right (c := 2 ^ (32 * i)) (show y ≤ x by omega)
   omega
  ·rw [yaH (by simpa using hlt)]
   by_cases hgt : dg 32 y i < dg 32 x i
   ·rw [yaW (by simpa using hgt)]
    refine h2 (Classical.byContradiction fun hc => ?_)
    have := Nat.div_le_div_right (c := 2 ^ (32 * i)) (show x ≤ y by omega)
    omega
   ·rw [yaH (by simpa using hgt)]
    exact ih (by omega) (by omega) (by omega) h1 h2 h3 j rfl
theorem ylT (x y n m : Nat) (hn : n ≤ 1000000000) (hm : m ≤ 1000000000) (hxn : n = wl 32 x) (hym : m = wl 32 y) (K : Int → Prop) (h : K (sgn x y)) : zar n (G 32 x) m (G 32 y) K := by
 rw [zar.is]; unfold zar.d
 have h32 : (32 : Nat) ≠ 0 := by omega
 by_cases hlt : n < m
 ·have : x < y := Classical.byContradiction fun hc => by have := ybB h32 (show y ≤ x by omega); omega
  rw [yaW (ybm (by omega))]
  unfold sgn at h; rwa [if_pos this] at h
 ·rw [yaH (yca (by omega))]
  by_cases hgt : m < n
  ·have : y < x := Classical.byContradiction fun hc => by have := ybB h32 (show x ≤ y by omega); omega
   rw [yaW (ybm (by omega))]
   unfold sgn at h; rwa [if_neg (by omega), if_pos this] at h
  ·rw [yaH (yca (by omega)), yaB (by omega) (by omega)]
   have h1 := ydU 32 h32 x
   have h2 := ydU 32 h32 y
   have hnm : n = m := by omega
   have q : x / 2 ^ (32 * n) = y / 2 ^ (32 * n) := by
    rw [Nat.div_eq_of_lt (hxn ▸ h1), Nat.div_eq_of_lt (by rw [hnm, hym]; exact h2)]
   refine ⟨n + 1, yip x y n m _ _ hn q n (Nat.le_refl _) (by omega) q (fun hl => ?_) (fun hl => ?_) (fun he => ?_) 0 rfl⟩
   ·unfold sgn at h; rwa [if_pos hl] at h
   ·unfold sgn at h; rwa [if_neg (by omega), if_pos hl] at h
   ·unfold sgn at h; rwa [if_neg (by omega), if_neg (by omega)] at h
end Go.Ev.S

/- Natural numbers as rows of words: sums, differences, products. -/
set_option linter.unusedVariables false
set_option linter.unusedSimpArgs false
set_option maxRecDepth 8000
namespace Go.Ev.S
open Go Go.Ev
theorem yn0 {k N j s : Nat} {P : Nat} (hP : P = 2 ^ (k * j)) : ∃ N', N' + dg k N j * P = N + s % 2 ^ k * P ∧ N' + s / 2 ^ k * 2 ^ (k * (j + 1)) + dg k N j * P = N + s * P := by
 have h := yfz k N j
 refine ⟨N % 2 ^ (k * j) + s % 2 ^ k * 2 ^ (k * j) + N / 2 ^ (k * (j + 1)) * 2 ^ (k * (j + 1)), ?_, ?_⟩
 ·rw [hP]; omega
 ·have h2 := Nat.div_add_mod s (2 ^ k)
  have h3 : s * P = s % 2 ^ k * P + s / 2 ^ k * 2 ^ (k * (j + 1)) := by
   conv => lhs; rw [← h2]
   rw [Nat.add_mul, ycx, ← hP, Nat.mul_comm (2 ^ k), Nat.mul_assoc, Nat.mul_comm (2 ^ k)]
   omega
  rw [h3, hP]; omega
theorem B32 : (2 : Nat) ^ 32 = 4294967296 := rfl
end Go.Ev.S

/- The functions of natural numbers: held against each other, added, subtracted, multiplied; their texts. -/
set_option linter.unusedVariables false
set_option linter.unusedSimpArgs false
set_option maxRecDepth 8000
namespace Go.Ev.S
open Go Go.Ev
theorem yfd (a b : List UInt8) (K : Bool → Prop) : zay a b K = K (decide (May a ∧ May b)) := by
 rw [zay.is]; unfold zay.d
 rw [yaY, yaY]
 by_cases ha : May a
 ·rw [if_pos ha, yaW (by rfl)]
  by_cases hb : May b
  ·rw [if_pos hb]; simp [ha, hb]; rfl
  ·rw [if_neg hb]; simp [ha, hb]; rfl
 ·rw [if_neg ha, yaH (by rfl)]; simp [ha]
theorem ynL (x : Nat) : wl 32 x = (wl 8 x + 3) / 4 := by
 have e : ∀ m, wl 32 x ≤ m ↔ wl 8 x ≤ 4 * m := fun m => by
  rw [yfh 32 (by omega), yfh 8 (by omega), show 8 * (4 * m) = 32 * m from by omega]
 have h1 := (e (wl 32 x)).1 (Nat.le_refl _)
 have h2 := (e ((wl 8 x + 3) / 4)).2 (by omega)
 omega
theorem ykq {a : List UInt8} (h : yfv a = true) : wl 8 (val a) = a.length := by rw [ypS, yfK h]
theorem ykO {a : List UInt8} (h : yfv a = true) : (a.length + 3) / 4 = wl 32 (val a) := by rw [ynL, ykq h]
theorem May.words {a : List UInt8} (h : May a) (K : Nat → (Nat → Int) → Prop) (hk : K (wl 32 (val a)) (G 32 (val a))) : zba a K := by
 refine yir a (by have := h.1; omega) K ?_
 rw [ykO h.2]; exact hk
theorem May.wl {a : List UInt8} (h : May a) : wl 32 (val a) ≤ 4096 := by rw [← ykO h.2]; have := h.1; omega
theorem May.lt {a : List UInt8} (h : May a) : val a < 2 ^ (32 * Ev.S.wl 32 (val a)) := ydU 32 (by omega) _
theorem May.nb {a : List UInt8} (h : May a) : nb (val a) = a := yfK h.2
theorem yh6 (x : Nat) : x < 2 ^ (32 * wl 32 x) := ydU 32 (by omega) _
theorem ymS (x y : Nat) : ltI (sgn x y) 0 = decide (x < y) := by
 unfold sgn
 by_cases h : x < y
 ·rw [if_pos h, ybm (by omega)]; simp [h]
 ·rw [if_neg h]
  by_cases h2 : y < x
  ·rw [if_pos h2, yca (by omega)]; simp [h]
  ·rw [if_neg h2, yca (by omega)]; simp [h]
theorem yhW : ∀ (a b : List UInt8), a.length = b.length → Op.bytesLess a b = decide (val a < val b) := by
 intro a
 induction a with
 | nil => intro b h; cases b with
  | nil => rfl
  | cons _ _ => simp at h
 | cons x l ih =>
  intro b h
  cases b with
  | nil => exact absurd h (by simp)
  | cons y r =>
   have hl : l.length = r.length := by simpa using h
   have h1 := yfa l
   have h2 := yfa r
   rw [hl] at h1
   rw [yfC, yfC, hl]
   simp only [Op.bytesLess]
   rw [ih r hl]
   have hP := Nat.pow_pos (n := r.length) (show 0 < 256 by omega)
   generalize 256 ^ r.length = P at *
   by_cases hxy : x = y
   ·subst hxy; simp
   ·have hne : x.toNat ≠ y.toNat := fun e => hxy (UInt8.toNat_inj.1 e)
    have e1 : (x == y) = false := by simpa using hxy
    rw [e1, Bool.false_and, Bool.or_false]
    rw [decide_eq_decide, UInt8.lt_iff_toNat_lt]
    constructor
    ·intro hlt
     have : (x.toNat + 1) * P ≤ y.toNat * P := Nat.mul_le_mul_right _ hlt
     rw [Nat.add_mul] at this; omega
    ·intro hlt
     apply Classical.byContradiction
     intro hc
     have : (y.toNat + 1) * P ≤ x.toNat * P := Nat.mul_le_mul_right _ (by omega)
     rw [Nat.add_mul] at this; omega
theorem yoX (a b : List UInt8) (h : a.length = b.length) : ltS a b = decide (val a < val b) := yhW a b h
theorem yhU (a b : List UInt8) : eqS a b = decide (a = b) := by
 unfold eqS
 by_cases h : a = b <;> simp [h]
def yk6 (n : Nat) : UInt8 := UInt8.ofNat (if n < 10 then 48 + n else 87 + n)
def hx (x : Nat) : List UInt8 := if h : x = 0 then [] else hx (x / 16) ++ [yk6 (x % 16)]
decreasing_by omega
theorem ydi : hx 0 = [] := by rw [hx]; simp
theorem yjb {x : Nat} (h : x ≠ 0) : hx x = hx (x / 16) ++ [yk6 (x % 16)] := by rw [hx]; simp [h]
def tx (a : List UInt8) : List UInt8 := if a = [] then [48] else hx (val a)
theorem ymL (v b : Nat) (hb : b < 256) (hv : v ≠ 0 ∨ 15 < b) : hx (v * 256 + b) = hx v ++ [yk6 (b / 16)] ++ [yk6 (b % 16)] := by
 rw [yjb (by omega), show (v * 256 + b) / 16 = v * 16 + b / 16 from by omega, show (v * 256 + b) % 16 = b % 16 from by omega]
 rw [yjb (show v * 16 + b / 16 ≠ 0 by omega), show (v * 16 + b / 16) / 16 = v from by omega, show (v * 16 + b / 16) % 16 = b / 16 from by omega]
theorem ykm (b : Nat) (h0 : b ≠ 0) (hb : b ≤ 15) : hx b = [yk6 b] := by
 rw [yjb h0, Nat.div_eq_of_lt (by omega), ydi, Nat.mod_eq_of_lt (by omega)]; rfl
theorem yhO : ∀ n : Nat, n < 16 → yap [48, 49, 50, 51, 52, 53, 54, 55, 56, 57, 97, 98, 99, 100, 101, 102] n = ((yk6 n).toNat : Int) := by decide
theorem ycJ (n : Nat) (g : Nat → Int) (b : UInt8) (v : Int) (hv : v = (b.toNat : Int)) : yaL (n + 1) (app n g (upd (fun _ => 0) 0 v)) = yaL n g ++ [b] := by
 unfold yaL
 rw [List.range_succ, List.map_append, List.map_singleton]
 congr 1
 ·refine List.map_congr_left fun i hi => ?_
  have : Nat.blt i n = true := by have := List.mem_range.1 hi; simpa using this
  unfold app; rw [this]; rfl
 ·have : Nat.blt n n = false := by rw [Bool.eq_false_iff]; intro h; simp at h
  unfold app
  rw [this, cond_false, Nat.sub_self, ydH, hv, Int.toNat_natCast]
  simp
theorem yoN {a b : Nat} (h : a ≤ b) : leN a b = true := Nat.ble_eq_true_of_le h
theorem ykT (b : Nat) : yaS .u8 (b : Int) 4 = ((b / 16 : Nat) : Int) := by
 have := ydZ (k := .u8) (a := (b : Int)) (j := 4) (by decide)
 rw [show ((4 : Nat) : Int) = 4 from rfl] at this
 rw [this]; simp
theorem ypW {k : IntKind} (hk : k.signed = false) (a b : Nat) (ha : a < 2 ^ k.bits) (hb : b < 2 ^ k.bits) : ydM k a b = ((a &&& b : Nat) : Int) := by
 have h3 : a &&& b < 2 ^ k.bits := Nat.lt_of_le_of_lt Nat.and_le_left ha
 show IntKind.wrap k (((BitVec.ofInt k.bits (a : Int) &&& BitVec.ofInt k.bits (b : Int) : BitVec k.bits).toNat : Nat) : Int) = _
 rw [BitVec.toNat_and, BitVec.ofInt_natCast, BitVec.ofInt_natCast, BitVec.toNat_ofNat, BitVec.toNat_ofNat, Nat.mod_eq_of_lt ha, Nat.mod_eq_of_lt hb]
 simp only [IntKind.wrap, hk]
 have : ((a &&& b : Nat) : Int) % 2 ^ k.bits = ((a &&& b : Nat) : Int) := by
  refine Int.emod_eq_of_lt (by omega) ?_
  have e : ((2 ^ k.bits : Nat) : Int) = (2 : Int) ^ k.bits := by simp
  rw [← e]; omega
 simpa using this
theorem yi1 (b : Nat) (hb : b < 256) : ydM .u8 (b : Int) 15 = ((b % 16 : Nat) : Int) := by
 have := ypW (k := .u8) rfl b 15 (by simpa [IntKind.bits] using hb) (by decide)
 rw [show ((15 : Nat) : Int) = 15 from rfl] at this
 rw [this]
 congr 1
 exact Nat.and_two_pow_sub_one_eq_mod b 4
theorem ykL (a : List UInt8) (i : Nat) (hi : i < a.length) : ∃ b : UInt8, yap a i = (b.toNat : Int) ∧ val (a.take (i + 1)) = val (a.take i) * 256 + b.toNat ∧ a[i]? = some b := by
 refine ⟨a[i], ?_, ?_, List.getElem?_eq_getElem hi⟩
 ·unfold yap; rw [List.getElem?_eq_getElem hi]; rfl
 ·rw [List.take_add_one, List.getElem?_eq_getElem hi, Option.toList_some, yh8]
theorem yeu {a : List UInt8} (h : yfv a = true) {i : Nat} (hi : 0 < i) (hl : i ≤ a.length) : val (a.take i) ≠ 0 := by
 have h1 : yfv (a.take i) = true := by
  cases a with
  | nil => simp at hl; omega
  | cons b l =>
   cases i with
   | zero => omega
   | succ i => exact h
 intro e
 have h2 := yfK h1
 rw [e, ya3] at h2
 have : (a.take i).length = i := by simp; omega
 rw [← h2] at this
 simp at this; omega
theorem yhY (a : List UInt8) (hl : a.length ≤ 16384) (hle : yfv a = true) (k0 : Nat → Nat → (Nat → Int) → Prop) (h : ∀ y0 y1 y2, yaL y0 y2 = hx (val a) → k0 y0 y1 y2) :
  ∀ (j i n m : Nat) (g : Nat → Int), i + j = a.length → n ≤ 2 * i → yaL n g = hx (val (a.take i)) → zaq.l7 k0 (j + 1) a n a.length i m g := by
 intro j
 induction j with
 | zero =>
  intro i n m g hi hn hg
  unfold zaq.l7 zaq.l7.step
  rw [yaH (yca (by omega))]
  refine h n m g ?_
  rw [hg, List.take_of_length_le (by omega)]
 | succ j ih =>
  intro i n m g hi hn hg
  obtain ⟨b, b1, b2, _⟩ := ykL a i (by omega)
  have hb := ylj b
  have e : ((i + 1 : Nat) : Int) = (i : Int) + 1 := by omega
  have d1 := yhO (b.toNat / 16) (by omega)
  have d2 := yhO (b.toNat % 16) (by omega)
  have two : (val (a.take i) ≠ 0 ∨ 15 < b.toNat) → ∀ m', zaq.l7 k0 (j + 1) a (n + 1 + 1) a.length ((i : Int) + 1) m' (app (n + 1) (app n g (upd (fun _ => 0) 0 ((yk6 (b.toNat / 16)).toNat : Int))) (upd (fun _ => 0) 0 ((yk6 (b.toNat % 16)).toNat : Int))) := by
   intro hv m'
   rw [← e]
   refine ih (i + 1) _ _ _ (by omega) (by omega) ?_
   rw [ycJ _ _ _ _ rfl, ycJ _ _ _ _ rfl, hg, b2, ymL _ _ hb hv]
  unfold zaq.l7 zaq.l7.step
  simp (disch := omega) only [ybm, yaQ, yaG, yaZ, Bool.and_self, Int.toNat_natCast, b1, ykT, yi1, yaD, yoN, d1, d2]
  by_cases h0 : i = 0
  ·subst h0
   rw [yaH (yca (by omega))]
   by_cases hc : 15 < b.toNat
   ·simp (disch := omega) only [ybm, yaZ]
    exact two (.inr hc) _
   ·simp (disch := omega) only [yca, yew]
    rw [← e]
    refine ih (0 + 1) _ _ _ (by omega) (by omega) ?_
    have hb0 : b.toNat ≠ 0 := by
     have := yeu hle (i := 0 + 1) (by omega) (by omega)
     rw [b2] at this
     simp [val] at this
     simpa using this
    rw [ycJ _ _ _ _ rfl, hg, b2, List.take_zero, yeR, ydi, Nat.zero_mul, Nat.zero_add, ykm _ hb0 (by omega), Nat.mod_eq_of_lt (by omega)]
    rfl
  ·rw [yaW (ybm (by omega))]
   exact two (.inl (yeu hle (by omega) (by omega))) _
theorem ycV (a : List UInt8) (K : List UInt8 → Int → Prop) (h1 : ¬ May a → K [] 2) (h2 : May a → K (tx a) 0) : zaq a K := by
 rw [zaq.is]; unfold zaq.d
 rw [yaY]
 by_cases h : May a
 ·rw [if_pos h, yaH (by rfl), ybg]
  by_cases h0 : a = []
  ·rw [yaW (by simp [h0])]
   have := h2 h
   unfold tx at this; rwa [if_pos h0] at this
  ·rw [yaH (by simp [h0])]
   have hl := h.1
   simp (disch := omega) only [ycv, yaQ, yaG, Bool.and_self]
   refine ⟨a.length + 1, yhY a h.1 h.2 _ (fun y0 y1 y2 e => ?_) a.length 0 0 _ _ (by omega) (by omega) (by rw [List.take_zero, yeR, ydi]; rfl)⟩
   have := h2 h
   unfold tx at this; rw [if_neg h0] at this
   rw [e]; exact this
 ·rw [if_neg h, yaW (by rfl)]; exact h1 h
end Go.Ev.S

/- What the document's answer reckons with words, bit by bit. -/
set_option linter.unusedVariables false
set_option linter.unusedSimpArgs false
namespace Go.Ev.S
open Go Go.Ev
theorem yeL (a i : Nat) (ha : a < 18446744073709551616) (hi : i < 64) (K : Bool → Prop) : zbb a i K = K (a.testBit i) := by
 rw [zbb.is]; unfold zbb.d
 rw [yaW (yaQ (by omega)), yaW (ybm (by omega)), ybi (by omega) (by omega), ybn (ypO (by omega)), yol a i ha hi]
def yfl (a : Nat) : Nat → Nat
 | 0 => 0
 | i + 1 => cond (a.testBit i) (i + 1) (yfl a i)
theorem yhG (a w : Nat) : ∀ n, yfl a n ≤ w ↔ ∀ i, i < n → w ≤ i → a.testBit i = false
 | 0 => by simp [yfl]
 | n + 1 => by
  have ih := yhG a w n
  cases hb : a.testBit n with
  | true =>
   simp only [yfl, hb, cond_true]
   constructor
   ·intro h i hi hw; omega
   ·intro h
    apply Classical.byContradiction
    intro hc
    have := h n (by omega) (by omega)
    rw [hb] at this; cases this
  | false =>
   simp only [yfl, hb, cond_false]
   rw [ih]
   constructor
   ·intro h i hi hw
    by_cases hin : i = n
    ·subst hin; exact hb
    ·exact h i (by omega) hw
   ·intro h i hi hw; exact h i (by omega) hw
def ybV (a : Nat) : Nat := if a = 0 then 0 else a.log2 + 1
theorem ycz (a w : Nat) : ybV a ≤ w ↔ a < 2 ^ w := by
 unfold ybV
 by_cases h : a = 0
 ·subst h; simp [Nat.two_pow_pos]
 ·rw [if_neg h]
  rw [← Nat.log2_lt h]; omega
theorem yhB (a : Nat) : a < 2 ^ ybV a := (ycz a _).1 (Nat.le_refl _)
theorem ykB {a : Nat} (h : a ≠ 0) : 0 < ybV a := by unfold ybV; rw [if_neg h]; omega
theorem ym4 {a : Nat} (h : a ≠ 0) : 2 ^ (ybV a - 1) ≤ a := by
 unfold ybV; rw [if_neg h]
 exact Nat.log2_self_le h
theorem ylW (a n : Nat) (ha : a < 2 ^ n) : yfl a n = ybV a := by
 apply Nat.le_antisymm
 ·rw [yhG]
  intro i _ hw
  exact Nat.testBit_lt_two_pow (Nat.lt_of_lt_of_le (yhB a) (Nat.pow_le_pow_right (by omega) hw))
 ·rw [ycz]
  apply Nat.lt_pow_two_of_testBit
  intro i hi
  by_cases hin : i < n
  ·exact (yhG a _ n).1 (Nat.le_refl _) i hin hi
  ·exact Nat.testBit_lt_two_pow (Nat.lt_of_lt_of_le ha (Nat.pow_le_pow_right (by omega) (by omega)))
theorem ye5 (a : Nat) (ha : a < 18446744073709551616) (k0 : Int → Prop) (h : k0 (yfl a 64)) : ∀ (j i : Nat), i + j = 64 → zbc.l3 k0 (j + 1) a (yfl a i) i
 | 0, i, hij => by
  have : i = 64 := by omega
  subst this
  unfold zbc.l3 zbc.l3.step
  rw [yaH (by decide)]
  exact h
 | j + 1, i, hij => by
  show br (ltI i 64) (zbb a i fun r0 => br r0 (zbc.l3 k0 (j + 1) a (yal .i64 i 1) (yal .i64 i 1)) (zbc.l3 k0 (j + 1) a (yfl a i) (yal .i64 i 1))) (k0 (yfl a i))
  rw [yaW (ybm (by omega)), yeL a i ha (by omega), yaD (by omega) (by omega)]
  have ih := ye5 a ha k0 h j (i + 1) (by omega)
  have e : ((i + 1 : Nat) : Int) = (i : Int) + 1 := by omega
  rw [e] at ih
  cases hb : a.testBit i with
  | true =>
   rw [yaW rfl]
   simp only [yfl, hb, cond_true] at ih
   rw [e] at ih
   exact ih
  | false =>
   rw [yaH rfl]
   simp only [yfl, hb, cond_false] at ih
   exact ih
theorem ylB (a : Nat) (ha : a < 18446744073709551616) (K : Int → Prop) (h : K (ybV a)) : zbc a K := by
 rw [zbc.is]
 refine ⟨65, ye5 a ha K ?_ 64 0 rfl⟩
 rw [ylW a 64 ha]; exact h
end Go.Ev.S

/- What the document's answer reckons with numbers of six words. -/
set_option linter.unusedVariables false
set_option linter.unusedSimpArgs false
set_option maxRecDepth 8000
namespace Go.Ev.S
open Go Go.Ev
theorem yhk {x i : Nat} (h : x / 2 ^ i ≠ 0) : ybV x = i + ybV (x / 2 ^ i) := by
 apply Nat.le_antisymm
 ·rw [ycz, Nat.pow_add, Nat.mul_comm, ← Nat.div_lt_iff_lt_mul (Nat.two_pow_pos i)]
  exact yhB _
 ·have h1 := ym4 h
  have h2 : 2 ^ (i + (ybV (x / 2 ^ i) - 1)) ≤ x := by
   rw [Nat.pow_add, Nat.mul_comm]
   exact (Nat.le_div_iff_mul_le (Nat.two_pow_pos i)).1 h1
  have hp := ykB h
  apply Classical.byContradiction
  intro hc
  have h3 : ybV x ≤ i + (ybV (x / 2 ^ i) - 1) := by omega
  have := (ycz x _).1 h3
  omega
end Go.Ev.S

/- What the abacus reckons with words and with numbers of six words. -/
set_option linter.unusedVariables false
set_option linter.unusedSimpArgs false
set_option maxRecDepth 8000
namespace Go.Ev.S
open Go Go.Ev
end Go.Ev.S

/- The lowest bit: of a word (the table of math/bits), of six words; a shift to the right with what fell off. -/
set_option linter.unusedVariables false
set_option linter.unusedSimpArgs false
set_option maxRecDepth 8000
namespace Go.Ev.S
open Go Go.Ev
theorem yo6 (k q : Nat) (hk : k < 64) (ha : 2 ^ k * (2 * q + 1) < 18446744073709551616) : (2 ^ k * (2 * q + 1)) &&& (18446744073709551616 - 2 ^ k * (2 * q + 1)) = 2 ^ k := by
 have hp := Nat.two_pow_pos k
 have e1 : 2 ^ k * (2 * q + 1) = 2 ^ (k + 1) * q + 2 ^ k := by rw [Nat.pow_succ, Nat.mul_add, Nat.mul_one, Nat.mul_assoc]
 have e2 : 2 ^ k * (2 * q + 1) - 1 = 2 ^ (k + 1) * q + (2 ^ k - 1) := by omega
 have h1 : 2 ^ k < 2 ^ (k + 1) := Nat.pow_lt_pow_right (by omega) (by omega)
 apply Nat.eq_of_testBit_eq; intro j
 have e3 : 18446744073709551616 - 2 ^ k * (2 * q + 1) = 2 ^ 64 - ((2 ^ k * (2 * q + 1) - 1) + 1) := by
  rw [show (2 : Nat) ^ 64 = 18446744073709551616 from rfl]; omega
 rw [Nat.testBit_and, e3, Nat.testBit_two_pow_sub_succ (by rw [show (2 : Nat) ^ 64 = 18446744073709551616 from rfl]; omega), e2]
 conv => lhs; lhs; rw [e1]
 rw [Nat.testBit_two_pow_mul_add _ h1, Nat.testBit_two_pow_mul_add _ (by omega : 2 ^ k - 1 < 2 ^ (k + 1)), Nat.testBit_two_pow, Nat.testBit_two_pow_sub_one]
 by_cases hj : j < k + 1
 ·by_cases hjk : j = k
  ·subst hjk; simp [hk]
  ·have : j < k := by omega
   have h3 : ¬ k = j := by omega
   simp [hj, this, h3]
 ·have h3 : ¬ k = j := by omega
  simp only [hj, if_false, h3, decide_false]
  cases q.testBit (j - (k + 1)) <;> simp
theorem ype : ((List.range 64).all fun k => ypl ((2 ^ k * 285870213051353865 % 18446744073709551616) >>> 58) == (k : Int)) = true := by decide +kernel
theorem ypK (k q : Nat) (hk : k < 64) (ha : 2 ^ k * (2 * q + 1) < 18446744073709551616) (K : Int → Prop) (h : K k) : zab ((2 ^ k * (2 * q + 1) : Nat) : Int) K := by
 have hp := Nat.two_pow_pos k
 have hpos : 0 < 2 ^ k * (2 * q + 1) := Nat.mul_pos hp (by omega)
 have hl := yo6 k q hk ha
 have hk2 : 2 ^ k < 18446744073709551616 := ymp hk
 have ht := List.all_eq_true.1 ype k (List.mem_range.2 hk)
 rw [zab.is]; unfold zab.d
 generalize 2 ^ k * (2 * q + 1) = a at *
 have e1 : yoU .u64 (a : Int) = ((18446744073709551616 - a : Nat) : Int) := by
  show IntKind.wrap .u64 _ = _
  rw [yib]; omega
 have e2 : ycB .u64 ((2 ^ k : Nat) : Int) 285870213051353865 = ((2 ^ k * 285870213051353865 % 18446744073709551616 : Nat) : Int) := by
  show IntKind.wrap .u64 _ = _
  rw [yib]
  generalize 2 ^ k = p at *
  omega
 have h1 : (2 ^ k * 285870213051353865 % 18446744073709551616) >>> 58 < 64 := by
  rw [Nat.shiftRight_eq_div_pow]
  have := Nat.mod_lt (2 ^ k * 285870213051353865) (show 0 < 18446744073709551616 by omega)
  omega
 rw [yaH (yjM (by omega)), e1, ymo _ _ (by omega) (by omega), hl, e2, show (58 : Int) = ((58 : Nat) : Int) from rfl, yjU _ 58 (by omega)]
 refine ⟨yoE (by omega) (by omega), ?_⟩
 rw [Int.toNat_natCast, yoJ, eq_of_beq ht, yg8 (by omega) (by omega)]
 exact h
theorem ykc (k q : Nat) (hk : k < 64) (ha : 2 ^ k * (2 * q + 1) < 18446744073709551616) (K : Int → Prop) (h : K k) : zbz ((2 ^ k * (2 * q + 1) : Nat) : Int) K := by
 rw [zbz.is]; exact ypK k q hk ha _ h
end Go.Ev.S

/- Lengths, sums and the like: the abacus' words and six words. -/
set_option linter.unusedVariables false
set_option linter.unusedSimpArgs false
set_option maxRecDepth 8000
namespace Go.Ev.S
open Go Go.Ev
theorem ypU (v : Nat) (h : v < 256) : cvI .u8 (v : Int) = (v : Int) := by
 exact ypR (by omega) (by omega)
theorem ycq (L : List UInt8) (hL : ((List.range 256).all fun v => yap L v == (ybV v : Int)) = true) (a n : Nat) (nI S : Int) (hn0 : nI = n) (hS : S = ((a / 2 ^ n : Nat) : Int)) (hlt : a / 2 ^ n < 256) (hn : n ≤ 56)
  (h0 : a / 2 ^ n ≠ 0 ∨ n = 0) (K : Int → Prop) (h : K (ybV a)) : gd (leI 0 (cvI .u8 S) && ltI (cvI .u8 S) 256) (K (yal .i64 nI (cvI .i64 (yap L (Int.toNat (cvI .u8 S)))))) := by
 subst hS hn0
 have hb : yap L (a / 2 ^ n) = (ybV (a / 2 ^ n) : Int) := eq_of_beq (List.all_eq_true.1 hL _ (List.mem_range.2 hlt))
 have hb8 : ybV (a / 2 ^ n) ≤ 8 := (ycz _ _).2 hlt
 have e : ybV a = n + ybV (a / 2 ^ n) := by
  rcases h0 with h0 | h0
  ·exact yhk h0
  ·subst h0; rw [Nat.pow_zero, Nat.div_one, Nat.zero_add]
 generalize a / 2 ^ n = v at *
 rw [ypU _ hlt, ybn (yoE (by omega) (by omega)), Int.toNat_natCast, hb, yg8 (by omega) (by omega), yaD (by omega) (by omega), show ((n : Nat) : Int) + (ybV v : Int) = ((ybV a : Nat) : Int) from by rw [e]; omega]
 exact h
theorem ydS (a i : Nat) (hi : i < 64) : yaS .u64 (a : Int) (i : Int) = ((a / 2 ^ i : Nat) : Int) := by rw [yjU a i hi, Nat.shiftRight_eq_div_pow]
theorem yhI (a : Nat) (ha : a < 18446744073709551616) (K : Int → Prop) (h : K (ybV a)) : zaa a K := by
 have s32 : yaS .u64 (a : Int) 32 = ((a / 2 ^ 32 : Nat) : Int) := ydS a 32 (by omega)
 have s16 : yaS .u64 (a : Int) 16 = ((a / 2 ^ 16 : Nat) : Int) := ydS a 16 (by omega)
 have s8 : yaS .u64 (a : Int) 8 = ((a / 2 ^ 8 : Nat) : Int) := ydS a 8 (by omega)
 have t16 : yaS .u64 ((a / 2 ^ 32 : Nat) : Int) 16 = ((a / 2 ^ 32 / 2 ^ 16 : Nat) : Int) := ydS (a / 2 ^ 32) 16 (by omega)
 have t8 : yaS .u64 ((a / 2 ^ 32 : Nat) : Int) 8 = ((a / 2 ^ 32 / 2 ^ 8 : Nat) : Int) := ydS (a / 2 ^ 32) 8 (by omega)
 have u8 : yaS .u64 ((a / 2 ^ 32 / 2 ^ 16 : Nat) : Int) 8 = ((a / 2 ^ 32 / 2 ^ 16 / 2 ^ 8 : Nat) : Int) := ydS (a / 2 ^ 32 / 2 ^ 16) 8 (by omega)
 have v8 : yaS .u64 ((a / 2 ^ 16 : Nat) : Int) 8 = ((a / 2 ^ 16 / 2 ^ 8 : Nat) : Int) := ydS (a / 2 ^ 16) 8 (by omega)
 rw [zaa.is]; unfold zaa.d
 rw [s32, s16, s8, t16, t8, u8, v8]
 have d1 : a / 2 ^ 32 / 2 ^ 16 / 2 ^ 8 = a / 2 ^ 56 := by rw [Nat.div_div_eq_div_mul, Nat.div_div_eq_div_mul]
 have d2 : a / 2 ^ 32 / 2 ^ 16 = a / 2 ^ 48 := by rw [Nat.div_div_eq_div_mul]
 have d3 : a / 2 ^ 32 / 2 ^ 8 = a / 2 ^ 40 := by rw [Nat.div_div_eq_div_mul]
 have d4 : a / 2 ^ 16 / 2 ^ 8 = a / 2 ^ 24 := by rw [Nat.div_div_eq_div_mul]
 rw [d1, d2, d3, d4]
 by_cases c1 : 4294967296 ≤ a
 ·rw [yaW (yaQ (by omega))]
  by_cases c2 : 65536 ≤ a / 2 ^ 32
  ·rw [yaW (yaQ (by omega))]
   by_cases c3 : 256 ≤ a / 2 ^ 48
   ·rw [yaW (yaQ (by omega))]
    exact ycq _ (by decide +kernel) a 56 _ _ rfl rfl (by omega) (by omega) (by omega) K h
   ·rw [yaH (ygj (by omega))]
    exact ycq _ (by decide +kernel) a 48 _ _ rfl rfl (by omega) (by omega) (by omega) K h
  ·rw [yaH (ygj (by omega))]
   by_cases c3 : 256 ≤ a / 2 ^ 32
   ·rw [yaW (yaQ (by omega))]
    exact ycq _ (by decide +kernel) a 40 _ _ rfl rfl (by omega) (by omega) (by omega) K h
   ·rw [yaH (ygj (by omega))]
    exact ycq _ (by decide +kernel) a 32 _ _ rfl rfl (by omega) (by omega) (by omega) K h
 ·rw [yaH (ygj (by omega))]
  by_cases c2 : 65536 ≤ a
  ·rw [yaW (yaQ (by omega))]
   by_cases c3 : 256 ≤ a / 2 ^ 16
   ·rw [yaW (yaQ (by omega))]
    exact ycq _ (by decide +kernel) a 24 _ _ rfl rfl (by omega) (by omega) (by omega) K h
   ·rw [yaH (ygj (by omega))]
    exact ycq _ (by decide +kernel) a 16 _ _ rfl rfl (by omega) (by omega) (by omega) K h
  ·rw [yaH (ygj (by omega))]
   by_cases c3 : 256 ≤ a
   ·rw [yaW (yaQ (by omega))]
    exact ycq _ (by decide +kernel) a 8 _ _ rfl rfl (by omega) (by omega) (by omega) K h
   ·rw [yaH (ygj (by omega))]
    exact ycq _ (by decide +kernel) a 0 _ _ rfl (by simp) (by simp; omega) (by omega) (.inr rfl) K h
theorem yjY (a : Nat) (ha : a < 18446744073709551616) (K : Int → Prop) (h : K (ybV a)) : zby a K := by
 rw [zby.is]; exact yhI a ha _ h
def part (z i : Nat) : Nat → Int := fun j => cond (Nat.ble i j) (W z j) 0
end Go.Ev.S

/- Natural numbers as rows of words: moved to the left and to the right; how long they are. -/
set_option linter.unusedVariables false
set_option linter.unusedSimpArgs false
set_option maxRecDepth 8000
namespace Go.Ev.S
open Go Go.Ev
theorem yfU {d m r : Nat} (hd : d < 2 ^ r) (hm : m % 2 ^ r = 0) : d ||| m = d + m := by
 have h5 := Nat.div_add_mod m (2 ^ r)
 rw [hm, Nat.add_zero, Nat.mul_comm] at h5
 have := Nat.shiftLeft_add_eq_or_of_lt hd (m / 2 ^ r)
 rw [Nat.shiftLeft_eq, h5] at this
 rw [Nat.or_comm, ← this, Nat.add_comm]
theorem B64 : (2 : Nat) ^ 64 = 18446744073709551616 := rfl
theorem yiO (a r : Nat) (ha : a < 4294967296) (hr : r < 32) : yc0 .u64 (a : Int) (r : Int) = ((a * 2 ^ r : Nat) : Int) ∧ a * 2 ^ r < 9223372036854775808 := by
 have h1 : a * 2 ^ r < 2 ^ 63 := by
  have h2 : a * 2 ^ r < 2 ^ 32 * 2 ^ 31 := Nat.mul_lt_mul_of_lt_of_le (by rw [B32]; exact ha) (Nat.pow_le_pow_right (by omega) (by omega)) (Nat.two_pow_pos _)
  rwa [← Nat.pow_add] at h2
 have e63 : (2 : Nat) ^ 63 = 9223372036854775808 := rfl
 have hb : IntKind.bits .u64 = 64 := rfl
 refine ⟨?_, by omega⟩
 rw [ymG (k := .u64) rfl a r (by rw [hb]; omega), hb, Nat.mod_eq_of_lt (by rw [B64]; omega)]
theorem yju (s B P : Nat) : s % B * P + s / B * (P * B) = s * P := by
 have := Nat.div_add_mod s B
 conv => rhs; rw [← this]
 rw [Nat.add_mul, Nat.mul_comm B, Nat.mul_assoc, Nat.mul_comm B, Nat.add_comm]
theorem ypg (x i s t y N : Nat) (ht : t = i + s / 32) (hy : dg 32 x i * 2 ^ (s % 32) = y) (hNN : x % 2 ^ (32 * i) * 2 ^ s = N) :
  ∃ N1, upd (G 32 N) t (((dg 32 N t ||| y % 4294967296 : Nat)) : Int) = G 32 N1 ∧ dg 32 N1 (t + 1) = 0 ∧ upd (G 32 N1) (t + 1) ((y / 4294967296 : Nat) : Int) = G 32 (x % 2 ^ (32 * (i + 1)) * 2 ^ s) := by
 have hdx := ya4 32 x i
 rw [B32] at hdx
 have hr : s % 32 < 32 := Nat.mod_lt _ (by omega)
 have hx := Nat.mod_lt x (Nat.two_pow_pos (32 * i))
 have hp : 2 ^ (32 * i) * 2 ^ s = 2 ^ (32 * t + s % 32) := by rw [← Nat.pow_add]; congr 1; omega
 have hN : N < 2 ^ (32 * t + s % 32) := by
  rw [← hp, ← hNN]; exact Nat.mul_lt_mul_of_pos_right hx (Nat.two_pow_pos _)
 have hlow := ymX 32 N t (s % 32) hN
 have hN1 : N < 2 ^ (32 * (t + 1)) := Nat.lt_of_lt_of_le hN (Nat.pow_le_pow_right (by omega) (by omega))
 have hym : y % 4294967296 % 2 ^ (s % 32) = 0 := by
  rw [show (4294967296 : Nat) = 2 ^ 32 from rfl, Nat.mod_mod_of_dvd _ (Nat.pow_dvd_pow 2 (by omega)), ← hy]
  exact Nat.mul_mod_left _ _
 have hor : dg 32 N t ||| y % 4294967296 = dg 32 N t + y % 4294967296 := yfU hlow hym
 have hsum : dg 32 N t + y % 4294967296 < 2 ^ 32 := by
  rw [← hor]; exact Nat.or_lt_two_pow (ya4 32 N t) (by rw [B32]; exact Nat.mod_lt _ (by omega))
 have hyl : y / 4294967296 < 2 ^ 32 := by
  rw [B32, Nat.div_lt_iff_lt_mul (by omega), ← hy]
  have : dg 32 x i * 2 ^ (s % 32) < 2 ^ 32 * 2 ^ 32 := Nat.mul_lt_mul_of_lt_of_le (by rw [B32]; exact hdx) (Nat.pow_le_pow_right (by omega) (by omega)) (Nat.two_pow_pos _)
  rw [B32] at this; exact this
 have hG1 : upd (G 32 N) t (((dg 32 N t ||| y % 4294967296 : Nat)) : Int) = G 32 (N + y % 4294967296 * 2 ^ (32 * t)) := by
  rw [hor]
  refine yjd ?_ hsum
  rw [Nat.add_mul]; omega
 have hlt : N + y % 4294967296 * 2 ^ (32 * t) < 2 ^ (32 * (t + 1)) := by
  have hNl : N = N % 2 ^ (32 * t) + dg 32 N t * 2 ^ (32 * t) := by
   have := ybl 32 N t
   rw [Nat.mod_eq_of_lt hN1] at this; exact this
  have h1 := yjl 32 (N % 2 ^ (32 * t)) (dg 32 N t + y % 4294967296) t (Nat.mod_lt _ (Nat.two_pow_pos _)) hsum
  rw [Nat.add_mul] at h1
  omega
 refine ⟨N + y % 4294967296 * 2 ^ (32 * t), hG1, ydf 32 _ _ hlt, ?_⟩
 rw [ylA 32 _ _ (t + 1) hlt hyl]
 refine congrArg (G 32) ?_
 have h2 := yju y 4294967296 (2 ^ (32 * t))
 rw [ycx, B32]
 have h3 : y * 2 ^ (32 * t) = dg 32 x i * 2 ^ (32 * i) * 2 ^ s := by
  rw [← hy, Nat.mul_assoc, ← Nat.pow_add, Nat.mul_assoc, ← Nat.pow_add]; congr 2; omega
 rw [ybl, Nat.add_mul, hNN, ← h3]
 omega
theorem ykj (x n s : Nat) (hn : n ≤ 1000000) (hs : s ≤ 100000000) (hx : x < 2 ^ (32 * n)) (c0 m0 : Nat) (k0 : Nat → Nat → Nat → (Nat → Int) → Prop) (h : k0 (n + s / 32 + 1) c0 m0 (G 32 (x * 2 ^ s))) :
  ∀ (j i : Nat), i + j = n → zaz.l5 k0 (j + 1) s (n + s / 32 + 1) c0 n (G 32 x) n i m0 (G 32 (x % 2 ^ (32 * i) * 2 ^ s)) := by
 intro j
 induction j with
 | zero =>
  intro i hi
  unfold zaz.l5 zaz.l5.step
  rw [yaH (yca (by omega)), show i = n from by omega, Nat.mod_eq_of_lt hx]
  exact h
 | succ j ih =>
  intro i hi
  have ih := ih (i + 1) (by omega)
  have e : ((i + 1 : Nat) : Int) = (i : Int) + 1 := by omega
  obtain ⟨N1, u1, u2, u3⟩ := ypg x i s _ _ _ rfl rfl rfl
  rw [e, ← u3] at ih
  have hd := ya4 32 x i
  rw [B32] at hd
  obtain ⟨q1, q2⟩ := yiO (dg 32 x i) (s % 32) hd (Nat.mod_lt _ (by omega))
  have e1 : Int.toNat ((i : Int) + (s : Int) / 32) = i + s / 32 := by omega
  have e2 : Int.toNat ((i : Int) + (s : Int) / 32 + 1) = i + s / 32 + 1 := by omega
  have e3 : (s : Int) % 32 = ((s % 32 : Nat) : Int) := by omega
  have e4 : ((dg 32 x i * 2 ^ (s % 32) : Nat) : Int) % 4294967296 = ((dg 32 x i * 2 ^ (s % 32) % 4294967296 : Nat) : Int) := by omega
  have e5 : ((dg 32 x i * 2 ^ (s % 32) : Nat) : Int) / 4294967296 % 4294967296 = ((dg 32 x i * 2 ^ (s % 32) / 4294967296 : Nat) : Int) := by omega
  have hb : IntKind.bits .u32 = 32 := rfl
  have o1 : orI .u32 ((dg 32 (x % 2 ^ (32 * i) * 2 ^ s) (i + s / 32) : Nat) : Int) ((dg 32 x i * 2 ^ (s % 32) % 4294967296 : Nat) : Int) = ((dg 32 (x % 2 ^ (32 * i) * 2 ^ s) (i + s / 32) ||| dg 32 x i * 2 ^ (s % 32) % 4294967296 : Nat) : Int) :=
   ypj (k := .u32) rfl _ _ (by rw [hb]; exact ya4 32 _ _) (by rw [hb, B32]; exact Nat.mod_lt _ (by omega))
  have o2 : orI .u32 ((0 : Nat) : Int) ((dg 32 x i * 2 ^ (s % 32) / 4294967296 : Nat) : Int) = ((dg 32 x i * 2 ^ (s % 32) / 4294967296 : Nat) : Int) := by
   rw [ypj (k := .u32) rfl _ _ (by rw [hb, B32]; omega) (by rw [hb, B32]; omega), Nat.zero_or]
  unfold zaz.l5 zaz.l5.step
  simp (disch := omega) only [ybm, yca, yaQ, yaG, yaZ, Bool.and_self, Bool.not_false, Int.toNat_natCast, yb0, ygP, yaD, ybi, ybp, e1, e2, e3, q1, yct, yeS, e4, e5, o1, u1, u2, o2]
  exact ih
theorem ylk (x n s : Nat) (hn : n ≤ 1000000) (hs : s ≤ 100000000) (hx : x < 2 ^ (32 * n)) : x * 2 ^ s < 2 ^ (32 * (n + s / 32 + 1)) := by
 have : x * 2 ^ s < 2 ^ (32 * n) * 2 ^ s := Nat.mul_lt_mul_of_pos_right hx (Nat.two_pow_pos _)
 rw [← Nat.pow_add] at this
 exact Nat.lt_of_lt_of_le this (Nat.pow_le_pow_right (by omega) (by omega))
theorem yiP (x n s : Nat) (hn : n ≤ 1000000) (hs : s ≤ 100000000) (hx : x < 2 ^ (32 * n)) (K0 : Prop) (K1 : Nat → Nat → Nat → (Nat → Int) → Prop) (h0 : n = 0 → K0) (h1 : n ≠ 0 → ∀ c m, K1 (wl 32 (x * 2 ^ s)) c m (G 32 (x * 2 ^ s))) :
  zaz n (G 32 x) s K0 K1 := by
 rw [zaz.is]; unfold zaz.d
 by_cases hz : n = 0
 ·rw [yaW (yme (by omega))]; exact h0 hz
 ·rw [yaH (yjM (by omega))]
  have e1 : Int.toNat ((n : Int) + (s : Int) / 32 + 1) = n + s / 32 + 1 := by omega
  simp (disch := omega) only [yb0, yaD, yaQ, yaG, Bool.and_self, e1]
  refine ⟨n + 1, ?_⟩
  have := ykj x n s hn hs hx (n + s / 32 + 1) (n + s / 32 + 1) (fun y0 y1 y2 y3 => zat y0 y1 y2 y3 fun y0 y1 y2 y3 => K1 y0 y1 y2 y3) ?_ n 0 (by omega)
  ·rw [Nat.mul_zero, Nat.pow_zero, Nat.mod_one, Nat.zero_mul, yc7] at this; exact this
  ·exact ydv _ _ _ _ (by omega) (Nat.le_refl _) (ylk x n s hn hs hx) _ fun c => h1 hz c _
theorem yo5 (x s i : Nat) : (dg 32 x (i + s / 32) + dg 32 x (i + s / 32 + 1) * 4294967296) / 2 ^ (s % 32) % 4294967296 = dg 32 (x / 2 ^ s) i := by
 have hr : s % 32 < 32 := Nat.mod_lt _ (by omega)
 have h1 : dg 32 x (i + s / 32) + dg 32 x (i + s / 32 + 1) * 4294967296 = x / 2 ^ (32 * (i + s / 32)) % 2 ^ 64 := by
  have a := ycE 32 x (i + s / 32)
  have b := ycE 32 x (i + s / 32 + 1)
  rw [B32] at a b
  rw [a, b, B64]
  have c := ya4 32 x (i + s / 32)
  have d := ya4 32 x (i + s / 32 + 1)
  rw [B32] at c d
  omega
 rw [h1]
 unfold dg
 rw [Nat.div_div_eq_div_mul, ← Nat.pow_add]
 have h2 : (2 : Nat) ^ 64 = 2 ^ (s % 32) * 2 ^ (64 - s % 32) := by rw [← Nat.pow_add]; congr 1; omega
 rw [h2, Nat.mod_mul_right_div_self, Nat.div_div_eq_div_mul, ← Nat.pow_add, show (4294967296 : Nat) = 2 ^ 32 from rfl, Nat.mod_mod_of_dvd _ (Nat.pow_dvd_pow 2 (by omega))]
 congr 3; omega
theorem yhD (x n s : Nat) (hn : n ≤ 1000000) (hx : x < 2 ^ (32 * n)) (hs : s / 32 < n) (c0 m0 : Nat) (k0 : Nat → Nat → Nat → (Nat → Int) → Prop) (h : k0 (n - s / 32) c0 m0 (G 32 (x / 2 ^ s % 2 ^ (32 * (n - s / 32))))) :
  ∀ (j i : Nat), i + j = n - s / 32 → zav.l5 k0 (j + 1) n (G 32 x) s (n - s / 32) c0 ((n - s / 32 : Nat) : Int) i m0 (G 32 (x / 2 ^ s % 2 ^ (32 * i))) := by
 intro j
 induction j with
 | zero =>
  intro i hi
  unfold zav.l5 zav.l5.step
  rw [yaH (yca (by omega)), show i = n - s / 32 from by omega]
  exact h
 | succ j ih =>
  intro i hi
  have ih := ih (i + 1) (by omega)
  have e : ((i + 1 : Nat) : Int) = (i : Int) + 1 := by omega
  have hr : s % 32 < 32 := Nat.mod_lt _ (by omega)
  have hw := yo5 x s i
  have hdw := ya4 32 (x / 2 ^ s) i
  rw [e, ybl, ← ylA 32 _ _ i (Nat.mod_lt _ (Nat.two_pow_pos _)) hdw, ← hw] at ih
  have hd := ya4 32 x (i + s / 32)
  have hd2 := ya4 32 x (i + s / 32 + 1)
  rw [B32] at hd hd2
  have e1 : Int.toNat ((i : Int) + (s : Int) / 32) = i + s / 32 := by omega
  have e2 : Int.toNat ((i : Int) + (s : Int) / 32 + 1) = i + s / 32 + 1 := by omega
  have e3 : (s : Int) % 32 = ((s % 32 : Nat) : Int) := by omega
  have hb : IntKind.bits .u64 = 64 := rfl
  have sh : ∀ z : Nat, yaS .u64 (z : Int) ((s % 32 : Nat) : Int) = ((z / 2 ^ (s % 32) : Nat) : Int) := fun z => by
   rw [ydZ (k := .u64) (by rw [hb]; omega)]; simp
  unfold zav.l5 zav.l5.step
  by_cases hlt : i + s / 32 + 1 < n
  ·have o1 : orI .u64 ((dg 32 x (i + s / 32) : Nat) : Int) (yc0 .u64 ((dg 32 x (i + s / 32 + 1) : Nat) : Int) 32) = ((dg 32 x (i + s / 32) + dg 32 x (i + s / 32 + 1) * 4294967296 : Nat) : Int) := by
    have := ymG (k := .u64) rfl (dg 32 x (i + s / 32 + 1)) 32 (by rw [hb]; omega)
    rw [show ((32 : Nat) : Int) = 32 from rfl] at this
    rw [this, hb, B32, Nat.mod_eq_of_lt (by rw [B64]; omega), ypj (k := .u64) rfl _ _ (by rw [hb, B64]; omega) (by rw [hb, B64]; omega)]
    congr 1
    exact yfU (r := 32) (by rw [B32]; exact hd) (by rw [B32]; exact Nat.mul_mod_left _ _)
   have e4 : (((dg 32 x (i + s / 32) + dg 32 x (i + s / 32 + 1) * 4294967296) / 2 ^ (s % 32) : Nat) : Int) % 4294967296 = (((dg 32 x (i + s / 32) + dg 32 x (i + s / 32 + 1) * 4294967296) / 2 ^ (s % 32) % 4294967296 : Nat) : Int) := by omega
   simp (disch := omega) only [ybm, yca, yaQ, yaG, yaZ, Bool.and_self, Bool.not_false, Int.toNat_natCast, yb0, ygP, yaD, ybi, ybp, e1, e2, e3, o1, sh, yct, e4]
   exact ih
  ·have hz : dg 32 x (i + s / 32 + 1) = 0 := yfM 32 x n _ hx (by omega)
   rw [hz, Nat.zero_mul, Nat.add_zero] at ih
   have e4 : ((dg 32 x (i + s / 32) / 2 ^ (s % 32) : Nat) : Int) % 4294967296 = ((dg 32 x (i + s / 32) / 2 ^ (s % 32) % 4294967296 : Nat) : Int) := by omega
   simp (disch := omega) only [ybm, yca, yaQ, yaG, yaZ, yew, Bool.and_self, Bool.not_false, Int.toNat_natCast, yb0, ygP, yaD, ybi, ybp, e1, e2, e3, sh, yct, e4]
   exact ih
theorem yfL (x n s : Nat) (hn : n ≤ 1000000) (hs : s < 9223372036854775808) (hx : x < 2 ^ (32 * n)) (K : Nat → (Nat → Int) → Prop) (h : K (wl 32 (x / 2 ^ s)) (G 32 (x / 2 ^ s))) : zav n (G 32 x) s K := by
 rw [zav.is]; unfold zav.d
 rw [yb0 (by omega) (by omega) (by omega)]
 by_cases hlt : n ≤ s / 32
 ·rw [yaW (yaQ (by omega))]
  have hz : x / 2 ^ s = 0 := Nat.div_eq_of_lt (Nat.lt_of_lt_of_le hx (Nat.pow_le_pow_right (by omega) (by omega)))
  rw [hz, ycQ, yc7] at h
  exact h
 ·rw [yaH (ygj (by omega))]
  have e1 : Int.toNat ((n : Int) - (s : Int) / 32) = n - s / 32 := by omega
  have e2 : (n : Int) - (s : Int) / 32 = ((n - s / 32 : Nat) : Int) := by omega
  simp (disch := omega) only [yaB, yaQ, yaG, Bool.and_self, e1]
  have hlt2 : x / 2 ^ s < 2 ^ (32 * (n - s / 32)) := by
   rw [Nat.div_lt_iff_lt_mul (Nat.two_pow_pos _), ← Nat.pow_add]
   exact Nat.lt_of_lt_of_le hx (Nat.pow_le_pow_right (by omega) (by omega))
  refine ⟨n - s / 32 + 1, ?_⟩
  have := yhD x n s hn hx (by omega) (n - s / 32) (n - s / 32) (fun y0 y1 y2 y3 => zat y0 y1 y2 y3 fun y0 y1 y2 y3 => K y0 y3) ?_ (n - s / 32) 0 (by omega)
  ·rw [Nat.mul_zero, Nat.pow_zero, Nat.mod_one, yc7] at this; exact this
  ·rw [Nat.mod_eq_of_lt hlt2]
   exact ydv _ _ _ _ (by omega) (Nat.le_refl _) hlt2 _ fun c => h
theorem yoo (k x : Nat) (hk : k ≠ 0) (hx : x ≠ 0) : ybV x = k * (wl k x - 1) + ybV (dg k x (wl k x - 1)) := by
 have h1 := ydU k hk x
 have hp : wl k x ≠ 0 := by rw [yg3 hx hk]; omega
 have h2 : x / 2 ^ (k * (wl k x - 1)) = dg k x (wl k x - 1) := by
  have := ycE k x (wl k x - 1)
  rw [show wl k x - 1 + 1 = wl k x from by omega, Nat.div_eq_of_lt h1] at this
  omega
 have h3 := ykx k hk x hx
 rw [← h2] at h3 ⊢
 exact yhk h3
theorem ypd (b : UInt8) (l : List UInt8) : dg 8 (val (b :: l)) l.length = b.toNat := by
 have := ykJ (b :: l) l.length (by simp)
 rw [show (b :: l).length - 1 - l.length = 0 from by simp] at this
 exact this.symm
def ybD (x : Nat) : Nat := if h : x % 2 = 1 ∨ x = 0 then 0 else ybD (x / 2) + 1
decreasing_by omega
theorem yd5 (x : Nat) (h : x ≠ 0) : ∃ q, x = 2 ^ ybD x * (2 * q + 1) := by
 induction x using Nat.strongRecOn with
 | _ x ih =>
  by_cases h1 : x % 2 = 1
  ·have : ybD x = 0 := by rw [ybD]; simp [h1]
   exact ⟨x / 2, by rw [this, Nat.pow_zero, Nat.one_mul]; omega⟩
  ·have : ybD x = ybD (x / 2) + 1 := by rw [ybD]; rw [dif_neg (by omega)]
   obtain ⟨q, hq⟩ := ih (x / 2) (by omega) (by omega)
   refine ⟨q, ?_⟩
   rw [this, Nat.pow_succ, Nat.mul_assoc, Nat.mul_comm 2, ← Nat.mul_assoc, ← hq]; omega
theorem yj4 (k q : Nat) : ybD (2 ^ k * (2 * q + 1)) = k := by
 induction k with
 | zero => rw [ybD]; rw [dif_pos (by left; omega)]
 | succ k ih =>
  have hp := Nat.two_pow_pos k
  have hpos : 0 < 2 ^ k * (2 * q + 1) := Nat.mul_pos hp (by omega)
  have e : 2 ^ (k + 1) * (2 * q + 1) = 2 * (2 ^ k * (2 * q + 1)) := by rw [Nat.pow_succ, Nat.mul_comm (2 ^ k) 2, Nat.mul_assoc]
  rw [e, ybD, dif_neg (by omega), show 2 * (2 ^ k * (2 * q + 1)) / 2 = 2 ^ k * (2 * q + 1) from by omega, ih]
theorem yiE (x t : Nat) (h0 : x % 2 ^ (8 * t) = 0) (hd : dg 8 x t ≠ 0) : ybD x = 8 * t + ybD (dg 8 x t) := by
 obtain ⟨q, hq⟩ := yd5 _ hd
 have hlt := ya4 8 x t
 have hk : ybD (dg 8 x t) < 8 := by
  apply Classical.byContradiction
  intro hc
  have h1 : 2 ^ 8 ≤ 2 ^ ybD (dg 8 x t) := Nat.pow_le_pow_right (by omega) (by omega)
  have h2 : 2 ^ ybD (dg 8 x t) * 1 ≤ 2 ^ ybD (dg 8 x t) * (2 * q + 1) := Nat.mul_le_mul_left _ (by omega)
  omega
 have hx := yfz 8 x t
 rw [h0, Nat.zero_add] at hx
 generalize hkk : ybD (dg 8 x t) = k at *
 have h8 : (2 : Nat) ^ (8 * (t + 1)) = 2 ^ (8 * t) * (2 ^ k * (2 * 2 ^ (7 - k))) := by
  rw [show (2 : Nat) * 2 ^ (7 - k) = 2 ^ (8 - k) from by rw [show 8 - k = 7 - k + 1 from by omega, Nat.pow_succ, Nat.mul_comm], ← Nat.pow_add, ← Nat.pow_add]; congr 1; omega
 have e : x = 2 ^ (8 * t + k) * (2 * (q + x / 2 ^ (8 * (t + 1)) * 2 ^ (7 - k)) + 1) := by
  conv => lhs; rw [hx, hq]
  generalize x / 2 ^ (8 * (t + 1)) = y
  rw [h8, Nat.pow_add]
  generalize 2 ^ (8 * t) = P
  generalize 2 ^ k = Q
  generalize 2 ^ (7 - k) = R
  have e1 : y * (P * (Q * (2 * R))) = P * Q * (2 * (y * R)) := by
   rw [Nat.mul_left_comm y P, Nat.mul_left_comm y Q, Nat.mul_left_comm y 2, ← Nat.mul_assoc P]
  rw [e1, Nat.mul_comm (Q * _) P, ← Nat.mul_assoc, ← Nat.mul_add]
  congr 1; omega
 have := yj4 (8 * t + k) (q + x / 2 ^ (8 * (t + 1)) * 2 ^ (7 - k))
 rw [← e] at this
 exact this
theorem yi3 : ybD 0 = 0 := by rw [ybD]; simp
theorem yio (a : List UInt8) (hl : a.length ≤ 100000) (k0 : Int → Prop) (k1 : Prop) (h0 : val a ≠ 0 → k0 (ybD (val a))) (h1 : val a = 0 → k1) :
  ∀ (j t : Nat), t + j = a.length → val a % 2 ^ (8 * t) = 0 → zao.l4 k0 k1 (j + 1) a ((a.length : Int) - 1 - t) := by
 intro j
 induction j with
 | zero =>
  intro t ht hm
  unfold zao.l4 zao.l4.step
  rw [yaH (ygj (by omega))]
  refine h1 ?_
  rw [Nat.mod_eq_of_lt (by have := yfa a; rw [ynA] at this; rwa [show t = a.length from by omega])] at hm
  exact hm
 | succ j ih =>
  intro t ht hm
  have hd := ya4 8 (val a) t
  have e8 : (2 : Nat) ^ 8 = 256 := rfl
  have e1 : Int.toNat ((a.length : Int) - 1 - t) = a.length - 1 - t := by omega
  have e2 : (a.length : Int) - 1 - ((a.length : Int) - 1 - t) = t := by omega
  have e3 : (a.length : Int) - 1 - t - 1 = (a.length : Int) - 1 - ((t + 1 : Nat) : Int) := by omega
  unfold zao.l4 zao.l4.step
  simp (disch := omega) only [ybm, yaQ, yaG, yaZ, Bool.and_self, e1]
  rw [yer a t (by omega)]
  by_cases hz : dg 8 (val a) t = 0
  ·rw [yme (by omega), yaH (by rfl)]
   simp (disch := omega) only [yaB, e3]
   refine ih (t + 1) (by omega) ?_
   rw [ybl, hm, hz]; omega
  ·rw [yjM (by omega), yaW (by rfl), ybi (by omega) (by omega)]
   obtain ⟨q, hq⟩ := yd5 _ hz
   have hk : ybD (dg 8 (val a) t) < 64 := by
    apply Classical.byContradiction
    intro hc
    have h1 : 2 ^ 64 ≤ 2 ^ ybD (dg 8 (val a) t) := Nat.pow_le_pow_right (by omega) (by omega)
    have h2 : 2 ^ ybD (dg 8 (val a) t) * 1 ≤ 2 ^ ybD (dg 8 (val a) t) * (2 * q + 1) := Nat.mul_le_mul_left _ (by omega)
    rw [B64] at h1; omega
   have hlow := yiE (val a) t hm hz
   have := ykc (ybD (dg 8 (val a) t)) q hk (by rw [← hq]; omega) (fun y0 => k0 (yal .i64 (ycB .i64 8 (yaw .i64 (yaw .i64 (a.length : Int) 1) ((a.length : Int) - 1 - t))) y0)) ?_
   ·rw [← hq] at this; exact this
   ·simp (disch := omega) only [yaB, ycv, yaD, e2]
    rw [show 8 * (t : Int) + (ybD (dg 8 (val a) t) : Int) = ((ybD (val a) : Nat) : Int) from by rw [hlow]; omega]
    refine h0 fun e => hz ?_
    rw [e]; exact ydf 8 0 t (Nat.two_pow_pos _)
theorem yeK (a : List UInt8) (K : Int → Prop) (h : K (if May a then (ybD (val a) : Int) else 0)) : zao a K := by
 rw [zao.is]; unfold zao.d
 rw [yaY]
 by_cases hm : May a
 ·rw [if_pos hm] at h
  have hl := hm.1
  rw [if_pos hm, yaH (by rfl), yaB (by omega) (by omega)]
  refine ⟨a.length + 1, ?_⟩
  have := yio a (by omega) (fun y0 => K y0) (K 0) (fun _ => h) (fun e => by rw [e, yi3] at h; exact h) a.length 0 (by omega) (by simp [Nat.mod_one])
  rw [show (a.length : Int) - 1 - ((0 : Nat) : Int) = (a.length : Int) - 1 from by omega] at this
  exact this
 ·rw [if_neg hm] at h
  rw [if_neg hm, yaW (by rfl)]; exact h
end Go.Ev.S

/- Natural numbers as rows of words: divided. -/
set_option linter.unusedVariables false
set_option linter.unusedSimpArgs false
set_option maxRecDepth 8000
namespace Go.Ev.S
open Go Go.Ev
theorem yov {B P U D v1 v2 dl x u2 ul q left : Nat} (hP : 0 < P) (hD : D = (v1 * B + v2) * P + dl) (hU : U = (x * B + u2) * P + ul) (hul : ul < P) (hx : q * v1 + left = x) (hD0 : 0 < D) (hUB : U < D * B)
  (h : B ≤ q ∨ left * B + u2 < q * v2) : U / D < q := by
 rw [Nat.div_lt_iff_lt_mul hD0]
 rcases h with h | h
 ·exact Nat.lt_of_lt_of_le hUB (by rw [Nat.mul_comm q]; exact Nat.mul_le_mul_left _ h)
 ·have h1 : (x * B + u2 + 1) * P ≤ q * ((v1 * B + v2) * P) := by
   rw [← Nat.mul_assoc]
   refine Nat.mul_le_mul_right _ ?_
   rw [← hx, Nat.mul_add, Nat.add_mul, ← Nat.mul_assoc]
   omega
  have h2 : q * ((v1 * B + v2) * P) ≤ q * D := Nat.mul_le_mul_left _ (by omega)
  rw [Nat.add_mul, Nat.one_mul] at h1
  omega
theorem ynX {B P U D v1 v2 dl x u2 ul q left : Nat} (hD : D = (v1 * B + v2) * P + dl) (hdl : dl < P) (hU : U = (x * B + u2) * P + ul) (hx : q * v1 + left = x) (hD0 : 0 < D) (hv : 0 < v1) (hqB : q < B) (h : q * v2 ≤ left * B + u2) : q ≤ U / D + 1 := by
 have key : (q - 1) * D ≤ U := by
  have h1 : (q - 1) * D ≤ (q - 1) * ((v1 * B + v2 + 1) * P) := Nat.mul_le_mul_left _ (by rw [Nat.add_mul (v1 * B + v2)]; omega)
  have h2 : (q - 1) * (v1 * B + v2 + 1) ≤ x * B + u2 := by
   rcases Nat.eq_zero_or_pos q with h0 | h0
   ·subst h0; simp
   ·have e1 : (q - 1) * (v1 * B + v2 + 1) = q * (v1 * B + v2) + (q - 1) - (v1 * B + v2) := by
     obtain ⟨t, rfl⟩ : ∃ t, q = t + 1 := ⟨q - 1, by omega⟩
     rw [Nat.add_sub_cancel, Nat.mul_add t, Nat.add_mul t 1]
     omega
    have e2 : q * (v1 * B + v2) ≤ x * B + u2 := by
     rw [← hx, Nat.mul_add, Nat.add_mul, ← Nat.mul_assoc]; omega
    have e3 : B ≤ v1 * B := Nat.le_mul_of_pos_left _ hv
    omega
  have h3 : (q - 1) * ((v1 * B + v2 + 1) * P) ≤ (x * B + u2) * P := by
   rw [← Nat.mul_assoc]; exact Nat.mul_le_mul_right _ h2
  omega
 have := (Nat.le_div_iff_mul_le hD0).2 key
 omega
theorem yf1 (a b : Nat) (ha : a < 4294967296) (hb : b < 4294967296) : orI .u64 (yc0 .u64 (a : Int) 32) (b : Int) = ((a * 4294967296 + b : Nat) : Int) := by
 have hb64 : IntKind.bits .u64 = 64 := rfl
 have := ymG (k := .u64) rfl a 32 (by rw [hb64]; omega)
 rw [show ((32 : Nat) : Int) = 32 from rfl] at this
 rw [this, hb64, B32, Nat.mod_eq_of_lt (by rw [B64]; omega), ypj (k := .u64) rfl _ _ (by rw [hb64, B64]; omega) (by rw [hb64, B64]; omega)]
 congr 1
 rw [Nat.or_comm, yfU (r := 32) (by rw [B32]; exact hb) (by rw [B32]; exact Nat.mul_mod_left _ _), Nat.add_comm]
theorem ymj (a b : Nat) (ha : a < 18446744073709551616) : ya1 .u64 (a : Int) (b : Int) = ((a / b : Nat) : Int) := by
 have h : a / b ≤ a := Nat.div_le_self a b
 show IntKind.wrap .u64 ((a : Int).tdiv b) = _
 rw [Int.tdiv_eq_ediv_of_nonneg (by omega)]
 have : (a : Int) / (b : Int) = ((a / b : Nat) : Int) := by simp
 rw [this]
 generalize a / b = q at h ⊢
 exact yhm (by omega) (by omega)
theorem ygW {again : Nat → Int → Nat → Nat → Int → Int → Int → Int → Nat → (Nat → Int) → Nat → (Nat → Int) → Nat → (Nat → Int) → Prop} {k0 : Nat → Int → Nat → Nat → Int → Int → Int → Nat → (Nat → Int) → Nat → (Nat → Int) → Nat → (Nat → Int) → Prop} (n0 : Nat) (s : Int) (L md i : Nat) (hmd : 2 ≤ md) (hmd2 : md ≤ 1000000) (c1 c2 c3 : Nat) (f1 f3 : Nat → Int) (D v1 q left : Nat) (hv1 : v1 < 4294967296) (hl : left < 4294967296) (e1 : dg 32 D (md - 1) = v1) (hq1 : q + 1 < 18446744073709551616)
  (h1 : left + v1 < 4294967296 → again n0 s md L md i q (left + v1 : Nat) c1 f1 c2 (G 32 D) c3 f3) (h2 : 4294967296 ≤ left + v1 → k0 n0 s md L md i q c1 f1 c2 (G 32 D) c3 f3) :
  gd (leI 0 (yaw IntKind.i64 (md : Int) 1) && ltI (yaw IntKind.i64 (md : Int) 1) (md : Int)) (br (leI 4294967296 (yal IntKind.u64 (left : Int) (cvI IntKind.u64 (G 32 D (Int.toNat (yaw IntKind.i64 (md : Int) 1)))))) (k0 n0 s md L md i (yaw IntKind.u64 ((q + 1 : Nat) : Int) 1) c1 f1 c2 (G 32 D) c3 f3) (again n0 s md L md i (yaw IntKind.u64 ((q + 1 : Nat) : Int) 1) (yal IntKind.u64 (left : Int) (cvI IntKind.u64 (G 32 D (Int.toNat (yaw IntKind.i64 (md : Int) 1))))) c1 f1 c2 (G 32 D) c3 f3)) := by
 have s1 : yaw .u64 ((q + 1 : Nat) : Int) 1 = (q : Int) := by rw [ymZ (by omega) (by omega)]; omega
 have a1 : yal .u64 (left : Int) ((v1 : Nat) : Int) = ((left + v1 : Nat) : Int) := by rw [yjR (by omega) (by omega)]; omega
 have i0 : yaw IntKind.i64 (md : Int) 1 = (md : Int) - 1 := by rw [yaB (by omega) (by omega)]
 have i1 : Int.toNat ((md : Int) - 1) = md - 1 := by omega
 have i2 : cvI IntKind.u64 ((v1 : Nat) : Int) = v1 := by rw [ybi (by omega) (by omega)]
 rw [i0, i1, ybp, e1, i2, a1, s1, ybn (by rw [yaQ (by omega), ybm (by omega)]; rfl)]
 by_cases hl2 : left + v1 < 4294967296
 ·rw [yaH (ygj (by omega))]; exact h1 hl2
 ·rw [yaW (yaQ (by omega))]; exact h2 (by omega)
theorem ylb (left u2 q v2 : Nat) (hl : left < 4294967296) (hu : u2 < 4294967296) (hq : q < 4294967296) (hv : v2 < 4294967296) : ltI (orI IntKind.u64 (yc0 IntKind.u64 (left : Int) 32) (cvI IntKind.u64 (u2 : Int))) (ycB IntKind.u64 (q : Int) (cvI IntKind.u64 (v2 : Int))) = decide (left * 4294967296 + u2 < q * v2) := by
 have h1 : q * v2 ≤ 4294967295 * 4294967295 := Nat.mul_le_mul (by omega) (by omega)
 have e4 : ((q : Int) * ((v2 : Nat) : Int)) = ((q * v2 : Nat) : Int) := by simp
 rw [ybi (by omega) (by omega), ybi (by omega) (by omega), yf1 left u2 hl hu, ynw (by rw [e4]; omega) (by rw [e4]; omega), e4]
 generalize q * v2 = t
 by_cases h : left * 4294967296 + u2 < t
 ·rw [ybm (by omega)]; exact (decide_eq_true h).symm
 ·rw [yca (by omega)]; exact (decide_eq_false h).symm
theorem yhb {again : Nat → Int → Nat → Nat → Int → Int → Int → Int → Nat → (Nat → Int) → Nat → (Nat → Int) → Nat → (Nat → Int) → Prop} {k0 : Nat → Int → Nat → Nat → Int → Int → Int → Nat → (Nat → Int) → Nat → (Nat → Int) → Nat → (Nat → Int) → Prop} (n0 : Nat) (s : Int) (L md i : Nat) (hi : i ≤ 1000000) (hmd : 2 ≤ md) (hmd2 : md ≤ 1000000) (hL : i + md < L) (c1 c2 c3 : Nat) (f1 : Nat → Int) (D N v1 v2 u2 q left : Nat) (hv1 : v1 < 4294967296) (hv2 : v2 < 4294967296) (hu2 : u2 < 4294967296) (hl : left < 4294967296)
  (e1 : dg 32 D (md - 1) = v1) (e2 : dg 32 D (md - 2) = v2) (e3 : dg 32 N (i + md - 2) = u2) (hq1 : q < 18446744073709551616)
  (hd : 4294967296 ≤ q ∨ left * 4294967296 + u2 < q * v2 → ∃ p, q = p + 1 ∧ (left + v1 < 4294967296 → again n0 s md L md i p (left + v1 : Nat) c1 f1 c2 (G 32 D) c3 (G 32 N)) ∧ (4294967296 ≤ left + v1 → k0 n0 s md L md i p c1 f1 c2 (G 32 D) c3 (G 32 N)))
  (hk : q < 4294967296 → q * v2 ≤ left * 4294967296 + u2 → k0 n0 s md L md i q c1 f1 c2 (G 32 D) c3 (G 32 N)) :
  zax.l24.step again k0 n0 s md L md i q left c1 f1 c2 (G 32 D) c3 (G 32 N) := by
 unfold zax.l24.step
 by_cases hbig : 4294967296 ≤ q
 ·rw [yaW (yaQ (by omega))]
  obtain ⟨p, rfl, h1, h2⟩ := hd (.inl hbig)
  exact ygW n0 s L md i hmd hmd2 c1 c2 c3 f1 _ D v1 p left hv1 hl e1 (by omega) h1 h2
 ·rw [yaH (ygj (by omega))]
  have i0 : yaw IntKind.i64 (md : Int) 2 = (md : Int) - 2 := by rw [yaB (by omega) (by omega)]
  have i1 : yal IntKind.i64 (i : Int) (md : Int) = (i : Int) + md := by rw [yaD (by omega) (by omega)]
  have i2 : yaw IntKind.i64 ((i : Int) + md) 2 = (i : Int) + md - 2 := by rw [yaB (by omega) (by omega)]
  have i3 : Int.toNat ((md : Int) - 2) = md - 2 := by omega
  have i4 : Int.toNat ((i : Int) + md - 2) = i + md - 2 := by omega
  rw [i0, i1, i2, i3, i4, ybn (by rw [yaQ (by omega), ybm (by omega)]; rfl), ybn (by rw [yaQ (by omega), ybm (by omega)]; rfl), ybp, ybp, e2, e3, ylb left u2 q v2 hl hu2 (by omega) hv2]
  by_cases ht : left * 4294967296 + u2 < q * v2
  ·rw [yaW (decide_eq_true ht)]
   obtain ⟨p, rfl, h1, h2⟩ := hd (.inr ht)
   exact ygW n0 s L md i hmd hmd2 c1 c2 c3 f1 _ D v1 p left hv1 hl e1 (by omega) h1 h2
  ·rw [yaH (decide_eq_false ht)]
   exact hk (by omega) (by omega)
theorem ylc {B v1 x q left : Nat} (hxv : x / B ≤ v1) (hB : 0 < B) (hx : q * v1 + left = x) (hq : B ≤ q) : left < B := by
 have h1 : B * v1 ≤ q * v1 := Nat.mul_le_mul_right _ hq
 have h2 := Nat.div_add_mod x B
 have h3 := Nat.mod_lt x hB
 have h4 : B * (x / B) ≤ B * v1 := Nat.mul_le_mul_left _ hxv
 omega
theorem ylX {B q v2 left u2 : Nat} (hq : q < B) (hv : v2 < B) (hl : B ≤ left) : q * v2 ≤ left * B + u2 := by
 have h1 : q * v2 ≤ B * B := Nat.mul_le_mul (by omega) (by omega)
 have h2 : B * B ≤ left * B := Nat.mul_le_mul_right _ hl
 omega
theorem yfY (n s : Int) (L md i : Nat) (hi : i ≤ 1000000) (hmd : 2 ≤ md) (hmd2 : md ≤ 1000000) (hL : i + md < L) (n0 : Nat) (D N : Nat) (c1 c2 c3 : Nat) (f1 : Nat → Int)
  (U v1 v2 dl x u2 ul P : Nat) (hP : 0 < P) (hD : D = (v1 * 4294967296 + v2) * P + dl) (hdl : dl < P) (hU : U = (x * 4294967296 + u2) * P + ul) (hul : ul < P) (hD0 : 0 < D) (hUB : U < D * 4294967296) (hv : 0 < v1)
  (hxv : x / 4294967296 ≤ v1) (hx2 : x < 18446744073709551616)
  (e1 : dg 32 D (md - 1) = v1) (e2 : dg 32 D (md - 2) = v2) (e3 : dg 32 N (i + md - 2) = u2)
  (k0 : Nat → Int → Nat → Nat → Int → Int → Int → Nat → (Nat → Int) → Nat → (Nat → Int) → Nat → (Nat → Int) → Prop)
  (h : ∀ q : Nat, U / D ≤ q → q ≤ U / D + 1 → q < 4294967296 → k0 n0 s md L md i q c1 f1 c2 (G 32 D) c3 (G 32 N)) :
  ∀ (q left : Nat), q * v1 + left = x → left < 4294967296 → U / D ≤ q → zax.l24 k0 (q + 1) n0 s md L md i q left c1 f1 c2 (G 32 D) c3 (G 32 N) := by
 have hv1 := ya4 32 D (md - 1)
 have hv2 := ya4 32 D (md - 2)
 have hu2 := ya4 32 N (i + md - 2)
 rw [B32, e1] at hv1
 rw [B32, e2] at hv2
 rw [B32, e3] at hu2
 have done : ∀ q left : Nat, q * v1 + left = x → U / D ≤ q → q < 4294967296 → q * v2 ≤ left * 4294967296 + u2 → k0 n0 s md L md i q c1 f1 c2 (G 32 D) c3 (G 32 N) :=
  fun q left hx hge hlt ht => h q hge (ynX hD hdl hU hx hD0 hv hlt ht) hlt
 have qx : ∀ q left : Nat, q * v1 + left = x → q < 18446744073709551616 := fun q left hx => by
  have : q * 1 ≤ q * v1 := Nat.mul_le_mul_left _ hv
  omega
 intro q
 induction q with
 | zero =>
  intro left hx hl hge
  unfold zax.l24
  refine yhb n0 s L md i hi hmd hmd2 hL c1 c2 c3 f1 D N v1 v2 u2 0 left hv1 hv2 hu2 hl e1 e2 e3 (by omega) (fun hc => ?_) (fun a b => done 0 left hx hge a b)
  rw [Nat.zero_mul] at hc
  omega
 | succ q ih =>
  intro left hx hl hge
  have hqx := qx (q + 1) left hx
  have hx' : q * v1 + (left + v1) = x := by rw [Nat.add_mul] at hx; omega
  have hover : 4294967296 ≤ left + v1 → q < 4294967296 := fun hl2 => by
   apply Classical.byContradiction
   intro hc
   have := ylc hxv (by omega) hx' (by omega)
   omega
  unfold zax.l24
  refine yhb n0 s L md i hi hmd hmd2 hL c1 c2 c3 f1 D N v1 v2 u2 (q + 1) left hv1 hv2 hu2 hl e1 e2 e3 hqx (fun hc => ?_) (fun a b => done (q + 1) left hx hge a b)
  have hlt := yov hP hD hU hul hx hD0 hUB hc
  have hge' : U / D ≤ q := Nat.le_of_lt_succ hlt
  exact ⟨q, rfl, fun hl2 => ih (left + v1) hx' hl2 hge', fun hl2 => done q (left + v1) hx' hge' (hover hl2) (ylX (hover hl2) hv2 hl2)⟩
theorem yor (k n x : Nat) (hk : k ≠ 0) (h : ∀ i, n ≤ i → dg k x i = 0) : x < 2 ^ (k * n) := by
 rw [← yfh k hk]
 apply Classical.byContradiction
 intro hc
 have hx : x ≠ 0 := by intro e; subst e; rw [ycQ] at hc; omega
 exact ykx k hk x hx (h _ (by omega))
theorem yjr {k N N' w j n : Nat} (hk : k ≠ 0) (hN : N < 2 ^ (k * n)) (hj : j < n) (hw : w < 2 ^ k) (h : N' + dg k N j * 2 ^ (k * j) = N + w * 2 ^ (k * j)) : N' < 2 ^ (k * n) := by
 refine yor k n N' hk fun i hi => ?_
 have h1 := congrFun (yjd h hw) i
 rw [ygb _ _ _ _ (by omega), ybp, ybp, yfM k N n i hN hi] at h1
 omega
theorem ygK (n0 : Nat) (s : Int) (L md i q : Nat) (hi : i ≤ 1000000) (hmd2 : md ≤ 1000000) (hL : i + md < L) (hq : q < 4294967296) (c1 c2 c3 : Nat) (f1 : Nat → Int) (D N0 : Nat) (hD : D < 2 ^ (32 * md)) (hN0 : N0 < 2 ^ (32 * (i + md + 1)))
  (k0 : Nat → Int → Nat → Nat → Int → Int → Int → Int → Int → Nat → (Nat → Int) → Nat → (Nat → Int) → Nat → (Nat → Int) → Prop)
  (h : ∀ (N c : Nat) (b : Int), N < 2 ^ (32 * (i + md + 1)) → c < 4294967296 → -1 ≤ b → b ≤ 0 → (N : Int) + (b - c) * ((2 ^ (32 * (i + md)) : Nat) : Int) = N0 - ((q * D * 2 ^ (32 * i) : Nat) : Int) → k0 n0 s md L md i q c b c1 f1 c2 (G 32 D) c3 (G 32 N)) :
  ∀ (j k N c : Nat) (b : Int), k + j = md → N < 2 ^ (32 * (i + md + 1)) → c < 4294967296 → -1 ≤ b → b ≤ 0 → (N : Int) + (b - c) * ((2 ^ (32 * (i + k)) : Nat) : Int) = N0 - ((q * (D % 2 ^ (32 * k)) * 2 ^ (32 * i) : Nat) : Int) →
   zax.l31 k0 (j + 1) n0 s md L md i q c b md k c1 f1 c2 (G 32 D) c3 (G 32 N) := by
 intro j
 induction j with
 | zero =>
  intro k N c b hk hN hc hb1 hb2 hE
  have hk : k = md := by omega
  subst hk
  unfold zax.l31 zax.l31.step
  rw [yaH (yca (by omega))]
  rw [Nat.mod_eq_of_lt hD] at hE
  exact h N c b hN hc hb1 hb2 hE
 | succ j ih =>
  intro k N c b hk hN hc hb1 hb2 hE
  have hdN := ya4 32 N (i + k)
  have hdD := ya4 32 D k
  rw [B32] at hdN hdD
  have hm : q * dg 32 D k ≤ 4294967295 * 4294967295 := Nat.mul_le_mul (by omega) (by omega)
  have hD1 := ybl 32 D k
  -- the product's low word, and what is carried
  have hs : ∀ (t : Nat) (z : Int), t = c + q * dg 32 D k → z = b + ((dg 32 N (i + k) : Int) - ((t % 4294967296 : Nat) : Int)) →
    zax.l31 k0 (j + 1) n0 s md L md i q ((t / 4294967296 : Nat) : Int) (z / 4294967296) md ((k : Int) + 1) c1 f1 c2 (G 32 D) c3 (upd (G 32 N) (i + k) (z % 4294967296)) := by
   intro t z ht hz
   have hw : z % 4294967296 = ((z % 4294967296).toNat : Int) := by omega
   have hwl : (z % 4294967296).toNat < 2 ^ 32 := by rw [B32]; omega
   have e : ((k + 1 : Nat) : Int) = (k : Int) + 1 := by omega
   have hsp := yfz 32 N (i + k)
   obtain ⟨N', hN'⟩ : ∃ N', N' + dg 32 N (i + k) * 2 ^ (32 * (i + k)) = N + (z % 4294967296).toNat * 2 ^ (32 * (i + k)) :=
    ⟨N % 2 ^ (32 * (i + k)) + (z % 4294967296).toNat * 2 ^ (32 * (i + k)) + N / 2 ^ (32 * (i + k + 1)) * 2 ^ (32 * (i + k + 1)), by omega⟩
   rw [hw, yjd hN' hwl, ← e]
   refine ih (k + 1) N' _ _ (by omega) (yjr (by omega) hN (by omega) hwl hN') (by omega) (by omega) (by omega) ?_
   rw [hD1, show i + (k + 1) = i + k + 1 from by omega, ycx, B32]
   have hp : 2 ^ (32 * (i + k)) = 2 ^ (32 * k) * 2 ^ (32 * i) := by rw [← Nat.pow_add, show 32 * k + 32 * i = 32 * (i + k) from by omega]
   have h1 : ((q * (D % 2 ^ (32 * k) + dg 32 D k * 2 ^ (32 * k)) * 2 ^ (32 * i) : Nat) : Int) = ((q * (D % 2 ^ (32 * k)) * 2 ^ (32 * i) : Nat) : Int) + ((q * dg 32 D k : Nat) : Int) * ((2 ^ (32 * (i + k)) : Nat) : Int) := by
    rw [hp, Nat.mul_add, Nat.add_mul, ← Nat.mul_assoc q (dg 32 D k), Nat.mul_assoc (q * dg 32 D k)]
    simp
   rw [h1]
   generalize 2 ^ (32 * (i + k)) = P at *
   have h4 := Int.emod_add_mul_ediv z 4294967296
   have h5 : z * (P : Int) = (z % 4294967296).toNat * (P : Int) + z / 4294967296 * ((P : Int) * 4294967296) := by
    conv => lhs; rw [← h4]
    rw [← hw, Int.add_mul, Int.mul_comm (4294967296 : Int), Int.mul_assoc, Int.mul_comm (4294967296 : Int)]
   have h6 : z * (P : Int) = b * P + (dg 32 N (i + k) : Int) * P - ((t % 4294967296 : Nat) : Int) * P := by rw [hz, Int.add_mul, Int.sub_mul]; omega
   have h7 : ((t : Nat) : Int) * (P : Int) = ((t % 4294967296 : Nat) : Int) * P + ((t / 4294967296 : Nat) : Int) * ((P : Int) * 4294967296) := by
    have := yju t 4294967296 P
    have h8 : ((t % 4294967296 * P + t / 4294967296 * (P * 4294967296) : Nat) : Int) = ((t * P : Nat) : Int) := by rw [this]
    simpa using h8.symm
   have h9 : ((t : Nat) : Int) * (P : Int) = (c : Int) * P + ((q * dg 32 D k : Nat) : Int) * P := by rw [ht]; rw [show ((c + q * dg 32 D k : Nat) : Int) = (c : Int) + ((q * dg 32 D k : Nat) : Int) from by omega, Int.add_mul]
   have h10 : (N' : Int) + (dg 32 N (i + k) : Int) * P = N + ((z % 4294967296).toNat : Int) * P := by
    have : ((N' + dg 32 N (i + k) * P : Nat) : Int) = ((N + (z % 4294967296).toNat * P : Nat) : Int) := by rw [hN']
    simpa using this
   have c4 : ((P * 4294967296 : Nat) : Int) = (P : Int) * 4294967296 := by simp
   rw [c4, Int.sub_mul]
   rw [Int.sub_mul] at hE
   omega
  have e0 : Int.toNat ((i : Int) + k) = i + k := by omega
  have e5 : ycB .u64 (q : Int) (dg 32 D k : Int) = ((q * dg 32 D k : Nat) : Int) := by
   have e4 : ((q : Int) * (dg 32 D k : Int)) = ((q * dg 32 D k : Nat) : Int) := by simp
   rw [ynw (by rw [e4]; omega) (by rw [e4]; omega), e4]
  have e6 : (c : Int) + ((q * dg 32 D k : Nat) : Int) = ((c + q * dg 32 D k : Nat) : Int) := by omega
  have e7 : ((c + q * dg 32 D k : Nat) : Int) / 4294967296 = (((c + q * dg 32 D k) / 4294967296 : Nat) : Int) := by omega
  have e8 : ((c + q * dg 32 D k : Nat) : Int) % 4294967296 = (((c + q * dg 32 D k) % 4294967296 : Nat) : Int) := by omega
  unfold zax.l31 zax.l31.step
  simp (disch := omega) only [ybm, yaQ, yaG, yaZ, Bool.and_self, Int.toNat_natCast, yaD, yaB, ybi, yjR, ybp, e0, e5, e6, yeS, yl2, yct, e7, e8, yg8]
  exact hs _ _ rfl rfl
theorem ygJ (n0 : Nat) (s : Int) (L md i : Nat) (q : Int) (hi : i ≤ 1000000) (hmd2 : md ≤ 1000000) (hL : i + md < L) (c1 c2 c3 : Nat) (f1 : Nat → Int) (D N0 : Nat) (hD : D < 2 ^ (32 * md))
  (k0 : Nat → Int → Nat → Nat → Int → Int → Int → Int → Nat → (Nat → Int) → Nat → (Nat → Int) → Nat → (Nat → Int) → Prop)
  (h : ∀ (N c : Nat), N < 2 ^ (32 * (i + md + 1)) → c < 4294967296 → N + c * 2 ^ (32 * (i + md)) = N0 + D * 2 ^ (32 * i) → k0 n0 s md L md i q c c1 f1 c2 (G 32 D) c3 (G 32 N)) :
  ∀ (j k N c : Nat), k + j = md → N < 2 ^ (32 * (i + md + 1)) → c < 2 → N + c * 2 ^ (32 * (i + k)) = N0 + D % 2 ^ (32 * k) * 2 ^ (32 * i) → zax.l45 k0 (j + 1) n0 s md L md i q c md k c1 f1 c2 (G 32 D) c3 (G 32 N) := by
 intro j
 induction j with
 | zero =>
  intro k N c hk hN hc hE
  have hk : k = md := by omega
  subst hk
  unfold zax.l45 zax.l45.step
  rw [yaH (yca (by omega))]
  rw [Nat.mod_eq_of_lt hD] at hE
  exact h N c hN (by omega) hE
 | succ j ih =>
  intro k N c hk hN hc hE
  have hdN := ya4 32 N (i + k)
  have hdD := ya4 32 D k
  rw [B32] at hdN hdD
  have hD1 := ybl 32 D k
  obtain ⟨N', s1, s2⟩ := yn0 (k := 32) (N := N) (j := i + k) (s := c + (dg 32 N (i + k) + dg 32 D k)) rfl
  have hw : (c + (dg 32 N (i + k) + dg 32 D k)) % 4294967296 < 2 ^ 32 := Nat.mod_lt _ (by omega)
  have e : ((k + 1 : Nat) : Int) = (k : Int) + 1 := by omega
  have next := ih (k + 1) N' ((c + (dg 32 N (i + k) + dg 32 D k)) / 4294967296) (by omega) (yjr (by omega) hN (by omega) hw s1) (by omega) (by
   rw [hD1, show i + (k + 1) = i + k + 1 from by omega]
   rw [B32, Nat.add_mul, Nat.add_mul] at s2
   have hp : dg 32 D k * 2 ^ (32 * k) * 2 ^ (32 * i) = dg 32 D k * 2 ^ (32 * (i + k)) := by rw [Nat.mul_assoc, ← Nat.pow_add, show 32 * k + 32 * i = 32 * (i + k) from by omega]
   rw [Nat.add_mul, hp]
   omega)
  rw [e] at next
  have hG : upd (G 32 N) (i + k) (((c + (dg 32 N (i + k) + dg 32 D k)) % 4294967296 : Nat) : Int) = G 32 N' := yjd s1 hw
  have e0 : Int.toNat ((i : Int) + k) = i + k := by omega
  have e1 : ((c : Int) + ((dg 32 N (i + k) : Int) + (dg 32 D k : Int))) / 4294967296 = (((c + (dg 32 N (i + k) + dg 32 D k)) / 4294967296 : Nat) : Int) := by omega
  have e2 : ((c : Int) + ((dg 32 N (i + k) : Int) + (dg 32 D k : Int))) % 4294967296 = (((c + (dg 32 N (i + k) + dg 32 D k)) % 4294967296 : Nat) : Int) := by omega
  unfold zax.l45 zax.l45.step
  simp (disch := omega) only [ybm, yaQ, yaG, yaZ, Bool.and_self, Int.toNat_natCast, yaD, ybi, yjR, ybp, e0, yeS, yct, e1, e2]
  rw [hG]; exact next
end Go.Ev.S

/- Natural numbers as rows of words: the loop of the long division. -/
set_option linter.unusedVariables false
set_option linter.unusedSimpArgs false
set_option maxRecDepth 8000
namespace Go.Ev.S
open Go Go.Ev
theorem ym2 {PT E R T q qs Nl : Nat} {z : Int} (hE : E < PT) (hNl : Nl < PT) (h1 : qs * E ≤ R) (h2 : R < qs * E + E) (hT : T = q * E) (h : (Nl : Int) + z * (PT : Int) = R - (T : Int)) (hq1 : qs ≤ q) (hq2 : q ≤ qs + 1) :
  (q = qs ∧ z = 0 ∧ Nl = R - qs * E) ∨ (q = qs + 1 ∧ z = -1 ∧ Nl + E = PT + (R - qs * E)) := by
 have zp : z ≥ 1 → (PT : Int) ≤ z * PT := fun hz => by
  have := Int.mul_le_mul_of_nonneg_right hz (show (0 : Int) ≤ PT by omega)
  omega
 have zn : z ≤ -1 → z * PT ≤ -(PT : Int) := fun hz => by
  have := Int.mul_le_mul_of_nonneg_right hz (show (0 : Int) ≤ PT by omega)
  omega
 have zn2 : z ≤ -2 → z * PT ≤ -(PT : Int) - PT := fun hz => by
  have := Int.mul_le_mul_of_nonneg_right hz (show (0 : Int) ≤ PT by omega)
  omega
 rcases (by omega : q = qs ∨ q = qs + 1) with e | e
 ·left
  rw [e] at hT
  have hz : z = 0 := by
   rcases (by omega : z ≥ 1 ∨ z ≤ -1 ∨ z = 0) with hz | hz | hz
   ·have := zp hz; omega
   ·have := zn hz; omega
   ·exact hz
  subst hz
  refine ⟨e, rfl, ?_⟩
  rw [Int.zero_mul] at h
  omega
 ·right
  rw [e, Nat.add_mul, Nat.one_mul] at hT
  have hz : z = -1 := by
   rcases (by omega : z ≥ 1 ∨ z ≤ -2 ∨ z = 0 ∨ z = -1) with hz | hz | hz | hz
   ·have := zp hz; omega
   ·have := zn2 hz; omega
   ·subst hz; rw [Int.zero_mul] at h; omega
   ·exact hz
  subst hz
  refine ⟨e, rfl, ?_⟩
  omega
theorem yjE (D R md i : Nat) (hmd : 2 ≤ md) (hD : D < 2 ^ (32 * md)) (hv : dg 32 D (md - 1) ≠ 0) (hR : R < D * 2 ^ (32 * (i + 1))) :
  ∃ dl ul P, 0 < P ∧ dl < P ∧ ul < P ∧ D = (dg 32 D (md - 1) * 4294967296 + dg 32 D (md - 2)) * P + dl ∧
   R / 2 ^ (32 * i) = ((dg 32 R (i + md) * 4294967296 + dg 32 R (i + md - 1)) * 4294967296 + dg 32 R (i + md - 2)) * P + ul ∧
   R / 2 ^ (32 * i) < D * 4294967296 ∧ dg 32 R (i + md) ≤ dg 32 D (md - 1) ∧ R / 2 ^ (32 * i) / D ≤ (dg 32 R (i + md) * 4294967296 + dg 32 R (i + md - 1)) / dg 32 D (md - 1) := by
 obtain ⟨m, rfl⟩ : ∃ m, md = m + 2 := ⟨md - 2, by omega⟩
 have hU : R / 2 ^ (32 * i) < D * 4294967296 := by
  rw [Nat.div_lt_iff_lt_mul (Nat.two_pow_pos _), Nat.mul_assoc, Nat.mul_comm 4294967296, ← B32, ← ycx]
  exact hR
 have hd := fun j => ykC 32 R i j
 generalize R / 2 ^ (32 * i) = U at *
 have hUB : U < 2 ^ (32 * (m + 3)) := by
  rw [ycx, B32]
  exact Nat.lt_trans hU (Nat.mul_lt_mul_of_pos_right hD (by omega))
 have a1 := ycE 32 D m
 have a2 := ycE 32 D (m + 1)
 have b1 := ycE 32 U m
 have b2 := ycE 32 U (m + 1)
 have b3 := ycE 32 U (m + 2)
 rw [Nat.div_eq_of_lt hD] at a2
 rw [Nat.div_eq_of_lt hUB] at b3
 rw [B32] at a1 a2 b1 b2 b3
 rw [hd] at b1 b2 b3
 rw [show m + 1 + 1 = m + 2 from rfl] at b2
 have hP := Nat.two_pow_pos (32 * m)
 have c1 := Nat.div_add_mod D (2 ^ (32 * m))
 have c2 := Nat.div_add_mod U (2 ^ (32 * m))
 have c3 := Nat.mod_lt D hP
 have c4 := Nat.mod_lt U hP
 have c5 := Nat.mod_lt D (Nat.two_pow_pos (32 * (m + 1)))
 have c6 := Nat.div_add_mod D (2 ^ (32 * (m + 1)))
 have d1 : D / 2 ^ (32 * m) = dg 32 D (m + 1) * 4294967296 + dg 32 D m := by omega
 have d2 : U / 2 ^ (32 * m) = (dg 32 R (i + (m + 2)) * 4294967296 + dg 32 R (i + (m + 1))) * 4294967296 + dg 32 R (i + m) := by omega
 have d3 : D / 2 ^ (32 * (m + 1)) = dg 32 D (m + 1) := by omega
 have d4 : U / 2 ^ (32 * (m + 1)) = dg 32 R (i + (m + 2)) * 4294967296 + dg 32 R (i + (m + 1)) := by omega
 have d5 : U / 2 ^ (32 * (m + 2)) = dg 32 R (i + (m + 2)) := by omega
 simp only [show m + 2 - 1 = m + 1 from rfl, show m + 2 - 2 = m from rfl, show i + (m + 2) - 1 = i + (m + 1) from rfl, show i + (m + 2) - 2 = i + m from rfl] at hv ⊢
 refine ⟨D % 2 ^ (32 * m), U % 2 ^ (32 * m), 2 ^ (32 * m), hP, c3, c4, ?_, ?_, hU, ?_, ?_⟩
 ·rw [← d1, Nat.mul_comm]; exact c1.symm
 ·rw [← d2, Nat.mul_comm]; exact c2.symm
 ·rw [← d5]
  have : U < (dg 32 D (m + 1) + 1) * 2 ^ (32 * (m + 2)) := by
   rw [show m + 2 = m + 1 + 1 from rfl, ycx 32 (m + 1), B32, ← Nat.mul_assoc]
   refine Nat.lt_of_lt_of_le hU (Nat.mul_le_mul_right _ ?_)
   rw [Nat.add_mul, ← d3, Nat.mul_comm (D / _)]
   omega
  have := (Nat.div_lt_iff_lt_mul (Nat.two_pow_pos (32 * (m + 2)))).2 this
  omega
 ·rw [← d4, Nat.div_div_eq_div_mul]
  refine Nat.div_le_div_left ?_ (Nat.mul_pos (Nat.two_pow_pos _) (by omega))
  rw [← d3]; exact Nat.mul_div_le D _
theorem yhS {N t w z : Nat} (hN : N < 2 ^ (32 * (t + 1))) (hw : w < 2 ^ 32) : upd (G 32 N) t (w : Int) = G 32 (N % 2 ^ (32 * t) + w * 2 ^ (32 * t)) := by
 rw [yoI 32 N w t hw, Nat.div_eq_of_lt hN, Nat.zero_mul, Nat.add_zero]
theorem ygq (n0 : Nat) (s : Int) (L md i : Nat) (hmd : 2 ≤ md) (hmd2 : md ≤ 1000000) (hi : i ≤ 1000000) (hL : i + md < L) (hL2 : L ≤ 2000000) (hin : i < n0) (hn : n0 ≤ 1000000) (c1 c2 c3 : Nat) (D Q R : Nat)
  (hD : D < 2 ^ (32 * md)) (hv : dg 32 D (md - 1) ≠ 0) (hR : R < D * 2 ^ (32 * (i + 1))) (hQ : Q % 2 ^ (32 * (i + 1)) = 0)
  (again : Nat → Int → Nat → Nat → Int → Int → Nat → (Nat → Int) → Nat → (Nat → Int) → Nat → (Nat → Int) → Prop) (k0 : Nat → Int → Nat → Nat → (Nat → Int) → Nat → (Nat → Int) → Prop)
  (h : ∀ q R', q < 4294967296 → R' + q * (D * 2 ^ (32 * i)) = R → R' < D * 2 ^ (32 * i) → again n0 s md L md ((i : Int) - 1) c1 (G 32 (Q + q * 2 ^ (32 * i))) c2 (G 32 D) c3 (G 32 R')) :
  zax.l20.step again k0 n0 s md L md i c1 (G 32 Q) c2 (G 32 D) c3 (G 32 R) := by
 obtain ⟨dl, ul, P, hP, hdl, hul, hDe, hUe, hUB, hu1, hq0⟩ := yjE D R md i hmd hD hv hR
 have hv1 := ya4 32 D (md - 1)
 have hv2 := ya4 32 D (md - 2)
 have hr0 := ya4 32 R (i + md)
 have hr1 := ya4 32 R (i + md - 1)
 rw [B32] at hv1 hv2 hr0 hr1
 have hD0 : 0 < D := by
  rcases Nat.eq_zero_or_pos D with e | e
  ·rw [e] at hR; omega
  ·exact e
 have hx2 : dg 32 R (i + md) * 4294967296 + dg 32 R (i + md - 1) < 18446744073709551616 := by omega
 have hqs : R / 2 ^ (32 * i) / D < 4294967296 := (Nat.div_lt_iff_lt_mul hD0).2 (by rw [Nat.mul_comm 4294967296]; exact hUB)
 have hPi := Nat.two_pow_pos (32 * i)
 have hE : D * 2 ^ (32 * i) < 2 ^ (32 * (i + md)) := by
  rw [show 32 * (i + md) = 32 * md + 32 * i from by omega, Nat.pow_add]
  exact Nat.mul_lt_mul_of_pos_right hD hPi
 have hRlt : R < 2 ^ (32 * (i + md + 1)) := by
  refine Nat.lt_trans hR ?_
  rw [show 32 * (i + md + 1) = 32 * md + 32 * (i + 1) from by omega, Nat.pow_add]
  exact Nat.mul_lt_mul_of_pos_right hD (Nat.two_pow_pos _)
 have hq1 : R / 2 ^ (32 * i) / D * (D * 2 ^ (32 * i)) ≤ R := by
  rw [Nat.div_div_eq_div_mul, Nat.mul_comm (2 ^ (32 * i)) D]; exact Nat.div_mul_le_self _ _
 have hq2 : R < R / 2 ^ (32 * i) / D * (D * 2 ^ (32 * i)) + D * 2 ^ (32 * i) := by
  rw [Nat.div_div_eq_div_mul, Nat.mul_comm (2 ^ (32 * i)) D]
  have a := Nat.div_add_mod R (D * 2 ^ (32 * i))
  have b := Nat.mod_lt R (Nat.mul_pos hD0 hPi)
  rw [Nat.mul_comm] at a
  omega
 generalize R / 2 ^ (32 * i) = U at *
 have fin := h (U / D) (R - U / D * (D * 2 ^ (32 * i))) hqs (by omega) (by omega)
 generalize hqse : U / D = qs at *
 have i0 : yaw IntKind.i64 (md : Int) 1 = (md : Int) - 1 := by rw [yaB (by omega) (by omega)]
 have i1 : yal IntKind.i64 (i : Int) (md : Int) = (i : Int) + md := by rw [yaD (by omega) (by omega)]
 have i2 : yaw IntKind.i64 ((i : Int) + md) 1 = (i : Int) + md - 1 := by rw [yaB (by omega) (by omega)]
 have i3 : Int.toNat ((md : Int) - 1) = md - 1 := by omega
 have i4 : Int.toNat ((i : Int) + md - 1) = i + md - 1 := by omega
 have i5 : Int.toNat ((i : Int) + md) = i + md := by omega
 have i6 : yaw IntKind.i64 (i : Int) 1 = (i : Int) - 1 := by rw [yaB (by omega) (by omega)]
 have w0 : (leI 0 ((i : Int) + md) && ltI ((i : Int) + md) (L : Int)) = true := by rw [yaQ (by omega), ybm (by omega)]; rfl
 have w1 : (leI 0 ((i : Int) + md - 1) && ltI ((i : Int) + md - 1) (L : Int)) = true := by rw [yaQ (by omega), ybm (by omega)]; rfl
 have w2 : (leI 0 ((md : Int) - 1) && ltI ((md : Int) - 1) (md : Int)) = true := by rw [yaQ (by omega), ybm (by omega)]; rfl
 have w3 : (leI 0 (i : Int) && ltI (i : Int) (n0 : Int)) = true := by rw [yaQ (by omega), ybm (by omega)]; rfl
 have w4 : (!eqI ((dg 32 D (md - 1) : Nat) : Int) 0) = true := by rw [yjM (by omega)]; rfl
 have c0 : ∀ j, cvI IntKind.u64 ((dg 32 D j : Nat) : Int) = (dg 32 D j : Nat) := fun j => by
  have := ya4 32 D j; rw [B32] at this; rw [ybi (by omega) (by omega)]
 have c4 : ∀ j, cvI IntKind.u64 ((dg 32 R j : Nat) : Int) = (dg 32 R j : Nat) := fun j => by
  have := ya4 32 R j; rw [B32] at this; rw [ybi (by omega) (by omega)]
 -- the quotient's word
 have setQ : ∀ q : Nat, q = qs → upd (G 32 Q) i (cvI IntKind.u32 (q : Int)) = G 32 (Q + qs * 2 ^ (32 * i)) := by
  intro q e
  have hz : dg 32 Q i = 0 := by
   have := ybl 32 Q i
   rw [hQ] at this
   have h0 : dg 32 Q i * 2 ^ (32 * i) = 0 := by omega
   rcases Nat.mul_eq_zero.1 h0 with h0 | h0
   ·exact h0
   ·omega
  rw [e, yct, show ((qs : Nat) : Int) % 4294967296 = ((qs : Nat) : Int) from by omega]
  exact yjd (by rw [hz]; omega) (by rw [B32]; exact hqs)
 unfold zax.l20.step
 rw [yaW (yaQ (by omega)), i1, i2, i0, i3, i4, i5, ybn w0, ybn w1, ybn w2]
 simp only [ybp]
 rw [c0, c4, c4, ybn w4, ybn w2, ybn w4, yf1 _ _ hr0 hr1, ymj _ _ hx2, ygP (by omega), ← Int.natCast_emod]
 refine ⟨_, yfY 0 s L md i hi hmd hmd2 hL n0 D R c1 c2 c3 (G 32 Q) U (dg 32 D (md - 1)) (dg 32 D (md - 2)) dl _ (dg 32 R (i + md - 2)) ul P hP hDe hdl hUe hul hD0 hUB (by omega) ?_ hx2 rfl rfl rfl _ ?_ _ _ ?_ ?_ ?_⟩
 ·omega
 ·-- behind the guess
  intro q hge hle hqB
  rw [hqse] at hge hle
  refine ⟨md + 1, ?_⟩
  refine ygK n0 s L md i q hi hmd2 hL hqB c1 c2 c3 (G 32 Q) D R hD hRlt _ ?_ md 0 R 0 0 (by omega) hRlt (by omega) (by omega) (by omega) (by simp [Nat.mod_one])
  intro N c b hN hc hb1 hb2 hE2
  have hdN := ya4 32 N (i + md)
  rw [B32] at hdN
  have hNs := ybl 32 N (i + md)
  rw [Nat.mod_eq_of_lt hN] at hNs
  have hNl := Nat.mod_lt N (Nat.two_pow_pos (32 * (i + md)))
  have e1 : ((dg 32 N (i + md) : Nat) : Int) - (c : Int) = (dg 32 N (i + md) : Int) - c := rfl
  have cz : yal IntKind.i64 b (yaw IntKind.i64 (cvI IntKind.i64 ((dg 32 N (i + md) : Nat) : Int)) (cvI IntKind.i64 (c : Int))) = b + ((dg 32 N (i + md) : Int) - c) := by
   rw [yg8 (by omega) (by omega), yg8 (by omega) (by omega), yaB (by omega) (by omega), yaD (by omega) (by omega)]
  have hf := ym2 (z := b + ((dg 32 N (i + md) : Int) - c)) (T := q * D * 2 ^ (32 * i)) (q := q) hE hNl hq1 hq2 (by rw [Nat.mul_assoc]) (by
   rw [← hE2]
   have e2 : (N : Int) = ((N % 2 ^ (32 * (i + md)) : Nat) : Int) + (dg 32 N (i + md) : Int) * ((2 ^ (32 * (i + md)) : Nat) : Int) := by
    have : ((N : Nat) : Int) = ((N % 2 ^ (32 * (i + md)) + dg 32 N (i + md) * 2 ^ (32 * (i + md)) : Nat) : Int) := by rw [← hNs]
    rw [this]; simp
   rw [e2]
   generalize ((2 ^ (32 * (i + md)) : Nat) : Int) = PT
   rw [show b + ((dg 32 N (i + md) : Int) - c) = dg 32 N (i + md) + (b - c) from by omega, Int.add_mul]
   omega) hge hle
  show gd _ _
  rw [i1, i5, ybn w0, ybn w0]
  simp only [ybp]
  rw [cz]
  rcases hf with ⟨hq, hz, hNe⟩ | ⟨hq, hz, hNe⟩
  ·rw [hz, yaH (by rfl), ybn w3, i6, Int.toNat_natCast, setQ q hq]
   have : upd (G 32 N) (i + md) (cvI IntKind.u32 0) = G 32 (R - qs * (D * 2 ^ (32 * i))) := by
    have := yhS (w := 0) (z := 0) hN (by omega)
    rw [Nat.zero_mul, Nat.add_zero, hNe] at this
    exact this
   rw [this]; exact fin
  ·rw [hz, yaW (by rfl)]
   have hup : upd (G 32 N) (i + md) (cvI IntKind.u32 (-1)) = G 32 (N % 2 ^ (32 * (i + md)) + 4294967295 * 2 ^ (32 * (i + md))) :=
    yhS (w := 4294967295) (z := 0) hN (by omega)
   have hNlt := yjl 32 (N % 2 ^ (32 * (i + md))) 4294967295 (i + md) hNl (by omega)
   have hs1 : yaw IntKind.u64 (q : Int) 1 = ((qs : Nat) : Int) := by rw [ymZ (by omega) (by omega)]; omega
   rw [hup, hs1]
   refine ⟨md + 1, ?_⟩
   refine ygJ n0 s L md i (qs : Int) hi hmd2 hL c1 c2 c3 (G 32 Q) D (N % 2 ^ (32 * (i + md)) + 4294967295 * 2 ^ (32 * (i + md))) hD _ ?_ md 0 _ 0 (by omega) hNlt (by omega) (by simp [Nat.mod_one])
   intro N2 c5 hN2 hc5 hE3
   have hd2 := ya4 32 N2 (i + md)
   rw [B32] at hd2
   have hNs2 := ybl 32 N2 (i + md)
   rw [Nat.mod_eq_of_lt hN2] at hNs2
   have hNl2 := Nat.mod_lt N2 (Nat.two_pow_pos (32 * (i + md)))
   have cc : cvI IntKind.u32 (c5 : Int) = c5 := by rw [yct]; omega
   -- the sum of the two highest words is the base
   have hsum : dg 32 N2 (i + md) + c5 = 4294967296 ∧ N2 % 2 ^ (32 * (i + md)) = R - qs * (D * 2 ^ (32 * i)) := by
    have hl : N2 % 2 ^ (32 * (i + md)) + (dg 32 N2 (i + md) + c5) * 2 ^ (32 * (i + md)) = (R - qs * (D * 2 ^ (32 * i))) + 4294967296 * 2 ^ (32 * (i + md)) := by
     rw [Nat.add_mul]; omega
    have hlt : R - qs * (D * 2 ^ (32 * i)) < 2 ^ (32 * (i + md)) := by omega
    generalize 2 ^ (32 * (i + md)) = PT at *
    generalize dg 32 N2 (i + md) + c5 = t at *
    generalize R - qs * (D * 2 ^ (32 * i)) = v at *
    generalize N2 % PT = u at *
    have hPT : 0 < PT := by omega
    have a1 : (u + t * PT) / PT = t := by rw [Nat.add_mul_div_right _ _ hPT, Nat.div_eq_of_lt hNl2, Nat.zero_add]
    have a2 : (v + 4294967296 * PT) / PT = 4294967296 := by rw [Nat.add_mul_div_right _ _ hPT, Nat.div_eq_of_lt hlt, Nat.zero_add]
    rw [hl, a2] at a1
    subst a1
    exact ⟨rfl, by omega⟩
   show gd _ _
   rw [i1, i5, ybn w0, ybn w0, ybn w3, i6, Int.toNat_natCast, setQ qs rfl]
   simp only [ybp]
   have ha : yal IntKind.u32 ((dg 32 N2 (i + md) : Nat) : Int) (cvI IntKind.u32 (c5 : Int)) = ((0 : Nat) : Int) := by
    rw [cc, show yal IntKind.u32 ((dg 32 N2 (i + md) : Nat) : Int) (c5 : Int) = IntKind.wrap .u32 (((dg 32 N2 (i + md) : Nat) : Int) + c5) from rfl, ykW]
    omega
   rw [ha, yhS (w := 0) (z := 0) hN2 (by omega), Nat.zero_mul, Nat.add_zero, hsum.2]
   exact fin
 ·rw [Nat.mul_comm]; exact Nat.div_add_mod _ _
 ·exact Nat.lt_trans (Nat.mod_lt _ (by omega)) hv1
 ·rw [hqse]; exact hq0
theorem yok {Q n m : Nat} (h : Q % 2 ^ m = 0) (hn : n ≤ m) : Q % 2 ^ n = 0 := by
 have : 2 ^ n ∣ 2 ^ m := Nat.pow_dvd_pow 2 hn
 exact Nat.mod_eq_zero_of_dvd (Nat.dvd_trans this (Nat.dvd_of_mod_eq_zero h))
theorem ygR (n0 : Nat) (s : Int) (L md : Nat) (hmd : 2 ≤ md) (hmd2 : md ≤ 1000000) (hL2 : L ≤ 2000000) (hn : n0 ≤ 1000000) (c1 c2 c3 : Nat) (D N0 : Nat)
  (hD : D < 2 ^ (32 * md)) (hv : dg 32 D (md - 1) ≠ 0)
  (k0 : Nat → Int → Nat → Nat → (Nat → Int) → Nat → (Nat → Int) → Prop)
  (h : ∀ Q R, Q * D + R = N0 → R < D → Q < 2 ^ (32 * n0) → k0 n0 s L c1 (G 32 Q) c3 (G 32 R)) :
  ∀ (t Q R : Nat), t + md ≤ L → t ≤ n0 → R < D * 2 ^ (32 * t) → Q % 2 ^ (32 * t) = 0 → Q < 2 ^ (32 * n0) → Q * D + R = N0 → zax.l20 k0 (t + 1) n0 s md L md ((t : Int) - 1) c1 (G 32 Q) c2 (G 32 D) c3 (G 32 R) := by
 intro t
 induction t with
 | zero =>
  intro Q R hL ht hR hQ hQ2 hN
  unfold zax.l20 zax.l20.step
  rw [yaH (ygj (by omega))]
  refine h Q R hN ?_ hQ2
  rw [Nat.mul_zero, Nat.pow_zero, Nat.mul_one] at hR; exact hR
 | succ t ih =>
  intro Q R hL ht hR hQ hQ2 hN
  unfold zax.l20
  rw [show ((t + 1 : Nat) : Int) - 1 = (t : Int) from by omega]
  refine ygq n0 s L md t hmd hmd2 (by omega) (by omega) hL2 (by omega) hn c1 c2 c3 D Q R hD hv hR hQ _ _ fun q R' hq he hR' => ?_
  have hz : dg 32 Q t = 0 := by
   have h1 := ybl 32 Q t
   rw [hQ] at h1
   have h0 : dg 32 Q t * 2 ^ (32 * t) = 0 := by omega
   have hp := Nat.two_pow_pos (32 * t)
   rcases Nat.mul_eq_zero.1 h0 with h0 | h0
   ·exact h0
   ·omega
  refine ih _ R' (by omega) (by omega) hR' ?_ (yjr (w := q) (j := t) (by omega) hQ2 (by omega) (by rw [B32]; exact hq) (by rw [hz]; omega)) ?_
  ·rw [Nat.add_mul_mod_self_right]; exact yok hQ (by omega)
  ·rw [Nat.add_mul, Nat.mul_assoc, Nat.mul_comm (2 ^ (32 * t)) D]; omega
theorem yhX (x y n : Nat) (hn : n ≤ 1000000) (hy : y ≠ 0) (hyB : y < 4294967296) (k0 : Nat → Int → Nat → (Nat → Int) → Prop) (c : Nat) (h : k0 n ((x % y : Nat) : Int) c (G 32 (x / y))) :
  ∀ t, t ≤ n → zax.l7 k0 (t + 1) n (G 32 x) 1 (G 32 y) n ((x / 2 ^ (32 * t) % y : Nat) : Int) ((t : Int) - 1) c (G 32 (x / 2 ^ (32 * t) / y * 2 ^ (32 * t))) := by
 intro t
 induction t with
 | zero =>
  intro ht
  unfold zax.l7 zax.l7.step
  rw [yaH (ygj (by omega)), Nat.mul_zero, Nat.pow_zero, Nat.div_one, Nat.mul_one]
  exact h
 | succ t ih =>
  intro ht
  have ih := ih (by omega)
  have hX := ycE 32 x t
  rw [B32] at hX
  have hd := ya4 32 x t
  rw [B32] at hd
  have hp := Nat.two_pow_pos (32 * t)
  generalize hX1 : x / 2 ^ (32 * (t + 1)) = X1 at *
  rw [hX] at ih
  have hr := Nat.mod_lt X1 (show 0 < y by omega)
  have hdm := Nat.div_add_mod X1 y
  generalize hre : X1 % y = r at *
  generalize hqe : X1 / y = Q1 at *
  have hsum : dg 32 x t + X1 * 4294967296 = r * 4294967296 + dg 32 x t + y * (Q1 * 4294967296) := by
   rw [← hdm, Nat.add_mul, Nat.mul_assoc]; omega
  have hmod : (dg 32 x t + X1 * 4294967296) % y = (r * 4294967296 + dg 32 x t) % y := by rw [hsum, Nat.add_mul_mod_self_left]
  have hdiv : (dg 32 x t + X1 * 4294967296) / y = (r * 4294967296 + dg 32 x t) / y + Q1 * 4294967296 := by rw [hsum, Nat.add_mul_div_left _ _ (by omega)]
  rw [hmod, hdiv] at ih
  have hq : (r * 4294967296 + dg 32 x t) / y < 4294967296 := by
   rw [Nat.div_lt_iff_lt_mul (by omega)]
   have : (r + 1) * 4294967296 ≤ y * 4294967296 := Nat.mul_le_mul_right _ hr
   omega
  have hw : r * 4294967296 + dg 32 x t < 18446744073709551616 := by omega
  have hG : upd (G 32 (Q1 * 2 ^ (32 * (t + 1)))) t (((r * 4294967296 + dg 32 x t) / y : Nat) : Int) = G 32 (((r * 4294967296 + dg 32 x t) / y + Q1 * 4294967296) * 2 ^ (32 * t)) := by
   have hz : dg 32 (Q1 * 2 ^ (32 * (t + 1))) t = 0 := by
    unfold dg
    rw [ycx, B32, Nat.mul_comm (2 ^ _), ← Nat.mul_assoc, Nat.mul_div_cancel _ hp]
    exact Nat.mul_mod_left _ _
   refine yjd ?_ (by rw [B32]; exact hq)
   rw [hz, ycx, B32, Nat.add_mul, Nat.mul_comm (2 ^ (32 * t)) 4294967296, ← Nat.mul_assoc]
   omega
  rw [← hG] at ih
  have o := yf1 r (dg 32 x t) (by omega) hd
  have y0 : G 32 y 0 = (y : Int) := by rw [ybp, yoP 32 y (by rw [B32]; exact hyB)]
  have e1 : ((t + 1 : Nat) : Int) - 1 = (t : Int) := by omega
  have w0 : (leI 0 (t : Int) && ltI (t : Int) (n : Int)) = true := by rw [yaQ (by omega), ybm (by omega)]; rfl
  have w1 : (!eqI (y : Int) 0) = true := by rw [yjM (by omega)]; rfl
  have cy : cvI IntKind.u64 (y : Int) = y := by rw [ybi (by omega) (by omega)]
  have cx : cvI IntKind.u64 ((dg 32 x t : Nat) : Int) = (dg 32 x t : Nat) := by rw [ybi (by omega) (by omega)]
  have r0 : ∀ a : Nat, ycn IntKind.u64 ((a : Nat) : Int) ((y : Nat) : Int) = ((a % y : Nat) : Int) := fun a => by rw [ygP (by omega), ← Int.natCast_emod]
  unfold zax.l7 zax.l7.step
  rw [e1, yaW (yaQ (by omega)), ybn w0, ybn (ybm (by omega)), y0, cy, ybn w1, ybn w0, ybn (ybm (by omega)), ybn w1, Int.toNat_natCast, ybp, cx, o, ymj _ _ hw, r0, yct, yaB (by omega) (by omega)]
  have e2 : ∀ q : Nat, q < 4294967296 → ((q : Nat) : Int) % 4294967296 = q := fun q h => by omega
  rw [e2 _ hq]
  exact ih
theorem ypX (n x : Nat) (hx : x < 2 ^ (32 * n)) : app n (G 32 x) (upd (fun _ => 0) 0 0) = G 32 x := by
 funext i
 unfold app
 by_cases h : i < n
 ·have : Nat.blt i n = true := by simpa using h
  rw [this]; rfl
 ·have : Nat.blt i n = false := by
   apply Bool.eq_false_iff.2; intro hc; simp at hc; omega
  rw [this, ybp, yfM 32 x n i hx (by omega)]
  show upd (fun _ => 0) 0 0 (i - n) = _
  by_cases h0 : i - n = 0
  ·rw [h0, ydH]; rfl
  ·rw [ygb _ _ _ _ h0]; rfl
theorem yjB (x y s : Nat) : x * 2 ^ s / (y * 2 ^ s) = x / y := Nat.mul_div_mul_right _ _ (Nat.two_pow_pos s)
theorem yjw (x y s : Nat) : x * 2 ^ s % (y * 2 ^ s) = x % y * 2 ^ s := Nat.mul_mod_mul_right _ _ _
theorem ypT (k : Nat) (hk : k ≠ 0) (x n : Nat) : n < wl k x ↔ 2 ^ (k * n) ≤ x := by
 have := yfh k hk x n
 omega
theorem ye8 (x y : Nat) (hx : wl 32 x ≤ 100000) (hy0 : y ≠ 0) (hy : wl 32 y ≤ 100000) (K : Nat → (Nat → Int) → Nat → (Nat → Int) → Prop) (h : K (wl 32 (x / y)) (G 32 (x / y)) (wl 32 (x % y)) (G 32 (x % y))) :
  zax (wl 32 x) (G 32 x) (wl 32 y) (G 32 y) K := by
 have h32 : (32 : Nat) ≠ 0 := by omega
 rw [zax.is]; unfold zax.d
 refine ylT x y _ _ (by omega) (by omega) rfl rfl _ ?_
 rw [ymS]
 by_cases hlt : x < y
 ·rw [yaW (by simpa using hlt)]
  rw [Nat.div_eq_of_lt hlt, Nat.mod_eq_of_lt hlt, ycQ, yc7] at h
  exact h
 ·rw [yaH (by simpa using hlt)]
  have hxl := ydU 32 h32 x
  have hyl := ydU 32 h32 y
  have hyt := ykx 32 h32 y hy0
  have hxy := ybB (k := 32) h32 (show y ≤ x by omega)
  have hyp : wl 32 y ≠ 0 := by rw [yg3 hy0 h32]; omega
  have hdx : x / y < 2 ^ (32 * wl 32 x) := Nat.lt_of_le_of_lt (Nat.div_le_self x y) hxl
  generalize hne : wl 32 x = n at *
  rw [ybn (by rw [yaQ (by omega), yaQ (by omega), yaQ (by omega)]; rfl)]
  by_cases h1 : wl 32 y = 1
  ·have hyB : y < 4294967296 := by rw [h1] at hyl; exact hyl
   rw [h1, yaW (yme (by omega)), Int.toNat_natCast, yaB (by omega) (by omega)]
   refine ⟨n + 1, ?_⟩
   have := yhX x y n (by omega) hy0 hyB (fun y0 y1 y2 y3 => zas y0 y2 y3 fun y0 y1_1 y2 => zat 1 1 1 (upd (fun x => 0) 0 (cvI IntKind.u32 y1)) fun y0_1 y1 y2_1 y3 => K y0 y2 y0_1 y3) n ?_ n (Nat.le_refl _)
   ·rw [Nat.div_eq_of_lt hxl, Nat.zero_mod, Nat.zero_div, Nat.zero_mul, yc7] at this
    exact this
   ·refine ydg n n _ (by omega) hdx _ ?_
    have hm := Nat.mod_lt x (show 0 < y by omega)
    have := ylA 32 0 (x % y) 0 (by simp) (by rw [B32]; omega)
    rw [Nat.mul_zero, Nat.pow_zero, Nat.mul_one, Nat.zero_add, yc7] at this
    rw [yct, show ((x % y : Nat) : Int) % 4294967296 = ((x % y : Nat) : Int) from by generalize x % y = r at *; omega, this]
    exact ydv 1 1 1 _ (by omega) (by omega) (by rw [show 32 * 1 = 32 from rfl, B32]; omega) _ fun c => h
  ·rw [yaH (yjM (by omega))]
   have hdt := ya4 32 y (wl 32 y - 1)
   rw [B32] at hdt
   have e1 : Int.toNat ((wl 32 y : Int) - 1) = wl 32 y - 1 := by omega
   rw [yaB (by omega) (by omega), e1, ybn (by rw [yaQ (by omega), ybm (by omega)]; rfl), ybp, ybi (by omega) (by omega)]
   refine yjY _ (by omega) _ ?_
   have hb : ybV (dg 32 y (wl 32 y - 1)) ≤ 32 := (ycz _ _).2 (by rw [B32]; exact hdt)
   have es : yaw IntKind.i64 32 ((ybV (dg 32 y (wl 32 y - 1)) : Nat) : Int) = ((32 - ybV (dg 32 y (wl 32 y - 1)) : Nat) : Int) := by
    rw [yaB (by omega) (by omega)]; omega
   rw [es]
   generalize hse : 32 - ybV (dg 32 y (wl 32 y - 1)) = s
   have hs : s ≤ 32 := by omega
   -- the divisor moved
   have hps := Nat.two_pow_pos s
   have hD0 : y * 2 ^ s ≠ 0 := by
    intro e; rcases Nat.mul_eq_zero.1 e with e | e
    ·exact hy0 e
    ·omega
   have hX0 : x * 2 ^ s ≠ 0 := by
    intro e; rcases Nat.mul_eq_zero.1 e with e | e
    ·omega
    ·omega
   have hle : ∀ z : Nat, z ≤ z * 2 ^ s := fun z => Nat.le_mul_of_pos_right z hps
   have wD1 := ybB (k := 32) h32 (hle y)
   have wX1 := ybB (k := 32) h32 (hle x)
   have wup : ∀ z m : Nat, z < 2 ^ (32 * m) → wl 32 (z * 2 ^ s) ≤ m + 1 := fun z m hz => by
    rw [yfh 32 h32, ycx]
    exact Nat.mul_lt_mul_of_lt_of_le hz (Nat.pow_le_pow_right (by omega) hs) (Nat.two_pow_pos _)
   have wD2 := wup y _ hyl
   have wX2 := wup x _ hxl
   have wDX : wl 32 (y * 2 ^ s) ≤ wl 32 (x * 2 ^ s) := ybB (k := 32) h32 (Nat.mul_le_mul_right _ (by omega))
   rw [hne] at wX1
   refine yiP y _ s (by omega) (by omega) hyl _ _ (fun e => absurd e hyp) fun _ c2 m2 => ?_
   refine yiP x _ s (by omega) (by omega) hxl _ _ (fun e => absurd e (by omega)) fun _ c3 m3 => ?_
   have hDl := ydU 32 h32 (y * 2 ^ s)
   have hDt := ykx 32 h32 _ hD0
   have hXl := ydU 32 h32 (x * 2 ^ s)
   rw [ypX _ _ hXl]
   generalize hmd : wl 32 (y * 2 ^ s) = md at *
   generalize hL : wl 32 (x * 2 ^ s) = L at *
   rw [ybn (yoN (by omega))]
   refine ⟨1, ?_⟩
   unfold zax.l16 zax.l16.step
   rw [yaD (by omega) (by omega), yaH (yca (by omega)), Int.toNat_natCast]
   dsimp only
   have ei : yaw IntKind.i64 (yaw IntKind.i64 ((L + 1 : Nat) : Int) (md : Int)) 1 = ((L + 1 - md : Nat) : Int) - 1 := by
    simp (disch := omega) only [yaB]
    omega
   rw [ei]
   refine ⟨L + 1 - md + 1, ?_⟩
   rw [← yc7 32]
   refine ygR n s (L + 1) md (by omega) (by omega) (by omega) (by omega) n m2 (L + 1) (y * 2 ^ s) (x * 2 ^ s) hDl hDt _ (fun Q R he hR hQ => ?_) (L + 1 - md) 0 (x * 2 ^ s) (by omega) (by omega) ?_ (by simp) (Nat.two_pow_pos _) (by omega)
   ·have hq : Q = x / y := by
     rw [← yjB x y s, ← he, Nat.mul_comm Q, Nat.mul_add_div (by omega), Nat.div_eq_of_lt hR, Nat.add_zero]
    have hr : R = x % y * 2 ^ s := by
     rw [← yjw x y s, ← he, Nat.mul_comm Q, Nat.mul_add_mod, Nat.mod_eq_of_lt hR]
    refine ydg n n Q (by omega) hQ _ ?_
    have hRX : R < 2 ^ (32 * (L + 1)) := by
     have h1 : R ≤ x * 2 ^ s := by rw [← he]; omega
     have h2 : (2 : Nat) ^ (32 * L) ≤ 2 ^ (32 * (L + 1)) := Nat.pow_le_pow_right (by omega) (by omega)
     omega
    refine ydg (L + 1) (L + 1) R (by omega) hRX _ ?_
    refine yfL R _ s ?_ (by omega) (ydU 32 h32 R) _ ?_
    ·have := (yfh 32 h32 R (L + 1)).2 hRX
     omega
    ·have : R / 2 ^ s = x % y := by rw [hr, Nat.mul_div_cancel _ hps]
     rw [this, hq]; exact h
   ·have h1 : 2 ^ (32 * (md - 1)) ≤ y * 2 ^ s := (ypT 32 h32 _ _).1 (by omega)
    have h2 : 2 ^ (32 * (md - 1)) * 2 ^ (32 * (L + 1 - md)) ≤ y * 2 ^ s * 2 ^ (32 * (L + 1 - md)) := Nat.mul_le_mul_right _ h1
    rw [← Nat.pow_add, show 32 * (md - 1) + 32 * (L + 1 - md) = 32 * L from by omega] at h2
    omega
end Go.Ev.S

/- Natural numbers: quotients, greatest common divisors, roots. -/
set_option linter.unusedVariables false
set_option linter.unusedSimpArgs false
set_option maxRecDepth 8000
namespace Go.Ev.S
open Go Go.Ev
theorem yhQ {a : List UInt8} (h : yfv a = true) : val a = 0 ↔ a = [] := by
 constructor
 ·intro e; rw [← yfK h, e, ya3]
 ·intro e; subst e; rfl
theorem ygY (a b : List UInt8) (K : List UInt8 → List UInt8 → Int → Prop) (h1 : ¬ (May a ∧ May b) → K [] [] 2) (h0 : b = [] → K [] [] 2) (h2 : May a → May b → val b ≠ 0 → K (nb (val a / val b)) (nb (val a % val b)) 0) : zam a b K := by
 rw [zam.is]; unfold zam.d
 rw [yfd]
 by_cases h : May a ∧ May b
 ·rw [yaH (by simp [h]), ybg]
  by_cases hb : b = []
  ·rw [yaW (by simpa using hb)]; exact h0 hb
  ·rw [yaH (by simpa using hb)]
   have hv : val b ≠ 0 := fun e => hb ((yhQ h.2.2).1 e)
   refine h.1.words _ (h.2.words _ ?_)
   have w1 := h.1.wl; have w2 := h.2.wl
   have w3 := ybB (k := 32) (by omega) (Nat.div_le_self (val a) (val b))
   have w4 := ybB (k := 32) (by omega) (Nat.mod_le (val a) (val b))
   refine ye8 _ _ (by omega) hv (by omega) _ ?_
   refine yb5 _ _ (by omega) (yh6 _) _ ?_
   exact yb5 _ _ (by omega) (yh6 _) _ (h2 h.1 h.2 hv)
 ·rw [yaW (by simp [h])]; exact h1 h
theorem yiz (k0 : Nat → (Nat → Int) → Prop) : ∀ (y x : Nat), wl 32 x ≤ 100000 → wl 32 y ≤ 100000 → k0 (wl 32 (Nat.gcd x y)) (G 32 (Nat.gcd x y)) → ∃ f, zan.l4 k0 f (wl 32 x) (G 32 x) (wl 32 y) (G 32 y) := by
 intro y
 induction y using Nat.strongRecOn with
 | _ y ih =>
  intro x hx hy hk
  by_cases h0 : y = 0
  ·subst h0
   refine ⟨1, ?_⟩
   unfold zan.l4 zan.l4.step
   rw [ycQ, yaH (yca (by omega))]
   rw [Nat.gcd_zero_right] at hk; exact hk
  ·have hm := Nat.mod_lt x (show 0 < y by omega)
   have w := ybB (k := 32) (by omega) (Nat.le_of_lt hm)
   have hg : Nat.gcd y (x % y) = Nat.gcd x y := by rw [Nat.gcd_comm x y, Nat.gcd_rec y x, Nat.gcd_comm]
   obtain ⟨f, hf⟩ := ih (x % y) hm y hy (by omega) (by rw [hg]; exact hk)
   refine ⟨f + 1, ?_⟩
   unfold zan.l4 zan.l4.step
   have hp : wl 32 y ≠ 0 := by rw [yg3 h0 (by omega)]; omega
   rw [yaW (ybm (by omega))]
   exact ye8 x y hx h0 hy _ hf
theorem ylu (x y : Nat) : Nat.gcd x y ≤ x ∨ Nat.gcd x y ≤ y := by
 rcases Nat.eq_zero_or_pos x with e | e
 ·right; subst e; rw [Nat.gcd_zero_left]; omega
 ·left; exact Nat.gcd_le_left y e
theorem yhi (a b : List UInt8) (K : List UInt8 → Int → Prop) (h1 : ¬ (May a ∧ May b) → K [] 2) (h2 : May a → May b → K (nb (Nat.gcd (val a) (val b))) 0) : zan a b K := by
 rw [zan.is]; unfold zan.d
 rw [yfd]
 by_cases h : May a ∧ May b
 ·rw [yaH (by simp [h])]
  refine h.1.words _ (h.2.words _ ?_)
  have w1 := h.1.wl; have w2 := h.2.wl
  refine yiz _ _ _ (by omega) (by omega) ?_
  have w3 : wl 32 (Nat.gcd (val a) (val b)) ≤ 4096 := by
   rcases ylu (val a) (val b) with e | e
   ·have := ybB (k := 32) (by omega) e; omega
   ·have := ybB (k := 32) (by omega) e; omega
  exact yb5 _ _ (by omega) (yh6 _) _ (h2 h.1 h.2)
 ·rw [yaW (by simp [h])]; exact h1 h
end Go.Ev.S

/- What the document's answer reckons with natural numbers, byte by byte. -/
set_option linter.unusedVariables false
set_option linter.unusedSimpArgs false
set_option maxRecDepth 8000
namespace Go.Ev.S
open Go Go.Ev
theorem B8 : (2 : Nat) ^ 8 = 256 := rfl
theorem yj0 (n0 x : Nat) (hn0 : n0 ≤ 1000000000) (k0 : Nat → (Nat → Int) → Int → Prop) (h : ∀ n : Nat, n ≤ n0 → x < 2 ^ (8 * n) → (n = 0 ∨ dg 8 x (n - 1) ≠ 0) → k0 n0 (G 8 x) n) :
  ∀ (n : Nat), n ≤ n0 → x < 2 ^ (8 * n) → zbp.l2 k0 (n + 1) n0 (G 8 x) n := by
 intro n
 induction n with
 | zero =>
  intro hn hx
  unfold zbp.l2 zbp.l2.step
  rw [yaH (yca (by omega))]
  exact h 0 hn hx (.inl rfl)
 | succ n ih =>
  intro hn hx
  unfold zbp.l2 zbp.l2.step
  have e1 : ((n + 1 : Nat) : Int) - 1 = (n : Int) := by omega
  simp (disch := omega) only [yaB, ybm, yaQ, yaG, yaZ, Bool.and_self, e1, Int.toNat_natCast, ybp]
  by_cases hd : dg 8 x n = 0
  ·rw [yaW (yme (by omega))]
   refine ih (by omega) ?_
   have h2 := ybl 8 x n
   rw [Nat.mod_eq_of_lt hx, hd, Nat.zero_mul, Nat.add_zero] at h2
   have := Nat.mod_lt x (Nat.two_pow_pos (8 * n))
   omega
  ·rw [yaH (yjM (by omega))]
   exact h (n + 1) hn hx (.inr hd)
theorem yih (n0 x L c m : Nat) (hL : L ≤ n0) (hn0 : n0 ≤ 1000000000) (k0 : Nat → Nat → Nat → (Nat → Int) → Prop) (h : k0 L c m (BE L L x)) :
  ∀ (j i : Nat), i + j = L → zbp.l6 k0 (j + 1) n0 (G 8 x) L L c i m (BE L i x) := by
 intro j
 induction j with
 | zero =>
  intro i hi
  unfold zbp.l6 zbp.l6.step
  rw [yaH (yca (by omega)), show i = L from by omega]
  exact h
 | succ j ih =>
  intro i hi
  have ih := ih (i + 1) (by omega)
  have e : ((i + 1 : Nat) : Int) = (i : Int) + 1 := by omega
  rw [e] at ih
  have e2 : Int.toNat ((L : Int) - 1 - i) = L - 1 - i := by omega
  unfold zbp.l6 zbp.l6.step
  simp (disch := omega) only [yaB, yaD, ybm, yaQ, yaG, yaZ, Bool.and_self, Int.toNat_natCast, e2, ybp]
  rw [ymU L i x (by omega)]
  exact ih
theorem ydG (n x : Nat) (hn : n ≤ 1000000000) (hx : x < 2 ^ (8 * n)) (K : List UInt8 → Prop) (h : K (nb x)) : zbp n (G 8 x) K := by
 rw [zbp.is]; unfold zbp.d
 refine ⟨n + 1, yj0 n x hn _ (fun L hL hx' ht => ?_) n (Nat.le_refl _) hx⟩
 simp (disch := omega) only [yaQ, yaG, Bool.and_self, Int.toNat_natCast]
 refine ⟨L + 1, ?_⟩
 have := yih n x L L L hL hn (fun y0 y1 y2 y3 => K (yaL y0 y3)) ?_ L 0 (by omega)
 ·rw [yml] at this; exact this
 ·have h2 := ykK L 0 L x (by omega) hx' ht
  have e : (fun j => BE L L x (0 + j)) = BE L L x := by funext j; rw [Nat.zero_add]
  rw [e] at h2
  show K (yaL L (BE L L x))
  rw [h2]; exact h
theorem ybT (a : List UInt8) (i : Nat) (hi : i ≤ 1000000000) (hl : a.length ≤ 1000000000) (K : Int → Prop) : zbm a i K = K (dg 8 (val a) i : Int) := by
 rw [zbm.is]; unfold zbm.d
 by_cases h : a.length ≤ i
 ·rw [yaW (yaQ (by omega)), yfM 8 (val a) a.length i (by rw [← ynA]; exact yfa a) h]; rfl
 ·have e2 : Int.toNat ((a.length : Int) - 1 - i) = a.length - 1 - i := by omega
  have hd := ya4 8 (val a) i
  rw [B8] at hd
  simp (disch := omega) only [yaB, ybm, ygj, yaQ, yaG, yew, Bool.and_self, e2]
  rw [yer a i (by omega), yg8 (by omega) (by omega)]
theorem ydA (a : List UInt8) (K : Bool → Prop) : zbj a K = K (decide (May a)) := by
 rw [zbj.is]; unfold zbj.d
 by_cases h : a.length ≤ 16384
 ·rw [yaW (yaQ (by omega)), ybg]
  cases a with
  | nil => rw [yaW (by simp)]; congr 1
  | cons b l =>
   have hl : (0 : Int) < ((b :: l).length : Int) := by simp only [List.length_cons]; omega
   rw [yaH (by simp), ybn (ybm hl), ydR]
   by_cases hb : b.toNat = 0
   ·rw [yme (by omega)]
    congr 1
    have : ¬ May (b :: l) := fun hm => by have := hm.2; simp [yfv, hb] at this
    simp [this]
   ·rw [yjM (by omega)]
    congr 1
    have : May (b :: l) := ⟨h, by simpa [yfv] using hb⟩
    simp [this]
 ·rw [yaH (ygj (by omega))]
  congr 1
  have : ¬ May a := fun hm => h hm.1
  simp [this]
theorem ybX (a : List UInt8) : val a < 2 ^ (8 * a.length) := by rw [← ynA]; exact yfa a
theorem yit (a b : List UInt8) (ha : a.length ≤ 1000000) (hb : b.length ≤ 1000000) (hle : val b ≤ val a) (c0 m0 : Nat) (k0 : Nat → Nat → Nat → (Nat → Int) → Prop) (h : k0 a.length c0 m0 (G 8 (val a - val b))) :
  ∀ (j i z : Nat) (c : Int), i + j = a.length → z < 2 ^ (8 * i) → (z : Int) - c * (2 ^ (8 * i) : Nat) = (val a % 2 ^ (8 * i) : Nat) - (val b % 2 ^ (8 * i) : Nat) → (c = 0 ∨ c = 1) →
   zbq.l4 k0 (j + 1) a b a.length c0 c i m0 (G 8 z) := by
 intro j
 induction j with
 | zero =>
  intro i z c hi hz hN hc
  have hi : i = a.length := by omega
  subst hi
  unfold zbq.l4 zbq.l4.step
  rw [yaH (yca (by omega))]
  have hx := ybX a
  rw [Nat.mod_eq_of_lt hx, Nat.mod_eq_of_lt (by omega)] at hN
  have hc0 : c = 0 := by
   rcases hc with h0 | h0
   ·exact h0
   ·exfalso; subst h0; omega
  subst hc0
  rw [show val a - val b = z from by omega] at h
  exact h
 | succ j ih =>
  intro i z c hi hz hN hc
  have hdx := ya4 8 (val a) i
  have hdy := ya4 8 (val b) i
  rw [B8] at hdx hdy
  have step : ∀ (s c' : Int), s = (dg 8 (val a) i : Int) - (dg 8 (val b) i : Int) - c → (c' = if s < 0 then 1 else 0) → zbq.l4 k0 (j + 1) a b a.length c0 c' ((i : Int) + 1) m0 (upd (G 8 z) i (s % 256)) := by
   intro s c' hs hc'
   have hw : s % 256 = ((s % 256).toNat : Int) := by omega
   have hwl : (s % 256).toNat < 2 ^ 8 := by rw [B8]; omega
   have e : ((i + 1 : Nat) : Int) = (i : Int) + 1 := by omega
   rw [hw, ylA 8 z _ i hz hwl, ← e]
   refine ih (i + 1) _ _ (by omega) (yjl 8 z _ i hz hwl) ?_ (by rw [hc']; split <;> simp)
   rw [ybl, ybl, ycx, B8]
   generalize 2 ^ (8 * i) = P at *
   have h4 : s = (s % 256).toNat - 256 * c' := by rw [hc']; split <;> omega
   have h5 : s * (P : Int) = (s % 256).toNat * (P : Int) - c' * ((P : Int) * 256) := by
    conv => lhs; rw [h4]
    rw [Int.sub_mul, Int.mul_comm (256 : Int), Int.mul_assoc, Int.mul_comm (256 : Int)]
   have h6 : s * (P : Int) = (dg 8 (val a) i : Int) * P - (dg 8 (val b) i : Int) * P - c * P := by rw [hs, Int.sub_mul, Int.sub_mul]
   have c1 : ((z + (s % 256).toNat * P : Nat) : Int) = (z : Int) + ((s % 256).toNat : Int) * (P : Int) := by simp
   have c2 : ((val a % P + dg 8 (val a) i * P : Nat) : Int) = ((val a % P : Nat) : Int) + (dg 8 (val a) i : Int) * (P : Int) := by simp
   have c3 : ((val b % P + dg 8 (val b) i * P : Nat) : Int) = ((val b % P : Nat) : Int) + (dg 8 (val b) i : Int) * (P : Int) := by simp
   have c4 : ((P * 256 : Nat) : Int) = (P : Int) * 256 := by simp
   rw [c1, c2, c3, c4]
   omega
  unfold zbq.l4 zbq.l4.step
  rw [yaW (ybm (by omega)), ybT a i (by omega) (by omega), ybT b i (by omega) (by omega)]
  simp (disch := omega) only [ybm, yaQ, yaG, Bool.and_self, Int.toNat_natCast, yaD, yaB, ykE]
  by_cases hs : (dg 8 (val a) i : Int) - (dg 8 (val b) i : Int) - c < 0
  ·rw [yaW (ybm hs)]; exact step _ 1 rfl (by rw [if_pos hs])
  ·rw [yaH (yca (by omega))]; exact step _ 0 rfl (by rw [if_neg hs])
theorem yll (a b : List UInt8) (ha : a.length ≤ 1000000) (hb : b.length ≤ 1000000) (hle : val b ≤ val a) (K : List UInt8 → Prop) (h : K (nb (val a - val b))) : zbq a b K := by
 rw [zbq.is]; unfold zbq.d
 simp (disch := omega) only [yaQ, yaG, Bool.and_self, Int.toNat_natCast]
 refine ⟨a.length + 1, ?_⟩
 have := yit a b ha hb hle a.length a.length (fun y0 y1 y2 y3 => zbp y0 y3 fun y0 => K y0) ?_ a.length 0 0 0 (by omega) (Nat.two_pow_pos _) (by simp [Nat.mod_one]) (.inl rfl)
 ·rw [yc7] at this; exact this
 ·refine ydG _ _ (by omega) ?_ _ h
  have := ybX a
  omega
theorem yg2 (a b : List UInt8) (ha : yfv a = true) (hb : yfv b = true) (K : Int → Prop) : zbe a b K = K (sgn (val a) (val b)) := by
 rw [zbe.is]; unfold zbe.d
 have la := ykq ha; have lb := ykq hb
 by_cases hl : a.length = b.length
 ·rw [hl, yme rfl, yaH (by rfl), yoX a b hl, yhU]
  unfold sgn
  by_cases h : val a < val b
  ·rw [yaW (by simpa using h), if_pos h]
  ·rw [yaH (by simpa using h), if_neg h]
   by_cases he : a = b
   ·rw [yaH (by simp [he]), he, if_neg (by omega)]
   ·have : val a ≠ val b := fun e => he (yo3 ha hb e)
    rw [yaW (by simp [h, he]), if_pos (by omega)]
 ·rw [yjM (by omega), yaW (by rfl)]
  unfold sgn
  by_cases h : a.length < b.length
  ·have : val a < val b := Classical.byContradiction fun hc => by have := ybB (k := 8) (by omega) (show val b ≤ val a by omega); omega
   rw [yaW (ybm (by omega)), if_pos this]
  ·have : val b < val a := Classical.byContradiction fun hc => by have := ybB (k := 8) (by omega) (show val a ≤ val b by omega); omega
   rw [yaH (yca (by omega)), if_neg (by omega), if_pos this]
end Go.Ev.S

/- What the document's answer reckons with natural numbers: products. -/
set_option linter.unusedVariables false
set_option linter.unusedSimpArgs false
set_option maxRecDepth 8000
namespace Go.Ev.S
open Go Go.Ev
end Go.Ev.S

/- What the document's answer reckons with natural numbers: made, measured, moved. -/
set_option linter.unusedVariables false
set_option linter.unusedSimpArgs false
set_option maxRecDepth 8000
namespace Go.Ev.S
open Go Go.Ev
theorem yo9 (a s : Nat) (hs : s ≤ 63) (h : a * 2 ^ s < 9223372036854775808) : yc0 .i64 (a : Int) (s : Int) = ((a * 2 ^ s : Nat) : Int) := by
 have hb : IntKind.bits .i64 = 64 := rfl
 have h1 : min (Int.toNat (s : Int)) (IntKind.bits .i64) = s := by rw [Int.toNat_natCast, hb]; omega
 simp only [yc0, h1]
 have e : (a : Int) * 2 ^ s = ((a * 2 ^ s : Nat) : Int) := by simp
 rw [e]
 exact ydP (by omega) (by omega)
theorem ypB (a b : Nat) (ha : a < 2 ^ 62) (hb : b < 2 ^ 62) : orI .i64 (a : Int) (b : Int) = ((a ||| b : Nat) : Int) := by
 have h3 : a ||| b < 2 ^ 62 := Nat.or_lt_two_pow ha hb
 have e62 : (2 : Nat) ^ 62 = 4611686018427387904 := rfl
 show IntKind.wrap .i64 (((BitVec.ofInt 64 (a : Int) ||| BitVec.ofInt 64 (b : Int) : BitVec 64).toNat : Nat) : Int) = _
 rw [BitVec.toNat_or, BitVec.ofInt_natCast, BitVec.ofInt_natCast, BitVec.toNat_ofNat, BitVec.toNat_ofNat, Nat.mod_eq_of_lt (by rw [B64]; omega), Nat.mod_eq_of_lt (by rw [B64]; omega)]
 exact ydP (by omega) (by omega)
theorem ymn (a : Nat) (ha : a < 2 ^ 62) : ydM .i64 (a : Int) 1 = ((a % 2 : Nat) : Int) := by
 have e62 : (2 : Nat) ^ 62 = 4611686018427387904 := rfl
 show IntKind.wrap .i64 (((BitVec.ofInt 64 (a : Int) &&& BitVec.ofInt 64 ((1 : Nat) : Int) : BitVec 64).toNat : Nat) : Int) = _
 rw [BitVec.toNat_and, BitVec.ofInt_natCast, BitVec.ofInt_natCast, BitVec.toNat_ofNat, BitVec.toNat_ofNat, Nat.mod_eq_of_lt (by rw [B64]; omega), Nat.mod_eq_of_lt (by rw [B64]; omega)]
 have : a &&& 1 = a % 2 := Nat.and_one_is_mod a
 rw [this]
 exact ydP (by omega) (by omega)
theorem ynd (a s : Nat) (hs : s ≤ 64) : yaS .i64 (a : Int) (s : Int) = ((a / 2 ^ s : Nat) : Int) := by
 rw [ydZ (k := .i64) hs]; simp
theorem ypJ {i : Nat} (h : i = 48) : 2 ^ (8 * i) = Q6 := ypy (by omega)
theorem yhg (a : List UInt8) (K : Int → Prop) (h : K (if May a then (ybV (val a) : Int) else 0)) : zbh a K := by
 rw [zbh.is]; unfold zbh.d
 rw [ydA]
 by_cases hm : May a
 ·rw [if_pos hm] at h
  rw [yaH (by simp [hm]), ybg]
  cases a with
  | nil => rw [yaW (by simp)]; exact h
  | cons b l =>
   have hl := hm.1
   rw [List.length_cons] at hl
   have hv : val (b :: l) ≠ 0 := fun e => by have := hm.nb; rw [e, ya3] at this; cases this
   have hb := yoo 8 _ (by omega) hv
   rw [ykq hm.2, List.length_cons, Nat.add_sub_cancel, ypd] at hb
   have hbl := ylj b
   rw [yaH (by simp), ybn (ybm (by rw [List.length_cons]; omega)), ydR, ybi (by omega) (by omega)]
   refine ylB _ (by omega) _ ?_
   have h8 : ybV b.toNat ≤ 8 := (ycz _ _).2 hbl
   rw [List.length_cons]
   simp (disch := omega) only [yaB, ycv, yaD]
   rw [show 8 * (((l.length + 1 : Nat) : Int) - 1) + (ybV b.toNat : Int) = ((ybV (val (b :: l)) : Nat) : Int) from by rw [hb]; omega]
   exact h
 ·rw [if_neg hm] at h
  rw [yaW (by simp [hm])]; exact h
theorem yjo (x : Nat) (h : x ≠ 0) : x.testBit (ybD x) = true ∧ ∀ i, i < ybD x → x.testBit i = false := by
 obtain ⟨q, hq⟩ := yd5 x h
 generalize ybD x = k at *
 subst hq
 constructor
 ·rw [Nat.testBit_two_pow_mul]; simp [Nat.testBit_zero]
 ·intro i hi
  rw [Nat.testBit_two_pow_mul]; simp; omega
theorem yim (x : Nat) (h0 : x ≠ 0) (hx : x < 18446744073709551616) (hk : ybD x < 64) (k0 : Int → Prop) (k1 : Prop) (h : k0 (ybD x)) : ∀ (j i : Nat), i + j = ybD x → zbd.l2 k0 k1 (j + 1) x i := by
 obtain ⟨b1, b2⟩ := yjo x h0
 intro j
 induction j with
 | zero =>
  intro i hi
  unfold zbd.l2 zbd.l2.step
  rw [yaW (ybm (by omega)), yeL x i hx (by omega), show i = ybD x from by omega, b1, yaZ]
  exact h
 | succ j ih =>
  intro i hi
  have ih := ih (i + 1) (by omega)
  have e : ((i + 1 : Nat) : Int) = (i : Int) + 1 := by omega
  rw [e] at ih
  unfold zbd.l2 zbd.l2.step
  rw [yaW (ybm (by omega)), yeL x i hx (by omega), b2 i (by omega), yew, yaD (by omega) (by omega)]
  exact ih
theorem ykb (x n : Nat) (h0 : x ≠ 0) (hx : x < 2 ^ n) : ybD x < n := by
 obtain ⟨b1, _⟩ := yjo x h0
 apply Classical.byContradiction
 intro hc
 rw [Nat.testBit_lt_two_pow (Nat.lt_of_lt_of_le hx (Nat.pow_le_pow_right (by omega) (by omega)))] at b1
 cases b1
theorem yle (x : Nat) (h0 : x ≠ 0) (hx : x < 18446744073709551616) (K : Int → Prop) (h : K (ybD x)) : zbd x K := by
 rw [zbd.is]; unfold zbd.d
 exact ⟨ybD x + 1, yim x h0 hx (ykb x 64 h0 hx) _ _ h (ybD x) 0 (by omega)⟩
theorem yjk (a : List UInt8) (hl : a.length ≤ 100000) (k0 : Int → Prop) (k1 : Prop) (h0 : val a ≠ 0 → k0 (ybD (val a))) (h1 : val a = 0 → k1) :
  ∀ (j t : Nat), t + j = a.length → val a % 2 ^ (8 * t) = 0 → zbi.l4 k0 k1 (j + 1) a t := by
 intro j
 induction j with
 | zero =>
  intro t ht hm
  unfold zbi.l4 zbi.l4.step
  rw [yaH (yca (by omega))]
  refine h1 ?_
  rw [Nat.mod_eq_of_lt (by have := ybX a; rwa [show t = a.length from by omega])] at hm
  exact hm
 | succ j ih =>
  intro t ht hm
  have hd := ya4 8 (val a) t
  rw [B8] at hd
  unfold zbi.l4 zbi.l4.step
  rw [yaW (ybm (by omega)), ybT a t (by omega) (by omega)]
  by_cases hz : dg 8 (val a) t = 0
  ·rw [yme (by omega), yaH (by rfl), yaD (by omega) (by omega)]
   have := ih (t + 1) (by omega) (by rw [ybl, hm, hz]; omega)
   rw [show ((t + 1 : Nat) : Int) = (t : Int) + 1 from by omega] at this
   exact this
  ·rw [yjM (by omega), yaW (by rfl), ybT a t (by omega) (by omega), ybi (by omega) (by omega)]
   refine yle _ hz (by omega) _ ?_
   have hlow := yiE (val a) t hm hz
   have hk := ykb _ 8 hz (by rw [B8]; exact hd)
   simp (disch := omega) only [ycv, yaD]
   rw [show 8 * (t : Int) + (ybD (dg 8 (val a) t) : Int) = ((ybD (val a) : Nat) : Int) from by rw [hlow]; omega]
   refine h0 fun e => hz ?_
   rw [e]; exact ydf 8 0 t (Nat.two_pow_pos _)
theorem ylr (a : List UInt8) (K : Int → Prop) (h : K (if May a then (ybD (val a) : Int) else 0)) : zbi a K := by
 rw [zbi.is]; unfold zbi.d
 rw [ydA]
 by_cases hm : May a
 ·rw [if_pos hm] at h
  have hl := hm.1
  rw [yaH (by simp [hm])]
  exact ⟨a.length + 1, yjk a (by omega) (fun y0 => K y0) (K 0) (fun _ => h) (fun e => by rw [e, yi3] at h; exact h) a.length 0 (by omega) (by simp [Nat.mod_one])⟩
 ·rw [if_neg hm] at h
  rw [yaW (by simp [hm])]; exact h
theorem yoe (x s i : Nat) : (dg 8 x (i + s / 8) + dg 8 x (i + s / 8 + 1) * 256) / 2 ^ (s % 8) % 256 = dg 8 (x / 2 ^ s) i := by
 have hr : s % 8 < 8 := Nat.mod_lt _ (by omega)
 have h1 : dg 8 x (i + s / 8) + dg 8 x (i + s / 8 + 1) * 256 = x / 2 ^ (8 * (i + s / 8)) % 2 ^ 16 := by
  have a := ycE 8 x (i + s / 8)
  have b := ycE 8 x (i + s / 8 + 1)
  rw [B8] at a b
  rw [a, b, show (2 : Nat) ^ 16 = 65536 from rfl]
  have c := ya4 8 x (i + s / 8)
  have d := ya4 8 x (i + s / 8 + 1)
  rw [B8] at c d
  omega
 rw [h1]
 unfold dg
 rw [Nat.div_div_eq_div_mul, ← Nat.pow_add]
 have h2 : (2 : Nat) ^ 16 = 2 ^ (s % 8) * 2 ^ (16 - s % 8) := by rw [← Nat.pow_add]; congr 1; omega
 rw [h2, Nat.mod_mul_right_div_self, Nat.div_div_eq_div_mul, ← Nat.pow_add, show (256 : Nat) = 2 ^ 8 from rfl, Nat.mod_mod_of_dvd _ (Nat.pow_dvd_pow 2 (by omega))]
 congr 3; omega
theorem ygT (a : List UInt8) (s : Nat) (hl : a.length ≤ 100000) (hs : s / 8 ≤ a.length) (lost : Bool) (c0 m0 : Nat) (k0 : Bool → Nat → Nat → Nat → (Nat → Int) → Prop) (h : k0 lost (a.length - s / 8) c0 m0 (G 8 (val a / 2 ^ s % 2 ^ (8 * (a.length - s / 8))))) :
  ∀ (j i : Nat), i + j = a.length - s / 8 → zbk.l11 k0 (j + 1) a s lost ((a.length - s / 8 : Nat) : Int) (a.length - s / 8) c0 i m0 (G 8 (val a / 2 ^ s % 2 ^ (8 * i))) := by
 intro j
 induction j with
 | zero =>
  intro i hi
  unfold zbk.l11 zbk.l11.step
  rw [yaH (yca (by omega)), show i = a.length - s / 8 from by omega]
  exact h
 | succ j ih =>
  intro i hi
  have ih := ih (i + 1) (by omega)
  have e : ((i + 1 : Nat) : Int) = (i : Int) + 1 := by omega
  have hw := yoe (val a) s i
  have hdw := ya4 8 (val a / 2 ^ s) i
  rw [e, ybl, ← ylA 8 _ _ i (Nat.mod_lt _ (Nat.two_pow_pos _)) hdw, ← hw] at ih
  have hd := ya4 8 (val a) (i + s / 8)
  have hd2 := ya4 8 (val a) (i + s / 8 + 1)
  rw [B8] at hd hd2
  have e1 : (i : Int) + (s : Int) / 8 = ((i + s / 8 : Nat) : Int) := by omega
  have e2 : ((i + s / 8 : Nat) : Int) + 1 = ((i + s / 8 + 1 : Nat) : Int) := by omega
  have e3 : (s : Int) % 8 = ((s % 8 : Nat) : Int) := by omega
  have q1 := yo9 (dg 8 (val a) (i + s / 8 + 1)) 8 (by omega) (by rw [B8]; omega)
  rw [B8, show ((8 : Nat) : Int) = 8 from rfl] at q1
  have e62 : (2 : Nat) ^ 62 = 4611686018427387904 := rfl
  have o1 : orI .i64 ((dg 8 (val a) (i + s / 8) : Nat) : Int) ((dg 8 (val a) (i + s / 8 + 1) * 256 : Nat) : Int) = ((dg 8 (val a) (i + s / 8) + dg 8 (val a) (i + s / 8 + 1) * 256 : Nat) : Int) := by
   rw [ypB _ _ (by omega) (by omega)]
   congr 1
   exact yfU (r := 8) (by rw [B8]; exact hd) (by rw [B8]; exact Nat.mul_mod_left _ _)
  have sh := ynd (dg 8 (val a) (i + s / 8) + dg 8 (val a) (i + s / 8 + 1) * 256) (s % 8) (by omega)
  have e4 : (((dg 8 (val a) (i + s / 8) + dg 8 (val a) (i + s / 8 + 1) * 256) / 2 ^ (s % 8) : Nat) : Int) % 256 = (((dg 8 (val a) (i + s / 8) + dg 8 (val a) (i + s / 8 + 1) * 256) / 2 ^ (s % 8) % 256 : Nat) : Int) := by omega
  unfold zbk.l11 zbk.l11.step
  simp (disch := omega) only [ybm, yaZ, yb0, yaD, e1, e2]
  rw [ybT a _ (by omega) (by omega), ybT a _ (by omega) (by omega)]
  simp (disch := omega) only [ybm, yca, yaQ, yaG, Bool.and_self, Bool.not_false, Int.toNat_natCast, ygP, ybi, e3, q1, o1, sh, ykE, e4]
  exact ih
theorem yoD (x n : Int) : ltI x n = decide (x < n) := by simp [ltI]
theorem yid (a : List UInt8) (n : Int) (hn : n < 9223372036854775808) (hm : May a) (K : List UInt8 → Bool → Int → Prop) (h1 : n < 0 → K [] false 2) (h2 : 0 ≤ n → a = [] → K [] false 0)
  (h3 : 0 ≤ n → a ≠ [] → K (nb (val a / 2 ^ n.toNat)) (decide ((ybD (val a) : Int) < n)) 0) : zbk a n K := by
 rw [zbk.is]; unfold zbk.d
 by_cases hneg : n < 0
 ·rw [yaW (ybm hneg)]; exact h1 hneg
 rw [yaH (yca (by omega)), ybg]
 by_cases h0 : a = []
 ·rw [yaW (by simp [h0])]; exact h2 (by omega) h0
 rw [yaH (by simp [h0])]
 have hl := hm.1
 obtain ⟨s, rfl⟩ : ∃ s : Nat, n = s := ⟨n.toNat, by omega⟩
 have h3 := h3 (by omega) h0
 rw [Int.toNat_natCast] at h3
 refine ylr a _ ?_
 rw [if_pos hm, yoD, ycv (by omega) (by omega)]
 by_cases hbig : 8 * a.length ≤ s
 ·rw [yaW (yaQ (by omega))]
  have : val a / 2 ^ s = 0 := Nat.div_eq_of_lt (Nat.lt_of_lt_of_le (ybX a) (Nat.pow_le_pow_right (by omega) hbig))
  rw [this, ya3] at h3
  exact h3
 ·rw [yaH (ygj (by omega))]
  have e1 : Int.toNat ((a.length : Int) - (s : Int) / 8) = a.length - s / 8 := by omega
  have e2 : (a.length : Int) - (s : Int) / 8 = ((a.length - s / 8 : Nat) : Int) := by omega
  simp (disch := omega) only [yb0, yaB, yaQ, yaG, Bool.and_self, e1]
  rw [e2]
  have hlt2 : val a / 2 ^ s < 2 ^ (8 * (a.length - s / 8)) := by
   rw [Nat.div_lt_iff_lt_mul (Nat.two_pow_pos _), ← Nat.pow_add]
   exact Nat.lt_of_lt_of_le (ybX a) (Nat.pow_le_pow_right (by omega) (by omega))
  refine ⟨a.length - s / 8 + 1, ?_⟩
  have := ygT a s (by omega) (by omega) (decide ((ybD (val a) : Int) < s)) (a.length - s / 8) (a.length - s / 8) (fun y0 y1 y2 y3 y4 => zbp y1 y4 fun y0_1 => K y0_1 y0 0) ?_ (a.length - s / 8) 0 (by omega)
  ·rw [Nat.mul_zero, Nat.pow_zero, Nat.mod_one, yc7] at this; exact this
  ·rw [Nat.mod_eq_of_lt hlt2]
   exact ydG _ _ (by omega) hlt2 _ h3
end Go.Ev.S

/- What the document's answer reckons with natural numbers: quotients, greatest common divisors, roots. -/
set_option linter.unusedVariables false
set_option linter.unusedSimpArgs false
set_option maxRecDepth 8000
namespace Go.Ev.S
open Go Go.Ev
theorem ypz {x y : Nat} (h : y ≤ x) : leI 0 (sgn x y) = true := by
 unfold sgn
 rw [if_neg (by omega)]
 split
 ·exact yaQ (by omega)
 ·exact yaQ (by omega)
theorem ypm {x y : Nat} (h : x < y) : leI 0 (sgn x y) = false := by
 unfold sgn
 rw [if_pos h]
 exact ygj (by omega)
theorem ypF (x i : Nat) : dg 8 x (i / 8) / 2 ^ (i % 8) % 2 = x / 2 ^ i % 2 := by
 unfold dg
 have h2 : (2 : Nat) ^ 8 = 2 ^ (i % 8) * 2 ^ (8 - i % 8) := by rw [← Nat.pow_add]; congr 1; omega
 have h3 : (2 : Nat) ∣ 2 ^ (8 - i % 8) := Nat.dvd_trans (by rw [Nat.pow_one]; exact Nat.dvd_refl _ : (2 : Nat) ∣ 2 ^ 1) (Nat.pow_dvd_pow 2 (by omega))
 rw [h2, Nat.mod_mul_right_div_self, Nat.mod_mod_of_dvd _ h3, Nat.div_div_eq_div_mul, ← Nat.pow_add, show 8 * (i / 8) + i % 8 = i from by omega]
theorem ylN (a : List UInt8) (i : Nat) (hi : i ≤ 1000000000) (hl : a.length ≤ 1000000000) (K : Int → Prop) : zbn a i K = K ((val a / 2 ^ i % 2 : Nat) : Int) := by
 rw [zbn.is]; unfold zbn.d
 have hd := ya4 8 (val a) (i / 8)
 rw [B8] at hd
 have e62 : (2 : Nat) ^ 62 = 4611686018427387904 := rfl
 have e0 : ya1 IntKind.i64 (i : Int) 8 = ((i / 8 : Nat) : Int) := by rw [yb0 (by omega) (by omega) (by omega)]; omega
 have e1 : cvI IntKind.u64 (ycn IntKind.i64 (i : Int) 8) = ((i % 8 : Nat) : Int) := by rw [ygP (by omega), ybi (by omega) (by omega)]; omega
 have hle := Nat.div_le_self (dg 8 (val a) (i / 8)) (2 ^ (i % 8))
 rw [e0, e1, ybT a _ (by omega) hl, yca (by omega), ynd _ _ (by omega), ymn _ (by omega), ypF]
 rfl
theorem yfH (a : List UInt8) (one : Nat) (h1 : one < 2) (hl : a.length ≤ 1000000) (c0 m0 : Nat) (k0 : Nat → Nat → Nat → (Nat → Int) → Prop) (h : k0 (a.length + 1) c0 m0 (G 8 (2 * val a + one))) :
  ∀ (j i Z c : Nat), i + j = a.length + 1 → Z < 2 ^ (8 * i) → c < 2 → Z + c * 2 ^ (8 * i) = 2 * (val a % 2 ^ (8 * i)) + one → zbo.l4 k0 (j + 1) a (a.length + 1) c0 c i m0 (G 8 Z) := by
 intro j
 induction j with
 | zero =>
  intro i Z c hi hZ hc hE
  have hi : i = a.length + 1 := by omega
  subst hi
  have hx := ybX a
  have hp : 2 ^ (8 * (a.length + 1)) = 2 ^ (8 * a.length) * 256 := by rw [ycx, B8]
  have hpp := Nat.two_pow_pos (8 * a.length)
  rw [Nat.mod_eq_of_lt (by omega)] at hE
  have hc0 : c = 0 := by
   rcases (by omega : c = 0 ∨ c = 1) with e | e
   ·exact e
   ·subst e; omega
  subst hc0
  unfold zbo.l4 zbo.l4.step
  rw [yaH (ygj (by omega))]
  rw [← hE, Nat.zero_mul, Nat.add_zero] at h
  exact h
 | succ j ih =>
  intro i Z c hi hZ hc hE
  have hd := ya4 8 (val a) i
  rw [B8] at hd
  have e1 : ycB IntKind.i64 2 ((dg 8 (val a) i : Nat) : Int) = ((2 * dg 8 (val a) i : Nat) : Int) := by rw [ycv (by omega) (by omega)]; omega
  have e2 : yal IntKind.i64 (c : Int) ((2 * dg 8 (val a) i : Nat) : Int) = ((c + 2 * dg 8 (val a) i : Nat) : Int) := by rw [yaD (by omega) (by omega)]; omega
  have e3 : yaS IntKind.i64 ((c + 2 * dg 8 (val a) i : Nat) : Int) 8 = (((c + 2 * dg 8 (val a) i) / 256 : Nat) : Int) := by rw [ymm]; omega
  have e4 : cvI IntKind.u8 ((c + 2 * dg 8 (val a) i : Nat) : Int) = (((c + 2 * dg 8 (val a) i) % 256 : Nat) : Int) := by rw [ykE]; omega
  have e5 : yal IntKind.i64 (i : Int) 1 = ((i + 1 : Nat) : Int) := by rw [yaD (by omega) (by omega)]; omega
  have hw : (c + 2 * dg 8 (val a) i) % 256 < 2 ^ 8 := Nat.mod_lt _ (by omega)
  unfold zbo.l4 zbo.l4.step
  rw [yaW (yaQ (by omega)), ybT a i (by omega) (by omega), ybn (by rw [yaQ (by omega), ybm (by omega)]; rfl), e1, e2, e3, e4, e5, Int.toNat_natCast, ylA 8 Z _ i hZ hw]
  refine ih (i + 1) _ _ (by omega) (yjl 8 Z _ i hZ hw) (by omega) ?_
  rw [ybl, ycx, B8]
  have := yju (c + 2 * dg 8 (val a) i) 256 (2 ^ (8 * i))
  rw [Nat.add_mul c, Nat.mul_assoc] at this
  rw [Nat.mul_add]
  omega
theorem yhT (a : List UInt8) (one : Nat) (h1 : one < 2) (hl : a.length ≤ 1000000) (K : List UInt8 → Prop) (h : K (nb (2 * val a + one))) : zbo a one K := by
 rw [zbo.is]; unfold zbo.d
 have e1 : Int.toNat ((a.length : Int) + 1) = a.length + 1 := by omega
 simp (disch := omega) only [yaQ, yaG, Bool.and_self, yaD, e1]
 refine ⟨a.length + 2, ?_⟩
 have hx := ybX a
 have := yfH a one h1 hl (a.length + 1) (a.length + 1) (fun y0 y1 y2 y3 => zbp y0 y3 fun y0 => K y0) ?_ (a.length + 1) 0 0 one (by omega) (by simp) h1 (by simp [Nat.mod_one])
 ·rw [yc7] at this; exact this
 ·refine ydG _ _ (by omega) ?_ _ h
  rw [ycx, B8]; omega
theorem yog (x t : Nat) : x / 2 ^ t = 2 * (x / 2 ^ (t + 1)) + x / 2 ^ t % 2 := by
 rw [Nat.pow_succ, ← Nat.div_div_eq_div_mul]
 omega
theorem you (X y q r b : Nat) (hy : 0 < y) (hq : X / y = q) (hr : X % y = r) (hb : b < 2) :
  (y ≤ 2 * r + b → (2 * X + b) / y = 2 * q + 1 ∧ (2 * X + b) % y = 2 * r + b - y) ∧ (2 * r + b < y → (2 * X + b) / y = 2 * q ∧ (2 * X + b) % y = 2 * r + b) := by
 have h1 := Nat.div_add_mod X y
 have h2 := Nat.mod_lt X hy
 rw [hq, hr] at h1
 rw [hr] at h2
 have h3 : 2 * X + b = 2 * r + b + y * (2 * q) := by rw [← h1, Nat.mul_left_comm y 2 q]; omega
 constructor
 ·intro h
  have h4 : 2 * X + b = (2 * r + b - y) + y * (2 * q + 1) := by rw [h3, Nat.mul_add]; omega
  rw [h4, Nat.add_mul_div_left _ _ hy, Nat.add_mul_mod_self_left, Nat.div_eq_of_lt (by omega), Nat.mod_eq_of_lt (by omega)]
  omega
 ·intro h
  rw [h3, Nat.add_mul_div_left _ _ hy, Nat.add_mul_mod_self_left, Nat.div_eq_of_lt h, Nat.mod_eq_of_lt h]
  omega
theorem yoO (q t : Nat) : upd (G 8 (q * 2 ^ (t + 1))) (t / 8) (orI IntKind.u8 ((dg 8 (q * 2 ^ (t + 1)) (t / 8) : Nat) : Int) (yc0 IntKind.u8 1 ((t % 8 : Nat) : Int))) = G 8 ((2 * q + 1) * 2 ^ t) := by
 have hb : IntKind.bits .u8 = 8 := rfl
 have hd := ya4 8 (q * 2 ^ (t + 1)) (t / 8)
 have h8 : (2 : Nat) ^ 8 = 2 ^ (t % 8 + 1) * 2 ^ (8 - (t % 8 + 1)) := by rw [← Nat.pow_add]; congr 1; omega
 have hmod : dg 8 (q * 2 ^ (t + 1)) (t / 8) % 2 ^ (t % 8 + 1) = 0 := by
  unfold dg
  rw [Nat.mod_mod_of_dvd _ ⟨_, h8⟩, show t + 1 = t % 8 + 1 + 8 * (t / 8) from by omega, Nat.pow_add, ← Nat.mul_assoc, Nat.mul_div_cancel _ (Nat.two_pow_pos _)]
  exact Nat.mul_mod_left _ _
 have hlt : 2 ^ (t % 8) < 2 ^ (t % 8 + 1) := Nat.pow_lt_pow_right (by omega) (by omega)
 have h1 : yc0 IntKind.u8 1 ((t % 8 : Nat) : Int) = ((2 ^ (t % 8) : Nat) : Int) := by
  have := ymG (k := .u8) rfl 1 (t % 8) (by rw [hb]; omega)
  rw [Nat.one_mul, hb, Nat.mod_eq_of_lt (Nat.pow_lt_pow_right (by omega) (by omega))] at this
  exact this
 have hs : dg 8 (q * 2 ^ (t + 1)) (t / 8) ||| 2 ^ (t % 8) = 2 ^ (t % 8) + dg 8 (q * 2 ^ (t + 1)) (t / 8) := by
  rw [Nat.or_comm]; exact yfU hlt hmod
 have hs2 : dg 8 (q * 2 ^ (t + 1)) (t / 8) ||| 2 ^ (t % 8) < 2 ^ 8 := Nat.or_lt_two_pow hd (Nat.pow_lt_pow_right (by omega) (by omega))
 rw [h1, ypj (k := .u8) rfl _ _ (by rw [hb]; exact hd) (by rw [hb]; exact Nat.pow_lt_pow_right (by omega) (by omega))]
 refine yjd ?_ hs2
 rw [hs, Nat.add_mul (2 ^ (t % 8)), ← Nat.pow_add, show t % 8 + 8 * (t / 8) = t from by omega, Nat.add_mul (2 * q) 1, Nat.one_mul, Nat.pow_succ, Nat.mul_comm (2 ^ t) 2, ← Nat.mul_assoc, Nat.mul_comm q 2]
 omega
theorem ykM {x n : Nat} (h : x < 2 ^ (8 * n)) : (nb x).length ≤ n := (ybS x n).2 (by rw [ynA]; exact h)
theorem yi6 (a b : List UInt8) (hl : a.length ≤ 100000) (hlb : b.length ≤ 100000) (hb : yfv b = true) (hy : 0 < val b) (c0 m0 : Nat) (k0 : List UInt8 → Nat → Nat → Nat → (Nat → Int) → Prop)
  (h : k0 (nb (val a % val b)) (a.length + 1) c0 m0 (G 8 (val a / val b))) :
  ∀ t, t ≤ 8 * a.length → zbf.l10 k0 (t + 1) a b (nb (val a / 2 ^ t % val b)) (a.length + 1) c0 ((t : Int) - 1) m0 (G 8 (val a / 2 ^ t / val b * 2 ^ t)) := by
 intro t
 induction t with
 | zero =>
  intro ht
  unfold zbf.l10 zbf.l10.step
  rw [yaH (ygj (by omega)), Nat.pow_zero, Nat.div_one, Nat.mul_one]
  exact h
 | succ t ih =>
  intro ht
  have ih := ih (by omega)
  have hx := yog (val a) t
  have hb2 : val a / 2 ^ t % 2 < 2 := Nat.mod_lt _ (by omega)
  generalize hbit : val a / 2 ^ t % 2 = bit at *
  rw [hx] at ih
  generalize val a / 2 ^ (t + 1) = X at *
  obtain ⟨s1, s2⟩ := you X (val b) _ _ bit hy rfl rfl hb2
  have hr := Nat.mod_lt X hy
  have hyl := ybX b
  generalize hre : X % val b = r at *
  generalize hqe : X / val b = q at *
  have lr : (nb r).length ≤ b.length := ykM (by omega)
  have e1 : ((t + 1 : Nat) : Int) - 1 = (t : Int) := by omega
  have e2 : ya1 IntKind.i64 (t : Int) 8 = ((t / 8 : Nat) : Int) := by rw [yb0 (by omega) (by omega) (by omega)]; omega
  have e3 : cvI IntKind.u64 (ycn IntKind.i64 (t : Int) 8) = ((t % 8 : Nat) : Int) := by rw [ygP (by omega), ybi (by omega) (by omega)]; omega
  have e4 : yaw IntKind.i64 (t : Int) 1 = (t : Int) - 1 := by rw [yaB (by omega) (by omega)]
  have w0 : (leI 0 ((t / 8 : Nat) : Int) && ltI ((t / 8 : Nat) : Int) ((a.length + 1 : Nat) : Int)) = true := by rw [yaQ (by omega), ybm (by omega)]; rfl
  unfold zbf.l10 zbf.l10.step
  rw [e1, yaW (yaQ (by omega)), ylN a t (by omega) (by omega), hbit]
  refine yhT (nb r) bit hb2 (by omega) _ ?_
  rw [ybQ, yg2 _ b (ykd _) hb, ybQ]
  have l2 : (nb (2 * r + bit)).length ≤ b.length + 1 := ykM (by rw [ycx, B8]; omega)
  by_cases hc : val b ≤ 2 * r + bit
  ·obtain ⟨g1, g2⟩ := s1 hc
   rw [g1, g2] at ih
   rw [yaW (ypz hc)]
   refine yll _ b (by omega) (by omega) (by rw [ybQ]; exact hc) _ ?_
   rw [ybQ, e2, e3, ybn w0, ybn (by rw [yca (by omega)]; rfl), ybn w0, Int.toNat_natCast, ybp, yoO, e4]
   exact ih
  ·obtain ⟨g1, g2⟩ := s2 (by omega)
   rw [g1, g2, show 2 * q * 2 ^ t = q * 2 ^ (t + 1) from by rw [Nat.pow_succ, Nat.mul_comm 2 q, Nat.mul_assoc, Nat.mul_comm 2]] at ih
   rw [yaH (ypm (by omega)), e4]
   exact ih
theorem ylU (a b : List UInt8) (ha : May a) (hb : May b) (K : List UInt8 → List UInt8 → Int → Prop) (h0 : b = [] → K [] [] 2) (h2 : val b ≠ 0 → K (nb (val a / val b)) (nb (val a % val b)) 0) : zbf a b K := by
 rw [zbf.is]; unfold zbf.d
 rw [ybg]
 by_cases hz : b = []
 ·rw [yaW (by simpa using hz)]; exact h0 hz
 ·rw [yaH (by simpa using hz), yg2 a b ha.2 hb.2, ymS]
  have hv : val b ≠ 0 := fun e => hz ((yhQ hb.2).1 e)
  have h2 := h2 hv
  have l1 := ha.1; have l2 := hb.1
  by_cases hlt : val a < val b
  ·rw [yaW (by simpa using hlt)]
   rw [Nat.div_eq_of_lt hlt, Nat.mod_eq_of_lt hlt, ya3, ha.nb] at h2
   exact h2
  ·rw [yaH (by simpa using hlt)]
   have va : val a ≠ 0 := by omega
   refine yhg a _ (yhg b _ ?_)
   rw [if_pos ha, if_pos hb]
   have ba : ybV (val a) ≤ 8 * a.length := (ycz _ _).2 (ybX a)
   have bb : ybV (val b) ≤ 8 * b.length := (ycz _ _).2 (ybX b)
   have bp := ykB hv
   have bm : ybV (val b) ≤ ybV (val a) := (ycz _ _).2 (by have := yhB (val a); omega)
   have e1 : yaw IntKind.i64 ((ybV (val a) : Nat) : Int) (yaw IntKind.i64 ((ybV (val b) : Nat) : Int) 1) = ((ybV (val a) - (ybV (val b) - 1) : Nat) : Int) := by
    simp (disch := omega) only [yaB]; omega
   rw [e1]
   have hT : val a / 2 ^ (ybV (val a) - (ybV (val b) - 1)) < val b := by
    rw [Nat.div_lt_iff_lt_mul (Nat.two_pow_pos _)]
    have g1 := ym4 hv
    have g2 := yhB (val a)
    have g3 := Nat.mul_le_mul_right (2 ^ (ybV (val a) - (ybV (val b) - 1))) g1
    rw [← Nat.pow_add, show ybV (val b) - 1 + (ybV (val a) - (ybV (val b) - 1)) = ybV (val a) from by omega] at g3
    omega
   generalize hTe : ybV (val a) - (ybV (val b) - 1) = T at *
   refine yid a _ (by omega) ha _ (fun e => by omega) (fun _ e => absurd ((yhQ ha.2).2 e) va) fun _ _ => ?_
   rw [Int.toNat_natCast]
   have e2 : yal IntKind.i64 ((a.length : Nat) : Int) 1 = (a.length : Int) + 1 := by rw [yaD (by omega) (by omega)]
   have e3 : Int.toNat ((a.length : Int) + 1) = a.length + 1 := by omega
   rw [e2, ybn (by rw [yaQ (by omega), yaQ (by omega), yaQ (by omega)]; rfl), e3, yaB (by omega) (by omega)]
   refine ⟨T + 1, ?_⟩
   have := yi6 a b (by omega) (by omega) hb.2 (by omega) (a.length + 1) (a.length + 1) (fun y0 y1 y2 y3 y4 => zbp y1 y4 fun y0_3 => K y0_3 y0 0) ?_ T (by omega)
   ·rw [Nat.mod_eq_of_lt hT, Nat.div_eq_of_lt hT, Nat.zero_mul, yc7] at this
    exact this
   ·refine ydG _ _ (by omega) ?_ _ h2
    have g1 := Nat.div_le_self (val a) (val b)
    have g2 := ybX a
    have g3 : 2 ^ (8 * a.length) ≤ 2 ^ (8 * (a.length + 1)) := yfE (by omega)
    omega
theorem ynK {x y : Nat} (h : x ≤ y) (hm : May (nb y)) : May (nb x) := by
 refine ⟨?_, ykd x⟩
 have := (ybS y _).1 hm.1
 exact (ybS x _).2 (by omega)
theorem yjh (k0 : List UInt8 → Prop) : ∀ (y x : Nat), May (nb x) → May (nb y) → k0 (nb (Nat.gcd x y)) → ∃ f, zbg.l1 k0 f (nb x) (nb y) := by
 intro y
 induction y using Nat.strongRecOn with
 | _ y ih =>
  intro x hx hy hk
  by_cases h0 : y = 0
  ·subst h0
   refine ⟨1, ?_⟩
   unfold zbg.l1 zbg.l1.step
   rw [ya3, ybg, yaH (by rfl)]
   rw [Nat.gcd_zero_right] at hk; exact hk
  ·have hm := Nat.mod_lt x (show 0 < y by omega)
   have hg : Nat.gcd y (x % y) = Nat.gcd x y := by rw [Nat.gcd_comm x y, Nat.gcd_rec y x, Nat.gcd_comm]
   obtain ⟨f, hf⟩ := ih (x % y) hm y hy (ynK (Nat.le_of_lt hm) hy) (by rw [hg]; exact hk)
   refine ⟨f + 1, ?_⟩
   unfold zbg.l1 zbg.l1.step
   rw [ybg, yaW (by simp [yny h0])]
   refine ylU _ _ hx hy _ (fun e => absurd e (yny h0)) fun _ => ?_
   rw [ybQ, ybQ]; exact hf
theorem ylL (a b : List UInt8) (ha : May a) (hb : May b) (K : List UInt8 → Prop) (h : K (nb (Nat.gcd (val a) (val b)))) : zbg a b K := by
 rw [zbg.is]; unfold zbg.d
 have := yjh (fun y0 => K y0) (val b) (val a) (by rw [ha.nb]; exact ha) (by rw [hb.nb]; exact hb) h
 rw [ha.nb, hb.nb] at this
 exact this
end Go.Ev.S

/- The laws of natural numbers that need no quotient: sums, products, a ring. -/
set_option linter.unusedVariables false
set_option linter.unusedSimpArgs false
set_option maxRecDepth 8000
namespace Go.Ev.S
open Go Go.Ev
theorem ykv (a : List UInt8) : eqS a a = true := by simp [eqS]
theorem ykX (a : Int) : eqI a a = true := by simp [eqI]
end Go.Ev.S

/- The law of shifts. -/
set_option linter.unusedVariables false
set_option linter.unusedSimpArgs false
set_option maxRecDepth 8000
namespace Go.Ev.S
open Go Go.Ev
theorem yiF (a : List UInt8) (n : Int) (hn : n < 9223372036854775808) (K : List UInt8 → Bool → Int → Prop) (h0 : ¬ May a → K [] false 2) (h1 : May a → n < 0 → K [] false 2) (h2 : May a → 0 ≤ n → a = [] → K [] false 0)
  (h3 : May a → 0 ≤ n → a ≠ [] → K (nb (val a / 2 ^ n.toNat)) (decide ((ybD (val a) : Int) < n)) 0) : zap a n K := by
 rw [zap.is]; unfold zap.d
 rw [yaY]
 by_cases hm : May a
 ·rw [if_pos hm, yaH (by rfl)]
  by_cases hneg : n < 0
  ·rw [yaW (ybm hneg)]; exact h1 hm hneg
  rw [yaH (yca (by omega)), ybg]
  by_cases hz : a = []
  ·rw [yaW (by simp [hz])]; exact h2 hm (by omega) hz
  rw [yaH (by simp [hz])]
  obtain ⟨s, rfl⟩ : ∃ s : Nat, n = s := ⟨n.toNat, by omega⟩
  have h3 := h3 hm (by omega) hz
  rw [Int.toNat_natCast] at h3
  refine hm.words _ ?_
  have hw := hm.wl
  refine yfL _ _ s (by omega) (by omega) hm.lt _ ?_
  have hle : wl 32 (val a / 2 ^ s) ≤ wl 32 (val a) := ybB (by omega) (Nat.div_le_self _ _)
  refine yb5 _ _ (by omega) (yh6 _) _ ?_
  refine yeK a _ ?_
  rw [if_pos hm, yoD]; exact h3
 ·rw [if_neg hm, yaW (by rfl)]; exact h0 hm
end Go.Ev.S

/- The formats: their numbers, and the encodings that have names. -/
set_option linter.unusedVariables false
set_option linter.unusedSimpArgs false
set_option maxRecDepth 8000
namespace Go.Ev.S
open Go Go.Ev
def fw : Nat → Nat | 0 => 32 | 1 => 64 | 2 => 16 | 3 => 128 | _ => 0
def fp : Nat → Nat | 0 => 24 | 1 => 53 | 2 => 11 | 3 => 113 | _ => 0
def fe : Nat → Nat | 0 => 127 | 1 => 1023 | 2 => 15 | 3 => 16383 | _ => 0
def sg (f : Nat) (neg : Bool) : Nat := cond neg (2 ^ (fw f - 1)) 0
def enc (f : Nat) (neg : Bool) (e t : Nat) : Nat := sg f neg + e * 2 ^ (fp f - 1) + t
end Go.Ev.S

/- The document's answer on formats: an encoding of its fields, and its fields. -/
set_option linter.unusedVariables false
set_option linter.unusedSimpArgs false
set_option maxRecDepth 8000
namespace Go.Ev.S
open Go Go.Ev
end Go.Ev.S

/- The plain law of ShapeMakes, and that of ShapeNumbers. -/
set_option linter.unusedVariables false
set_option linter.unusedSimpArgs false
set_option maxRecDepth 8000
namespace Go.Ev.S
open Go Go.Ev
end Go.Ev.S

/- Natural numbers made of words, told as words. -/
set_option linter.unusedVariables false
set_option linter.unusedSimpArgs false
set_option maxRecDepth 8000
namespace Go.Ev.S
open Go Go.Ev
end Go.Ev.S

/- Exact numbers: which may be; made, told. -/
set_option linter.unusedVariables false
set_option linter.unusedSimpArgs false
set_option maxRecDepth 8000
namespace Go.Ev.S
open Go Go.Ev
def fit (x : Nat) : Prop := (nb x).length ≤ 16384
instance (x : Nat) : Decidable (fit x) := by unfold fit; infer_instance
theorem ye4 {x : Nat} (h : fit x) : May (nb x) := ⟨h, ykd x⟩
theorem yoB {a : List UInt8} (h : May a) : nb (val a) = a := yfK h.2
theorem yng {a : List UInt8} (h : May a) : fit (val a) := by unfold fit; rw [yoB h]; exact h.1
theorem yoA {x y : Nat} (h : fit y) (hl : x ≤ y) : fit x := (ybS x 16384).2 (Nat.lt_of_le_of_lt hl ((ybS y 16384).1 h))
theorem yoL {a : List UInt8} (h : May a) : val a ≠ 0 ↔ a ≠ [] := by
 constructor
 ·rintro h1 rfl; exact h1 yeR
 ·intro h1 h2
  have := yoB h
  rw [h2, ya3] at this
  exact h1 this.symm
theorem yf3 {a : List UInt8} (n : Nat) (hn : (n : Int) < 9223372036854775808) (ha : May a) (hne : a ≠ []) {K : List UInt8 → Bool → Int → Prop} (h : K (nb (val a / 2 ^ n)) (decide (ybD (val a) < n)) 0) : zap a n K := by
 refine yiF a n hn K (fun hh => absurd ha hh) (fun _ hh => by omega) (fun _ _ hh => absurd hh hne) ?_
 intro _ _ _
 rw [show decide ((ybD (val a) : Int) < (n : Int)) = decide (ybD (val a) < n) from by rw [decide_eq_decide]; omega]
 exact h
theorem yk2 {a : List UInt8} (ha : May a) (h : val a ≠ 0) : ybD (val a) < 131072 := by
 have h1 := ykb _ _ h (ybX a)
 have := ha.1; omega
theorem ykt (a : List UInt8) (h : a ≠ []) : eqI (ydM .u8 (yap a (a.length - 1)) 1) 1 = decide (val a % 2 = 1) := by
 have hl : 0 < a.length := List.length_pos_iff.2 h
 have := yer a 0 hl
 rw [Nat.sub_zero] at this
 rw [this]
 unfold dg
 rw [Nat.mul_zero, Nat.pow_zero, Nat.div_one]
 have hb : val a % 2 ^ 8 < 256 := Nat.mod_lt _ (by decide)
 have e : val a % 2 = (val a % 2 ^ 8) % 2 := by rw [show (2 : Nat) ^ 8 = 256 from rfl]; omega
 rw [e]
 generalize val a % 2 ^ 8 = v at hb
 revert v
 decide
theorem ye7 (a : List UInt8) (K : Bool → Prop) (hl : a.length < 9223372036854775808) (h : K (decide (val a % 2 = 1))) : zag a K := by
 rw [zag.is]; unfold zag.d
 rw [ybg]
 by_cases h0 : a = []
 ·subst h0
  rw [yaH (by rfl)]; exact h
 ·have hp : 0 < a.length := List.length_pos_iff.2 h0
  rw [yaW (by simp [h0]), yaB (by omega) (by omega), yaQ (by omega), ybm (by omega), ybn (by rfl), show Int.toNat ((a.length : Int) - 1) = a.length - 1 from by omega, ykt a h0]
  exact h
theorem yg0 (a : List UInt8) (K : Bool → Prop) (hl : a.length < 9223372036854775808) (h : K (decide (val a % 2 = 1))) : zbw a K := by
 rw [zbw.is]; unfold zbw.d
 rw [ybg]
 by_cases h0 : a = []
 ·subst h0
  rw [yaH (by rfl)]; exact h
 ·have hp : 0 < a.length := List.length_pos_iff.2 h0
  rw [yaW (by simp [h0]), yaB (by omega) (by omega), yaQ (by omega), ybm (by omega), ybn (by rfl), show Int.toNat ((a.length : Int) - 1) = a.length - 1 from by omega, ykt a h0]
  exact h
def win (e : Int) : Prop := -1048576 ≤ e ∧ e ≤ 1048576
instance (e : Int) : Decidable (win e) := by unfold win; infer_instance
theorem ych (e : Int) (K : Bool → Prop) (h : K (decide (win e))) : zah e K := by
 rw [zah.is]; unfold zah.d
 by_cases h1 : -1048576 ≤ e
 ·rw [yaW (yaQ h1)]
  refine cast (congrArg K ?_) h
  unfold leI
  rw [decide_eq_decide]; unfold win; omega
 ·rw [yaH (ygj (by omega))]
  refine cast (congrArg K ?_) h
  rw [decide_eq_false_iff_not]; unfold win; omega
theorem ypE {e : Int} {p q : Prop} (h1 : ¬ win e → p) (h2 : win e → q) : br (ltI e (-1048576)) p (br (ltI 1048576 e) p q) := by
 by_cases c1 : e < -1048576
 ·rw [yaW (ybm c1)]; exact h1 (by unfold win; omega)
 ·rw [yaH (yca (by omega))]
  by_cases c2 : 1048576 < e
  ·rw [yaW (ybm c2)]; exact h1 (by unfold win; omega)
  ·rw [yaH (yca (by omega))]; exact h2 (by unfold win; omega)
structure yoF (n : Bool) (a b : List UInt8) (e : Int) : Prop where
 ma : May a
 mb : May b
 ob : val b % 2 = 1
 we : win e
 z : a = [] → n = false ∧ b = [1] ∧ e = 0
 r : a ≠ [] → val a % 2 = 1 ∧ Nat.gcd (val a) (val b) = 1
theorem yoH : nb 1 = [1] := by rw [yc6 (by decide), ya3]; decide
theorem ykg (g : Nat) : eqS (nb g) [1] = decide (g = 1) := by
 rw [yhU, decide_eq_decide, ← yoH]
 exact ⟨fun h => yps h, fun h => by rw [h]⟩
noncomputable instance (n : Bool) (a b : List UInt8) (e : Int) : Decidable (yoF n a b e) := Classical.propDecidable _
theorem yey (K : Bool → List UInt8 → List UInt8 → Int → Prop) : zaf K = K false [] [1] 0 := by rw [zaf.is]; rfl
theorem yjx (K : Bool → List UInt8 → List UInt8 → Int → Prop) : zbs K = K false [] [1] 0 := by rw [zbs.is]; rfl
theorem ym8 (n : Bool) (b : List UInt8) (e : Int) : (yeP n false && (eqS [] [] && (eqS b [1] && eqI e 0))) = decide (n = false ∧ b = [1] ∧ e = 0) := by
 rw [yhU, yhU]
 cases n
 ·by_cases h1 : b = [1]
  ·by_cases h2 : e = 0
   ·simp [h1, h2, yeP, eqI]
   ·simp [h1, h2, yeP, eqI]
  ·simp [h1, yeP]
 ·simp [yeP]
theorem ygE (n : Bool) (a b : List UInt8) (e : Int) (K : Int → Prop) (h1 : yoF n a b e → K 0) (h2 : ¬ yoF n a b e → K 2) : zac n a b e K := by
 rw [zac.is]; unfold zac.d
 rw [yaY]
 by_cases ma : May a
 rotate_left
 ·rw [if_neg ma]; exact h2 fun h => ma h.ma
 rw [if_pos ma, yaH (by rfl), yaY]
 by_cases mb : May b
 rotate_left
 ·rw [if_neg mb]; exact h2 fun h => mb h.mb
 rw [if_pos mb, yaH (by rfl)]
 have la := ma.1
 have lb := mb.1
 refine ye7 b _ (by omega) ?_
 by_cases ob : val b % 2 = 1
 rotate_left
 ·rw [show decide (val b % 2 = 1) = false from by simpa using ob]; exact h2 fun h => ob h.ob
 rw [show decide (val b % 2 = 1) = true from by simpa using ob, yaH (by rfl)]
 refine ych e _ ?_
 by_cases we : win e
 rotate_left
 ·rw [show decide (win e) = false from by simpa using we]; exact h2 fun h => we h.we
 rw [show decide (win e) = true from by simpa using we, yaH (by rfl), ybg]
 by_cases ha : a = []
 ·subst ha
  rw [yaW (by rfl), yey, ym8]
  by_cases hz : n = false ∧ b = [1] ∧ e = 0
  ·rw [yaH (by simp [hz])]; exact h1 ⟨ma, mb, ob, we, fun _ => hz, fun h => absurd rfl h⟩
  ·rw [yaW (by simp only [hz, decide_false]; rfl)]; exact h2 fun h => hz (h.z rfl)
 ·rw [yaH (by simpa using ha)]
  refine yhi a b _ (fun h => absurd ⟨ma, mb⟩ h) fun _ _ => ?_
  refine ye7 a _ (by omega) ?_
  by_cases oa : val a % 2 = 1
  rotate_left
  ·rw [show decide (val a % 2 = 1) = false from by simpa using oa]; exact h2 fun h => oa (h.r ha).1
  rw [show decide (val a % 2 = 1) = true from by simpa using oa, yaH (by rfl), ykg]
  by_cases hg : Nat.gcd (val a) (val b) = 1
  ·rw [yaH (by simp [hg])]; exact h1 ⟨ma, mb, ob, we, fun h => absurd h ha, fun _ => ⟨oa, hg⟩⟩
  ·rw [yaW (by simp [hg])]; exact h2 fun h => hg (h.r ha).2
theorem yg6 (n : Bool) (a b : List UInt8) (e : Int) (K : Bool → Prop) (h1 : yoF n a b e → K true) (h2 : ¬ yoF n a b e → K false) : zbr n a b e K := by
 rw [zbr.is]; unfold zbr.d
 rw [ydA]
 by_cases ma : May a
 rotate_left
 ·rw [show decide (May a) = false from by simpa using ma]; exact h2 fun h => ma h.ma
 rw [show decide (May a) = true from by simpa using ma, yaH (by rfl), ydA]
 by_cases mb : May b
 rotate_left
 ·rw [show decide (May b) = false from by simpa using mb]; exact h2 fun h => mb h.mb
 rw [show decide (May b) = true from by simpa using mb, yaH (by rfl)]
 have la := ma.1
 have lb := mb.1
 refine yg0 b _ (by omega) ?_
 by_cases ob : val b % 2 = 1
 rotate_left
 ·rw [show decide (val b % 2 = 1) = false from by simpa using ob]; exact h2 fun h => ob h.ob
 rw [show decide (val b % 2 = 1) = true from by simpa using ob, yaH (by rfl)]
 refine ypE (fun we => h2 fun h => we h.we) fun we => ?_
 rw [ybg]
 by_cases ha : a = []
 ·subst ha
  rw [yaW (by rfl), yjx, ym8]
  by_cases hz : n = false ∧ b = [1] ∧ e = 0
  ·rw [show decide (n = false ∧ b = [1] ∧ e = 0) = true from by simpa using hz]; exact h1 ⟨ma, mb, ob, we, fun _ => hz, fun h => absurd rfl h⟩
  ·rw [show decide (n = false ∧ b = [1] ∧ e = 0) = false from decide_eq_false hz]; exact h2 fun h => hz (h.z rfl)
 ·rw [yaH (by simpa using ha)]
  refine yg0 a _ (by omega) ?_
  by_cases oa : val a % 2 = 1
  rotate_left
  ·rw [show decide (val a % 2 = 1) = false from by simpa using oa]; exact h2 fun h => oa (h.r ha).1
  rw [show decide (val a % 2 = 1) = true from by simpa using oa, yaW rfl]
  refine ylL a b ma mb _ ?_
  rw [ykg]
  by_cases hg : Nat.gcd (val a) (val b) = 1
  ·rw [show decide (Nat.gcd (val a) (val b) = 1) = true from by simpa using hg]; exact h1 ⟨ma, mb, ob, we, fun h => absurd h ha, fun _ => ⟨oa, hg⟩⟩
  ·rw [show decide (Nat.gcd (val a) (val b) = 1) = false from by simpa using hg]; exact h2 fun h => hg (h.r ha).2
def odp (a : Nat) : Nat := a / 2 ^ ybD a
def rdA (a b : Nat) : Nat := odp a / Nat.gcd (odp a) (odp b)
def rdB (a b : Nat) : Nat := odp b / Nat.gcd (odp a) (odp b)
def rdE (a b : Nat) (e : Int) : Int := e + ((ybD a : Int) - ybD b)
def mkE (n : Bool) (a b : Nat) (e : Int) (K : Bool → List UInt8 → List UInt8 → Int → Int → Prop) : Prop :=
 if a = 0 then K false [] [1] 0 0 else if win (rdE a b e) then K n (nb (rdA a b)) (nb (rdB a b)) (rdE a b e) 0 else K false [] [] 0 4
theorem ynu {x : Nat} (h : fit x) (d : Nat) : fit (x / d) := yoA h (Nat.div_le_self x d)
theorem yoc {a : Nat} (h : a ≠ 0) : a = 2 ^ ybD a * odp a ∧ odp a % 2 = 1 := by
 obtain ⟨q, hq⟩ := yd5 a h
 have e : odp a = 2 * q + 1 := by
  unfold odp
  exact Nat.div_eq_of_eq_mul_right (Nat.two_pow_pos _) hq
 rw [e]
 exact ⟨hq, by omega⟩
theorem yoy {a : Nat} (h : a ≠ 0) : odp a ≠ 0 := by have := (yoc h).2; omega
theorem yeo (n : Bool) (x y : List UInt8) (e : Int) (K : Bool → List UInt8 → List UInt8 → Int → Int → Prop) (h1 : ¬ (May x ∧ May y ∧ y ≠ [] ∧ win e) → K false [] [] 0 2)
  (h2 : May x → May y → y ≠ [] → win e → mkE n (val x) (val y) e K) : zad n x y e K := by
 rw [zad.is]; unfold zad.d
 rw [yaY]
 by_cases mx : May x
 rotate_left
 ·rw [if_neg mx]; exact h1 fun h => mx h.1
 rw [if_pos mx, yaH (by rfl), yaY]
 by_cases my : May y
 rotate_left
 ·rw [if_neg my]; exact h1 fun h => my h.2.1
 rw [if_pos my, yaH (by rfl), ybg]
 by_cases hy : y = []
 ·rw [yaW (by simpa using hy)]; exact h1 fun h => h.2.2.1 hy
 rw [yaH (by simpa using hy)]
 refine ych e _ ?_
 by_cases we : win e
 rotate_left
 ·rw [show decide (win e) = false from by simpa using we]; exact h1 fun h => we h.2.2.2
 rw [show decide (win e) = true from by simpa using we, yaH (by rfl), ybg]
 have h2 := h2 mx my hy we
 unfold mkE at h2
 by_cases hx : x = []
 ·rw [yaW (by simpa using hx), yey]
  rw [if_pos (by rw [hx]; rfl)] at h2; exact h2
 rw [yaH (by simpa using hx)]
 have nx := (yoL mx).2 hx
 have ny := (yoL my).2 hy
 rw [if_neg nx] at h2
 refine yeK x _ ?_
 refine yeK y _ ?_
 rw [if_pos mx, if_pos my]
 have bx := yk2 mx nx
 have by' := yk2 my ny
 refine yf3 _ (by omega) mx hx ?_
 refine yf3 _ (by omega) my hy ?_
 have fx : fit (odp (val x)) := ynu (yng mx) _
 have fy : fit (odp (val y)) := ynu (yng my) _
 refine yhi _ _ _ (fun h => absurd ⟨ye4 fx, ye4 fy⟩ h) fun _ _ => ?_
 rw [ybQ, ybQ]
 show br (!eqS (nb (Nat.gcd (odp (val x)) (odp (val y)))) [1]) _ _
 rw [ykg]
 have we' := we
 unfold win at we'
 have ee : yal .i64 e (yaw .i64 (ybD (val x) : Int) (ybD (val y) : Int)) = rdE (val x) (val y) e := by
  unfold rdE
  rw [yaB (by omega) (by omega), yaD (by omega) (by omega)]
 rw [ee]
 have gne : Nat.gcd (odp (val x)) (odp (val y)) ≠ 0 := by
  intro h0; exact yoy nx (Nat.gcd_eq_zero_iff.1 h0).1
 have fin : ∀ p q, p = nb (rdA (val x) (val y)) → q = nb (rdB (val x) (val y)) → zah (rdE (val x) (val y) e) fun y0_7 => br (!y0_7) (K false [] [] 0 4) (K n p q (rdE (val x) (val y) e) 0) := by
  rintro p q rfl rfl
  refine ych _ _ ?_
  by_cases w : win (rdE (val x) (val y) e)
  ·rw [if_pos w] at h2
   rw [show decide (win (rdE (val x) (val y) e)) = true from by simpa using w]; exact h2
  ·rw [if_neg w] at h2
   rw [show decide (win (rdE (val x) (val y) e)) = false from by simpa using w]; exact h2
 by_cases hg : Nat.gcd (odp (val x)) (odp (val y)) = 1
 ·rw [yaH (by simp [hg])]
  refine fin _ _ ?_ ?_
  ·unfold rdA; rw [hg, Nat.div_one]; rfl
  ·unfold rdB; rw [hg, Nat.div_one]; rfl
 ·rw [yaW (by simp [hg])]
  have fg : fit (Nat.gcd (odp (val x)) (odp (val y))) := yoA fx (Nat.gcd_le_left _ (Nat.pos_of_ne_zero (yoy nx)))
  refine ygY _ _ _ (fun h => absurd ⟨ye4 fx, ye4 fg⟩ h) (fun h => absurd h (yny gne)) fun _ _ _ => ?_
  refine ygY _ _ _ (fun h => absurd ⟨ye4 fy, ye4 fg⟩ h) (fun h => absurd h (yny gne)) fun _ _ _ => ?_
  refine fin _ _ ?_ ?_
  ·rw [ybQ, ybQ]; rfl
  ·rw [ybQ, ybQ]; rfl
end Go.Ev.S

/- Exact numbers added, multiplied, compared, measured: the document's. -/
set_option linter.unusedVariables false
set_option linter.unusedSimpArgs false
set_option maxRecDepth 8000
namespace Go.Ev.S
open Go Go.Ev
theorem yjf (n : Bool) {a b : Nat} {e : Int} (ha : fit a) (hb : fit b) (h0 : b ≠ 0) (we : win e) {K : Bool → List UInt8 → List UInt8 → Int → Int → Prop} (h : mkE n a b e K) : zad n (nb a) (nb b) e K := by
 refine yeo n _ _ e K (fun hn => absurd ⟨ye4 ha, ye4 hb, yny h0, we⟩ hn) fun _ _ _ _ => ?_; rw [ybQ, ybQ]; exact h
def lv (a bd : Nat) (ae n : Int) : Nat := a * bd * 2 ^ (ae - n).toNat
section
variable {n1 n2 : Bool} {a1 b1 a2 b2 : Nat} {e1 e2 : Int}
end
end Go.Ev.S

/- Exact numbers scaled, measured, cut: the document's. -/
set_option linter.unusedVariables false
set_option linter.unusedSimpArgs false
set_option maxRecDepth 8000
namespace Go.Ev.S
open Go Go.Ev
end Go.Ev.S

/- Exact numbers added, multiplied, compared, measured: the abacus. -/
set_option linter.unusedVariables false
set_option linter.unusedSimpArgs false
set_option maxRecDepth 8000
namespace Go.Ev.S
open Go Go.Ev
section
variable {n1 n2 : Bool} {a1 b1 a2 b2 : Nat} {e1 e2 : Int}
end
end Go.Ev.S

/- Exact numbers as rational ones. -/
set_option linter.unusedVariables false
set_option linter.unusedSimpArgs false
set_option maxRecDepth 8000
namespace Go.Ev.S
open Go Go.Ev
def p2 (e : Int) : Rat := (2 : Rat) ^ e
end Go.Ev.S

/- Encodings, their fields and their signs: the abacus and the document's answer. -/
set_option linter.unusedVariables false
set_option linter.unusedSimpArgs false
set_option maxRecDepth 8000
namespace Go.Ev.S
open Go Go.Ev
def ng (f x : Nat) : Bool := x.testBit (fw f - 1)
def ex (f x : Nat) : Nat := x / 2 ^ (fp f - 1) % (2 * fe f + 2)
def fr (f x : Nat) : Nat := x % 2 ^ (fp f - 1)
def cls (f x : Nat) : Int :=
 if ex f x = 2 * fe f + 1 then (if fr f x ≠ 0 then cond ((fr f x).testBit (fp f - 2)) 9 8 else cond (ng f x) 0 7)
 else if ex f x ≠ 0 then cond (ng f x) 1 6 else if fr f x ≠ 0 then cond (ng f x) 2 5 else cond (ng f x) 3 4
end Go.Ev.S

/- Differences: of words, bit by bit; of numbers of six words. -/
set_option linter.unusedVariables false
set_option linter.unusedSimpArgs false
set_option maxRecDepth 8000
namespace Go.Ev.S
open Go Go.Ev
end Go.Ev.S

/- Quiet and next encodings: the abacus and the document's answer; the law KindSigns. -/
set_option linter.unusedVariables false
set_option linter.unusedSimpArgs false
set_option maxRecDepth 8000
namespace Go.Ev.S
open Go Go.Ev
def ypN (f : Nat) : Nat := enc f false (2 * fe f + 1) (2 ^ (fp f - 2))
def quiet (f x : Nat) : Nat := if 8 ≤ cls f x then x ||| ypN f else x
end Go.Ev.S

/- The parts of an encoding: the abacus and the document's answer. -/
set_option linter.unusedVariables false
set_option linter.unusedSimpArgs false
set_option maxRecDepth 8000
namespace Go.Ev.S
open Go Go.Ev
end Go.Ev.S

/- Signs put together, words and classes: the abacus and the document's answer; the laws of signs. -/
set_option linter.unusedVariables false
set_option linter.unusedSimpArgs false
set_option maxRecDepth 8000
namespace Go.Ev.S
open Go Go.Ev
end Go.Ev.S

/- The plain laws of SignWords and SignBack. -/
set_option linter.unusedVariables false
set_option linter.unusedSimpArgs false
set_option maxRecDepth 8000
namespace Go.Ev.S
open Go Go.Ev
def ext (w x : Nat) : Nat := cond (x.testBit (w - 1)) (x % 2 ^ w + (18446744073709551616 - 2 ^ w)) (x % 2 ^ w)
end Go.Ev.S

/- Encodings compared: what the functions come to. -/
set_option linter.unusedVariables false
set_option linter.unusedSimpArgs false
set_option maxRecDepth 8000
namespace Go.Ev.S
open Go Go.Ev
end Go.Ev.S

/- The order of all encodings; the lesser and the greater one. -/
set_option linter.unusedVariables false
set_option linter.unusedSimpArgs false
set_option maxRecDepth 8000
namespace Go.Ev.S
open Go Go.Ev
end Go.Ev.S

/- What encodings say: their exact values, in order. -/
set_option linter.unusedVariables false
set_option linter.unusedSimpArgs false
set_option maxRecDepth 8000
namespace Go.Ev.S
open Go Go.Ev
def fin (f x : Nat) : Prop := ex f x ≠ 2 * fe f + 1
end Go.Ev.S

/- Exact numbers compared, as rational ones; encodings compared by their values. -/
set_option linter.unusedVariables false
set_option linter.unusedSimpArgs false
set_option maxRecDepth 8000
namespace Go.Ev.S
open Go Go.Ev
section
variable {n1 n2 : Bool} {a1 b1 a2 b2 : Nat} {e1 e2 : Int}
end
theorem ypp {x : Nat} (h : x < Q6) : fit x := by
 unfold fit
 obtain ⟨N, hN⟩ : ∃ N, N = 48 := ⟨_, rfl⟩
 have : (nb x).length ≤ N := by rw [ybS, ynA, ypJ hN]; exact h
 omega
end Go.Ev.S

/- Exact numbers: made, signs, products, places, sums. -/
set_option linter.unusedVariables false
set_option linter.unusedSimpArgs false
set_option maxRecDepth 8000
namespace Go.Ev.S
open Go Go.Ev
theorem ynQ (n : Bool) (x y : List UInt8) (e : Int) (m : Nat) (K : Bool → Prop) (h1 : x.length ≤ m → y.length ≤ m → K true) (h2 : K false) : zak n x y e m K := by
 rw [zak.is]; unfold zak.d
 by_cases g1 : x.length ≤ m
 ·rw [yaW (yaQ (by omega))]
  by_cases g2 : y.length ≤ m
  ·rw [yaQ (by omega)]; exact h1 g1 g2
  ·rw [ygj (by omega)]; exact h2
 ·rw [yaH (ygj (by omega))]; exact h2
theorem yms {x : Nat} (h : x < 18446744073709551616) : fit x := ypp (yp3 (a := 64) (by omega) h)
theorem ygI (K : Bool → Prop) (hK : K true) : zaj K := by
 rw [zaj.is]; unfold zaj.d
 have n6 : nb 6 = [6] := by rw [yc6 (by decide), ya3]; decide
 have n4 : nb 4 = [4] := by rw [yc6 (by decide), ya3]; decide
 have n3 : nb 3 = [3] := by rw [yc6 (by decide), ya3]; decide
 have l6 : ybD 6 = 1 := yj4 1 1
 have l4 : ybD 4 = 2 := yj4 2 0
 rw [← n6, ← n4]
 refine yjf false (yms (by omega)) (yms (by omega)) (by decide) (by unfold win; omega) ?_
 have eA : rdA 6 4 = 3 := by unfold rdA odp; rw [l6, l4]; decide
 have eB : rdB 6 4 = 1 := by unfold rdB odp; rw [l6, l4]; decide
 have eE : rdE 6 4 0 = -1 := by unfold rdE; rw [l6, l4]; rfl
 unfold mkE
 rw [if_neg (by decide), eE, if_pos (by unfold win; omega), eA, eB, n3, yoH]
 refine yeo false [1] [] 0 _ (fun _ => ?_) fun _ _ h => absurd rfl h
 exact hK
end Go.Ev.S

/- Exact numbers as rational ones: bounds, sums, products, whole parts. -/
set_option linter.unusedVariables false
set_option linter.unusedSimpArgs false
set_option maxRecDepth 8000
namespace Go.Ev.S
open Go Go.Ev
section
variable {n1 n2 : Bool} {a1 b1 a2 b2 : Nat} {e1 e2 : Int} {P1 E1 P2 E2 : Nat}
end
end Go.Ev.S

/- A field's laws; a whole part and the next. -/
set_option linter.unusedVariables false
set_option linter.unusedSimpArgs false
set_option maxRecDepth 8000
namespace Go.Ev.S
open Go Go.Ev
end Go.Ev.S

/- Decimal digits. -/
set_option linter.unusedVariables false
set_option linter.unusedSimpArgs false
set_option maxRecDepth 8000
namespace Go.Ev.S
open Go Go.Ev
open Go.Lib (decDigits nDigits)
theorem yeA : ∀ x : Nat, x < 10 → ync [48, 49, 50, 51, 52, 53, 54, 55, 56, 57] x (x + 1) = [UInt8.ofNat (48 + x)] := by decide
theorem ycI (k : Nat) : ∀ u, u < 10 ^ (k + 1) → nDigits u ≤ k + 1 := by
 induction k with
 | zero => intro u h; rw [Go.Lib.nDigits_small (by simpa using h)]; omega
 | succ k ih =>
  intro u h
  by_cases h1 : u < 10
  ·rw [Go.Lib.nDigits_small h1]; omega
  ·rw [Go.Lib.nDigits_big h1]
   have := ih (u / 10) (by rw [Nat.pow_succ] at h; omega)
   omega
theorem ymQ {a : Int} (h : -9223372036854775808 < a) (h2 : a ≤ 9223372036854775807) : yoU .i64 a = -a := by
 show IntKind.wrap .i64 (0 - a) = -a
 rw [Int.zero_sub]; exact ydP (by omega) (by omega)
theorem yeY (k0 : Int → List UInt8 → Prop) : ∀ (x : Nat) (s : List UInt8), x < 9223372036854775808 → s.length + nDigits x ≤ 1000 →
  (∀ (d : Nat) (t : List UInt8), d < 10 → [UInt8.ofNat (48 + d)] ++ t = decDigits x ++ s → t.length ≤ 1000 → k0 d t) → ∃ n, zbv.l4 k0 n (x : Int) s := by
 intro x
 induction x using Nat.strongRecOn with
 | _ x ih =>
  intro s hx hl hk
  have hd := Go.Lib.nDigits_pos x
  by_cases h : x < 10
  ·refine ⟨1, ?_⟩
   unfold zbv.l4 zbv.l4.step
   rw [yaH (yca (by omega))]
   exact hk x s h (by rw [Go.Lib.decDigits_one h]) (by omega)
  ·have h10 : decDigits x = decDigits (x / 10) ++ [UInt8.ofNat (48 + x % 10)] := by rw [decDigits, dif_neg h]
   rw [Go.Lib.nDigits_big h] at hl
   obtain ⟨n, hn⟩ := ih (x / 10) (by omega) ([UInt8.ofNat (48 + x % 10)] ++ s) (by omega) (by simp only [List.length_append, List.length_cons, List.length_nil]; omega) (fun d t hd ht hlt => hk d t hd (by rw [ht, h10]; simp) hlt)
   refine ⟨n + 1, ?_⟩
   unfold zbv.l4 zbv.l4.step
   have e1 : ycn .i64 (x : Int) 10 = ((x % 10 : Nat) : Int) := ymh .i64 x 10
   have e2 : ya1 .i64 (x : Int) 10 = ((x / 10 : Nat) : Int) := ymi x 10 hx (by omega)
   rw [yaW (ybm (by omega)), e1, e2, yaD (by omega) (by omega), show ((x % 10 : Nat) : Int) + 1 = ((x % 10 + 1 : Nat) : Int) from by omega, Int.toNat_natCast, Int.toNat_natCast, yeA _ (Nat.mod_lt _ (by omega))]
   rw [ybn (by simp only [Bool.and_eq_true]; exact ⟨yaQ (by omega), yaQ (by omega), yaQ (by omega)⟩), ybn (yaQ (by simp only [List.length_cons, List.length_nil]; omega))]
   exact hn
theorem yge (k0 : Int → List UInt8 → Prop) : ∀ (x : Nat) (s : List UInt8), x < 9223372036854775808 → s.length + nDigits x ≤ 1000 →
  (∀ (d : Nat) (t : List UInt8), d < 10 → [UInt8.ofNat (48 + d)] ++ t = decDigits x ++ s → t.length ≤ 1000 → k0 d t) → ∃ n, zbu.l4 k0 n (x : Int) s := by
 intro x
 induction x using Nat.strongRecOn with
 | _ x ih =>
  intro s hx hl hk
  have hd := Go.Lib.nDigits_pos x
  by_cases h : x < 10
  ·refine ⟨1, ?_⟩
   unfold zbu.l4 zbu.l4.step
   rw [yaH (yca (by omega))]
   exact hk x s h (by rw [Go.Lib.decDigits_one h]) (by omega)
  ·have h10 : decDigits x = decDigits (x / 10) ++ [UInt8.ofNat (48 + x % 10)] := by rw [decDigits, dif_neg h]
   rw [Go.Lib.nDigits_big h] at hl
   obtain ⟨n, hn⟩ := ih (x / 10) (by omega) ([UInt8.ofNat (48 + x % 10)] ++ s) (by omega) (by simp only [List.length_append, List.length_cons, List.length_nil]; omega) (fun d t hd ht hlt => hk d t hd (by rw [ht, h10]; simp) hlt)
   refine ⟨n + 1, ?_⟩
   unfold zbu.l4 zbu.l4.step
   have e1 : ycn .i64 (x : Int) 10 = ((x % 10 : Nat) : Int) := ymh .i64 x 10
   have e2 : ya1 .i64 (x : Int) 10 = ((x / 10 : Nat) : Int) := ymi x 10 hx (by omega)
   rw [yaW (ybm (by omega)), e1, e2, yaD (by omega) (by omega), show ((x % 10 : Nat) : Int) + 1 = ((x % 10 + 1 : Nat) : Int) from by omega, Int.toNat_natCast, Int.toNat_natCast, yeA _ (Nat.mod_lt _ (by omega))]
   rw [ybn (by simp only [Bool.and_eq_true]; exact ⟨yaQ (by omega), yaQ (by omega), yaQ (by omega)⟩), ybn (yaQ (by simp only [List.length_cons, List.length_nil]; omega))]
   exact hn
theorem ygt {x : Nat} (hx : x < 9223372036854775808) (K : List UInt8 → Prop) (h : K (decDigits x)) : zbv (x : Int) K := by
 have hp := ycI 19 x (by omega)
 rw [zbv.is]; unfold zbv.d
 rw [yaH (yca (by omega))]
 refine yeY _ x [] hx (by simp only [List.length_nil]; omega) fun d t hd ht hl => ?_
 rw [yaD (by omega) (by omega), show (d : Int) + 1 = ((d + 1 : Nat) : Int) from by omega, Int.toNat_natCast, Int.toNat_natCast, yeA d hd]
 rw [ybn (by simp only [Bool.and_eq_true]; exact ⟨yaQ (by omega), yaQ (by omega), yaQ (by omega)⟩), ybn (yaQ (by simp only [List.length_cons, List.length_nil]; omega)), ht, List.append_nil]
 exact h
theorem ykS {n : Int} (h1 : -9223372036854775808 ≤ n) (h2 : n ≤ 9223372036854775807) : (Go.Lib.itoa n).length ≤ 21 := by
 unfold Go.Lib.itoa
 split
 ·have := ycI 19 n.natAbs (by omega)
  rw [List.length_cons, Go.Lib.decDigits_length]; omega
 ·have := ycI 19 n.toNat (by omega)
  rw [Go.Lib.decDigits_length]; omega
theorem yhL {n : Int} (h1 : -9223372036854775808 < n) (h2 : n ≤ 9223372036854775807) (K : List UInt8 → Prop) (h : K (Go.Lib.itoa n)) : zbu n K := by
 rw [zbu.is]; unfold zbu.d
 by_cases hn : n < 0
 ·rw [yaW (ybm hn), ymQ h1 h2]
  obtain ⟨x, hx⟩ : ∃ x : Nat, n = -(x : Int) := ⟨n.natAbs, by omega⟩
  subst hx
  have hp := ycI 19 x (by omega)
  rw [Int.neg_neg]
  refine ygt (by omega) _ ?_
  rw [ybn (yaQ (by rw [Go.Lib.decDigits_length]; omega))]
  have e : Go.Lib.itoa (-(x : Int)) = 45 :: decDigits x := by unfold Go.Lib.itoa; rw [if_pos hn, show (-(x : Int)).natAbs = x from by omega]
  rw [e] at h; exact h
 ·rw [yaH (yca (by omega))]
  obtain ⟨x, hx⟩ : ∃ x : Nat, n = (x : Int) := ⟨n.toNat, by omega⟩
  subst hx
  have hp := ycI 19 x (by omega)
  have e : Go.Lib.itoa (x : Int) = decDigits x := by unfold Go.Lib.itoa; rw [if_neg hn, Int.toNat_natCast]
  rw [e] at h
  refine yge _ x [] (by omega) (by simp only [List.length_nil]; omega) fun d t hd ht hl => ?_
  rw [yaD (by omega) (by omega), show (d : Int) + 1 = ((d + 1 : Nat) : Int) from by omega, Int.toNat_natCast, Int.toNat_natCast, yeA d hd]
  rw [ybn (by simp only [Bool.and_eq_true]; exact ⟨yaQ (by omega), yaQ (by omega), yaQ (by omega)⟩), ybn (yaQ (by simp only [List.length_cons, List.length_nil]; omega)), ht, List.append_nil]
  exact h
end Go.Ev.S

/- The texts of natural numbers, read. -/
set_option linter.unusedVariables false
set_option linter.unusedSimpArgs false
set_option maxRecDepth 8000
namespace Go.Ev.S
open Go Go.Ev
def hv (c : Nat) : Nat := if 48 ≤ c ∧ c ≤ 57 then c - 48 else if 97 ≤ c ∧ c ≤ 102 then c - 87 else 16
def hd (c : UInt8) : Nat := hv c.toNat % 16
def hok (c : UInt8) : Bool := decide (hv c.toNat < 16)
def ygC (s : List UInt8) : Nat := s.foldl (fun v c => v * 16 + hd c) 0
theorem ylK (s : List UInt8) : ∀ v, s.foldl (fun v c => v * 16 + hd c) v = v * 16 ^ s.length + ygC s := by
 induction s with
 | nil => intro v; simp [ygC]
 | cons c l ih =>
  intro v
  simp only [List.foldl_cons, List.length_cons, ygC]
  rw [ih, ih (0 * 16 + hd c), Nat.pow_succ]
  rw [Nat.add_mul, Nat.add_mul, Nat.mul_assoc, Nat.mul_comm 16]
  omega
theorem yjP (a b : List UInt8) : ygC (a ++ b) = ygC a * 16 ^ b.length + ygC b := by
 show (a ++ b).foldl _ 0 = _
 rw [List.foldl_append, ylK]; rfl
theorem ymD (a : List UInt8) (c : UInt8) : ygC (a ++ [c]) = ygC a * 16 + hd c := by
 rw [yjP]; simp [ygC]
theorem yo8 : ∀ n : Nat, n < 16 → hd (yk6 n) = n ∧ hok (yk6 n) = true ∧ (n ≠ 0 → yk6 n ≠ 48) := by decide
theorem ypf (x : Nat) : ygC (hx x) = x ∧ (hx x).all hok = true := by
 induction x using Nat.strongRecOn with
 | _ x ih =>
  by_cases h : x = 0
  ·subst h; rw [ydi]; exact ⟨rfl, rfl⟩
  ·obtain ⟨h1, h2⟩ := ih (x / 16) (by omega)
   obtain ⟨g1, g2, _⟩ := yo8 (x % 16) (by omega)
   rw [yjb h, ymD, h1, g1, List.all_append, h2]
   exact ⟨by omega, by simp [g2]⟩
theorem ypr (x n : Nat) : (hx x).length ≤ n ↔ x < 16 ^ n := by
 induction n generalizing x with
 | zero =>
  constructor
  ·intro h
   have : hx x = [] := List.length_eq_zero_iff.1 (by omega)
   have h2 := (ypf x).1
   rw [this] at h2
   simp [ygC] at h2 ⊢; omega
  ·intro h
   have : x = 0 := by simp at h; omega
   subst this; rw [ydi]; simp
 | succ n ih =>
  by_cases h : x = 0
  ·subst h; rw [ydi]; simp [Nat.pow_pos]
  ·rw [yjb h, List.length_append, List.length_singleton, Nat.pow_succ]
   have := ih (x / 16)
   rw [Nat.div_lt_iff_lt_mul (by omega)] at this
   omega
theorem yia (a : List UInt8) (hl : a.length ≤ 16384) (hle : yfv a = true) (k0 : Nat → Nat → (Nat → Int) → Prop) (h : ∀ y0 y1 y2, yaL y0 y2 = hx (val a) → k0 y0 y1 y2) :
  ∀ (j i n m : Nat) (g : Nat → Int), i + j = a.length → n ≤ 2 * i → yaL n g = hx (val (a.take i)) → zbl.l5 k0 (j + 1) a n i m g := by
 intro j
 induction j with
 | zero =>
  intro i n m g hi hn hg
  unfold zbl.l5 zbl.l5.step
  rw [yaH (yca (by omega))]
  refine h n m g ?_
  rw [hg, List.take_of_length_le (by omega)]
 | succ j ih =>
  intro i n m g hi hn hg
  obtain ⟨b, b1, b2, _⟩ := ykL a i (by omega)
  have hb := ylj b
  have e : ((i + 1 : Nat) : Int) = (i : Int) + 1 := by omega
  have d1 := yhO (b.toNat / 16) (by omega)
  have d2 := yhO (b.toNat % 16) (by omega)
  have two : (val (a.take i) ≠ 0 ∨ 15 < b.toNat) → ∀ m', zbl.l5 k0 (j + 1) a (n + 1 + 1) ((i : Int) + 1) m' (app (n + 1) (app n g (upd (fun _ => 0) 0 ((yk6 (b.toNat / 16)).toNat : Int))) (upd (fun _ => 0) 0 ((yk6 (b.toNat % 16)).toNat : Int))) := by
   intro hv m'
   rw [← e]
   refine ih (i + 1) _ _ _ (by omega) (by omega) ?_
   rw [ycJ _ _ _ _ rfl, ycJ _ _ _ _ rfl, hg, b2, ymL _ _ hb hv]
  unfold zbl.l5 zbl.l5.step
  simp (disch := omega) only [ybm, yaQ, yaG, yaZ, Bool.and_self, Int.toNat_natCast, b1, ykT, yi1, yaD, yoN, d1, d2]
  by_cases h0 : i = 0
  ·subst h0
   rw [yaH (yca (by omega))]
   by_cases hc : 15 < b.toNat
   ·simp (disch := omega) only [ybm, yaZ]
    exact two (.inr hc) _
   ·simp (disch := omega) only [yca, yew]
    rw [← e]
    refine ih (0 + 1) _ _ _ (by omega) (by omega) ?_
    have hb0 : b.toNat ≠ 0 := by
     have := yeu hle (i := 0 + 1) (by omega) (by omega)
     rw [b2] at this
     simp [val] at this
     simpa using this
    rw [ycJ _ _ _ _ rfl, hg, b2, List.take_zero, yeR, ydi, Nat.zero_mul, Nat.zero_add, ykm _ hb0 (by omega), Nat.mod_eq_of_lt (by omega)]
    rfl
  ·rw [yaW (ybm (by omega))]
   exact two (.inl (yeu hle (by omega) (by omega))) _
theorem ycW (a : List UInt8) (h : May a) (K : List UInt8 → Prop) (h2 : K (tx a)) : zbl a K := by
 rw [zbl.is]; unfold zbl.d
 rw [ybg]
 by_cases h0 : a = []
 ·rw [yaW (by simp [h0])]
  unfold tx at h2; rwa [if_pos h0] at h2
 ·rw [yaH (by simp [h0])]
  have hl := h.1
  simp (disch := omega) only [ycv, yaQ, yaG, Bool.and_self]
  refine ⟨a.length + 1, yia a h.1 h.2 _ (fun y0 y1 y2 e => ?_) a.length 0 0 _ _ (by omega) (by omega) (by rw [List.take_zero, yeR, ydi]; rfl)⟩
  unfold tx at h2; rw [if_neg h0] at h2
  show K (yaL y0 y2)
  rw [e]; exact h2
end Go.Ev.S

/- The law of texts of natural numbers. -/
set_option linter.unusedVariables false
set_option linter.unusedSimpArgs false
set_option maxRecDepth 8000
namespace Go.Ev.S
open Go Go.Ev
end Go.Ev.S

/- The text of an exact number. -/
set_option linter.unusedVariables false
set_option linter.unusedSimpArgs false
set_option maxRecDepth 8000
namespace Go.Ev.S
open Go Go.Ev
theorem ykV {a : List UInt8} (h : a.length ≤ 16384) : (tx a).length ≤ 40000 := by
 unfold tx
 split
 ·simp
 ·have hlen : (hx (val a)).length ≤ 2 * a.length := by
   rw [ypr, show 2 * a.length = a.length * 2 from by omega, Nat.mul_comm, Nat.pow_mul]
   exact yfa a
  omega
theorem yh2 (n : Bool) (x y : List UInt8) (e : Int) (K : List UInt8 → Int → Prop) (h1 : ¬ yoF n x y e → K [] 2)
  (h2 : yoF n x y e → K (cond n [45] [] ++ tx x ++ [47] ++ tx y ++ [112] ++ Go.Lib.itoa e) 0) : zae n x y e K := by
 rw [zae.is]; unfold zae.d
 refine ygE _ _ _ _ _ (fun g => ?_) fun g => h1 g
 rw [yaH (show (!eqI 0 0) = false from rfl)]
 have mx := g.ma
 have my := g.mb
 have wn := g.we
 unfold win at wn
 have lx := ykV mx.1
 have ly := ykV my.1
 have li := ykS (n := e) (by omega) (by omega)
 have hI : ∀ Q : List UInt8 → Prop, Q (Go.Lib.itoa e) → zbx e Q := fun Q hQ => by
  rw [zbx.is]; exact ⟨by omega, hQ⟩
 cases n with
 | true =>
  rw [yaW rfl]
  refine ycV x _ (fun hn => absurd mx hn) fun _ => ycV y _ (fun hn => absurd my hn) fun _ => ?_
  rw [ybn (yaQ (by omega)), ybn (yaQ (by simp only [List.length_append, List.length_cons, List.length_nil]; omega)), ybn (yaQ (by simp only [List.length_append, List.length_cons, List.length_nil]; omega)), ybn (yaQ (by simp only [List.length_append, List.length_cons, List.length_nil]; omega))]
  refine hI _ ?_
  rw [ybn (yaQ (by simp only [List.length_append, List.length_cons, List.length_nil]; omega))]
  exact h2 g
 | false =>
  rw [yaH rfl]
  refine ycV x _ (fun hn => absurd mx hn) fun _ => ycV y _ (fun hn => absurd my hn) fun _ => ?_
  rw [ybn (yaQ (by omega)), ybn (yaQ (by simp only [List.length_append, List.length_cons, List.length_nil]; omega)), ybn (yaQ (by simp only [List.length_append, List.length_cons, List.length_nil]; omega)), ybn (yaQ (by simp only [List.length_append, List.length_cons, List.length_nil]; omega))]
  refine hI _ ?_
  rw [ybn (yaQ (by simp only [List.length_append, List.length_cons, List.length_nil]; omega))]
  exact h2 g
theorem yjQ (n : Bool) (x y : List UInt8) (e : Int) (g : yoF n x y e) (K : List UInt8 → Prop)
  (h2 : K (cond n [45] [] ++ tx x ++ [47] ++ tx y ++ [112] ++ Go.Lib.itoa e)) : zbt n x y e K := by
 rw [zbt.is]; unfold zbt.d
 have mx := g.ma
 have my := g.mb
 have wn := g.we
 unfold win at wn
 have lx := ykV mx.1
 have ly := ykV my.1
 have li := ykS (n := e) (by omega) (by omega)
 have hI : ∀ Q : List UInt8 → Prop, Q (Go.Lib.itoa e) → zbu e Q := fun Q hQ => yhL (by omega) (by omega) Q hQ
 cases n with
 | true =>
  rw [yaW rfl]
  refine ycW x mx _ ?_
  rw [ybn (yaQ (by omega)), ybn (yaQ (by simp only [List.length_append, List.length_cons, List.length_nil]; omega))]
  refine ycW y my _ ?_
  rw [ybn (yaQ (by simp only [List.length_append, List.length_cons, List.length_nil]; omega)), ybn (yaQ (by simp only [List.length_append, List.length_cons, List.length_nil]; omega))]
  refine hI _ ?_
  rw [ybn (yaQ (by simp only [List.length_append, List.length_cons, List.length_nil]; omega))]
  exact h2
 | false =>
  rw [yaH rfl]
  refine ycW x mx _ ?_
  rw [ybn (yaQ (by omega)), ybn (yaQ (by simp only [List.length_append, List.length_cons, List.length_nil]; omega))]
  refine ycW y my _ ?_
  rw [ybn (yaQ (by simp only [List.length_append, List.length_cons, List.length_nil]; omega)), ybn (yaQ (by simp only [List.length_append, List.length_cons, List.length_nil]; omega))]
  refine hI _ ?_
  rw [ybn (yaQ (by simp only [List.length_append, List.length_cons, List.length_nil]; omega))]
  exact h2
theorem exactTexts (n : Bool) (x y : List UInt8) (e : Int) (w2 : x.length ≤ maxLen) (w3 : y.length ≤ maxLen) (w4 : (Lit.int .i64 e).wf = true) (K : Bool → Prop) (hK : K true) : zai n x y e K := by
 have hal : zaj fun y0 => K y0 := ygI _ hK
 rw [zai.is]; unfold zai.d
 refine ynQ n x y e 80 _ (fun _ _ => ?_) hal
 rw [yaH (show (!true) = false from rfl)]
 refine yh2 n x y e _ (fun g => ?_) fun g => ?_
 ·refine yg6 _ _ _ _ _ (fun h => absurd h g) fun _ => ?_
  rw [yaW (show (!false) = true from rfl), ykv, ykX]; exact hal
 ·refine yg6 _ _ _ _ _ (fun _ => ?_) fun h => absurd g h
  rw [yaH (show (!true) = false from rfl)]
  refine yjQ n x y e g _ ?_
  rw [ykv, ykX]; exact hal
end Go.Ev.S
