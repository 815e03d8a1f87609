/- Functions of Go's library by contracts that are proved elsewhere: that they fit the evaluator. -/
import Derived.Test.YtcbhglgbjcbegaaDoorEvC
import Derived.Below
import Derived.Sort.Grow
import Derived.Deep.Draws
import Derived.Lib.LaidTab
import Derived.Stop.LaidErr
import Derived.Test.YtcbhglgbjcbegaaDoorDA
import Derived.Shelf.Strconv.Itoa4
import Derived.Shelf.Strconv.AtoiAll
import Derived.Shelf.Strings.Search1
import Derived.KernelRfl
set_option linter.unusedVariables false
set_option linter.unusedSimpArgs false
namespace Go.Ev.S
open Go Go.Ev Go.RowKit Go.Sort
theorem yj4 {ρ : Ren} {H : yag} {w w' : World} (hS : Sim ρ H w) (h : Below w.heap.size w w') : Ext ρ w ρ w' ∧ Sim ρ H w' := by
 have hx : Ext ρ w ρ w' := ⟨h.os, h.tape, h.output, h.size, fun b hb _ => h.block b hb, fun _ _ hh => hh, fun _ _ hh => hh, fun _ _ hh => .inl hh, fun b cs e fz hh =>
  ⟨cs, e, fz, (h.block b (by rw [Array.getElem?_eq_some_iff] at hh; exact hh.1)).trans hh, rfl⟩⟩
 refine ⟨hx, hS.len, fun b hb => Nat.lt_of_lt_of_le (hS.fl b hb) h.size, fun b r hb => Nat.lt_of_lt_of_le (hS.lt b r hb) h.size, hS.sep, hS.nodup, fun b v hb => ?_⟩
 obtain ⟨r, h1, h2, cs, e, fz, x, h3, h4, h5, h6, h7⟩ := hS.live b v hb
 have hbl := h.block r.mb (hS.lt b r h1)
 exact ⟨r, h1, h2, cs, e, fz, x, hbl.trans h3, h4, Rel.ext hx _ _ h5, h6, h7.keep hbl⟩
theorem ylG {ρ : Ren} {H : yag} {w : World} (hS : Sim ρ H w) : ∀ b, b ∈ ρ.mbs → b < w.heap.size := by
 intro b hb
 rcases List.mem_append.1 hb with h | h
 ·exact hS.fl b h
 ·obtain ⟨c, r, hr, rfl⟩ := ybj h
  exact hS.lt c r hr
theorem SoundE.shelf {P : Program} {gl : Nat → Option EV} {f : FuncId} {en : Entry} (hk : ∃ fn, P.funcs[f]? = some fn ∧ fn.body.isNone = false ∧ (fn.name == "runtime.NumGoroutine") = false)
  (hd : ∀ args H, Det2 (en.spec args H))
  (hs : ∀ (ρ : Ren) (H : yag) (w : World) (args : List EV) (xs : List Value) (K : EV → yag → Prop), en.spec args H K → RelL ρ w args xs → GOk gl ρ w → (∀ b, b ∈ ρ.mbs → b < w.heap.size) →
   Calls P f xs.toArray w fun e w' => (∃ v x, e = .returned x ∧ K v H ∧ Rel ρ w' v x) ∧ Below w.heap.size w w') : SoundE P gl f en := by
 refine ⟨?_, hd, hk⟩
 intro ρ H w args xs K h hr hS hG
 refine (hs ρ H w args xs K h hr hG (ylG hS)).mono ?_
 rintro e w' ⟨⟨v, x, he, hK, hv⟩, hb⟩
 obtain ⟨h1, h2⟩ := yj4 hS hb
 exact ⟨v, x, H, ρ, he, hK, hv, h2, h1, rfl⟩
theorem yiE (w : World) (k : Nat) (os : Array Obj) : Below w.heap.size w (grow (w.drewN k) os) := by
 refine ⟨rfl, rfl, rfl, ?_, fun b hb => ?_⟩
 ·show _ ≤ (w.heap ++ os).size; rw [Array.size_append]; omega
 ·show (w.heap ++ os)[b]? = _; rw [Array.getElem?_append_left hb]
theorem ykJ {P : Program} {gl : Nat → Option EV} {ρ : Ren} {w : World} {nm : String} {g n : Nat} {k : IntKind} {zs : List Int} {T : Nat → Int} (hG : GOk gl ρ w) (hg : P.globalNamed nm = some g) (hv : gl g = some (.arr k n T)) (hT : T = fun i => zs.getD i 0) (hn : zs.length = n) :
  Go.Lib.TabIs P w nm k zs := by
 obtain ⟨_, h1, h2⟩ := hG g _ hv
 obtain ⟨cs, t, fz, h3, h4⟩ := h2 k n T rfl
 obtain ⟨b, o, y, e, hy, hb, hm, hc⟩ := h1
 cases e
 have hy' : y = .agg (yaH k n T).toArray := hy
 subst hy'
 unfold Go.Lib.TabIs World.var?
 rw [hg]
 show (match w.heap[g]? with | some (.cells cs _ _) => some cs | _ => none) = _
 rw [h3]
 show some cs = _
 congr 1
 apply Array.ext_getElem?
 intro i
 by_cases hi : i < n
 ·have h5 := hc i (by simpa [Value.cells, yae] using hi)
  rw [Nat.zero_add] at h5
  have h6 : w.cell? ⟨g, i, none⟩ = cs[i]? := by
   simp only [World.cell?, h3]; rfl
  rw [h6] at h5
  rw [h5]
  simp only [Value.cells, List.getElem?_toArray]
  rw [yaj _ _ _ _ hi, hT]
  simp [List.getD, List.getElem?_eq_getElem (show i < zs.length by omega)]
 ·rw [Array.getElem?_eq_none (by omega), Array.getElem?_eq_none (by simp; omega)]
noncomputable def yeE : Nat → Int := Classical.choose (⟨fun i => Go.Lib.pow10Tab.getD i 0, rfl⟩ : ∃ f, f = fun i => Go.Lib.pow10Tab.getD i 0)
theorem tab_pow10_is : yeE = fun i => Go.Lib.pow10Tab.getD i 0 := Classical.choose_spec (⟨fun i => Go.Lib.pow10Tab.getD i 0, rfl⟩ : ∃ f, f = fun i => Go.Lib.pow10Tab.getD i 0)
noncomputable def yja : Entry := ⟨[none], false, fun args H K => match args, H with
 | [.int .i64 a0], [] => zbi a0 (fun y0 => K (EV.str y0) [])
 | _, _ => False⟩
theorem yln {P : Program} {r : Go.Shelf.Ren} (L : Go.Proofs.LaysM.n171 P r) {gl : Nat → Option EV} {f g : Nat} (hf : r.f 171 = f) (hg : P.globalNamed "internal/strconv.uint64pow10" = some g) (hv : gl g = some (.arr .u64 20 yeE))
  (hk : ∃ fn, P.funcs[f]? = some fn ∧ fn.body.isNone = false ∧ (fn.name == "runtime.NumGoroutine") = false) : SoundE P gl f yja := by
 subst hf
 refine SoundE.shelf hk (fun args H K h => ?_) ?_
 ·simp only [yja] at h ⊢
  split at h
  ·rw [zbi.is] at h ⊢
   obtain ⟨h1, h2⟩ := h
   exact ⟨_, _, h2, fun K' hk => ⟨h1, hk⟩⟩
  ·exact h.elim
 ·intro ρ H w args xs K h hr hG hm
  simp only [yja] at h
  split at h
  ·rename_i a0
   rw [zbi.is] at h
   obtain ⟨⟨h1, h2⟩, h3⟩ := h
   obtain ⟨x, ys, rfl, hx, hys⟩ := hr
   obtain rfl : ys = [] := hys
   obtain rfl : x = .int .i64 a0 := hx
   refine (Go.Proofs.Any.strconv_Itoa L a0 h1 h2 w (ykJ hG hg hv tab_pow10_is (by rw [Go.Lib.pow10Tab_length]))).mono ?_
   rintro e w' ⟨rfl, k, os, rfl⟩
   exact ⟨⟨_, _, rfl, h3, rfl⟩, yiE _ _ _⟩
  ·exact h.elim
noncomputable def yh3 (T : Nat) : Entry := ⟨[none], false, fun args H K => match args, H with
 | [.str a0], [] => zbh a0 (fun y0 => K (EV.tuple [EV.int IntKind.i64 y0, EV.nilIface]) []) (fun y0 => K (EV.tuple [EV.int IntKind.i64 y0, EV.iface T (EV.rref (EV.str [65, 116, 111, 105]))]) [])
 | _, _ => False⟩
theorem yhg (w : World) (t : Nat) (s : ByteArray) : Below w.heap.size w (Go.Lib.bytesWorld w t s) := by
 unfold Go.Lib.bytesWorld
 refine ⟨rfl, rfl, rfl, ?_, fun b hb => ?_⟩
 ·show w.heap.size ≤ (Array.modify (w.heap.push _) _ _).size
  rw [Array.size_modify, Array.size_push]; omega
 ·show (Array.modify (w.heap.push _) w.heap.size _)[b]? = w.heap[b]?
  rw [Array.getElem?_modify, if_neg (by omega), Array.getElem?_push, if_neg (by omega)]
theorem ylk {P : Program} {r : Go.Shelf.Ren} (L : Go.Proofs.LaysC.n172 P r) {gl : Nat → Option EV} {f T : Nat} (hf : r.f 172 = f) (hT : r.t 168 = T) {t1 t2 : Nat} {v1 v2 : EV} (hg : gl (r.g 15) = some (.iface t1 v1)) (hh : gl (r.g 16) = some (.iface t2 v2))
  (hk : ∃ fn, P.funcs[f]? = some fn ∧ fn.body.isNone = false ∧ (fn.name == "runtime.NumGoroutine") = false) : SoundE P gl f (yh3 T) := by
 subst hf hT
 refine SoundE.shelf hk (fun args H K h => ?_) ?_
 ·simp only [yh3] at h ⊢
  split at h
  ·rw [zbh.is] at h ⊢
   unfold zbh.d at h ⊢
   obtain ⟨h1, h2⟩ := h
   split at h2
   ·exact ⟨_, _, h2, fun K' hk => ⟨h1, hk⟩⟩
   ·exact ⟨_, _, h2, fun K' hk => ⟨h1, hk⟩⟩
   ·exact ⟨_, _, h2, fun K' hk => ⟨h1, hk⟩⟩
  ·exact h.elim
 ·intro ρ H w args xs K h hr hG hm
  have cellOf : ∀ {g t v}, gl g = some (.iface t v) → ∃ ev, w.cell? ⟨g, 0, none⟩ = some ev ∧ (ev = .nilIface ∨ ∃ te pe, ev = .iface te pe) := by
   intro g t v hv
   obtain ⟨_, ⟨b, o, y, e, hy, _, _, hc⟩, _⟩ := hG g _ hv
   cases e
   obtain ⟨z, rfl, _⟩ := hy
   exact ⟨.iface t z, (hc 0 (by simp [Value.cells])).trans rfl, .inr ⟨t, z, rfl⟩⟩
  have err : ∀ {s : ByteArray} {ev : Value} {N : Nat} {w' : World}, w.heap.size ≤ N → w'.heap[N]? = some (.cells #[.string ⟨#[65, 116, 111, 105]⟩, .string s, ev] (r.t 210) (0, 0)) → Below w.heap.size w w' →
    Rel ρ w' (.iface (r.t 168) (.rref (.str [65, 116, 111, 105]))) (.iface (r.t 168) (.pointer (some ⟨N, 0, none⟩))) := by
   intro s ev N w' h1 h2 h3
   refine ⟨_, rfl, N, 0, .string ⟨#[65, 116, 111, 105]⟩, rfl, rfl, ?_, fun hh => ?_, ?_⟩
   ·rw [Array.getElem?_eq_some_iff] at h2; exact h2.1
   ·have := hm _ hh; omega
   ·intro i hi
    have hi0 : i = 0 := by simpa [Value.cells] using hi
    subst hi0
    simp only [World.cell?, h2]; rfl
  simp only [yh3] at h
  split at h
  ·rename_i a0
   rw [zbh.is] at h
   unfold zbh.d at h
   obtain ⟨h1, h3⟩ := h
   obtain ⟨x, ys, rfl, hx, hys⟩ := hr
   obtain rfl : ys = [] := hys
   obtain rfl : x = .string ⟨a0.toArray⟩ := hx
   have hsz : (⟨a0.toArray⟩ : ByteArray).size = a0.length := by simp [ByteArray.size]
   have hl : (⟨a0.toArray⟩ : ByteArray).data.toList = a0 := by simp
   cases hA : Go.Lib.atoiAll a0 with
   | ok v =>
    rw [hA] at h3
    refine (Go.Proofs.Any.strconv_Atoi_ok L _ (by rw [hsz]; omega) v (by rw [hl]; exact hA) w).mono ?_
    rintro e w' ⟨rfl, hw⟩
    refine ⟨⟨_, _, rfl, h3, _, rfl, _, _, rfl, rfl, _, _, rfl, rfl, rfl⟩, ?_⟩
    rcases hw with rfl | ⟨t, rfl⟩
    ·exact Below.refl _ _
    ·exact yhg _ _ _
   | range =>
    rw [hA] at h3
    obtain ⟨ev, hv, hev⟩ := cellOf hh
    refine (Go.Proofs.Any.strconv_Atoi_range L _ (by rw [hsz]; exact h1) (by rw [hl]; exact hA) ev w hv hev).mono ?_
    rintro e w' ⟨N, rfl, k1, k2, k3⟩
    rw [hl] at *
    exact ⟨⟨_, _, rfl, h3, _, rfl, _, _, rfl, rfl, _, _, rfl, err k1 k2 k3, rfl⟩, k3⟩
   | _ =>
    rw [hA] at h3
    obtain ⟨ev, hv, hev⟩ := cellOf hg
    refine (Go.Proofs.Any.strconv_Atoi_syntax L _ (by rw [hsz]; exact h1) (by rw [hl]; exact hA) ev w hv hev).mono ?_
    rintro e w' ⟨N, rfl, k1, k2, k3⟩
    exact ⟨⟨_, _, rfl, h3, _, rfl, _, _, rfl, rfl, _, _, rfl, err k1 k2 k3, rfl⟩, k3⟩
  ·exact h.elim
theorem err_ok {P : Program} {n nm : String} {text : List UInt8} {r : List (String × DataW Unit)} {W : World} {g : Nat} {ti tp te ts : TypeId} {ms : Array (String × TypeId)} {f : Field}
  (h : laidMet P ((n, .iface nm (.ptr (.agg [.lit (.string text)]))) :: r) W)
  (hg : P.globalNamed n = some g) (ht : (P.globals[g]?).map (·.type) = some ti) (hi : P.underlying ti = some (.interface ms)) (hrow : ∀ u, P.typeName? 3 u = some nm → u = tp)
  (hp : P.underlying tp = some (.pointer te)) (he : P.underlying te = some (.struct #[f])) (hft : f.type = ts) (hfo : f.offset = 0) (hs : P.underlying ts = some .string) (hc : P.cellsOf te = 1) (hcs : P.cellsOf ts = 1) :
  Rel ⟨[], []⟩ W (.rref (.iface tp (.rref (.str text)))) (.pointer (some ⟨g, 0, none⟩)) ∧ ∀ k' n' f', EV.iface tp (.rref (.str text)) = .arr k' n' f' → ∃ cs t fz, W.heap[g]? = some (.cells cs t fz) ∧ cs.size = n' := by
 obtain ⟨a, s, hv, hcl, hst, _⟩ := laid_sentinel h hg ht hi hrow hp he hft hfo hs hc hcs
 refine ⟨?_, fun _ _ _ hh => by cases hh⟩
 obtain ⟨b, o, sp⟩ := a
 have hb : b < W.heap.size ∧ sp = none := by
  unfold World.cell? at hcl
  cases hw : W.heap[b]? with
  | none => rw [hw] at hcl; cases hcl
  | some c =>
   refine ⟨(Array.getElem?_eq_some_iff.1 hw).1, ?_⟩
   rw [hw] at hcl
   cases sp with
   | none => rfl
   | some q => cases c <;> simp at hcl
 obtain ⟨hb, rfl⟩ := hb
 have hgs : g < W.heap.size := by
  unfold World.var? at hv
  simp only [hg, Option.bind_some] at hv
  cases hw : W.heap[g]? with
  | none => rw [hw] at hv; cases hv
  | some c => exact (Array.getElem?_eq_some_iff.1 hw).1
 have hse : s = ⟨text.toArray⟩ := by
  obtain ⟨d⟩ := s
  have : d.toList = text := hst
  rw [← this]
 subst hse
 refine ⟨g, 0, .iface tp (.pointer (some ⟨b, o, none⟩)), rfl, ⟨_, rfl, b, o, .string ⟨text.toArray⟩, rfl, rfl, hb, by simp [Ren.mbs, Ren.own], ?_⟩, hgs, by simp [Ren.mbs, Ren.own], ?_⟩
 ·intro i hi0
  have h0 : i = 0 := by simpa [Value.cells] using hi0
  subst h0
  exact hcl.trans rfl
 ·intro i hi0
  have h0 : i = 0 := by simpa [Value.cells] using hi0
  subst h0
  rw [World.var?_cell hg hv]; rfl
end Go.Ev.S

/- Numbers of several words as natural ones; bits set one by one. -/
set_option linter.unusedVariables false
set_option linter.unusedSimpArgs false
namespace Go.Ev.S
open Go Go.Ev
theorem ylz {i : Int} (h : 0 ≤ i) : (!ltI i 0) = true := by rw [ykY h]; rfl
theorem ykX (a b : Nat) : eqI (a : Int) (b : Int) = decide (a = b) := by
 by_cases h : a = b
 ·subst h; simp [eqI]
 ·rw [ymb (by omega)]; simp [h]
def wd (x i : Nat) : Nat := x / 2 ^ (64 * i) % 18446744073709551616
def W (x : Nat) : Nat → Int := fun i => ((wd x i : Nat) : Int)
def Hi (x : Nat) : Int := ((x / 18446744073709551616 : Nat) : Int)
def Lo (x : Nat) : Int := ((x % 18446744073709551616 : Nat) : Int)
def two (hi lo : Nat) : Nat := hi * 18446744073709551616 + lo
theorem ylA {x : Nat} (h : x < 2 ^ 128) : x / 18446744073709551616 < 18446744073709551616 := by
 rw [show (2 : Nat) ^ 128 = 340282366920938463463374607431768211456 from rfl] at h; omega
theorem ylx (x : Nat) : x % 18446744073709551616 < 18446744073709551616 := Nat.mod_lt _ (by omega)
theorem yjm (x j : Nat) : (x / 18446744073709551616).testBit j = x.testBit (64 + j) := by
 rw [show (18446744073709551616 : Nat) = 2 ^ 64 from rfl, Nat.testBit_div_two_pow, Nat.add_comm]
theorem yjM (x j : Nat) : (x % 18446744073709551616).testBit j = (decide (j < 64) && x.testBit j) := by
 rw [show (18446744073709551616 : Nat) = 2 ^ 64 from rfl, Nat.testBit_mod_two_pow]
theorem yly (f : Bool → Bool → Bool) (op : Nat → Nat → Nat) (hop : ∀ a b j, (op a b).testBit j = f (a.testBit j) (b.testBit j)) (hf : f false false = false) (x y : Nat) :
  op x y / 18446744073709551616 = op (x / 18446744073709551616) (y / 18446744073709551616) ∧ op x y % 18446744073709551616 = op (x % 18446744073709551616) (y % 18446744073709551616) := by
 constructor
 ·apply Nat.eq_of_testBit_eq; intro j; rw [yjm, hop, hop, yjm, yjm]
 ·apply Nat.eq_of_testBit_eq; intro j; rw [yjM, hop, hop, yjM, yjM]
  by_cases hj : j < 64
  ·simp [hj]
  ·simp [hj, hf]
theorem ylC (x y : Nat) (hx : x < 2 ^ 128) (hy : y < 2 ^ 128) : orI .u64 (Hi x) (Hi y) = Hi (x ||| y) ∧ orI .u64 (Lo x) (Lo y) = Lo (x ||| y) := by
 obtain ⟨h1, h2⟩ := yly (· || ·) (· ||| ·) (fun a b j => Nat.testBit_or a b j) rfl x y
 unfold Hi Lo
 exact ⟨by rw [yk1 _ _ (ylA hx) (ylA hy)]; exact congrArg _ h1.symm, by rw [yk1 _ _ (ylx x) (ylx y)]; exact congrArg _ h2.symm⟩
end Go.Ev.S

/- Digits of natural numbers, as rows have them; texts of bytes as numbers. -/
set_option linter.unusedVariables false
set_option linter.unusedSimpArgs false
namespace Go.Ev.S
open Go Go.Ev
def dg (k x i : Nat) : Nat := x / 2 ^ (k * i) % 2 ^ k
def G (k x : Nat) : Nat → Int := fun i => ((dg k x i : Nat) : Int)
def val (a : List UInt8) : Nat := a.foldl (fun v b => v * 256 + b.toNat) 0
def nb (x : Nat) : List UInt8 := if h : x = 0 then [] else nb (x / 256) ++ [UInt8.ofNat (x % 256)]
decreasing_by omega
def yma (a : List UInt8) : Bool := match a with | [] => true | b :: _ => !(b.toNat == 0)
end Go.Ev.S

/- Rows of digits: a digit set, carried, cut; bytes the highest first. Whole numbers of the machine, plainly. -/
set_option linter.unusedVariables false
set_option linter.unusedSimpArgs false
namespace Go.Ev.S
open Go Go.Ev
end Go.Ev.S

/- Natural numbers as rows of words: made of texts, told as texts, cut, held against each other. -/
set_option linter.unusedVariables false
set_option linter.unusedSimpArgs false
set_option maxRecDepth 8000
namespace Go.Ev.S
open Go Go.Ev
def May (a : List UInt8) : Prop := a.length ≤ 16384 ∧ yma a = true
instance (a : List UInt8) : Decidable (May a) := inferInstanceAs (Decidable (_ ∧ _))
end Go.Ev.S

/- Natural numbers as rows of words: sums, differences, products. -/
set_option linter.unusedVariables false
set_option linter.unusedSimpArgs false
set_option maxRecDepth 8000
namespace Go.Ev.S
open Go Go.Ev
end Go.Ev.S

/- The functions of natural numbers: held against each other, added, subtracted, multiplied; their texts. -/
set_option linter.unusedVariables false
set_option linter.unusedSimpArgs false
set_option maxRecDepth 8000
namespace Go.Ev.S
open Go Go.Ev
theorem yjx (a b : List UInt8) : eqS a b = decide (a = b) := by
 unfold eqS
 by_cases h : a = b <;> simp [h]
def yl6 (n : Nat) : UInt8 := UInt8.ofNat (if n < 10 then 48 + n else 87 + n)
def hx (x : Nat) : List UInt8 := if h : x = 0 then [] else hx (x / 16) ++ [yl6 (x % 16)]
decreasing_by omega
end Go.Ev.S

/- What the document's answer reckons with words, bit by bit. -/
set_option linter.unusedVariables false
set_option linter.unusedSimpArgs false
namespace Go.Ev.S
open Go Go.Ev
def yhO (a : Nat) : Nat := if a = 0 then 0 else a.log2 + 1
end Go.Ev.S

/- What the document's answer reckons with numbers of six words. -/
set_option linter.unusedVariables false
set_option linter.unusedSimpArgs false
set_option maxRecDepth 8000
namespace Go.Ev.S
open Go Go.Ev
end Go.Ev.S

/- What the abacus reckons with words and with numbers of six words. -/
set_option linter.unusedVariables false
set_option linter.unusedSimpArgs false
set_option maxRecDepth 8000
namespace Go.Ev.S
open Go Go.Ev
end Go.Ev.S

/- The lowest bit: of a word (the table of math/bits), of six words; a shift to the right with what fell off. -/
set_option linter.unusedVariables false
set_option linter.unusedSimpArgs false
set_option maxRecDepth 8000
namespace Go.Ev.S
open Go Go.Ev
end Go.Ev.S

/- Lengths, sums and the like: the abacus' words and six words. -/
set_option linter.unusedVariables false
set_option linter.unusedSimpArgs false
set_option maxRecDepth 8000
namespace Go.Ev.S
open Go Go.Ev
def part (z i : Nat) : Nat → Int := fun j => cond (Nat.ble i j) (W z j) 0
end Go.Ev.S

/- Natural numbers as rows of words: moved to the left and to the right; how long they are. -/
set_option linter.unusedVariables false
set_option linter.unusedSimpArgs false
set_option maxRecDepth 8000
namespace Go.Ev.S
open Go Go.Ev
end Go.Ev.S

/- Natural numbers as rows of words: divided. -/
set_option linter.unusedVariables false
set_option linter.unusedSimpArgs false
set_option maxRecDepth 8000
namespace Go.Ev.S
open Go Go.Ev
end Go.Ev.S

/- Natural numbers as rows of words: the loop of the long division. -/
set_option linter.unusedVariables false
set_option linter.unusedSimpArgs false
set_option maxRecDepth 8000
namespace Go.Ev.S
open Go Go.Ev
end Go.Ev.S

/- Natural numbers: quotients, greatest common divisors, roots. -/
set_option linter.unusedVariables false
set_option linter.unusedSimpArgs false
set_option maxRecDepth 8000
namespace Go.Ev.S
open Go Go.Ev
end Go.Ev.S

/- What the document's answer reckons with natural numbers, byte by byte. -/
set_option linter.unusedVariables false
set_option linter.unusedSimpArgs false
set_option maxRecDepth 8000
namespace Go.Ev.S
open Go Go.Ev
end Go.Ev.S

/- What the document's answer reckons with natural numbers: products. -/
set_option linter.unusedVariables false
set_option linter.unusedSimpArgs false
set_option maxRecDepth 8000
namespace Go.Ev.S
open Go Go.Ev
end Go.Ev.S

/- What the document's answer reckons with natural numbers: made, measured, moved. -/
set_option linter.unusedVariables false
set_option linter.unusedSimpArgs false
set_option maxRecDepth 8000
namespace Go.Ev.S
open Go Go.Ev
end Go.Ev.S

/- What the document's answer reckons with natural numbers: quotients, greatest common divisors, roots. -/
set_option linter.unusedVariables false
set_option linter.unusedSimpArgs false
set_option maxRecDepth 8000
namespace Go.Ev.S
open Go Go.Ev
end Go.Ev.S

/- The laws of natural numbers that need no quotient: sums, products, a ring. -/
set_option linter.unusedVariables false
set_option linter.unusedSimpArgs false
set_option maxRecDepth 8000
namespace Go.Ev.S
open Go Go.Ev
end Go.Ev.S

/- The law of shifts. -/
set_option linter.unusedVariables false
set_option linter.unusedSimpArgs false
set_option maxRecDepth 8000
namespace Go.Ev.S
open Go Go.Ev
end Go.Ev.S

/- The formats: their numbers, and the encodings that have names. -/
set_option linter.unusedVariables false
set_option linter.unusedSimpArgs false
set_option maxRecDepth 8000
namespace Go.Ev.S
open Go Go.Ev
def fw : Nat → Nat | 0 => 32 | 1 => 64 | 2 => 16 | 3 => 128 | _ => 0
def fp : Nat → Nat | 0 => 24 | 1 => 53 | 2 => 11 | 3 => 113 | _ => 0
def fe : Nat → Nat | 0 => 127 | 1 => 1023 | 2 => 15 | 3 => 16383 | _ => 0
def sg (f : Nat) (neg : Bool) : Nat := cond neg (2 ^ (fw f - 1)) 0
def enc (f : Nat) (neg : Bool) (e t : Nat) : Nat := sg f neg + e * 2 ^ (fp f - 1) + t
theorem ylN {f : Nat} (h : f ≤ 3) : f = 0 ∨ f = 1 ∨ f = 2 ∨ f = 3 := by omega
theorem ycR (f : Nat) (h : f ≤ 3) (K : Int → Prop) : zbe f K = K (fw f) := by
 rw [zbe.is]; unfold zbe.d; rw [zbg.is]
 rcases ylN h with rfl | rfl | rfl | rfl <;> kernel_rfl
theorem yf0 (f x : Nat) (h : f ≤ 3) (hx : x < 2 ^ 128) (K : Bool → Prop) : zbb f (Hi x) (Lo x) K = K (decide (x < 2 ^ fw f)) := by
 rw [zbb.is]; unfold zbb.d
 have ez : eqI (Hi x) 0 = decide (x / 18446744073709551616 = 0) := by
  unfold Hi; rw [show (0 : Int) = ((0 : Nat) : Int) from rfl, ykX]
 have es : ∀ w : Nat, w < 64 → eqI (yij .u64 (Lo x) (w : Int)) 0 = decide (x % 18446744073709551616 < 2 ^ w) := by
  intro w hw
  unfold Lo
  rw [ylb _ w hw, Nat.shiftRight_eq_div_pow, show (0 : Int) = ((0 : Nat) : Int) from rfl, ykX, decide_eq_decide, Nat.div_eq_zero_iff]
  have := Nat.two_pow_pos w
  omega
 have hx' : x < 340282366920938463463374607431768211456 := hx
 rcases ylN h with rfl | rfl | rfl | rfl
 ·rw [ydV (by decide), ydV (by decide), ygv (by decide), ygv (by decide), ez, ycR 0 (by omega)]
  show br (decide (x / 18446744073709551616 = 0)) (gd (!ltI (cvI IntKind.u64 ((32 : Nat) : Int)) 0) (K (eqI (yij .u64 (Lo x) (cvI IntKind.u64 ((32 : Nat) : Int))) 0))) (K false) = K (decide (x < 2 ^ 32))
  rw [yk0 (by omega) (by omega), yld (ylz (by omega)), es 32 (by omega), show (2 : Nat) ^ 32 = 4294967296 from rfl]
  by_cases hq : x / 18446744073709551616 = 0
  ·rw [ygv (by simp [hq])]; congr 1; rw [decide_eq_decide]; omega
  ·rw [ydV (by simp [hq])]; congr 1; symm; rw [decide_eq_false_iff_not]; omega
 ·rw [ydV (by decide), ygv (by decide), ez]
  show K _ = K (decide (x < 2 ^ 64))
  congr 1; rw [decide_eq_decide, show (2 : Nat) ^ 64 = 18446744073709551616 from rfl]; omega
 ·rw [ydV (by decide), ydV (by decide), ydV (by decide), ygv (by decide), ez, ycR 2 (by omega)]
  show br (decide (x / 18446744073709551616 = 0)) (gd (!ltI (cvI IntKind.u64 ((16 : Nat) : Int)) 0) (K (eqI (yij .u64 (Lo x) (cvI IntKind.u64 ((16 : Nat) : Int))) 0))) (K false) = K (decide (x < 2 ^ 16))
  rw [yk0 (by omega) (by omega), yld (ylz (by omega)), es 16 (by omega), show (2 : Nat) ^ 16 = 65536 from rfl]
  by_cases hq : x / 18446744073709551616 = 0
  ·rw [ygv (by simp [hq])]; congr 1; rw [decide_eq_decide]; omega
  ·rw [ydV (by simp [hq])]; congr 1; symm; rw [decide_eq_false_iff_not]; omega
 ·rw [ygv (by decide)]
  congr 1; symm; rw [decide_eq_true_eq]; exact hx
end Go.Ev.S

/- The document's answer on formats: an encoding of its fields, and its fields. -/
set_option linter.unusedVariables false
set_option linter.unusedSimpArgs false
set_option maxRecDepth 8000
namespace Go.Ev.S
open Go Go.Ev
end Go.Ev.S

/- The plain law of ShapeMakes, and that of ShapeNumbers. -/
set_option linter.unusedVariables false
set_option linter.unusedSimpArgs false
set_option maxRecDepth 8000
namespace Go.Ev.S
open Go Go.Ev
end Go.Ev.S

/- Natural numbers made of words, told as words. -/
set_option linter.unusedVariables false
set_option linter.unusedSimpArgs false
set_option maxRecDepth 8000
namespace Go.Ev.S
open Go Go.Ev
end Go.Ev.S

/- Exact numbers: which may be; made, told. -/
set_option linter.unusedVariables false
set_option linter.unusedSimpArgs false
set_option maxRecDepth 8000
namespace Go.Ev.S
open Go Go.Ev
def fit (x : Nat) : Prop := (nb x).length ≤ 16384
instance (x : Nat) : Decidable (fit x) := by unfold fit; infer_instance
def win (e : Int) : Prop := -1048576 ≤ e ∧ e ≤ 1048576
instance (e : Int) : Decidable (win e) := by unfold win; infer_instance
structure ymd (n : Bool) (a b : List UInt8) (e : Int) : Prop where
 ma : May a
 mb : May b
 ob : val b % 2 = 1
 we : win e
 z : a = [] → n = false ∧ b = [1] ∧ e = 0
 r : a ≠ [] → val a % 2 = 1 ∧ Nat.gcd (val a) (val b) = 1
noncomputable instance (n : Bool) (a b : List UInt8) (e : Int) : Decidable (ymd n a b e) := Classical.propDecidable _
end Go.Ev.S

/- Exact numbers added, multiplied, compared, measured: the document's. -/
set_option linter.unusedVariables false
set_option linter.unusedSimpArgs false
set_option maxRecDepth 8000
namespace Go.Ev.S
open Go Go.Ev
def lv (a bd : Nat) (ae n : Int) : Nat := a * bd * 2 ^ (ae - n).toNat
section
variable {n1 n2 : Bool} {a1 b1 a2 b2 : Nat} {e1 e2 : Int}
end
end Go.Ev.S

/- Exact numbers scaled, measured, cut: the document's. -/
set_option linter.unusedVariables false
set_option linter.unusedSimpArgs false
set_option maxRecDepth 8000
namespace Go.Ev.S
open Go Go.Ev
def tp (a b : Nat) : Int :=
 if yhO b ≤ yhO a then (if b * 2 ^ (yhO a - yhO b) ≤ a then ((yhO a - yhO b : Nat) : Int) else ((yhO a - yhO b : Nat) : Int) - 1)
 else (if b ≤ a * 2 ^ (yhO b - yhO a) then -((yhO b - yhO a : Nat) : Int) else -((yhO b - yhO a : Nat) : Int) - 1)
end Go.Ev.S

/- Exact numbers added, multiplied, compared, measured: the abacus. -/
set_option linter.unusedVariables false
set_option linter.unusedSimpArgs false
set_option maxRecDepth 8000
namespace Go.Ev.S
open Go Go.Ev
section
variable {n1 n2 : Bool} {a1 b1 a2 b2 : Nat} {e1 e2 : Int}
end
end Go.Ev.S

/- Exact numbers as rational ones. -/
set_option linter.unusedVariables false
set_option linter.unusedSimpArgs false
set_option maxRecDepth 8000
namespace Go.Ev.S
open Go Go.Ev
def p2 (e : Int) : Rat := (2 : Rat) ^ e
end Go.Ev.S

/- Encodings, their fields and their signs: the abacus and the document's answer. -/
set_option linter.unusedVariables false
set_option linter.unusedSimpArgs false
set_option maxRecDepth 8000
namespace Go.Ev.S
open Go Go.Ev
def ng (f x : Nat) : Bool := x.testBit (fw f - 1)
def ex (f x : Nat) : Nat := x / 2 ^ (fp f - 1) % (2 * fe f + 2)
def fr (f x : Nat) : Nat := x % 2 ^ (fp f - 1)
def cls (f x : Nat) : Int :=
 if ex f x = 2 * fe f + 1 then (if fr f x ≠ 0 then cond ((fr f x).testBit (fp f - 2)) 9 8 else cond (ng f x) 0 7)
 else if ex f x ≠ 0 then cond (ng f x) 1 6 else if fr f x ≠ 0 then cond (ng f x) 2 5 else cond (ng f x) 3 4
end Go.Ev.S

/- Differences: of words, bit by bit; of numbers of six words. -/
set_option linter.unusedVariables false
set_option linter.unusedSimpArgs false
set_option maxRecDepth 8000
namespace Go.Ev.S
open Go Go.Ev
end Go.Ev.S

/- Quiet and next encodings: the abacus and the document's answer; the law KindSigns. -/
set_option linter.unusedVariables false
set_option linter.unusedSimpArgs false
set_option maxRecDepth 8000
namespace Go.Ev.S
open Go Go.Ev
def ylW (f : Nat) : Nat := enc f false (2 * fe f + 1) (2 ^ (fp f - 2))
def quiet (f x : Nat) : Nat := if 8 ≤ cls f x then x ||| ylW f else x
end Go.Ev.S

/- The parts of an encoding: the abacus and the document's answer. -/
set_option linter.unusedVariables false
set_option linter.unusedSimpArgs false
set_option maxRecDepth 8000
namespace Go.Ev.S
open Go Go.Ev
end Go.Ev.S

/- Signs put together, words and classes: the abacus and the document's answer; the laws of signs. -/
set_option linter.unusedVariables false
set_option linter.unusedSimpArgs false
set_option maxRecDepth 8000
namespace Go.Ev.S
open Go Go.Ev
end Go.Ev.S

/- The plain laws of SignWords and SignBack. -/
set_option linter.unusedVariables false
set_option linter.unusedSimpArgs false
set_option maxRecDepth 8000
namespace Go.Ev.S
open Go Go.Ev
def ext (w x : Nat) : Nat := cond (x.testBit (w - 1)) (x % 2 ^ w + (18446744073709551616 - 2 ^ w)) (x % 2 ^ w)
end Go.Ev.S

/- Encodings compared: what the functions come to. -/
set_option linter.unusedVariables false
set_option linter.unusedSimpArgs false
set_option maxRecDepth 8000
namespace Go.Ev.S
open Go Go.Ev
end Go.Ev.S

/- The order of all encodings; the lesser and the greater one. -/
set_option linter.unusedVariables false
set_option linter.unusedSimpArgs false
set_option maxRecDepth 8000
namespace Go.Ev.S
open Go Go.Ev
end Go.Ev.S

/- What encodings say: their exact values, in order. -/
set_option linter.unusedVariables false
set_option linter.unusedSimpArgs false
set_option maxRecDepth 8000
namespace Go.Ev.S
open Go Go.Ev
def fin (f x : Nat) : Prop := ex f x ≠ 2 * fe f + 1
end Go.Ev.S

/- Exact numbers compared, as rational ones; encodings compared by their values. -/
set_option linter.unusedVariables false
set_option linter.unusedSimpArgs false
set_option maxRecDepth 8000
namespace Go.Ev.S
open Go Go.Ev
section
variable {n1 n2 : Bool} {a1 b1 a2 b2 : Nat} {e1 e2 : Int}
end
end Go.Ev.S

/- Exact numbers: made, signs, products, places, sums. -/
set_option linter.unusedVariables false
set_option linter.unusedSimpArgs false
set_option maxRecDepth 8000
namespace Go.Ev.S
open Go Go.Ev
abbrev K5 := Bool → List UInt8 → List UInt8 → Int → Int → Prop
end Go.Ev.S

/- Exact numbers as rational ones: bounds, sums, products, whole parts. -/
set_option linter.unusedVariables false
set_option linter.unusedSimpArgs false
set_option maxRecDepth 8000
namespace Go.Ev.S
open Go Go.Ev
section
variable {n1 n2 : Bool} {a1 b1 a2 b2 : Nat} {e1 e2 : Int} {P1 E1 P2 E2 : Nat}
end
end Go.Ev.S

/- A field's laws; a whole part and the next. -/
set_option linter.unusedVariables false
set_option linter.unusedSimpArgs false
set_option maxRecDepth 8000
namespace Go.Ev.S
open Go Go.Ev
end Go.Ev.S

/- Decimal digits. -/
set_option linter.unusedVariables false
set_option linter.unusedSimpArgs false
set_option maxRecDepth 8000
namespace Go.Ev.S
open Go Go.Ev
open Go.Lib (decDigits nDigits)
end Go.Ev.S

/- Narrow values in wide registers: the program's answers and the document's, as numbers of 128 bits. -/
set_option linter.unusedVariables false
set_option linter.unusedSimpArgs false
set_option maxRecDepth 8000
namespace Go.Ev.S
open Go Go.Ev
def ab (f : Nat) : Nat := 2 ^ 128 - 2 ^ fw f
theorem ylI (f : Nat) (h : f ≤ 3) : 1 ≤ fw f ∧ fw f ≤ 128 := by rcases ylN h with rfl | rfl | rfl | rfl <;> decide
theorem yl0 (f : Nat) : ab f < 2 ^ 128 := by
 unfold ab
 have h1 := Nat.two_pow_pos 128
 have h2 := Nat.two_pow_pos (fw f)
 omega
theorem yl1 (f x : Nat) (h : f ≤ 3) (hx : x < 2 ^ fw f) : x ||| ab f = x + ab f := by
 have h4 : 2 ^ fw f ∣ ab f := by
  unfold ab
  exact Nat.dvd_sub (Nat.pow_dvd_pow 2 (ylI f h).2) (Nat.dvd_refl _)
 obtain ⟨c, hc⟩ := h4
 rw [hc, Nat.or_comm, ← Nat.two_pow_add_eq_or_of_lt hx, Nat.add_comm]
theorem ygD (f : Nat) (h : f ≤ 3) (K : Int → Int → Prop) : zaf f K = K (Hi (ab f)) (Lo (ab f)) := by
 rw [zaf.is]
 rcases ylN h with rfl | rfl | rfl | rfl <;> kernel_rfl
theorem yiB (f x : Nat) (h : f ≤ 3) (hx : x < 2 ^ 128) (K : Int → Int → Int → Prop) : zab f (Hi x) (Lo x) K = br (decide (x < 2 ^ fw f)) (K (Hi (x + ab f)) (Lo (x + ab f)) 0) (K 0 0 2) := by
 rw [zab.is]; unfold zab.d
 rw [yf0 f x h hx]
 by_cases hf : x < 2 ^ fw f
 ·obtain ⟨h1, h2⟩ := ylC x (ab f) hx (yl0 f)
  rw [ydV (by simp [hf]), ygv (by simp [hf]), ygD f h, h1, h2, yl1 f x h hf]
 ·rw [ygv (by simp [hf]), ydV (by simp [hf])]
end Go.Ev.S

/- The registers' names, and some of their answers. -/
set_option linter.unusedVariables false
set_option linter.unusedSimpArgs false
set_option maxRecDepth 20000
namespace Go.Ev.S
open Go Go.Ev
open Go.Lib (decDigits)
section
variable {g : Nat → Int} {z2 z3 z4 z5 z6 z7 z8 z9 z10 z11 z12 z13 z14 z15 z16 z17 z18 z19 z20 z21 z22 z23 z24 z25 z26 z27 z28 z29 z30 z31 z32 z33 z34 z35 z36 z37 z38 z39 z40 z41 z42 z43 z44 z45 z46 z47 z48 z49 z50 z51 z52 z53 z54 z55 z56 z57 z58 z59 z60 z61 z62 z63 z64 z65 : Int}
theorem ydH (b : Bool) (K : Bool → Bool → (Nat → Int) → Int → Int → Int → Int → Int → Int → Int → Int → Int → Int → Int → Int → Int → Int → Int → Int → Int → Int → Int → Int → Int → Int → Int → Int → Int → Int → Int → Int → Int → Int → Int → Int → Int → Int → Int → Int → Int → Int → Int → Int → Int → Int → Int → Int → Int → Int → Int → Int → Int → Int → Int → Int → Int → Int → Int → Int → Int → Int → Int → Int → Int → Int → Int → Int → Prop) (h : K (!b) b g z2 z3 z4 z5 z6 z7 z8 z9 z10 z11 z12 z13 z14 z15 z16 z17 z18 z19 z20 z21 z22 z23 z24 z25 z26 z27 z28 z29 z30 z31 z32 z33 z34 z35 z36 z37 z38 z39 z40 z41 z42 z43 z44 z45 z46 z47 z48 z49 z50 z51 z52 z53 z54 z55 z56 z57 z58 z59 z60 z61 z62 z63 z64 z65) : zaw b g z2 z3 z4 z5 z6 z7 z8 z9 z10 z11 z12 z13 z14 z15 z16 z17 z18 z19 z20 z21 z22 z23 z24 z25 z26 z27 z28 z29 z30 z31 z32 z33 z34 z35 z36 z37 z38 z39 z40 z41 z42 z43 z44 z45 z46 z47 z48 z49 z50 z51 z52 z53 z54 z55 z56 z57 z58 z59 z60 z61 z62 z63 z64 z65 K := by
 rw [zaw.is]; exact h
theorem yha (b : Bool) (n : Int) (k0 : Bool → (Nat → Int) → Int → Int → Int → Int → Int → Int → Int → Int → Int → Int → Int → Int → Int → Int → Int → Int → Int → Int → Int → Int → Int → Int → Int → Int → Int → Int → Int → Int → Int → Int → Int → Int → Int → Int → Int → Int → Int → Int → Int → Int → Int → Int → Int → Int → Int → Int → Int → Int → Int → Int → Int → Int → Int → Int → Int → Int → Int → Int → Int → Int → Int → Int → Int → Int → Prop) (k1 : Nat → Bool → (Nat → Int) → Int → Int → Int → Int → Int → Int → Int → Int → Int → Int → Int → Int → Int → Int → Int → Int → Int → Int → Int → Int → Int → Int → Int → Int → Int → Int → Int → Int → Int → Int → Int → Int → Int → Int → Int → Int → Int → Int → Int → Int → Int → Int → Int → Int → Int → Int → Int → Int → Int → Int → Int → Int → Int → Int → Int → Int → Int → Int → Int → Int → Int → Int → Int → Int → Prop) (h0 : ¬ (0 ≤ n ∧ n < 32) → k0 b g z2 z3 z4 z5 z6 z7 z8 z9 z10 z11 z12 z13 z14 z15 z16 z17 z18 z19 z20 z21 z22 z23 z24 z25 z26 z27 z28 z29 z30 z31 z32 z33 z34 z35 z36 z37 z38 z39 z40 z41 z42 z43 z44 z45 z46 z47 z48 z49 z50 z51 z52 z53 z54 z55 z56 z57 z58 z59 z60 z61 z62 z63 z64 z65) (h1 : 0 ≤ n → n < 32 → k1 n.toNat b g z2 z3 z4 z5 z6 z7 z8 z9 z10 z11 z12 z13 z14 z15 z16 z17 z18 z19 z20 z21 z22 z23 z24 z25 z26 z27 z28 z29 z30 z31 z32 z33 z34 z35 z36 z37 z38 z39 z40 z41 z42 z43 z44 z45 z46 z47 z48 z49 z50 z51 z52 z53 z54 z55 z56 z57 z58 z59 z60 z61 z62 z63 z64 z65) : zay b g z2 z3 z4 z5 z6 z7 z8 z9 z10 z11 z12 z13 z14 z15 z16 z17 z18 z19 z20 z21 z22 z23 z24 z25 z26 z27 z28 z29 z30 z31 z32 z33 z34 z35 z36 z37 z38 z39 z40 z41 z42 z43 z44 z45 z46 z47 z48 z49 z50 z51 z52 z53 z54 z55 z56 z57 z58 z59 z60 z61 z62 z63 z64 z65 n k0 k1 := by
 rw [zay.is]; unfold zay.d
 by_cases l : n < 0
 ·rw [ygv (yll l)]; exact h0 (by omega)
 rw [ydV (ykY (by omega))]
 by_cases u : 32 ≤ n
 ·rw [ygv (ylp u)]; exact h0 (by omega)
 rw [ydV (yl8 (by omega)), yld (by rw [ylp (by omega), yll (by omega)]; rfl)]
 exact h1 (by omega) (by omega)
theorem yj5 (n v : Int) (h0 : 0 ≤ n) (hn : n < 32) (K : Int → Bool → (Nat → Int) → Int → Int → Int → Int → Int → Int → Int → Int → Int → Int → Int → Int → Int → Int → Int → Int → Int → Int → Int → Int → Int → Int → Int → Int → Int → Int → Int → Int → Int → Int → Int → Int → Int → Int → Int → Int → Int → Int → Int → Int → Int → Int → Int → Int → Int → Int → Int → Int → Int → Int → Int → Int → Int → Int → Int → Int → Int → Int → Int → Int → Int → Int → Int → Int → Prop) (h : K 0 true (upd (upd g n.toNat v) 0 0) z2 z3 z4 z5 z6 z7 z8 z9 z10 z11 z12 z13 z14 z15 z16 z17 z18 z19 z20 z21 z22 z23 z24 z25 z26 z27 z28 z29 z30 z31 z32 z33 z34 z35 z36 z37 z38 z39 z40 z41 z42 z43 z44 z45 z46 z47 z48 z49 z50 z51 z52 z53 z54 z55 z56 z57 z58 z59 z60 z61 z62 z63 z64 z65) : zar true g z2 z3 z4 z5 z6 z7 z8 z9 z10 z11 z12 z13 z14 z15 z16 z17 z18 z19 z20 z21 z22 z23 z24 z25 z26 z27 z28 z29 z30 z31 z32 z33 z34 z35 z36 z37 z38 z39 z40 z41 z42 z43 z44 z45 z46 z47 z48 z49 z50 z51 z52 z53 z54 z55 z56 z57 z58 z59 z60 z61 z62 z63 z64 z65 n v K := by
 rw [zar.is]; unfold zar.d
 refine ydH true _ ?_
 show br false _ _
 rw [ydV rfl]
 exact yha true n _ _ (fun hh => absurd ⟨h0, hn⟩ hh) fun _ _ => h
theorem yjJ (n : Int) (h0 : 0 ≤ n) (hn : n < 32) (K : Int → Int → Bool → (Nat → Int) → Int → Int → Int → Int → Int → Int → Int → Int → Int → Int → Int → Int → Int → Int → Int → Int → Int → Int → Int → Int → Int → Int → Int → Int → Int → Int → Int → Int → Int → Int → Int → Int → Int → Int → Int → Int → Int → Int → Int → Int → Int → Int → Int → Int → Int → Int → Int → Int → Int → Int → Int → Int → Int → Int → Int → Int → Int → Int → Int → Int → Int → Int → Int → Int → Prop) (h : K (g n.toNat) 0 true g z2 z3 z4 z5 z6 z7 z8 z9 z10 z11 z12 z13 z14 z15 z16 z17 z18 z19 z20 z21 z22 z23 z24 z25 z26 z27 z28 z29 z30 z31 z32 z33 z34 z35 z36 z37 z38 z39 z40 z41 z42 z43 z44 z45 z46 z47 z48 z49 z50 z51 z52 z53 z54 z55 z56 z57 z58 z59 z60 z61 z62 z63 z64 z65) : zat true g z2 z3 z4 z5 z6 z7 z8 z9 z10 z11 z12 z13 z14 z15 z16 z17 z18 z19 z20 z21 z22 z23 z24 z25 z26 z27 z28 z29 z30 z31 z32 z33 z34 z35 z36 z37 z38 z39 z40 z41 z42 z43 z44 z45 z46 z47 z48 z49 z50 z51 z52 z53 z54 z55 z56 z57 z58 z59 z60 z61 z62 z63 z64 z65 n K := by
 rw [zat.is]; unfold zat.d
 refine ydH true _ ?_
 show br false _ _
 rw [ydV rfl]
 exact yha true n _ _ (fun hh => absurd ⟨h0, hn⟩ hh) fun _ _ => h
theorem yla (n : Int) (hn : ¬ (0 ≤ n ∧ n < 32)) (K : Int → Int → Bool → (Nat → Int) → Int → Int → Int → Int → Int → Int → Int → Int → Int → Int → Int → Int → Int → Int → Int → Int → Int → Int → Int → Int → Int → Int → Int → Int → Int → Int → Int → Int → Int → Int → Int → Int → Int → Int → Int → Int → Int → Int → Int → Int → Int → Int → Int → Int → Int → Int → Int → Int → Int → Int → Int → Int → Int → Int → Int → Int → Int → Int → Int → Int → Int → Int → Int → Int → Prop) (h : K 0 2 true g z2 z3 z4 z5 z6 z7 z8 z9 z10 z11 z12 z13 z14 z15 z16 z17 z18 z19 z20 z21 z22 z23 z24 z25 z26 z27 z28 z29 z30 z31 z32 z33 z34 z35 z36 z37 z38 z39 z40 z41 z42 z43 z44 z45 z46 z47 z48 z49 z50 z51 z52 z53 z54 z55 z56 z57 z58 z59 z60 z61 z62 z63 z64 z65) : zat true g z2 z3 z4 z5 z6 z7 z8 z9 z10 z11 z12 z13 z14 z15 z16 z17 z18 z19 z20 z21 z22 z23 z24 z25 z26 z27 z28 z29 z30 z31 z32 z33 z34 z35 z36 z37 z38 z39 z40 z41 z42 z43 z44 z45 z46 z47 z48 z49 z50 z51 z52 z53 z54 z55 z56 z57 z58 z59 z60 z61 z62 z63 z64 z65 n K := by
 rw [zat.is]; unfold zat.d
 refine ydH true _ ?_
 show br false _ _
 rw [ydV rfl]
 exact yha true n _ _ (fun _ => h) fun a b => absurd ⟨a, b⟩ hn
theorem ykz (p q : Int) (K : Int → Bool → (Nat → Int) → Int → Int → Int → Int → Int → Int → Int → Int → Int → Int → Int → Int → Int → Int → Int → Int → Int → Int → Int → Int → Int → Int → Int → Int → Int → Int → Int → Int → Int → Int → Int → Int → Int → Int → Int → Int → Int → Int → Int → Int → Int → Int → Int → Int → Int → Int → Int → Int → Int → Int → Int → Int → Int → Int → Int → Int → Int → Int → Int → Int → Int → Int → Int → Int → Prop) (h : K 0 true g z2 z3 z4 z5 z6 z7 p q z10 z11 z12 z13 z14 z15 z16 z17 z18 z19 z20 z21 z22 z23 z24 z25 z26 z27 z28 z29 z30 z31 z32 z33 z34 z35 z36 z37 z38 z39 z40 z41 z42 z43 z44 z45 z46 z47 z48 z49 z50 z51 z52 z53 z54 z55 z56 z57 z58 z59 z60 z61 z62 z63 z64 z65) : zap true g z2 z3 z4 z5 z6 z7 z8 z9 z10 z11 z12 z13 z14 z15 z16 z17 z18 z19 z20 z21 z22 z23 z24 z25 z26 z27 z28 z29 z30 z31 z32 z33 z34 z35 z36 z37 z38 z39 z40 z41 z42 z43 z44 z45 z46 z47 z48 z49 z50 z51 z52 z53 z54 z55 z56 z57 z58 z59 z60 z61 z62 z63 z64 z65 3 p q K := by
 rw [zap.is]; unfold zap.d
 refine ydH true _ ?_
 show br false _ _
 rw [ydV rfl, zav.is]; unfold zav.d
 exact h
theorem ykt (K : Int → Int → Int → Bool → (Nat → Int) → Int → Int → Int → Int → Int → Int → Int → Int → Int → Int → Int → Int → Int → Int → Int → Int → Int → Int → Int → Int → Int → Int → Int → Int → Int → Int → Int → Int → Int → Int → Int → Int → Int → Int → Int → Int → Int → Int → Int → Int → Int → Int → Int → Int → Int → Int → Int → Int → Int → Int → Int → Int → Int → Int → Int → Int → Int → Int → Int → Int → Int → Int → Int → Int → Prop) (h : K z8 z9 0 true g z2 z3 z4 z5 z6 z7 z8 z9 z10 z11 z12 z13 z14 z15 z16 z17 z18 z19 z20 z21 z22 z23 z24 z25 z26 z27 z28 z29 z30 z31 z32 z33 z34 z35 z36 z37 z38 z39 z40 z41 z42 z43 z44 z45 z46 z47 z48 z49 z50 z51 z52 z53 z54 z55 z56 z57 z58 z59 z60 z61 z62 z63 z64 z65) : zal true g z2 z3 z4 z5 z6 z7 z8 z9 z10 z11 z12 z13 z14 z15 z16 z17 z18 z19 z20 z21 z22 z23 z24 z25 z26 z27 z28 z29 z30 z31 z32 z33 z34 z35 z36 z37 z38 z39 z40 z41 z42 z43 z44 z45 z46 z47 z48 z49 z50 z51 z52 z53 z54 z55 z56 z57 z58 z59 z60 z61 z62 z63 z64 z65 3 K := by
 rw [zal.is]; unfold zal.d
 refine ydH true _ ?_
 show br false _ _
 rw [ydV rfl, zav.is]; unfold zav.d
 exact h
theorem ylm (K : Int → Bool → (Nat → Int) → Int → Int → Int → Int → Int → Int → Int → Int → Int → Int → Int → Int → Int → Int → Int → Int → Int → Int → Int → Int → Int → Int → Int → Int → Int → Int → Int → Int → Int → Int → Int → Int → Int → Int → Int → Int → Int → Int → Int → Int → Int → Int → Int → Int → Int → Int → Int → Int → Int → Int → Int → Int → Int → Int → Int → Int → Int → Int → Int → Int → Int → Int → Int → Int → Prop) (h : K 0 true g z2 z3 z4 z5 z6 z7 (Hi (15360 + ab 2)) (Lo (15360 + ab 2)) z10 z11 z12 z13 z14 z15 z16 z17 z18 z19 z20 z21 z22 z23 z24 z25 z26 z27 z28 z29 z30 z31 z32 z33 z34 z35 z36 z37 z38 z39 z40 z41 z42 z43 z44 z45 z46 z47 z48 z49 z50 z51 z52 z53 z54 z55 z56 z57 z58 z59 z60 z61 z62 z63 z64 z65) : zan true g z2 z3 z4 z5 z6 z7 z8 z9 z10 z11 z12 z13 z14 z15 z16 z17 z18 z19 z20 z21 z22 z23 z24 z25 z26 z27 z28 z29 z30 z31 z32 z33 z34 z35 z36 z37 z38 z39 z40 z41 z42 z43 z44 z45 z46 z47 z48 z49 z50 z51 z52 z53 z54 z55 z56 z57 z58 z59 z60 z61 z62 z63 z64 z65 2 3 0 15360 K := by
 rw [zan.is]; unfold zan.d
 refine ydH true _ ?_
 show br false _ _
 have hb := yiB 2 15360 (by omega) (by decide)
 rw [show Hi 15360 = 0 from rfl, show Lo 15360 = 15360 from rfl] at hb
 rw [ydV rfl]
 show zab ((2 : Nat) : Int) 0 15360 _
 rw [hb, ygv (by decide)]
 show br (!eqI 0 0) _ _
 rw [ydV (show (!eqI 0 0) = false from rfl)]
 exact ykz _ _ _ h
end
def t32 (n : Nat) : List UInt8 := if n < 10 then [UInt8.ofNat (48 + n)] else [UInt8.ofNat (48 + n / 10), UInt8.ofNat (48 + n % 10)]
theorem ylo {n : Nat} (h : n < 32) : Go.Lib.itoa (n : Int) = t32 n := by
 have e : Go.Lib.itoa (n : Int) = decDigits n := by unfold Go.Lib.itoa; rw [if_neg (by omega), Int.toNat_natCast]
 rw [e]; unfold t32
 by_cases g : n < 10
 ·rw [if_pos g, Go.Lib.decDigits_one g]
 ·rw [if_neg g, Go.Lib.decDigits_two g (by omega)]
def nm (fl : Bool) (n : Nat) : List UInt8 := cond fl [102] [120] ++ t32 n
theorem ylt : ∀ n, n < 32 → ∀ m, m < 32 → ∀ a b : Bool, nm a n = nm b m → a = b ∧ n = m := by decide +kernel
theorem ylv : ∀ n, n < 32 → ∀ a : Bool, 2 ≤ (nm a n).length ∧ (nm a n).length ≤ 3 := by decide +kernel
theorem yj0 : ∀ n, n < 32 → Go.Lib.atoiAll (t32 n) = .ok (n : Int) := by
 intro n h
 rcases (show n = 0 ∨ n = 1 ∨ n = 2 ∨ n = 3 ∨ n = 4 ∨ n = 5 ∨ n = 6 ∨ n = 7 ∨ n = 8 ∨ n = 9 ∨ n = 10 ∨ n = 11 ∨ n = 12 ∨ n = 13 ∨ n = 14 ∨ n = 15 ∨ n = 16 ∨ n = 17 ∨ n = 18 ∨ n = 19 ∨ n = 20 ∨ n = 21 ∨ n = 22 ∨ n = 23 ∨ n = 24 ∨ n = 25 ∨ n = 26 ∨ n = 27 ∨ n = 28 ∨ n = 29 ∨ n = 30 ∨ n = 31 by omega) with rfl | rfl | rfl | rfl | rfl | rfl | rfl | rfl | rfl | rfl | rfl | rfl | rfl | rfl | rfl | rfl | rfl | rfl | rfl | rfl | rfl | rfl | rfl | rfl | rfl | rfl | rfl | rfl | rfl | rfl | rfl | rfl <;> rfl
theorem ygd (fl : Bool) (n : Nat) (h : n < 32) (K : List UInt8 → Int → Prop) (hK : K (nm fl n) 0) : zai fl (n : Int) K := by
 have hl : (t32 n).length ≤ 2 := by unfold t32; split <;> simp
 have hI : ∀ Q : List UInt8 → Prop, Q (t32 n) → zbi (n : Int) Q := fun Q hQ => by
  rw [zbi.is]; refine ⟨by omega, ?_⟩; rw [ylo h]; exact hQ
 rw [zai.is]; unfold zai.d
 rw [ydV (ykY (by omega)), ydV (ykY (by omega))]
 cases fl
 ·rw [ydV rfl]; refine hI _ ?_; rw [yld (ylp (by omega))]; exact hK
 ·rw [ygv rfl]; refine hI _ ?_; rw [yld (ylp (by omega))]; exact hK
theorem yfF (s : List UInt8) (K : Bool → Int → Int → Prop) (h1 : ∀ fl n, n < 32 → s = nm fl n → K fl (n : Int) 0) (h2 : (∀ fl n, n < 32 → s ≠ nm fl n) → K false 0 230) : zaj s K := by
 have no : (s.length < 2 ∨ 3 < s.length) → K false 0 230 := fun hl => h2 fun fl n hn hs => by
  have := ylv n hn fl
  rw [← hs] at this; omega
 rw [zaj.is]; unfold zaj.d
 by_cases l1 : s.length < 2
 ·rw [ygv (yll (by omega))]; exact no (.inl l1)
 rw [ydV (ykY (by omega))]
 by_cases l2 : 3 < s.length
 ·rw [ygv (yll (by omega))]; exact no (.inr l2)
 rw [ydV (ykY (by omega)), yld (by rw [ylp (by omega), ylp (by omega)]; rfl), Int.toNat_natCast]
 have hsub : ylB s 1 s.length = s.drop 1 := by unfold ylB; rw [List.take_length]
 rw [hsub, zbh.is]; unfold zbh.d
 refine ⟨by rw [List.length_drop]; omega, ?_⟩
 have comes : ∀ v : Int, (∃ fl n, n < 32 ∧ s = nm fl n ∧ v ≠ (n : Int)) → Go.Lib.atoiAll (s.drop 1) ≠ .ok v := by
  rintro v ⟨fl, n, hn, rfl, hv⟩ hh
  have : (nm fl n).drop 1 = t32 n := by cases fl <;> rfl
  rw [this, yj0 n hn] at hh
  cases hh; exact hv rfl
 have oks : ∀ fl n, n < 32 → s = nm fl n → Go.Lib.atoiAll (s.drop 1) = .ok (n : Int) := by
  rintro fl n hn rfl
  have : (nm fl n).drop 1 = t32 n := by cases fl <;> rfl
  rw [this, yj0 n hn]
 cases hA : Go.Lib.atoiAll (s.drop 1) with
 | ok v =>
  have fails : (¬ (0 ≤ v ∧ v < 32)) → K false 0 230 := fun hv => h2 fun fl n hn hs => by
   have := oks fl n hn hs
   rw [hA] at this; cases this; omega
  show br (ltI v 0) _ _
  by_cases v1 : v < 0
  ·rw [ygv (yll v1)]; exact fails (by omega)
  rw [ydV (ykY (by omega))]
  by_cases v2 : 31 < v
  ·rw [ygv (yll v2)]; exact fails (by omega)
  rw [ydV (ykY (by omega)), yld (yll (by omega))]
  obtain ⟨n, rfl⟩ : ∃ n : Nat, v = n := ⟨v.toNat, by omega⟩
  refine ygd _ n (by omega) _ ?_
  by_cases hs : nm (eqI (ydX s 0) 102) n = s
  ·rw [show eqS (nm (eqI (ydX s 0) 102) n) s = true by rw [yjx]; exact decide_eq_true hs]
   exact h1 _ n (by omega) hs.symm
  ·rw [show eqS (nm (eqI (ydX s 0) 102) n) s = false by rw [yjx]; exact decide_eq_false hs]
   refine h2 fun fl m hm hh => hs ?_
   have e := oks fl m hm hh
   rw [hA] at e
   have e2 : n = m := by cases e; rfl
   subst e2
   subst hh
   have : eqI (ydX (nm fl n) 0) 102 = fl := by cases fl <;> rfl
   rw [this]
 | range => exact h2 fun fl n hn hs => by have := oks fl n hn hs; rw [hA] at this; cases this
 | _ => exact h2 fun fl n hn hs => by have := oks fl n hn hs; rw [hA] at this; cases this
theorem ykx (K : Bool → Prop) (hK : K true) : zah K := by
 rw [zah.is]; unfold zah.d
 rw [zak.is]; unfold zak.d
 refine yj5 0 7 (by omega) (by omega) _ ?_
 refine yjJ 0 (by omega) (by omega) _ ?_
 refine yj5 5 7 (by omega) (by omega) _ ?_
 refine yjJ 5 (by omega) (by omega) _ ?_
 refine yla 32 (by omega) _ ?_
 refine ylm _ ?_
 refine ykt _ ?_
 refine yfF _ _ (fun fl n hn hs => ?_) fun hno => absurd rfl (hno true 31 (by omega))
 have h := ylt 31 (by omega) n hn true fl (by rw [← hs]; rfl)
 obtain ⟨rfl, rfl⟩ := h
 exact hK
end Go.Ev.S

/- Registers that are not there. -/
set_option linter.unusedVariables false
set_option linter.unusedSimpArgs false
namespace Go.Ev.S
open Go Go.Ev
theorem regsNone (a0 a1 : Int) (a2_0 : Bool) (a2_1 a2_2 a2_3_0 a2_3_1 : Int) (w0 : (Lit.int .u8 a0).wf = true) (w1 : (Lit.int .i64 a1).wf = true) (w2 : (Lit.int .i64 a2_1).wf = true) (w3 : (Lit.int .u64 a2_2).wf = true) (w4 : (Lit.int .u64 a2_3_0).wf = true) (w5 : (Lit.int .u64 a2_3_1).wf = true)
  (K : Bool → Prop) (hK : K true) : zag a0 a1 a2_0 a2_1 a2_2 a2_3_0 a2_3_1 K := by
 rw [zag.is]; unfold zag.d
 exact ykx _ hK
end Go.Ev.S
