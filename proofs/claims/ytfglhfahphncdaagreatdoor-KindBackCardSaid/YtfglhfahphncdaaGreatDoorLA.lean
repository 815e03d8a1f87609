/- Functions of Go's library by contracts that are proved elsewhere: that they fit the evaluator. -/
import Derived.Test.YtfglhfahphncdaaGreatDoorEvC
import Derived.Below
import Derived.Sort.Grow
import Derived.Deep.Draws
import Derived.Lib.LaidTab
import Derived.Stop.LaidErr
import Derived.Test.YtfglhfahphncdaaGreatDoorDA
import Derived.Shelf.Strconv.Itoa4
import Derived.Shelf.Strconv.AtoiAll
import Derived.Shelf.Strings.Search1
import Derived.KernelRfl
set_option linter.unusedVariables false
set_option linter.unusedSimpArgs false
namespace Go.Ev.S
open Go Go.Ev Go.RowKit Go.Sort
theorem ypB {ρ : Ren} {H : yaf} {w w' : World} (hS : Sim ρ H w) (h : Below w.heap.size w w') : Ext ρ w ρ w' ∧ Sim ρ H w' := by
 have hx : Ext ρ w ρ w' := ⟨h.os, h.tape, h.output, h.size, fun b hb _ => h.block b hb, fun _ _ hh => hh, fun _ _ hh => hh, fun _ _ hh => .inl hh, fun b cs e fz hh =>
  ⟨cs, e, fz, (h.block b (by rw [Array.getElem?_eq_some_iff] at hh; exact hh.1)).trans hh, rfl⟩⟩
 refine ⟨hx, hS.len, fun b hb => Nat.lt_of_lt_of_le (hS.fl b hb) h.size, fun b r hb => Nat.lt_of_lt_of_le (hS.lt b r hb) h.size, hS.sep, hS.nodup, fun b v hb => ?_⟩
 obtain ⟨r, h1, h2, cs, e, fz, x, h3, h4, h5, h6, h7⟩ := hS.live b v hb
 have hbl := h.block r.mb (hS.lt b r h1)
 exact ⟨r, h1, h2, cs, e, fz, x, hbl.trans h3, h4, Rel.ext hx _ _ h5, h6, h7.keep hbl⟩
theorem ys8 {ρ : Ren} {H : yaf} {w : World} (hS : Sim ρ H w) : ∀ b, b ∈ ρ.mbs → b < w.heap.size := by
 intro b hb
 rcases List.mem_append.1 hb with h | h
 ·exact hS.fl b h
 ·obtain ⟨c, r, hr, rfl⟩ := yb4 h
  exact hS.lt c r hr
theorem SoundE.shelf {P : Program} {gl : Nat → Option EV} {f : FuncId} {en : Entry} (hk : ∃ fn, P.funcs[f]? = some fn ∧ fn.body.isNone = false ∧ (fn.name == "runtime.NumGoroutine") = false)
  (hd : ∀ args H, Det2 (en.spec args H))
  (hs : ∀ (ρ : Ren) (H : yaf) (w : World) (args : List EV) (xs : List Value) (K : EV → yaf → Prop), en.spec args H K → RelL ρ w args xs → GOk gl ρ w → (∀ b, b ∈ ρ.mbs → b < w.heap.size) →
   Calls P f xs.toArray w fun e w' => (∃ v x, e = .returned x ∧ K v H ∧ Rel ρ w' v x) ∧ Below w.heap.size w w') : SoundE P gl f en := by
 refine ⟨?_, hd, hk⟩
 intro ρ H w args xs K h hr hS hG
 refine (hs ρ H w args xs K h hr hG (ys8 hS)).mono ?_
 rintro e w' ⟨⟨v, x, he, hK, hv⟩, hb⟩
 obtain ⟨h1, h2⟩ := ypB hS hb
 exact ⟨v, x, H, ρ, he, hK, hv, h2, h1, rfl⟩
theorem ynC (w : World) (k : Nat) (os : Array Obj) : Below w.heap.size w (grow (w.drewN k) os) := by
 refine ⟨rfl, rfl, rfl, ?_, fun b hb => ?_⟩
 ·show _ ≤ (w.heap ++ os).size; rw [Array.size_append]; omega
 ·show (w.heap ++ os)[b]? = _; rw [Array.getElem?_append_left hb]
theorem yq4 {P : Program} {gl : Nat → Option EV} {ρ : Ren} {w : World} {nm : String} {g n : Nat} {k : IntKind} {zs : List Int} {T : Nat → Int} (hG : GOk gl ρ w) (hg : P.globalNamed nm = some g) (hv : gl g = some (.arr k n T)) (hT : T = fun i => zs.getD i 0) (hn : zs.length = n) :
  Go.Lib.TabIs P w nm k zs := by
 obtain ⟨_, h1, h2⟩ := hG g _ hv
 obtain ⟨cs, t, fz, h3, h4⟩ := h2 k n T rfl
 obtain ⟨b, o, y, e, hy, hb, hm, hc⟩ := h1
 cases e
 have hy' : y = .agg (yba k n T).toArray := hy
 subst hy'
 unfold Go.Lib.TabIs World.var?
 rw [hg]
 show (match w.heap[g]? with | some (.cells cs _ _) => some cs | _ => none) = _
 rw [h3]
 show some cs = _
 congr 1
 apply Array.ext_getElem?
 intro i
 by_cases hi : i < n
 ·have h5 := hc i (by simpa [Value.cells, yaj] using hi)
  rw [Nat.zero_add] at h5
  have h6 : w.cell? ⟨g, i, none⟩ = cs[i]? := by
   simp only [World.cell?, h3]; rfl
  rw [h6] at h5
  rw [h5]
  simp only [Value.cells, List.getElem?_toArray]
  rw [yav _ _ _ _ hi, hT]
  simp [List.getD, List.getElem?_eq_getElem (show i < zs.length by omega)]
 ·rw [Array.getElem?_eq_none (by omega), Array.getElem?_eq_none (by simp; omega)]
noncomputable def yhi : Nat → Int := Classical.choose (⟨fun i => Go.Lib.pow10Tab.getD i 0, rfl⟩ : ∃ f, f = fun i => Go.Lib.pow10Tab.getD i 0)
theorem tab_pow10_is : yhi = fun i => Go.Lib.pow10Tab.getD i 0 := Classical.choose_spec (⟨fun i => Go.Lib.pow10Tab.getD i 0, rfl⟩ : ∃ f, f = fun i => Go.Lib.pow10Tab.getD i 0)
noncomputable def ypl : Entry := ⟨[none], false, fun args H K => match args, H with
 | [.int .i64 a0], [] => zcx a0 (fun y0 => K (EV.str y0) [])
 | _, _ => False⟩
theorem yst {P : Program} {r : Go.Shelf.Ren} (L : Go.Proofs.LaysM.n171 P r) {gl : Nat → Option EV} {f g : Nat} (hf : r.f 171 = f) (hg : P.globalNamed "internal/strconv.uint64pow10" = some g) (hv : gl g = some (.arr .u64 20 yhi))
  (hk : ∃ fn, P.funcs[f]? = some fn ∧ fn.body.isNone = false ∧ (fn.name == "runtime.NumGoroutine") = false) : SoundE P gl f ypl := by
 subst hf
 refine SoundE.shelf hk (fun args H K h => ?_) ?_
 ·simp only [ypl] at h ⊢
  split at h
  ·rw [zcx.is] at h ⊢
   obtain ⟨h1, h2⟩ := h
   exact ⟨_, _, h2, fun K' hk => ⟨h1, hk⟩⟩
  ·exact h.elim
 ·intro ρ H w args xs K h hr hG hm
  simp only [ypl] at h
  split at h
  ·rename_i a0
   rw [zcx.is] at h
   obtain ⟨⟨h1, h2⟩, h3⟩ := h
   obtain ⟨x, ys, rfl, hx, hys⟩ := hr
   obtain rfl : ys = [] := hys
   obtain rfl : x = .int .i64 a0 := hx
   refine (Go.Proofs.Any.strconv_Itoa L a0 h1 h2 w (yq4 hG hg hv tab_pow10_is (by rw [Go.Lib.pow10Tab_length]))).mono ?_
   rintro e w' ⟨rfl, k, os, rfl⟩
   exact ⟨⟨_, _, rfl, h3, rfl⟩, ynC _ _ _⟩
  ·exact h.elim
noncomputable def ymz (T : Nat) : Entry := ⟨[none], false, fun args H K => match args, H with
 | [.str a0], [] => zcw a0 (fun y0 => K (EV.tuple [EV.int IntKind.i64 y0, EV.nilIface]) []) (fun y0 => K (EV.tuple [EV.int IntKind.i64 y0, EV.iface T (EV.rref (EV.str [65, 116, 111, 105]))]) [])
 | _, _ => False⟩
theorem ylS (w : World) (t : Nat) (s : ByteArray) : Below w.heap.size w (Go.Lib.bytesWorld w t s) := by
 unfold Go.Lib.bytesWorld
 refine ⟨rfl, rfl, rfl, ?_, fun b hb => ?_⟩
 ·show w.heap.size ≤ (Array.modify (w.heap.push _) _ _).size
  rw [Array.size_modify, Array.size_push]; omega
 ·show (Array.modify (w.heap.push _) w.heap.size _)[b]? = w.heap[b]?
  rw [Array.getElem?_modify, if_neg (by omega), Array.getElem?_push, if_neg (by omega)]
theorem ysr {P : Program} {r : Go.Shelf.Ren} (L : Go.Proofs.LaysC.n172 P r) {gl : Nat → Option EV} {f T : Nat} (hf : r.f 172 = f) (hT : r.t 168 = T) {t1 t2 : Nat} {v1 v2 : EV} (hg : gl (r.g 15) = some (.iface t1 v1)) (hh : gl (r.g 16) = some (.iface t2 v2))
  (hk : ∃ fn, P.funcs[f]? = some fn ∧ fn.body.isNone = false ∧ (fn.name == "runtime.NumGoroutine") = false) : SoundE P gl f (ymz T) := by
 subst hf hT
 refine SoundE.shelf hk (fun args H K h => ?_) ?_
 ·simp only [ymz] at h ⊢
  split at h
  ·rw [zcw.is] at h ⊢
   unfold zcw.d at h ⊢
   obtain ⟨h1, h2⟩ := h
   split at h2
   ·exact ⟨_, _, h2, fun K' hk => ⟨h1, hk⟩⟩
   ·exact ⟨_, _, h2, fun K' hk => ⟨h1, hk⟩⟩
   ·exact ⟨_, _, h2, fun K' hk => ⟨h1, hk⟩⟩
  ·exact h.elim
 ·intro ρ H w args xs K h hr hG hm
  have cellOf : ∀ {g t v}, gl g = some (.iface t v) → ∃ ev, w.cell? ⟨g, 0, none⟩ = some ev ∧ (ev = .nilIface ∨ ∃ te pe, ev = .iface te pe) := by
   intro g t v hv
   obtain ⟨_, ⟨b, o, y, e, hy, _, _, hc⟩, _⟩ := hG g _ hv
   cases e
   obtain ⟨z, rfl, _⟩ := hy
   exact ⟨.iface t z, (hc 0 (by simp [Value.cells])).trans rfl, .inr ⟨t, z, rfl⟩⟩
  have err : ∀ {s : ByteArray} {ev : Value} {N : Nat} {w' : World}, w.heap.size ≤ N → w'.heap[N]? = some (.cells #[.string ⟨#[65, 116, 111, 105]⟩, .string s, ev] (r.t 210) (0, 0)) → Below w.heap.size w w' →
    Rel ρ w' (.iface (r.t 168) (.rref (.str [65, 116, 111, 105]))) (.iface (r.t 168) (.pointer (some ⟨N, 0, none⟩))) := by
   intro s ev N w' h1 h2 h3
   refine ⟨_, rfl, N, 0, .string ⟨#[65, 116, 111, 105]⟩, rfl, rfl, ?_, fun hh => ?_, ?_⟩
   ·rw [Array.getElem?_eq_some_iff] at h2; exact h2.1
   ·have := hm _ hh; omega
   ·intro i hi
    have hi0 : i = 0 := by simpa [Value.cells] using hi
    subst hi0
    simp only [World.cell?, h2]; rfl
  simp only [ymz] at h
  split at h
  ·rename_i a0
   rw [zcw.is] at h
   unfold zcw.d at h
   obtain ⟨h1, h3⟩ := h
   obtain ⟨x, ys, rfl, hx, hys⟩ := hr
   obtain rfl : ys = [] := hys
   obtain rfl : x = .string ⟨a0.toArray⟩ := hx
   have hsz : (⟨a0.toArray⟩ : ByteArray).size = a0.length := by simp [ByteArray.size]
   have hl : (⟨a0.toArray⟩ : ByteArray).data.toList = a0 := by simp
   cases hA : Go.Lib.atoiAll a0 with
   | ok v =>
    rw [hA] at h3
    refine (Go.Proofs.Any.strconv_Atoi_ok L _ (by rw [hsz]; omega) v (by rw [hl]; exact hA) w).mono ?_
    rintro e w' ⟨rfl, hw⟩
    refine ⟨⟨_, _, rfl, h3, _, rfl, _, _, rfl, rfl, _, _, rfl, rfl, rfl⟩, ?_⟩
    rcases hw with rfl | ⟨t, rfl⟩
    ·exact Below.refl _ _
    ·exact ylS _ _ _
   | range =>
    rw [hA] at h3
    obtain ⟨ev, hv, hev⟩ := cellOf hh
    refine (Go.Proofs.Any.strconv_Atoi_range L _ (by rw [hsz]; exact h1) (by rw [hl]; exact hA) ev w hv hev).mono ?_
    rintro e w' ⟨N, rfl, k1, k2, k3⟩
    rw [hl] at *
    exact ⟨⟨_, _, rfl, h3, _, rfl, _, _, rfl, rfl, _, _, rfl, err k1 k2 k3, rfl⟩, k3⟩
   | _ =>
    rw [hA] at h3
    obtain ⟨ev, hv, hev⟩ := cellOf hg
    refine (Go.Proofs.Any.strconv_Atoi_syntax L _ (by rw [hsz]; exact h1) (by rw [hl]; exact hA) ev w hv hev).mono ?_
    rintro e w' ⟨N, rfl, k1, k2, k3⟩
    exact ⟨⟨_, _, rfl, h3, _, rfl, _, _, rfl, rfl, _, _, rfl, err k1 k2 k3, rfl⟩, k3⟩
  ·exact h.elim
noncomputable def ypu : Entry := ⟨[none, none], false, fun args H K => match args, H with
 | [.str a0, .int .u8 a1], [] => zar a0 a1 (fun y0 => K (EV.int IntKind.i64 y0) [])
 | _, _ => False⟩
theorem yj5 {P : Program} {r : Go.Shelf.Ren} (L : Go.Proofs.Lays.n217 P r) {gl : Nat → Option EV} {f : Nat} (hf : r.f 217 = f)
  (hk : ∃ fn, P.funcs[f]? = some fn ∧ fn.body.isNone = false ∧ (fn.name == "runtime.NumGoroutine") = false) : SoundE P gl f ypu := by
 subst hf
 refine SoundE.shelf hk (fun args H K h => ?_) ?_
 ·simp only [ypu] at h ⊢
  split at h
  ·rw [zar.is] at h ⊢
   exact ⟨_, _, h, fun K' hk => hk⟩
  ·exact h.elim
 ·intro ρ H w args xs K h hr hG hm
  simp only [ypu] at h
  split at h
  ·rename_i a0 a1
   rw [zar.is] at h
   obtain ⟨x, ys, rfl, hx, z, zs, rfl, hz, hzs⟩ := hr
   obtain rfl : zs = [] := hzs
   obtain rfl : x = .string ⟨a0.toArray⟩ := hx
   obtain rfl : z = .int .u8 a1 := hz
   refine (Go.Proofs.Any.stringslite_IndexByte L ⟨a0.toArray⟩ a1 w).mono ?_
   rintro e w' ⟨rfl, rfl⟩
   exact ⟨⟨_, _, rfl, h, rfl⟩, Below.refl _ _⟩
  ·exact h.elim
theorem err_ok {P : Program} {n nm : String} {text : List UInt8} {r : List (String × DataW Unit)} {W : World} {g : Nat} {ti tp te ts : TypeId} {ms : Array (String × TypeId)} {f : Field}
  (h : laidMet P ((n, .iface nm (.ptr (.agg [.lit (.string text)]))) :: r) W)
  (hg : P.globalNamed n = some g) (ht : (P.globals[g]?).map (·.type) = some ti) (hi : P.underlying ti = some (.interface ms)) (hrow : ∀ u, P.typeName? 3 u = some nm → u = tp)
  (hp : P.underlying tp = some (.pointer te)) (he : P.underlying te = some (.struct #[f])) (hft : f.type = ts) (hfo : f.offset = 0) (hs : P.underlying ts = some .string) (hc : P.cellsOf te = 1) (hcs : P.cellsOf ts = 1) :
  Rel ⟨[], []⟩ W (.rref (.iface tp (.rref (.str text)))) (.pointer (some ⟨g, 0, none⟩)) ∧ ∀ k' n' f', EV.iface tp (.rref (.str text)) = .arr k' n' f' → ∃ cs t fz, W.heap[g]? = some (.cells cs t fz) ∧ cs.size = n' := by
 obtain ⟨a, s, hv, hcl, hst, _⟩ := laid_sentinel h hg ht hi hrow hp he hft hfo hs hc hcs
 refine ⟨?_, fun _ _ _ hh => by cases hh⟩
 obtain ⟨b, o, sp⟩ := a
 have hb : b < W.heap.size ∧ sp = none := by
  unfold World.cell? at hcl
  cases hw : W.heap[b]? with
  | none => rw [hw] at hcl; cases hcl
  | some c =>
   refine ⟨(Array.getElem?_eq_some_iff.1 hw).1, ?_⟩
   rw [hw] at hcl
   cases sp with
   | none => rfl
   | some q => cases c <;> simp at hcl
 obtain ⟨hb, rfl⟩ := hb
 have hgs : g < W.heap.size := by
  unfold World.var? at hv
  simp only [hg, Option.bind_some] at hv
  cases hw : W.heap[g]? with
  | none => rw [hw] at hv; cases hv
  | some c => exact (Array.getElem?_eq_some_iff.1 hw).1
 have hse : s = ⟨text.toArray⟩ := by
  obtain ⟨d⟩ := s
  have : d.toList = text := hst
  rw [← this]
 subst hse
 refine ⟨g, 0, .iface tp (.pointer (some ⟨b, o, none⟩)), rfl, ⟨_, rfl, b, o, .string ⟨text.toArray⟩, rfl, rfl, hb, by simp [Ren.mbs, Ren.own], ?_⟩, hgs, by simp [Ren.mbs, Ren.own], ?_⟩
 ·intro i hi0
  have h0 : i = 0 := by simpa [Value.cells] using hi0
  subst h0
  exact hcl.trans rfl
 ·intro i hi0
  have h0 : i = 0 := by simpa [Value.cells] using hi0
  subst h0
  rw [World.var?_cell hg hv]; rfl
end Go.Ev.S

/- Numbers of several words as natural ones; bits set one by one. -/
set_option linter.unusedVariables false
set_option linter.unusedSimpArgs false
namespace Go.Ev.S
open Go Go.Ev
theorem ybz {i n : Int} (h : 0 ≤ i) (h2 : i < n) : (leI 0 i && ltI i n) = true := by rw [ya7 h, ybn h2]; rfl
theorem ygA {i : Int} (h : 0 ≤ i) : (!ltI i 0) = true := by rw [yb0 h]; rfl
theorem yiM (a b : Nat) (ha : a < 9223372036854775808) (hb : 0 < b) : yaH .i64 (a : Int) (b : Int) = ((a / b : Nat) : Int) := by
 have h : a / b ≤ a := Nat.div_le_self a b
 show IntKind.wrap .i64 ((a : Int).tdiv b) = _
 rw [Int.tdiv_eq_ediv_of_nonneg (by omega)]
 have : (a : Int) / (b : Int) = ((a / b : Nat) : Int) := by simp
 rw [this]
 generalize a / b = q at h ⊢
 exact yf5 (by omega) (by omega)
theorem ylR (k : IntKind) (a b : Nat) : yb6 k (a : Int) (b : Int) = ((a % b : Nat) : Int) := by
 show (a : Int).tmod b = _
 rw [Int.tmod_eq_emod_of_nonneg (by omega)]
 simp
theorem yos (a : Nat) (ha : a < 9223372036854775808) : yaH .i64 (a : Int) 64 = ((a / 64 : Nat) : Int) := yiM a 64 ha (by omega)
theorem yps (a : Nat) : yb6 .i64 (a : Int) 64 = ((a % 64 : Nat) : Int) := ylR .i64 a 64
theorem yoU (i : Nat) (hi : i < 64) : ybA .u64 1 (i : Int) = ((2 ^ i : Nat) : Int) := by
 have := ylK 1 i hi
 rw [show (1 : Int) = ((1 : Nat) : Int) from rfl, this, Nat.shiftLeft_eq, Nat.one_mul]
 have h : 2 ^ i < 2 ^ 64 := Nat.pow_lt_pow_right (by omega) hi
 rw [Nat.mod_eq_of_lt h]
theorem ykG {i : Nat} (h : i < 64) : 2 ^ i < 18446744073709551616 := Nat.pow_lt_pow_right (a := 2) (m := i) (n := 64) (by omega) h
theorem yfZ (a b : Nat) : eqI (a : Int) (b : Int) = decide (a = b) := by
 by_cases h : a = b
 ·subst h; simp [eqI]
 ·rw [yhK (by omega)]; simp [h]
theorem yrQ (a b : Nat) : ltI (a : Int) (b : Int) = decide (a < b) := by simp [ltI]
theorem yto (a b : Nat) : leI (a : Int) (b : Int) = decide (a ≤ b) := by simp [leI]
theorem yex {a b : Int} (h : 0 ≤ a - b) (h2 : a - b < 18446744073709551616) : yae .u64 a b = a - b := yf4 h h2
theorem yje {a b : Int} (h : 0 ≤ a + b) (h2 : a + b < 18446744073709551616) : yai .u64 a b = a + b := yf4 h h2
def Q6 : Nat := 2 ^ 192 * 2 ^ 192
theorem yeh {n : Nat} (h : n = 384) : 2 ^ n = Q6 := by
 obtain ⟨a, ha⟩ : ∃ a, a = 192 := ⟨_, rfl⟩
 have : n = a + a := by omega
 rw [this, Nat.pow_add, ha]; exact rfl
theorem ytl : 0 < Q6 := Nat.mul_pos (Nat.two_pow_pos _) (Nat.two_pow_pos _)
theorem ynX {a : Nat} (h : a ≤ 384) : 2 ^ a ≤ Q6 := by
 obtain ⟨n, hn⟩ : ∃ n, n = 384 := ⟨_, rfl⟩
 rw [← yeh hn]; exact Nat.pow_le_pow_right (by omega) (by omega)
theorem yqu {a : Nat} (h : a ≤ 384) {x : Nat} (hx : x < 2 ^ a) : x < Q6 := Nat.lt_of_lt_of_le hx (ynX h)
def wd (x i : Nat) : Nat := x / 2 ^ (64 * i) % 18446744073709551616
theorem ycN (x i : Nat) : wd x i < 18446744073709551616 := Nat.mod_lt _ (by omega)
theorem ybF (x i j : Nat) : (wd x i).testBit j = (decide (j < 64) && x.testBit (64 * i + j)) := by
 unfold wd
 rw [show (18446744073709551616 : Nat) = 2 ^ 64 from rfl, Nat.testBit_mod_two_pow, Nat.testBit_div_two_pow, Nat.add_comm]
theorem ycl (x i : Nat) (h : x < 2 ^ (64 * i)) : wd x i = 0 := by
 unfold wd; rw [Nat.div_eq_of_lt h]
def W (x : Nat) : Nat → Int := fun i => ((wd x i : Nat) : Int)
theorem ya5 (x i : Nat) : W x i = ((wd x i : Nat) : Int) := rfl
theorem W_zero : W 0 = fun _ => 0 := by
 funext i
 have : wd 0 i = 0 := ycl 0 i (Nat.two_pow_pos _)
 simp [ya5, this]
theorem yqx {x y : Nat} {n : Nat} (hx : x < 2 ^ (64 * n)) (hy : y < 2 ^ (64 * n)) (h : ∀ i, i < n → wd x i = wd y i) : x = y := by
 apply Nat.eq_of_testBit_eq
 intro j
 by_cases hj : j < 64 * n
 ·have h1 := congrArg (fun z => Nat.testBit z (j % 64)) (h (j / 64) (by omega))
  simp only [ybF] at h1
  have h2 : j % 64 < 64 := Nat.mod_lt _ (by omega)
  simp only [h2, decide_true, Bool.true_and] at h1
  rwa [show 64 * (j / 64) + j % 64 = j from by omega] at h1
 ·rw [Nat.testBit_lt_two_pow (Nat.lt_of_lt_of_le hx (Nat.pow_le_pow_right (by omega) (by omega))), Nat.testBit_lt_two_pow (Nat.lt_of_lt_of_le hy (Nat.pow_le_pow_right (by omega) (by omega)))]
theorem ytE (hi lo : Nat) (hh : hi < 18446744073709551616) (hl : lo < 18446744073709551616) : upd (upd (fun _ => 0) 0 (lo : Int)) 1 (hi : Int) = W (hi * 18446744073709551616 + lo) := by
 funext i
 by_cases h1 : i = 1
 ·subst h1
  rw [ybv, ya5]
  congr 1
  unfold wd
  rw [show 2 ^ (64 * 1) = 18446744073709551616 from rfl]; omega
 ·rw [yco _ _ _ _ h1]
  by_cases h0 : i = 0
  ·subst h0
   rw [ybv, ya5]
   congr 1
   unfold wd
   rw [show 2 ^ (64 * 0) = 1 from rfl]; omega
  ·rw [yco _ _ _ _ h0, ya5, ycl]
   ·rfl
   ·refine Nat.lt_of_lt_of_le (show _ < 2 ^ 128 from ?_) (Nat.pow_le_pow_right (by omega) (by omega))
    rw [show (2 : Nat) ^ 128 = 340282366920938463463374607431768211456 from rfl]; omega
theorem ytY (lo : Nat) (hl : lo < 18446744073709551616) : upd (fun _ => 0) 0 (lo : Int) = W lo := by
 have h := ytE 0 lo (by omega) hl
 have h2 : upd (upd (fun _ => (0 : Int)) 0 (lo : Int)) 1 ((0 : Nat) : Int) = upd (fun _ => 0) 0 (lo : Int) := by
  funext i
  by_cases h1 : i = 1
  ·subst h1; rw [ybv, yco _ _ _ _ (by omega)]; rfl
  ·rw [yco _ _ _ _ h1]
 rw [h2] at h
 rw [h]; congr 1; omega
theorem yjB (x n i : Nat) : wd (x ||| 2 ^ n) i = if i = n / 64 then wd x i ||| 2 ^ (n % 64) else wd x i := by
 apply Nat.eq_of_testBit_eq
 intro j
 have hm : n % 64 < 64 := Nat.mod_lt _ (by omega)
 rw [ybF, Nat.testBit_or, Nat.testBit_two_pow]
 by_cases hi : i = n / 64
 ·rw [if_pos hi, Nat.testBit_or, ybF, Nat.testBit_two_pow]
  by_cases hj : j < 64
  ·have : decide (n = 64 * i + j) = decide (n % 64 = j) := by rw [decide_eq_decide]; omega
   simp [hj, this]
  ·have : ¬ (n % 64 = j) := by omega
   simp [hj, this]
 ·rw [if_neg hi, ybF]
  by_cases hj : j < 64
  ·have : ¬ (n = 64 * i + j) := by omega
   simp [this]
  ·simp [hj]
theorem ymt (x n : Nat) : upd (W x) (n / 64) (orI .u64 (W x (n / 64)) (ybA .u64 1 ((n % 64 : Nat) : Int))) = W (x ||| 2 ^ n) := by
 have hm : n % 64 < 64 := Nat.mod_lt _ (by omega)
 rw [yoU _ hm, ya5, ygR _ _ (ycN _ _) (Nat.pow_lt_pow_right (by omega) hm)]
 funext i
 by_cases hi : i = n / 64
 ·subst hi
  rw [ybv, ya5, yjB, if_pos rfl]
 ·rw [yco _ _ _ _ hi, ya5, ya5, yjB, if_neg hi]
def Hi (x : Nat) : Int := ((x / 18446744073709551616 : Nat) : Int)
def Lo (x : Nat) : Int := ((x % 18446744073709551616 : Nat) : Int)
def two (hi lo : Nat) : Nat := hi * 18446744073709551616 + lo
theorem ytB {hi lo : Nat} (h : lo < 18446744073709551616) : Hi (two hi lo) = hi := by unfold Hi two; congr 1; omega
theorem ys3 {hi lo : Nat} (h : lo < 18446744073709551616) : Lo (two hi lo) = lo := by unfold Lo two; congr 1; omega
theorem ys4 {hi lo : Nat} (h : hi < 18446744073709551616) (h2 : lo < 18446744073709551616) : two hi lo < 2 ^ 128 := by
 unfold two; rw [show (2 : Nat) ^ 128 = 340282366920938463463374607431768211456 from rfl]; omega
theorem ynT {x : Nat} (h : x < 2 ^ 128) : x / 18446744073709551616 < 18446744073709551616 := by
 rw [show (2 : Nat) ^ 128 = 340282366920938463463374607431768211456 from rfl] at h; omega
theorem ypb (x : Nat) : x % 18446744073709551616 < 18446744073709551616 := Nat.mod_lt _ (by omega)
theorem ypE (x j : Nat) : (x / 18446744073709551616).testBit j = x.testBit (64 + j) := by
 rw [show (18446744073709551616 : Nat) = 2 ^ 64 from rfl, Nat.testBit_div_two_pow, Nat.add_comm]
theorem ypv (x j : Nat) : (x % 18446744073709551616).testBit j = (decide (j < 64) && x.testBit j) := by
 rw [show (18446744073709551616 : Nat) = 2 ^ 64 from rfl, Nat.testBit_mod_two_pow]
theorem ypj (x y : Nat) : (eqI (Hi x) (Hi y) && eqI (Lo x) (Lo y)) = decide (x = y) := by
 unfold Hi Lo
 rw [yfZ, yfZ]
 by_cases h : x = y
 ·subst h; simp
 ·have : ¬ (x / 18446744073709551616 = y / 18446744073709551616 ∧ x % 18446744073709551616 = y % 18446744073709551616) := by omega
  rw [← Bool.decide_and]
  simp [h, this]
theorem yrG (x : Nat) (h : x < 2 ^ 128) : upd (upd (fun _ => 0) 0 (Lo x)) 1 (Hi x) = W x := by
 have := ytE (x / 18446744073709551616) (x % 18446744073709551616) (ynT h) (ypb x)
 unfold Lo Hi
 rw [this]; congr 1; omega
theorem yul (x : Nat) (h : x < 2 ^ 128) : W x 1 = Hi x := by
 rw [ya5]; unfold Hi wd
 congr 1
 rw [show 2 ^ (64 * 1) = 18446744073709551616 from rfl]
 exact Nat.mod_eq_of_lt (ynT h)
theorem yui (x : Nat) : W x 0 = Lo x := by
 rw [ya5]; unfold Lo wd
 rw [show 2 ^ (64 * 0) = 1 from rfl, Nat.div_one]
theorem ymn (x i : Nat) (h : x < 2 ^ 128) (hi : 2 ≤ i) : W x i = 0 := by
 rw [ya5, ycl x i (Nat.lt_of_lt_of_le h (Nat.pow_le_pow_right (by omega) (by omega)))]; rfl
theorem yrO (f : Bool → Bool → Bool) (op : Nat → Nat → Nat) (hop : ∀ a b j, (op a b).testBit j = f (a.testBit j) (b.testBit j)) (hf : f false false = false) (x y : Nat) :
  op x y / 18446744073709551616 = op (x / 18446744073709551616) (y / 18446744073709551616) ∧ op x y % 18446744073709551616 = op (x % 18446744073709551616) (y % 18446744073709551616) := by
 constructor
 ·apply Nat.eq_of_testBit_eq; intro j; rw [ypE, hop, hop, ypE, ypE]
 ·apply Nat.eq_of_testBit_eq; intro j; rw [ypv, hop, hop, ypv, ypv]
  by_cases hj : j < 64
  ·simp [hj]
  ·simp [hj, hf]
theorem ytk (x y : Nat) (hx : x < 2 ^ 128) (hy : y < 2 ^ 128) : orI .u64 (Hi x) (Hi y) = Hi (x ||| y) ∧ orI .u64 (Lo x) (Lo y) = Lo (x ||| y) := by
 obtain ⟨h1, h2⟩ := yrO (· || ·) (· ||| ·) (fun a b j => Nat.testBit_or a b j) rfl x y
 unfold Hi Lo
 exact ⟨by rw [ygR _ _ (ynT hx) (ynT hy)]; exact congrArg _ h1.symm, by rw [ygR _ _ (ypb x) (ypb y)]; exact congrArg _ h2.symm⟩
theorem ysR (x y : Nat) (hx : x < 2 ^ 128) (hy : y < 2 ^ 128) : yrU .u64 (Hi x) (Hi y) = Hi (x ^^^ y) ∧ yrU .u64 (Lo x) (Lo y) = Lo (x ^^^ y) := by
 obtain ⟨h1, h2⟩ := yrO (· ^^ ·) (· ^^^ ·) (fun a b j => Nat.testBit_xor a b j) rfl x y
 unfold Hi Lo
 exact ⟨by rw [ypm _ _ (ynT hx) (ynT hy)]; exact congrArg _ h1.symm, by rw [ypm _ _ (ypb x) (ypb y)]; exact congrArg _ h2.symm⟩
end Go.Ev.S

/- Digits of natural numbers, as rows have them; texts of bytes as numbers. -/
set_option linter.unusedVariables false
set_option linter.unusedSimpArgs false
namespace Go.Ev.S
open Go Go.Ev
def dg (k x i : Nat) : Nat := x / 2 ^ (k * i) % 2 ^ k
def G (k x : Nat) : Nat → Int := fun i => ((dg k x i : Nat) : Int)
theorem ybt (k x i : Nat) : G k x i = ((dg k x i : Nat) : Int) := rfl
theorem ydS (k i : Nat) : 2 ^ (k * (i + 1)) = 2 ^ (k * i) * 2 ^ k := by rw [show k * (i + 1) = k * i + k from by rw [Nat.mul_add, Nat.mul_one], Nat.pow_add]
theorem ybN (k x i : Nat) : dg k x i < 2 ^ k := Nat.mod_lt _ (Nat.two_pow_pos k)
theorem ydP (k x i : Nat) (h : x < 2 ^ (k * i)) : dg k x i = 0 := by unfold dg; rw [Nat.div_eq_of_lt h, Nat.zero_mod]
theorem yjv {k i j : Nat} (h : i ≤ j) : 2 ^ (k * i) ≤ 2 ^ (k * j) := Nat.pow_le_pow_right (by omega) (Nat.mul_le_mul_left k h)
theorem yjc (k x n i : Nat) (h : x < 2 ^ (k * n)) (hi : n ≤ i) : dg k x i = 0 := ydP k x i (Nat.lt_of_lt_of_le h (yjv hi))
theorem yel (k : Nat) : G k 0 = fun _ => 0 := by
 funext i
 rw [ybt, ydP k 0 i (Nat.two_pow_pos _)]; rfl
theorem ybY (k x i : Nat) : x % 2 ^ (k * (i + 1)) = x % 2 ^ (k * i) + dg k x i * 2 ^ (k * i) := by
 unfold dg
 rw [ydS, Nat.mod_mul, Nat.mul_comm (2 ^ (k * i))]
theorem ydY (k x i : Nat) : x / 2 ^ (k * i) = dg k x i + x / 2 ^ (k * (i + 1)) * 2 ^ k := by
 unfold dg
 rw [ydS, ← Nat.div_div_eq_div_mul]
 have := Nat.div_add_mod (x / 2 ^ (k * i)) (2 ^ k)
 rw [Nat.mul_comm] at this
 omega
theorem yh3 (k x i j : Nat) : dg k (x / 2 ^ (k * i)) j = dg k x (i + j) := by
 unfold dg
 rw [Nat.div_div_eq_div_mul, ← Nat.pow_add, Nat.mul_add]
theorem ymb (k x i j : Nat) (h : j < i) : dg k (x % 2 ^ (k * i)) j = dg k x j := by
 unfold dg
 have h1 : 2 ^ (k * i) = 2 ^ (k * j) * (2 ^ k * 2 ^ (k * (i - j - 1))) := by
  rw [← Nat.pow_add, ← Nat.pow_add]; congr 1
  have : i = j + (1 + (i - j - 1)) := by omega
  conv => lhs; rw [this]
  rw [Nat.mul_add, Nat.mul_add, Nat.mul_one]
 rw [h1, Nat.mod_mul_right_div_self, Nat.mod_mul_right_mod]
theorem ysp (k x : Nat) (h : x < 2 ^ k) : dg k x 0 = x := by unfold dg; rw [Nat.mul_zero, Nat.pow_zero, Nat.div_one, Nat.mod_eq_of_lt h]
theorem yoB (k z w i j : Nat) (hz : z < 2 ^ (k * i)) (hw : w < 2 ^ k) : dg k (z + w * 2 ^ (k * i)) j = if j = i then w else dg k z j := by
 have hP := Nat.two_pow_pos (k * i)
 by_cases hj : j = i
 ·subst hj
  rw [if_pos rfl]
  unfold dg
  rw [Nat.add_mul_div_right _ _ hP, Nat.div_eq_of_lt hz, Nat.zero_add, Nat.mod_eq_of_lt hw]
 ·rw [if_neg hj]
  by_cases hlt : j < i
  ·have h1 := ymb k (z + w * 2 ^ (k * i)) i j hlt
   rw [Nat.add_mul_mod_self_right, Nat.mod_eq_of_lt hz] at h1
   exact h1.symm
  ·rw [yjc k z i j hz (by omega), ydP]
   have h1 : z + w * 2 ^ (k * i) < 2 ^ (k * (i + 1)) := by
    rw [ydS, Nat.mul_comm (2 ^ (k * i))]
    have : (w + 1) * 2 ^ (k * i) ≤ 2 ^ k * 2 ^ (k * i) := Nat.mul_le_mul_right _ hw
    rw [Nat.add_mul, Nat.one_mul] at this
    omega
   exact Nat.lt_of_lt_of_le h1 (yjv (by omega))
theorem ypJ (k z w i : Nat) (hz : z < 2 ^ (k * i)) (hw : w < 2 ^ k) : z + w * 2 ^ (k * i) < 2 ^ (k * (i + 1)) := by
 rw [ydS, Nat.mul_comm (2 ^ (k * i))]
 have : (w + 1) * 2 ^ (k * i) ≤ 2 ^ k * 2 ^ (k * i) := Nat.mul_le_mul_right _ hw
 rw [Nat.add_mul, Nat.one_mul] at this
 omega
theorem yp2 (k z w i : Nat) (hz : z < 2 ^ (k * i)) (hw : w < 2 ^ k) : upd (G k z) i (w : Int) = G k (z + w * 2 ^ (k * i)) := by
 funext j
 rw [ybt, yoB k z w i j hz hw]
 by_cases hj : j = i
 ·subst hj; rw [ybv, if_pos rfl]
 ·rw [yco _ _ _ _ hj, if_neg hj, ybt]
theorem ygn (k x i : Nat) : x = x % 2 ^ (k * i) + dg k x i * 2 ^ (k * i) + x / 2 ^ (k * (i + 1)) * 2 ^ (k * (i + 1)) := by
 have h1 := Nat.div_add_mod x (2 ^ (k * (i + 1)))
 rw [ybY, Nat.mul_comm] at h1
 omega
theorem yse (k x w i j : Nat) (hw : w < 2 ^ k) : dg k (x % 2 ^ (k * i) + w * 2 ^ (k * i) + x / 2 ^ (k * (i + 1)) * 2 ^ (k * (i + 1))) j = if j = i then w else dg k x j := by
 have hP := Nat.two_pow_pos (k * i)
 have hr : x % 2 ^ (k * i) < 2 ^ (k * i) := Nat.mod_lt _ hP
 have hl := ypJ k _ w i hr hw
 by_cases hj : j ≤ i
 ·have h1 := ymb k (x % 2 ^ (k * i) + w * 2 ^ (k * i) + x / 2 ^ (k * (i + 1)) * 2 ^ (k * (i + 1))) (i + 1) j (by omega)
  rw [Nat.add_mul_mod_self_right, Nat.mod_eq_of_lt hl, yoB k _ w i j hr hw] at h1
  rw [← h1]
  by_cases he : j = i
  ·simp [he]
  ·rw [if_neg he, if_neg he, ymb k x i j (by omega)]
 ·rw [if_neg (by omega)]
  have h1 := yh3 k (x % 2 ^ (k * i) + w * 2 ^ (k * i) + x / 2 ^ (k * (i + 1)) * 2 ^ (k * (i + 1))) (i + 1) (j - (i + 1))
  rw [show i + 1 + (j - (i + 1)) = j from by omega, Nat.add_mul_div_right _ _ (Nat.two_pow_pos _), Nat.div_eq_of_lt hl, Nat.zero_add] at h1
  rw [← h1, yh3, show i + 1 + (j - (i + 1)) = j from by omega]
theorem yrM (k x w i : Nat) (hw : w < 2 ^ k) : upd (G k x) i (w : Int) = G k (x % 2 ^ (k * i) + w * 2 ^ (k * i) + x / 2 ^ (k * (i + 1)) * 2 ^ (k * (i + 1))) := by
 funext j
 rw [ybt, yse k x w i j hw]
 by_cases hj : j = i
 ·subst hj; rw [ybv, if_pos rfl]
 ·rw [yco _ _ _ _ hj, if_neg hj, ybt]
def val (a : List UInt8) : Nat := a.foldl (fun v b => v * 256 + b.toNat) 0
theorem yjZ (a : List UInt8) : ∀ (v : Nat), a.foldl (fun v b => v * 256 + b.toNat) v = v * 256 ^ a.length + val a := by
 induction a with
 | nil => intro v; simp [val]
 | cons b l ih =>
  intro v
  simp only [List.foldl_cons, List.length_cons, val]
  rw [ih, ih (0 * 256 + b.toNat), Nat.pow_succ]
  rw [Nat.add_mul, Nat.add_mul, Nat.mul_assoc, Nat.mul_comm 256]
  omega
theorem yjr : val [] = 0 := rfl
theorem ymX (b : UInt8) (l : List UInt8) : val (b :: l) = b.toNat * 256 ^ l.length + val l := by
 show (b :: l).foldl _ 0 = _
 rw [List.foldl_cons, yjZ, Nat.zero_mul, Nat.zero_add]
theorem ym6 (a b : List UInt8) : val (a ++ b) = val a * 256 ^ b.length + val b := by
 show (a ++ b).foldl _ 0 = _
 rw [List.foldl_append, yjZ]
 rfl
theorem ymV (a : List UInt8) (b : UInt8) : val (a ++ [b]) = val a * 256 + b.toNat := by
 rw [ym6]; simp [val]
theorem yrs (b : UInt8) : b.toNat < 256 := b.toNat_lt
theorem ymy (a : List UInt8) : val a < 256 ^ a.length := by
 induction a with
 | nil => simp [val]
 | cons b l ih =>
  rw [ymX, List.length_cons, Nat.pow_succ]
  have := yrs b
  have : (b.toNat + 1) * 256 ^ l.length ≤ 256 * 256 ^ l.length := Nat.mul_le_mul_right _ (by omega)
  rw [Nat.add_mul] at this
  omega
theorem yp9 (n : Nat) : 256 ^ n = 2 ^ (8 * n) := by rw [Nat.pow_mul]
def nb (x : Nat) : List UInt8 := if h : x = 0 then [] else nb (x / 256) ++ [UInt8.ofNat (x % 256)]
decreasing_by omega
theorem ybe : nb 0 = [] := by rw [nb]; simp
theorem ye8 {x : Nat} (h : x ≠ 0) : nb x = nb (x / 256) ++ [UInt8.ofNat (x % 256)] := by rw [nb]; simp [h]
theorem ymj {n : Nat} (h : n < 256) : (UInt8.ofNat n).toNat = n := by
 rw [UInt8.toNat_ofNat']
 exact Nat.mod_eq_of_lt h
theorem ybB (x : Nat) : val (nb x) = x := by
 induction x using Nat.strongRecOn with
 | _ x ih =>
  by_cases h : x = 0
  ·subst h; rw [ybe]; rfl
  ·rw [ye8 h, ymV, ih (x / 256) (by omega), ymj (Nat.mod_lt _ (by omega))]
   omega
def ynW (a : List UInt8) : Bool := match a with | [] => true | b :: _ => !(b.toNat == 0)
theorem ygB {a b : List UInt8} (h : a ≠ []) : ynW (a ++ b) = ynW a := by cases a <;> simp_all [ynW]
theorem ysg (x : Nat) : ynW (nb x) = true := by
 induction x using Nat.strongRecOn with
 | _ x ih =>
  by_cases h : x = 0
  ·subst h; rw [ybe]; rfl
  ·rw [ye8 h]
   by_cases h2 : x / 256 = 0
   ·rw [h2, ybe]
    have : x % 256 ≠ 0 := by omega
    have h3 := ymj (Nat.mod_lt x (show 0 < 256 by omega))
    simp only [List.nil_append, ynW, h3]
    simpa using this
   ·have hne : nb (x / 256) ≠ [] := by rw [ye8 h2]; simp
    rw [ygB hne]
    exact ih _ (by omega)
theorem ymA {a : List UInt8} (h : ynW a = true) : nb (val a) = a := by
 induction hn : a.length generalizing a with
 | zero => have := List.length_eq_zero_iff.1 hn; subst this; exact ybe
 | succ n ih =>
  have hne : a ≠ [] := by intro e; subst e; simp at hn
  have h1 := List.dropLast_concat_getLast hne
  generalize a.dropLast = c at h1
  generalize a.getLast hne = b at h1
  subst h1
  have hlen : c.length = n := by simpa using hn
  have hb := yrs b
  rw [ymV]
  by_cases hc : c = []
  ·subst hc
   have : b.toNat ≠ 0 := by simpa [ynW] using h
   rw [yjr, Nat.zero_mul, Nat.zero_add, ye8 this, Nat.div_eq_of_lt hb, ybe, Nat.mod_eq_of_lt hb]
   simp
  ·rw [ygB hc] at h
   have ihc := ih h hlen
   have hv : val c ≠ 0 := by
    intro e
    rw [e, ybe] at ihc
    exact hc ihc.symm
   rw [ye8 (by omega), show (val c * 256 + b.toNat) / 256 = val c from by omega, show (val c * 256 + b.toNat) % 256 = b.toNat from by omega, ihc]
   simp
theorem ytb {x y : Nat} (h : nb x = nb y) : x = y := by rw [← ybB x, h, ybB]
theorem ycD (x n : Nat) : (nb x).length ≤ n ↔ x < 256 ^ n := by
 induction n generalizing x with
 | zero =>
  constructor
  ·intro h
   have : nb x = [] := List.length_eq_zero_iff.1 (by omega)
   have h2 := ybB x
   rw [this] at h2
   simp [val] at h2 ⊢; omega
  ·intro h
   have : x = 0 := by simp at h; omega
   subst this; rw [ybe]; simp
 | succ n ih =>
  by_cases h : x = 0
  ·subst h; rw [ybe]; simp [Nat.pow_pos]
  ·rw [ye8 h, List.length_append, List.length_singleton, Nat.pow_succ]
   have := ih (x / 256)
   rw [Nat.div_lt_iff_lt_mul (by omega)] at this
   omega
theorem ysv {x : Nat} (h : x ≠ 0) : nb x ≠ [] := by rw [ye8 h]; simp
theorem ym0 (a : List UInt8) : ∀ (i : Nat), i < a.length → ((a[a.length - 1 - i]?).getD 0).toNat = dg 8 (val a) i := by
 induction a with
 | nil => intro i hi; simp at hi
 | cons b l ih =>
  intro i hi
  rw [List.length_cons] at hi ⊢
  have hl := ymy l
  rw [yp9] at hl
  rw [ymX, yp9, Nat.add_comm (b.toNat * _)]
  have h2 := yoB 8 (val l) b.toNat l.length i hl (by have := yrs b; simpa using this)
  rw [h2]
  by_cases he : i = l.length
  ·subst he
   rw [if_pos rfl, show l.length + 1 - 1 - l.length = 0 from by omega]
   rfl
  ·rw [if_neg he, show l.length + 1 - 1 - i = (l.length - 1 - i) + 1 from by omega, List.getElem?_cons_succ]
   exact ih i (by omega)
end Go.Ev.S

/- Rows of digits: a digit set, carried, cut; bytes the highest first. Whole numbers of the machine, plainly. -/
set_option linter.unusedVariables false
set_option linter.unusedSimpArgs false
namespace Go.Ev.S
open Go Go.Ev
theorem ybj (p : Prop) : gd true p = p := rfl
theorem ybQ (p q : Prop) : br true p q = p := rfl
theorem yrn (p q : Prop) : br false p q = q := rfl
theorem ydw {a b : Int} (h : 0 ≤ a) (h2 : a < 9223372036854775808) (hb : 0 < b) : yaH .i64 a b = a / b := by
 show IntKind.wrap .i64 (a.tdiv b) = _
 rw [Int.tdiv_eq_ediv_of_nonneg h]
 have h1 : 0 ≤ a / b := Int.ediv_nonneg h (by omega)
 have h3 : a / b ≤ a := Int.ediv_le_self _ h
 exact yf5 (by omega) (by omega)
theorem yka {k : IntKind} {a b : Int} (h : 0 ≤ a) : yb6 k a b = a % b := Int.tmod_eq_emod_of_nonneg h
theorem yci (n : Int) : cvI .u32 n = n % 4294967296 := yl3 n
theorem ytv (n : Int) : cvI .u8 n = n % 256 := ypR n
theorem yiw {k : IntKind} {a : Int} {j : Nat} (h : j ≤ k.bits) : yaQ k a (j : Int) = a / 2 ^ j := by
 have h1 : min (Int.toNat (j : Int)) k.bits = j := by rw [Int.toNat_natCast]; omega
 simp only [yaQ, h1]
 exact Int.fdiv_eq_ediv_of_nonneg _ (Int.le_of_lt (Int.pow_pos (by omega)))
theorem yd5 (a : Int) : yaQ .u64 a 32 = a / 4294967296 := yiw (k := .u64) (j := 32) (by decide)
theorem ynJ (a : Int) : yaQ .i64 a 32 = a / 4294967296 := yiw (k := .i64) (j := 32) (by decide)
theorem yoM {a b : Int} (h : 0 ≤ a * b) (h2 : a * b < 18446744073709551616) : yaR .u64 a b = a * b := yf4 h h2
theorem ykE {k N N' w j : Nat} (h : N' + dg k N j * 2 ^ (k * j) = N + w * 2 ^ (k * j)) (hw : w < 2 ^ k) : upd (G k N) j (w : Int) = G k N' := by
 rw [yrM k N w j hw]
 congr 1
 have := ygn k N j
 omega
theorem ysU (g : Nat → Int) (i : Nat) (v w : Int) (h : v = w) : upd g i v = upd g i w := by rw [h]
def wl (k x : Nat) : Nat := if h : x = 0 ∨ k = 0 then 0 else wl k (x / 2 ^ k) + 1
termination_by x
decreasing_by
 have hk : 1 < 2 ^ k := Nat.one_lt_two_pow (by omega)
 exact Nat.div_lt_self (by omega) hk
theorem ydp (k : Nat) : wl k 0 = 0 := by rw [wl]; simp
theorem yiu {k x : Nat} (hx : x ≠ 0) (hk : k ≠ 0) : wl k x = wl k (x / 2 ^ k) + 1 := by rw [wl]; simp [hx, hk]
theorem yer (k : Nat) (hk : k ≠ 0) (x : Nat) : x < 2 ^ (k * wl k x) := by
 induction x using Nat.strongRecOn with
 | _ x ih =>
  by_cases h : x = 0
  ·subst h; exact Nat.two_pow_pos _
  ·rw [yiu h hk, ydS]
   have := ih (x / 2 ^ k) (Nat.div_lt_self (by omega) (Nat.one_lt_two_pow hk))
   exact (Nat.div_lt_iff_lt_mul (Nat.two_pow_pos k)).1 this
theorem yfv (k : Nat) (hk : k ≠ 0) (x n : Nat) : wl k x ≤ n ↔ x < 2 ^ (k * n) := by
 constructor
 ·intro h; exact Nat.lt_of_lt_of_le (yer k hk x) (yjv h)
 ·induction n generalizing x with
  | zero =>
   intro h
   have : x = 0 := by simp at h; omega
   subst this; rw [ydp]; omega
  | succ n ih =>
   intro h
   by_cases hx : x = 0
   ·subst hx; rw [ydp]; omega
   ·rw [yiu hx hk]
    have := ih (x / 2 ^ k) (by rw [Nat.div_lt_iff_lt_mul (Nat.two_pow_pos k), ← ydS]; exact h)
    omega
theorem ymW (k : Nat) (hk : k ≠ 0) (x : Nat) (h : x ≠ 0) : dg k x (wl k x - 1) ≠ 0 := by
 intro he
 have h1 := yer k hk x
 have hp : wl k x ≠ 0 := by rw [yiu h hk]; omega
 have h2 := ybY k x (wl k x - 1)
 rw [show wl k x - 1 + 1 = wl k x from by omega, Nat.mod_eq_of_lt h1, he, Nat.zero_mul, Nat.add_zero] at h2
 have h3 : x < 2 ^ (k * (wl k x - 1)) := by
  have := Nat.mod_lt x (Nat.two_pow_pos (k * (wl k x - 1)))
  omega
 have := (yfv k hk x _).2 h3
 omega
theorem ytS (k : Nat) (hk : k ≠ 0) (x n : Nat) (h : x < 2 ^ (k * n)) (ht : n = 0 ∨ dg k x (n - 1) ≠ 0) : wl k x = n := by
 have h1 := (yfv k hk x n).2 h
 rcases ht with rfl | ht
 ·omega
 ·apply Classical.byContradiction
  intro hne
  exact ht (ydP k x (n - 1) ((yfv k hk x (n - 1)).1 (by omega)))
theorem ytP (x : Nat) : wl 8 x = (nb x).length := by
 have h1 := (yfv 8 (by omega) x (nb x).length).2 (by rw [← yp9]; exact (ycD x _).1 (Nat.le_refl _))
 have h2 := (ycD x (wl 8 x)).2 (by rw [yp9]; exact yer 8 (by omega) x)
 omega
theorem ycm {k x y : Nat} (hk : k ≠ 0) (h : x ≤ y) : wl k x ≤ wl k y := (yfv k hk x _).2 (Nat.lt_of_le_of_lt h (yer k hk y))
theorem yqt : ∀ (n x : Nat) (g : Nat → Int), (∀ j, j < n → g j = (dg 8 x (n - 1 - j) : Int)) → x < 2 ^ (8 * n) → (n = 0 ∨ dg 8 x (n - 1) ≠ 0) → ya1 n g = nb x := by
 intro n
 induction n with
 | zero =>
  intro x g _ hx _
  have : x = 0 := by simp at hx; omega
  subst this; rw [ybe]; rfl
 | succ n ih =>
  intro x g hg hx ht
  have hx0 : x ≠ 0 := by
   intro e; subst e
   rcases ht with h | h
   ·omega
   ·exact h (ydP 8 0 _ (Nat.two_pow_pos _))
  have e8 : (2 : Nat) ^ 8 = 256 := rfl
  have hd : ∀ j, dg 8 (x / 256) j = dg 8 x (1 + j) := fun j => by
   have := yh3 8 x 1 j
   rwa [show 2 ^ (8 * 1) = 256 from rfl] at this
  have h1 : ya1 n g = nb (x / 256) := by
   refine ih (x / 256) g (fun j hj => ?_) ?_ ?_
   ·rw [hg j (by omega), hd]; congr 2; omega
   ·rw [Nat.div_lt_iff_lt_mul (by omega)]; rw [ydS, e8] at hx; exact hx
   ·rcases Nat.eq_zero_or_pos n with h | h
    ·exact .inl h
    ·right
     rw [hd, show 1 + (n - 1) = n + 1 - 1 from by omega]
     exact ht.resolve_left (by omega)
  have h2 : ya1 (n + 1) g = ya1 n g ++ [UInt8.ofNat (g n).toNat] := by
   unfold ya1
   rw [List.range_succ, List.map_append]; rfl
  rw [h2, h1, ye8 hx0, hg n (by omega), Int.toNat_natCast, show n + 1 - 1 - n = 0 from by omega]
  congr 2
  unfold dg
  rw [Nat.mul_zero, Nat.pow_zero, Nat.div_one]
theorem yk0 (n o : Nat) (g : Nat → Int) : ya1 n (shift o g) = ya1 n (fun j => g (o + j)) := by
 unfold ya1
 refine List.map_congr_left fun i _ => ?_
 rw [yb5]
def BE (L i x : Nat) : Nat → Int := fun j => if L - i ≤ j ∧ j < L then (dg 8 x (L - 1 - j) : Int) else 0
theorem yr2 (L x : Nat) : BE L 0 x = fun _ => 0 := by
 funext j; unfold BE; rw [if_neg (by omega)]
theorem ysQ (L i x : Nat) (hi : i < L) : upd (BE L i x) (L - 1 - i) (dg 8 x i : Int) = BE L (i + 1) x := by
 funext j
 by_cases hj : j = L - 1 - i
 ·subst hj
  rw [ybv]; unfold BE
  rw [if_pos (by omega), show L - 1 - (L - 1 - i) = i from by omega]
 ·rw [yco _ _ _ _ hj]; unfold BE
  by_cases h : L - i ≤ j ∧ j < L
  ·rw [if_pos h, if_pos (by omega)]
  ·rw [if_neg h, if_neg (by omega)]
theorem ytt (L x j : Nat) (hj : j < L) : BE L L x j = (dg 8 x (L - 1 - j) : Int) := by unfold BE; rw [if_pos (by omega)]
theorem yq5 (L o n x : Nat) (ho : o + n = L) (hx : x < 2 ^ (8 * n)) (ht : n = 0 ∨ dg 8 x (n - 1) ≠ 0) : ya1 n (fun j => BE L L x (o + j)) = nb x := by
 refine yqt n x _ (fun j hj => ?_) hx ht
 rw [ytt L x _ (by omega)]; congr 2; omega
end Go.Ev.S

/- Natural numbers as rows of words: made of texts, told as texts, cut, held against each other. -/
set_option linter.unusedVariables false
set_option linter.unusedSimpArgs false
set_option maxRecDepth 8000
namespace Go.Ev.S
open Go Go.Ev
theorem ysw {k : IntKind} (hk : k.signed = false) (a b : Nat) (ha : a < 2 ^ k.bits) (hb : b < 2 ^ k.bits) : orI k a b = ((a ||| b : Nat) : Int) := by
 have h3 : a ||| b < 2 ^ k.bits := Nat.or_lt_two_pow ha hb
 show IntKind.wrap k (((BitVec.ofInt k.bits (a : Int) ||| BitVec.ofInt k.bits (b : Int) : BitVec k.bits).toNat : Nat) : Int) = _
 rw [BitVec.toNat_or, BitVec.ofInt_natCast, BitVec.ofInt_natCast, BitVec.toNat_ofNat, BitVec.toNat_ofNat, Nat.mod_eq_of_lt ha, Nat.mod_eq_of_lt hb]
 simp only [IntKind.wrap, hk]
 have : ((a ||| b : Nat) : Int) % 2 ^ k.bits = ((a ||| b : Nat) : Int) := by
  refine Int.emod_eq_of_lt (by omega) ?_
  have e : ((2 ^ k.bits : Nat) : Int) = (2 : Int) ^ k.bits := by simp
  rw [← e]; omega
 simpa using this
theorem ynZ {k : IntKind} (hk : k.signed = false) (a s : Nat) (hs : s ≤ k.bits) : ybA k a s = ((a * 2 ^ s % 2 ^ k.bits : Nat) : Int) := by
 have h1 : min (Int.toNat (s : Int)) k.bits = s := by rw [Int.toNat_natCast]; omega
 simp only [ybA, h1, IntKind.wrap, hk]
 simp
theorem yqX (d b s : Nat) (hd : d < 2 ^ s) (hs : s + 8 ≤ 32) (hb : b < 256) : orI .u32 (d : Int) (ybA .u32 (b : Int) (s : Int)) = ((d + b * 2 ^ s : Nat) : Int) := by
 have hP := Nat.two_pow_pos s
 have e32 : (2 : Nat) ^ 32 = 4294967296 := rfl
 have h1 : b * 2 ^ s + 2 ^ s ≤ 2 ^ 32 := by
  have h2 : (b + 1) * 2 ^ s ≤ 256 * 2 ^ s := Nat.mul_le_mul_right _ (by omega)
  have h3 : 256 * 2 ^ s ≤ 2 ^ 32 := by
   rw [show (256 : Nat) = 2 ^ 8 from rfl, ← Nat.pow_add]; exact Nat.pow_le_pow_right (by omega) (by omega)
  rw [Nat.add_mul] at h2; omega
 rw [ynZ (k := .u32) rfl b s (by simp [IntKind.bits]; omega)]
 have hb32 : IntKind.bits .u32 = 32 := rfl
 rw [hb32, Nat.mod_eq_of_lt (by omega), ysw (k := .u32) rfl _ _ (by rw [hb32]; omega) (by rw [hb32]; omega)]
 congr 1
 have := Nat.shiftLeft_add_eq_or_of_lt hd b
 rw [Nat.shiftLeft_eq] at this
 rw [Nat.or_comm, ← this]; omega
theorem ygJ (a : List UInt8) (i : Nat) (hi : i < a.length) : yaI a (a.length - 1 - i) = (dg 8 (val a) i : Int) := by
 unfold yaI
 rw [ym0 a i hi]
def May (a : List UInt8) : Prop := a.length ≤ 16384 ∧ ynW a = true
instance (a : List UInt8) : Decidable (May a) := inferInstanceAs (Decidable (_ ∧ _))
theorem ycY (a : List UInt8) : eqS a [] = decide (a = []) := by cases a <;> simp [eqS]
theorem ygM (b : UInt8) (l : List UInt8) : yaI (b :: l) 0 = (b.toNat : Int) := rfl
theorem yaW (a : List UInt8) (K : Int → Prop) : zbi a K = K (if May a then 0 else 2) := by
 rw [zbi.is]; unfold zbi.d
 by_cases h : a.length ≤ 16384
 ·rw [yau (yb0 (by omega)), ycY]
  cases a with
  | nil => rw [yau (by simp), if_pos ⟨by simp, rfl⟩]
  | cons b l =>
   have hl : (0 : Int) < ((b :: l).length : Int) := by simp only [List.length_cons]; omega
   rw [yaD (by simp), ya2 (ybn hl), ygM]
   by_cases hb : b.toNat = 0
   ·rw [yaD (yoi (by omega)), if_neg]
    intro hm; have := hm.2; simp [ynW, hb] at this
   ·rw [yau (yhK (by omega)), if_pos ⟨h, by simpa [ynW] using hb⟩]
 ·rw [yaD (ybn (by omega)), if_neg fun hm => h hm.1]
theorem ymi (k x q s : Nat) (h : x < 2 ^ (k * q + s)) : dg k x q < 2 ^ s := by
 unfold dg
 refine Nat.lt_of_le_of_lt (Nat.mod_le _ _) ?_
 rw [Nat.div_lt_iff_lt_mul (Nat.two_pow_pos _), ← Nat.pow_add, Nat.add_comm s]
 exact h
theorem yhD (a : List UInt8) (hL : a.length ≤ 1000000) (n : Nat) (hn : n = (a.length + 3) / 4) (c m : Nat) (k0 : Nat → Nat → Nat → (Nat → Int) → Prop) (h : k0 n c m (G 32 (val a))) :
  ∀ (j i : Nat), i + j = a.length → zcc.l3 k0 (j + 1) a n c a.length i m (G 32 (val a % 2 ^ (8 * i))) := by
 intro j
 induction j with
 | zero =>
  intro i hi
  unfold zcc.l3 zcc.l3.step
  rw [yau (yb0 (by omega)), Nat.mod_eq_of_lt (by have := ymy a; rw [yp9] at this; rwa [show i = a.length from by omega])]
  exact h
 | succ j ih =>
  intro i hi
  have ih := ih (i + 1) (by omega)
  have e : ((i + 1 : Nat) : Int) = (i : Int) + 1 := by omega
  rw [e] at ih
  unfold zcc.l3 zcc.l3.step
  simp (disch := omega) only [ydw, yka, yar, yaw, ycM, yaY, ybn, ya7, yb0, ybj, ybQ, Bool.and_self, Bool.not_false]
  have e1 : Int.toNat ((i : Int) / 4) = i / 4 := by omega
  have e2 : Int.toNat ((a.length : Int) - 1 - i) = a.length - 1 - i := by omega
  have e3 : 8 * ((i : Int) % 4) = ((8 * (i % 4) : Nat) : Int) := by omega
  have hd := ybN 8 (val a) i
  have e8 : (2 : Nat) ^ 8 = 256 := rfl
  rw [e1, e2, e3, ygJ a i (by omega), yci, Int.emod_eq_of_lt (by omega) (by omega), ybt,
   yqX _ _ _ (ymi 32 _ (i / 4) (8 * (i % 4)) (by rw [show 32 * (i / 4) + 8 * (i % 4) = 8 * i from by omega]; exact Nat.mod_lt _ (Nat.two_pow_pos _))) (by omega) (by omega)]
  rw [ykE (k := 32) (N' := val a % 2 ^ (8 * (i + 1)))]
  ·exact ih
  ·rw [ybY, Nat.add_mul, Nat.mul_assoc, ← Nat.pow_add, show 8 * (i % 4) + 32 * (i / 4) = 8 * i from by omega]; omega
  ·have h1 := ymi 32 (val a % 2 ^ (8 * i)) (i / 4) (8 * (i % 4)) (by rw [show 32 * (i / 4) + 8 * (i % 4) = 8 * i from by omega]; exact Nat.mod_lt _ (Nat.two_pow_pos _))
   have h2 : (dg 8 (val a) i + 1) * 2 ^ (8 * (i % 4)) ≤ 256 * 2 ^ (8 * (i % 4)) := Nat.mul_le_mul_right _ (by omega)
   have h3 : 256 * 2 ^ (8 * (i % 4)) ≤ 2 ^ 32 := by
    rw [show (256 : Nat) = 2 ^ 8 from rfl, ← Nat.pow_add]; exact Nat.pow_le_pow_right (by omega) (by omega)
   rw [Nat.add_mul] at h2
   omega
theorem yf1 (a : List UInt8) (hL : a.length ≤ 1000000) (K : Nat → (Nat → Int) → Prop) (h : K ((a.length + 3) / 4) (G 32 (val a))) : zcc a K := by
 rw [zcc.is]; unfold zcc.d
 simp (disch := omega) only [ydw, yaw, ya7, ybj, Bool.and_self]
 have e1 : Int.toNat (((a.length : Int) + 3) / 4) = (a.length + 3) / 4 := by omega
 rw [e1]
 refine ⟨a.length + 1, ?_⟩
 have := yhD a hL ((a.length + 3) / 4) rfl ((a.length + 3) / 4) ((a.length + 3) / 4) (fun y0 y1 y2 y3 => K y0 y3) h a.length 0 (by omega)
 rw [Nat.mul_zero, Nat.pow_zero, Nat.mod_one, yel] at this
 exact this
theorem yi6 {x n : Nat} (hn : n ≠ 0) (hx : x < 2 ^ (32 * n)) : (dg 32 x (n - 1) = 0 → x < 2 ^ (32 * (n - 1))) ∧ (dg 32 x (n - 1) ≠ 0 → wl 32 x = n) := by
 refine ⟨fun h => ?_, fun h => ytS 32 (by omega) x n hx (.inr h)⟩
 have h2 := ybY 32 x (n - 1)
 rw [show n - 1 + 1 = n from by omega, Nat.mod_eq_of_lt hx, h, Nat.zero_mul, Nat.add_zero] at h2
 have := Nat.mod_lt x (Nat.two_pow_pos (32 * (n - 1)))
 omega
theorem yhS (k0 : Nat → (Nat → Int) → Prop) (x : Nat) (h : k0 (wl 32 x) (G 32 x)) : ∀ (n : Nat), n ≤ 1000000000 → x < 2 ^ (32 * n) → zbv.l1 k0 (n + 1) n (G 32 x) := by
 intro n
 induction n with
 | zero =>
  intro _ hx
  have hx0 : x = 0 := by simp at hx; omega
  unfold zbv.l1 zbv.l1.step
  rw [yau (yb0 (by omega))]
  have e := ydp 32
  subst hx0; rwa [e] at h
 | succ n ih =>
  intro hn hx
  obtain ⟨s1, s2⟩ := yi6 (show n + 1 ≠ 0 by omega) hx
  rw [show n + 1 - 1 = n from by omega] at s1 s2
  unfold zbv.l1 zbv.l1.step
  simp (disch := omega) only [yar, ybn, ya7, ybj, ybQ, Bool.and_self]
  have e1 : Int.toNat (((n + 1 : Nat) : Int) - 1) = n := by omega
  rw [e1, ybt]
  by_cases hd : dg 32 x n = 0
  ·rw [yaD (yoi (by omega))]
   exact ih (by omega) (s1 hd)
  ·rw [yau (yhK (by omega))]
   rw [s2 hd] at h; exact h
theorem ykH (n x : Nat) (hn : n ≤ 1000000000) (hx : x < 2 ^ (32 * n)) (K : Nat → (Nat → Int) → Prop) (h : K (wl 32 x) (G 32 x)) : zbv n (G 32 x) K := by
 rw [zbv.is]; unfold zbv.d
 exact ⟨n + 1, yhS _ x h n hn hx⟩
theorem yhw (k0 : Nat → Nat → Nat → (Nat → Int) → Prop) (x m : Nat) (h : ∀ c, k0 (wl 32 x) c m (G 32 x)) : ∀ (n c : Nat), n ≤ 1000000000 → n ≤ c → x < 2 ^ (32 * n) → zbu.l1 k0 (n + 1) n c m (G 32 x) := by
 intro n
 induction n with
 | zero =>
  intro c _ _ hx
  have hx0 : x = 0 := by simp at hx; omega
  unfold zbu.l1 zbu.l1.step
  rw [yau (yb0 (by omega))]
  have e := ydp 32
  subst hx0; rw [e] at h; exact h c
 | succ n ih =>
  intro c hn hc hx
  obtain ⟨s1, s2⟩ := yi6 (show n + 1 ≠ 0 by omega) hx
  rw [show n + 1 - 1 = n from by omega] at s1 s2
  unfold zbu.l1 zbu.l1.step
  simp (disch := omega) only [yar, ybn, ya7, ybj, ybQ, Bool.and_self]
  have e1 : Int.toNat (((n + 1 : Nat) : Int) - 1) = n := by omega
  rw [e1, ybt]
  by_cases hd : dg 32 x n = 0
  ·rw [yaD (yoi (by omega))]
   exact ih (c - 0) (by omega) (by omega) (s1 hd)
  ·rw [yau (yhK (by omega))]
   rw [s2 hd] at h; exact h c
theorem ydI (n c m x : Nat) (hn : n ≤ 1000000000) (hc : n ≤ c) (hx : x < 2 ^ (32 * n)) (K : Nat → Nat → Nat → (Nat → Int) → Prop) (h : ∀ c, K (wl 32 x) c m (G 32 x)) : zbu n c m (G 32 x) K := by
 rw [zbu.is]; unfold zbu.d
 exact ⟨n + 1, yhw _ x m h n c hn hc hx⟩
theorem yhH (k0 : Nat → Nat → (Nat → Int) → Prop) (x m : Nat) (h : k0 (wl 32 x) m (G 32 x)) : ∀ (n : Nat), n ≤ 1000000000 → x < 2 ^ (32 * n) → zbt.l1 k0 (n + 1) n m (G 32 x) := by
 intro n
 induction n with
 | zero =>
  intro _ hx
  have hx0 : x = 0 := by simp at hx; omega
  unfold zbt.l1 zbt.l1.step
  rw [yau (yb0 (by omega))]
  have e := ydp 32
  subst hx0; rwa [e] at h
 | succ n ih =>
  intro hn hx
  obtain ⟨s1, s2⟩ := yi6 (show n + 1 ≠ 0 by omega) hx
  rw [show n + 1 - 1 = n from by omega] at s1 s2
  unfold zbt.l1 zbt.l1.step
  simp (disch := omega) only [yar, ybn, ya7, ybj, ybQ, Bool.and_self]
  have e1 : Int.toNat (((n + 1 : Nat) : Int) - 1) = n := by omega
  rw [e1, ybt]
  by_cases hd : dg 32 x n = 0
  ·rw [yaD (yoi (by omega))]
   exact ih (by omega) (s1 hd)
  ·rw [yau (yhK (by omega))]
   rw [s2 hd] at h; exact h
theorem ydK (n m x : Nat) (hn : n ≤ 1000000000) (hx : x < 2 ^ (32 * n)) (K : Nat → Nat → (Nat → Int) → Prop) (h : K (wl 32 x) m (G 32 x)) : zbt n m (G 32 x) K := by
 rw [zbt.is]; unfold zbt.d
 exact ⟨n + 1, yhH _ x m h n hn hx⟩
theorem yts (x q s : Nat) (hs : s < 4) : dg 8 x (4 * q + s) = dg 32 x q / 2 ^ (8 * s) % 256 := by
 unfold dg
 rw [show 8 * (4 * q + s) = 32 * q + 8 * s from by omega, Nat.pow_add, ← Nat.div_div_eq_div_mul]
 generalize x / 2 ^ (32 * q) = y
 have h1 : (2 : Nat) ^ 32 = 2 ^ (8 * s) * (256 * 2 ^ (8 * (3 - s))) := by
  rw [show (256 : Nat) = 2 ^ 8 from rfl, ← Nat.pow_add, ← Nat.pow_add]; congr 1; omega
 rw [h1, Nat.mod_mul_right_div_self, Nat.mod_mul_right_mod]
theorem ysm (a s : Nat) (hs : s ≤ 32) : yaQ .u32 (a : Int) (s : Int) = ((a / 2 ^ s : Nat) : Int) := by
 rw [yiw (k := .u32) hs]; simp
theorem ygG (x n : Nat) (hn : n ≤ 100000000) (L c m : Nat) (hL : L = 4 * n) (k0 : Nat → Nat → Nat → (Nat → Int) → Prop) (h : k0 L c m (BE L L x)) :
  ∀ (j i : Nat), i + j = L → zbx.l4 k0 (j + 1) n (G 32 x) L c L i m (BE L i x) := by
 intro j
 induction j with
 | zero =>
  intro i hi
  unfold zbx.l4 zbx.l4.step
  rw [yau (yb0 (by omega)), show i = L from by omega]
  exact h
 | succ j ih =>
  intro i hi
  have ih := ih (i + 1) (by omega)
  have e : ((i + 1 : Nat) : Int) = (i : Int) + 1 := by omega
  rw [e] at ih
  unfold zbx.l4 zbx.l4.step
  simp (disch := omega) only [ydw, yka, yar, yaw, ycM, yaY, ybn, ya7, yb0, ybj, ybQ, Bool.and_self, Bool.not_false]
  have e1 : Int.toNat ((i : Int) / 4) = i / 4 := by omega
  have e2 : Int.toNat ((L : Int) - 1 - i) = L - 1 - i := by omega
  have e3 : 8 * ((i : Int) % 4) = ((8 * (i % 4) : Nat) : Int) := by omega
  rw [e1, e2, e3, ybt, ysm _ _ (by omega), ytv, ysU _ _ _ (dg 8 x i : Int), ysQ L i x (by omega)]
  ·exact ih
  ·have := yts x (i / 4) (i % 4) (by omega)
   rw [show 4 * (i / 4) + i % 4 = i from by omega] at this
   rw [this]; simp
theorem yga (x L : Nat) (hL : L ≤ 400000000) (c m : Nat) (k0 : Nat → Nat → Nat → Nat → (Nat → Int) → Prop)
  (h : ∀ o n c, o + n = L → x < 2 ^ (8 * n) → (n = 0 ∨ dg 8 x (n - 1) ≠ 0) → k0 o n c m (BE L L x)) :
  ∀ (n o c : Nat), o + n = L → n ≤ c → x < 2 ^ (8 * n) → zbx.l8 k0 (n + 1) o n c m (BE L L x) := by
 intro n
 induction n with
 | zero =>
  intro o c ho _ hx
  unfold zbx.l8 zbx.l8.step
  rw [yau (yb0 (by omega))]
  exact h o 0 c ho hx (.inl rfl)
 | succ n ih =>
  intro o c ho hc hx
  unfold zbx.l8 zbx.l8.step
  simp (disch := omega) only [ybn, ya7, ybj, ybQ, Bool.and_self, yeU]
  rw [ytt L x _ (by omega), show L - 1 - (o + 0) = n from by omega]
  by_cases hd : dg 8 x n = 0
  ·rw [yaD (yoi (by omega))]
   have e1 : Int.toNat ((n + 1 : Nat) : Int) - 1 = n := by omega
   rw [e1]
   refine ih (o + 1) (c - 1) (by omega) (by omega) ?_
   have h2 := ybY 8 x n
   rw [Nat.mod_eq_of_lt hx, hd, Nat.zero_mul, Nat.add_zero] at h2
   have := Nat.mod_lt x (Nat.two_pow_pos (8 * n))
   omega
  ·rw [yau (yhK (by omega))]
   exact h o (n + 1) c ho hx (.inr hd)
theorem yby (n x : Nat) (hn : n ≤ 100000000) (hx : x < 2 ^ (32 * n)) (K : List UInt8 → Prop) (h : K (nb x)) : zbx n (G 32 x) K := by
 rw [zbx.is]; unfold zbx.d
 refine ykH n x (by omega) hx _ ?_
 have hw := (yfv 32 (by omega) x n).2 hx
 have hl := yer 32 (by omega) x
 generalize wl 32 x = w at hw hl
 simp (disch := omega) only [ycM, ya7, ybj, Bool.and_self]
 have e1 : Int.toNat (4 * (w : Int)) = 4 * w := by omega
 rw [e1]
 refine ⟨4 * w + 1, ?_⟩
 have := ygG x w (by omega) (4 * w) (4 * w) (4 * w) rfl (fun y0 y1 y2 y3 => ∃ n, zbx.l8 (fun y0 y1 y2 y3 y4 => K (ya1 y1 (shift y0 y4))) n 0 y0 y1 y2 y3) ?_ (4 * w) 0 (by omega)
 ·rw [yr2] at this
  exact this
 ·refine ⟨4 * w + 1, ?_⟩
  refine yga x (4 * w) (by omega) (4 * w) (4 * w) _ ?_ (4 * w) 0 (4 * w) (by omega) (Nat.le_refl _) (by rw [show 8 * (4 * w) = 32 * w from by omega]; exact hl)
  intro o n c ho hx' ht
  rw [yk0, yq5 (4 * w) o n x ho hx' ht]
  exact h
theorem ylG (n x : Nat) (hn : n ≤ 100000000) (hx : x < 2 ^ (32 * n)) (K : List UInt8 → Int → Prop) (h : if 16384 < (nb x).length then K [] 4 else K (nb x) 0) : zca n (G 32 x) K := by
 rw [zca.is]; unfold zca.d
 refine yby n x hn hx _ ?_
 by_cases hl : 16384 < (nb x).length
 ·rw [yaD (ybn (by omega))]; rwa [if_pos hl] at h
 ·rw [yau (yb0 (by omega))]; rwa [if_neg hl] at h
def sgn (x y : Nat) : Int := if x < y then -1 else if y < x then 1 else 0
theorem ykm (x y n m : Nat) (k0 : Int → Prop) (k1 : Prop) (hn : n ≤ 1000000000) (h : x / 2 ^ (32 * n) = y / 2 ^ (32 * n)) :
  ∀ (i : Nat), i ≤ n → i ≤ m → x / 2 ^ (32 * i) = y / 2 ^ (32 * i) → (x < y → k0 (-1)) → (y < x → k0 1) → (x = y → k1) → ∀ (j : Nat), n = n → zbs.l6 k0 k1 (i + 1) n (G 32 x) m (G 32 y) ((i : Int) - 1) := by
 intro i
 induction i with
 | zero =>
  intro _ _ he _ _ h3 _ _
  unfold zbs.l6 zbs.l6.step
  rw [yau (yeC (by omega))]
  simp at he
  exact h3 he
 | succ i ih =>
  intro hin him he h1 h2 h3 j _
  unfold zbs.l6 zbs.l6.step
  have e0 : ((i + 1 : Nat) : Int) - 1 = (i : Int) := by omega
  rw [e0]
  simp (disch := omega) only [yar, ybn, ya7, ybj, ybQ, Bool.and_self, Int.toNat_natCast]
  rw [ybt, ybt, yrQ, yrQ]
  have d1 := ydY 32 x i
  have d2 := ydY 32 y i
  rw [← he] at d2
  by_cases hlt : dg 32 x i < dg 32 y i
  ·rw [yaD (by simpa using hlt)]
   refine h1 (Classical.byContradiction fun hc => ?_)
   have := Nat.div_le_div_right (c := 2 ^ (32 * i)) (show y ≤ x by omega)
   omega
  ·rw [yau (by simpa using hlt)]
   by_cases hgt : dg 32 y i < dg 32 x i
   ·rw [yaD (by simpa using hgt)]
    refine h2 (Classical.byContradiction fun hc => ?_)
    have := Nat.div_le_div_right (c := 2 ^ (32 * i)) (show x ≤ y by omega)
    omega
   ·rw [yau (by simpa using hgt)]
    exact ih (by omega) (by omega) (by omega) h1 h2 h3 j rfl
theorem yid (x y n m : Nat) (hn : n ≤ 1000000000) (hm : m ≤ 1000000000) (hxn : n = wl 32 x) (hym : m = wl 32 y) (K : Int → Prop) (h : K (sgn x y)) : zbs n (G 32 x) m (G 32 y) K := by
 rw [zbs.is]; unfold zbs.d
 have h32 : (32 : Nat) ≠ 0 := by omega
 by_cases hlt : n < m
 ·have : x < y := Classical.byContradiction fun hc => by have := ycm h32 (show y ≤ x by omega); omega
  rw [yaD (ybn (by omega))]
  unfold sgn at h; rwa [if_pos this] at h
 ·rw [yau (yb0 (by omega))]
  by_cases hgt : m < n
  ·have : y < x := Classical.byContradiction fun hc => by have := ycm h32 (show x ≤ y by omega); omega
   rw [yaD (ybn (by omega))]
   unfold sgn at h; rwa [if_neg (by omega), if_pos this] at h
  ·rw [yau (yb0 (by omega)), yar (by omega) (by omega)]
   have h1 := yer 32 h32 x
   have h2 := yer 32 h32 y
   have hnm : n = m := by omega
   have q : x / 2 ^ (32 * n) = y / 2 ^ (32 * n) := by
    rw [Nat.div_eq_of_lt (hxn ▸ h1), Nat.div_eq_of_lt (by rw [hnm, hym]; exact h2)]
   refine ⟨n + 1, ykm x y n m _ _ hn q n (Nat.le_refl _) (by omega) q (fun hl => ?_) (fun hl => ?_) (fun he => ?_) 0 rfl⟩
   ·unfold sgn at h; rwa [if_pos hl] at h
   ·unfold sgn at h; rwa [if_neg (by omega), if_pos hl] at h
   ·unfold sgn at h; rwa [if_neg (by omega), if_neg (by omega)] at h
end Go.Ev.S

/- Natural numbers as rows of words: sums, differences, products. -/
set_option linter.unusedVariables false
set_option linter.unusedSimpArgs false
set_option maxRecDepth 8000
namespace Go.Ev.S
open Go Go.Ev
theorem yqp {k N j s : Nat} {P : Nat} (hP : P = 2 ^ (k * j)) : ∃ N', N' + dg k N j * P = N + s % 2 ^ k * P ∧ N' + s / 2 ^ k * 2 ^ (k * (j + 1)) + dg k N j * P = N + s * P := by
 have h := ygn k N j
 refine ⟨N % 2 ^ (k * j) + s % 2 ^ k * 2 ^ (k * j) + N / 2 ^ (k * (j + 1)) * 2 ^ (k * (j + 1)), ?_, ?_⟩
 ·rw [hP]; omega
 ·have h2 := Nat.div_add_mod s (2 ^ k)
  have h3 : s * P = s % 2 ^ k * P + s / 2 ^ k * 2 ^ (k * (j + 1)) := by
   conv => lhs; rw [← h2]
   rw [Nat.add_mul, ydS, ← hP, Nat.mul_comm (2 ^ k), Nat.mul_assoc, Nat.mul_comm (2 ^ k)]
   omega
  rw [h3, hP]; omega
theorem B32 : (2 : Nat) ^ 32 = 4294967296 := rfl
end Go.Ev.S

/- The functions of natural numbers: held against each other, added, subtracted, multiplied; their texts. -/
set_option linter.unusedVariables false
set_option linter.unusedSimpArgs false
set_option maxRecDepth 8000
namespace Go.Ev.S
open Go Go.Ev
theorem ydT (a b : List UInt8) (K : Bool → Prop) : zbz a b K = K (decide (May a ∧ May b)) := by
 rw [zbz.is]; unfold zbz.d
 rw [yaW, yaW]
 by_cases ha : May a
 ·rw [if_pos ha, yaD (by rfl)]
  by_cases hb : May b
  ·rw [if_pos hb]; simp [ha, hb]; rfl
  ·rw [if_neg hb]; simp [ha, hb]; rfl
 ·rw [if_neg ha, yau (by rfl)]; simp [ha]
theorem yqA (x : Nat) : wl 32 x = (wl 8 x + 3) / 4 := by
 have e : ∀ m, wl 32 x ≤ m ↔ wl 8 x ≤ 4 * m := fun m => by
  rw [yfv 32 (by omega), yfv 8 (by omega), show 8 * (4 * m) = 32 * m from by omega]
 have h1 := (e (wl 32 x)).1 (Nat.le_refl _)
 have h2 := (e ((wl 8 x + 3) / 4)).2 (by omega)
 omega
theorem yrP {a : List UInt8} (h : ynW a = true) : wl 8 (val a) = a.length := by rw [ytP, ymA h]
theorem ymm {a : List UInt8} (h : ynW a = true) : (a.length + 3) / 4 = wl 32 (val a) := by rw [yqA, yrP h]
theorem May.words {a : List UInt8} (h : May a) (K : Nat → (Nat → Int) → Prop) (hk : K (wl 32 (val a)) (G 32 (val a))) : zcc a K := by
 refine yf1 a (by have := h.1; omega) K ?_
 rw [ymm h.2]; exact hk
theorem May.wl {a : List UInt8} (h : May a) : wl 32 (val a) ≤ 4096 := by rw [← ymm h.2]; have := h.1; omega
theorem May.lt {a : List UInt8} (h : May a) : val a < 2 ^ (32 * Ev.S.wl 32 (val a)) := yer 32 (by omega) _
theorem May.nb {a : List UInt8} (h : May a) : nb (val a) = a := ymA h.2
theorem yhe (x : Nat) : x < 2 ^ (32 * wl 32 x) := yer 32 (by omega) _
def ytH (K : List UInt8 → Int → Prop) (x : Nat) : Prop := if 16384 < (nb x).length then K [] 4 else K (nb x) 0
theorem ync (a b : List UInt8) (K : Int → Int → Prop) (h1 : ¬ (May a ∧ May b) → K 0 2) (h2 : May a → May b → K (sgn (val a) (val b)) 0) : zbj a b K := by
 rw [zbj.is]; unfold zbj.d
 rw [ydT]
 by_cases h : May a ∧ May b
 ·rw [yau (by simp [h])]
  refine h.1.words _ (h.2.words _ ?_)
  have := h.1.wl; have := h.2.wl
  exact yid _ _ _ _ (by omega) (by omega) rfl rfl _ (h2 h.1 h.2)
 ·rw [yaD (by simp [h])]; exact h1 h
theorem yr9 (x y : Nat) : ltI (sgn x y) 0 = decide (x < y) := by
 unfold sgn
 by_cases h : x < y
 ·rw [if_pos h, ybn (by omega)]; simp [h]
 ·rw [if_neg h]
  by_cases h2 : y < x
  ·rw [if_pos h2, yb0 (by omega)]; simp [h]
  ·rw [if_neg h2, yb0 (by omega)]; simp [h]
theorem ydn (a b : List UInt8) : eqS a b = decide (a = b) := by
 unfold eqS
 by_cases h : a = b <;> simp [h]
def yph (n : Nat) : UInt8 := UInt8.ofNat (if n < 10 then 48 + n else 87 + n)
def hx (x : Nat) : List UInt8 := if h : x = 0 then [] else hx (x / 16) ++ [yph (x % 16)]
decreasing_by omega
theorem yeu : hx 0 = [] := by rw [hx]; simp
theorem ye1 {x : Nat} (h : x ≠ 0) : hx x = hx (x / 16) ++ [yph (x % 16)] := by rw [hx]; simp [h]
theorem yrZ : ∀ n : Nat, n < 16 → yaI [48, 49, 50, 51, 52, 53, 54, 55, 56, 57, 97, 98, 99, 100, 101, 102] n = ((yph n).toNat : Int) := by decide
theorem yuc {a b : Nat} (h : a ≤ b) : leN a b = true := Nat.ble_eq_true_of_le h
theorem yua {k : IntKind} (hk : k.signed = false) (a b : Nat) (ha : a < 2 ^ k.bits) (hb : b < 2 ^ k.bits) : yhq k a b = ((a &&& b : Nat) : Int) := by
 have h3 : a &&& b < 2 ^ k.bits := Nat.lt_of_le_of_lt Nat.and_le_left ha
 show IntKind.wrap k (((BitVec.ofInt k.bits (a : Int) &&& BitVec.ofInt k.bits (b : Int) : BitVec k.bits).toNat : Nat) : Int) = _
 rw [BitVec.toNat_and, BitVec.ofInt_natCast, BitVec.ofInt_natCast, BitVec.toNat_ofNat, BitVec.toNat_ofNat, Nat.mod_eq_of_lt ha, Nat.mod_eq_of_lt hb]
 simp only [IntKind.wrap, hk]
 have : ((a &&& b : Nat) : Int) % 2 ^ k.bits = ((a &&& b : Nat) : Int) := by
  refine Int.emod_eq_of_lt (by omega) ?_
  have e : ((2 ^ k.bits : Nat) : Int) = (2 : Int) ^ k.bits := by simp
  rw [← e]; omega
 simpa using this
end Go.Ev.S

/- What the document's answer reckons with natural numbers, byte by byte. -/
set_option linter.unusedVariables false
set_option linter.unusedSimpArgs false
set_option maxRecDepth 8000
namespace Go.Ev.S
open Go Go.Ev
theorem yk4 (a : List UInt8) : val a < 2 ^ (8 * a.length) := by rw [← yp9]; exact ymy a
end Go.Ev.S

/- The texts of natural numbers, read. -/
set_option linter.unusedVariables false
set_option linter.unusedSimpArgs false
set_option maxRecDepth 8000
namespace Go.Ev.S
open Go Go.Ev
def hv (c : Nat) : Nat := if 48 ≤ c ∧ c ≤ 57 then c - 48 else if 97 ≤ c ∧ c ≤ 102 then c - 87 else 16
def hd (c : UInt8) : Nat := hv c.toNat % 16
def hok (c : UInt8) : Bool := decide (hv c.toNat < 16)
def yj3 (s : List UInt8) : Nat := s.foldl (fun v c => v * 16 + hd c) 0
theorem yof (s : List UInt8) : ∀ v, s.foldl (fun v c => v * 16 + hd c) v = v * 16 ^ s.length + yj3 s := by
 induction s with
 | nil => intro v; simp [yj3]
 | cons c l ih =>
  intro v
  simp only [List.foldl_cons, List.length_cons, yj3]
  rw [ih, ih (0 * 16 + hd c), Nat.pow_succ]
  rw [Nat.add_mul, Nat.add_mul, Nat.mul_assoc, Nat.mul_comm 16]
  omega
theorem yk8 (a b : List UInt8) : yj3 (a ++ b) = yj3 a * 16 ^ b.length + yj3 b := by
 show (a ++ b).foldl _ 0 = _
 rw [List.foldl_append, yof]; rfl
theorem yoW (a : List UInt8) (c : UInt8) : yj3 (a ++ [c]) = yj3 a * 16 + hd c := by
 rw [yk8]; simp [yj3]
theorem p16 (n : Nat) : 16 ^ n = 2 ^ (4 * n) := by rw [Nat.pow_mul]
theorem yoq : ∀ n : Nat, n < 16 → hd (yph n) = n ∧ hok (yph n) = true ∧ (n ≠ 0 → yph n ≠ 48) := by decide
theorem ysb (x : Nat) : yj3 (hx x) = x ∧ (hx x).all hok = true := by
 induction x using Nat.strongRecOn with
 | _ x ih =>
  by_cases h : x = 0
  ·subst h; rw [yeu]; exact ⟨rfl, rfl⟩
  ·obtain ⟨h1, h2⟩ := ih (x / 16) (by omega)
   obtain ⟨g1, g2, _⟩ := yoq (x % 16) (by omega)
   rw [ye1 h, yoW, h1, g1, List.all_append, h2]
   exact ⟨by omega, by simp [g2]⟩
theorem yrS (x n : Nat) : (hx x).length ≤ n ↔ x < 16 ^ n := by
 induction n generalizing x with
 | zero =>
  constructor
  ·intro h
   have : hx x = [] := List.length_eq_zero_iff.1 (by omega)
   have h2 := (ysb x).1
   rw [this] at h2
   simp [yj3] at h2 ⊢; omega
  ·intro h
   have : x = 0 := by simp at h; omega
   subst this; rw [yeu]; simp
 | succ n ih =>
  by_cases h : x = 0
  ·subst h; rw [yeu]; simp [Nat.pow_pos]
  ·rw [ye1 h, List.length_append, List.length_singleton, Nat.pow_succ]
   have := ih (x / 16)
   rw [Nat.div_lt_iff_lt_mul (by omega)] at this
   omega
theorem ysB (x : Nat) (h : x ≠ 0) : ((hx x)[0]?).getD 0 ≠ 48 := by
 induction x using Nat.strongRecOn with
 | _ x ih =>
  rw [ye1 h]
  by_cases h2 : x / 16 = 0
  ·rw [h2, yeu]
   have := (yoq (x % 16) (by omega)).2.2 (by omega)
   simpa using this
  ·have := ih (x / 16) (by omega) h2
   have hne : (hx (x / 16)) ≠ [] := by rw [ye1 h2]; simp
   rw [List.getElem?_append_left (List.length_pos_iff.2 hne)]
   exact this
end Go.Ev.S

/- What the document's answer reckons with words, bit by bit. -/
set_option linter.unusedVariables false
set_option linter.unusedSimpArgs false
namespace Go.Ev.S
open Go Go.Ev
theorem yns (a i : Nat) (ha : a < 18446744073709551616) (hi : i < 64) (K : Bool → Prop) : zcd a i K = K (a.testBit i) := by
 rw [zcd.is]; unfold zcd.d
 rw [yaD (ya7 (by omega)), yaD (ybn (by omega)), yaY (by omega) (by omega), ya2 (ygA (by omega)), ymJ a i ha hi]
theorem yqK (a i : Nat) : a % 2 ^ (i + 1) = a % 2 ^ i + (a.testBit i).toNat * 2 ^ i := by
 have h : (a.testBit i).toNat = a / 2 ^ i % 2 := by
  rw [Nat.testBit_eq_decide_div_mod_eq]
  rcases Nat.mod_two_eq_zero_or_one (a / 2 ^ i) with h | h <;> rw [h] <;> rfl
 rw [h, Nat.mod_pow_succ, Nat.mul_comm]
theorem ypn (s i : Nat) (h : s < 2 ^ i) : s ||| 2 ^ i = s + 2 ^ i := by
 have := Nat.two_pow_add_eq_or_of_lt h 1
 rw [Nat.mul_one] at this
 rw [Nat.or_comm, ← this, Nat.add_comm]
def yf6 (a : Nat) : Nat → Nat
 | 0 => 0
 | i + 1 => cond (a.testBit i) (i + 1) (yf6 a i)
theorem yiO (a w : Nat) : ∀ n, yf6 a n ≤ w ↔ ∀ i, i < n → w ≤ i → a.testBit i = false
 | 0 => by simp [yf6]
 | n + 1 => by
  have ih := yiO a w n
  cases hb : a.testBit n with
  | true =>
   simp only [yf6, hb, cond_true]
   constructor
   ·intro h i hi hw; omega
   ·intro h
    apply Classical.byContradiction
    intro hc
    have := h n (by omega) (by omega)
    rw [hb] at this; cases this
  | false =>
   simp only [yf6, hb, cond_false]
   rw [ih]
   constructor
   ·intro h i hi hw
    by_cases hin : i = n
    ·subst hin; exact hb
    ·exact h i (by omega) hw
   ·intro h i hi hw; exact h i (by omega) hw
def yaC (a : Nat) : Nat := if a = 0 then 0 else a.log2 + 1
theorem yaN (a w : Nat) : yaC a ≤ w ↔ a < 2 ^ w := by
 unfold yaC
 by_cases h : a = 0
 ·subst h; simp [Nat.two_pow_pos]
 ·rw [if_neg h]
  rw [← Nat.log2_lt h]; omega
theorem yon (a : Nat) : a < 2 ^ yaC a := (yaN a _).1 (Nat.le_refl _)
theorem yrp {a : Nat} (h : a ≠ 0) : 0 < yaC a := by unfold yaC; rw [if_neg h]; omega
theorem ysM {a : Nat} (h : a ≠ 0) : 2 ^ (yaC a - 1) ≤ a := by
 unfold yaC; rw [if_neg h]
 exact Nat.log2_self_le h
theorem yn4 (a n : Nat) (ha : a < 2 ^ n) : yf6 a n = yaC a := by
 apply Nat.le_antisymm
 ·rw [yiO]
  intro i _ hw
  exact Nat.testBit_lt_two_pow (Nat.lt_of_lt_of_le (yon a) (Nat.pow_le_pow_right (by omega) hw))
 ·rw [yaN]
  apply Nat.lt_pow_two_of_testBit
  intro i hi
  by_cases hin : i < n
  ·exact (yiO a _ n).1 (Nat.le_refl _) i hin hi
  ·exact Nat.testBit_lt_two_pow (Nat.lt_of_lt_of_le ha (Nat.pow_le_pow_right (by omega) (by omega)))
theorem yfY (a : Nat) (ha : a < 18446744073709551616) (k0 : Int → Prop) (h : k0 (yf6 a 64)) : ∀ (j i : Nat), i + j = 64 → zce.l3 k0 (j + 1) a (yf6 a i) i
 | 0, i, hij => by
  have : i = 64 := by omega
  subst this
  unfold zce.l3 zce.l3.step
  rw [yau (by decide)]
  exact h
 | j + 1, i, hij => by
  show br (ltI i 64) (zcd a i fun r0 => br r0 (zce.l3 k0 (j + 1) a (yai .i64 i 1) (yai .i64 i 1)) (zce.l3 k0 (j + 1) a (yf6 a i) (yai .i64 i 1))) (k0 (yf6 a i))
  rw [yaD (ybn (by omega)), yns a i ha (by omega), yaw (by omega) (by omega)]
  have ih := yfY a ha k0 h j (i + 1) (by omega)
  have e : ((i + 1 : Nat) : Int) = (i : Int) + 1 := by omega
  rw [e] at ih
  cases hb : a.testBit i with
  | true =>
   rw [yaD rfl]
   simp only [yf6, hb, cond_true] at ih
   rw [e] at ih
   exact ih
  | false =>
   rw [yau rfl]
   simp only [yf6, hb, cond_false] at ih
   exact ih
theorem ym2 (a : Nat) (ha : a < 18446744073709551616) (K : Int → Prop) (h : K (yaC a)) : zce a K := by
 rw [zce.is]
 refine ⟨65, yfY a ha K ?_ 64 0 rfl⟩
 rw [yn4 a 64 ha]; exact h
end Go.Ev.S

/- What the document's answer reckons with numbers of six words. -/
set_option linter.unusedVariables false
set_option linter.unusedSimpArgs false
set_option maxRecDepth 8000
namespace Go.Ev.S
open Go Go.Ev
theorem yiF (x : Nat) (h : x < 2 ^ 128) (K : (Nat → Int) → Prop) : zcg (Hi x) (Lo x) K = K (W x) := by
 rw [zcg.is]; unfold zcg.d; rw [yrG x h]
theorem ysO (z w i : Nat) (hz : z < 2 ^ (64 * i)) (hw : w < 18446744073709551616) : upd (W z) i (w : Int) = W (z + w * 2 ^ (64 * i)) := by
 funext j
 have hP := Nat.two_pow_pos (64 * i)
 by_cases hj : j = i
 ·subst hj
  rw [ybv, ya5]
  congr 1
  unfold wd
  rw [Nat.add_mul_div_right _ _ hP, Nat.div_eq_of_lt hz, Nat.zero_add, Nat.mod_eq_of_lt hw]
 ·rw [yco _ _ _ _ hj, ya5, ya5]
  congr 1
  by_cases hlt : j < i
  ·unfold wd
   have e : 2 ^ (64 * i) = 2 ^ (64 * j) * (18446744073709551616 * 2 ^ (64 * (i - j - 1))) := by
    rw [show (18446744073709551616 : Nat) = 2 ^ 64 from rfl, ← Nat.pow_add, ← Nat.pow_add]; congr 1; omega
   rw [e, Nat.mul_comm w, Nat.mul_assoc, Nat.add_mul_div_left _ _ (Nat.two_pow_pos _), Nat.mul_assoc, Nat.add_mul_mod_self_left]
  ·rw [ycl z j (Nat.lt_of_lt_of_le hz (Nat.pow_le_pow_right (by omega) (by omega))), ycl]
   have h1 : z + w * 2 ^ (64 * i) < 2 ^ (64 * (i + 1)) := by
    rw [show 64 * (i + 1) = 64 * i + 64 from by omega, Nat.pow_add, show (2 : Nat) ^ 64 = 18446744073709551616 from rfl]
    have : (w + 1) * 2 ^ (64 * i) ≤ 18446744073709551616 * 2 ^ (64 * i) := Nat.mul_le_mul_right _ (by omega)
    rw [Nat.add_mul, Nat.one_mul] at this
    rw [Nat.mul_comm (2 ^ (64 * i))]
    omega
   exact Nat.lt_of_lt_of_le h1 (Nat.pow_le_pow_right (by omega) (by omega))
theorem ymw (x i : Nat) : x % 2 ^ (64 * (i + 1)) = x % 2 ^ (64 * i) + wd x i * 2 ^ (64 * i) := by
 unfold wd
 rw [show 64 * (i + 1) = 64 * i + 64 from by omega, Nat.pow_add, show (2 : Nat) ^ 64 = 18446744073709551616 from rfl, Nat.mod_mul, Nat.mul_comm (2 ^ (64 * i))]
def mix (i : Nat) (x y : Nat) : Nat → Int := fun j => cond (Nat.blt j i) (W x j) (W y j)
theorem yl2 (x y : Nat) : mix 0 x y = W y := by
 funext j
 have h1 : Nat.blt j 0 = false := by
  cases hb : Nat.blt j 0 with
  | false => rfl
  | true => have := bltI.1 hb; omega
 simp [mix, h1]
theorem yo5 (x y n : Nat) (hx : x < 2 ^ (64 * n)) (hy : y < 2 ^ (64 * n)) : mix n x y = W x := by
 funext j
 unfold mix
 cases hb : Nat.blt j n with
 | true => rfl
 | false =>
  have hj : n ≤ j := by
   rcases Nat.lt_or_ge j n with h | h
   ·rw [bltI.2 h] at hb; cases hb
   ·exact h
  simp only [cond_false]
  rw [ya5, ya5, ycl x j (Nat.lt_of_lt_of_le hx (Nat.pow_le_pow_right (by omega) (by omega))), ycl y j (Nat.lt_of_lt_of_le hy (Nat.pow_le_pow_right (by omega) (by omega)))]
theorem ymB (x y i : Nat) : upd (mix i x y) i (W x i) = mix (i + 1) x y := by
 funext j
 by_cases hj : j = i
 ·subst hj; rw [ybv]; simp [mix, bltI.2 (show j < j + 1 by omega)]
 ·rw [yco _ _ _ _ hj]
  unfold mix
  by_cases h : j < i
  ·rw [bltI.2 h, bltI.2 (show j < i + 1 by omega)]
  ·have h1 : Nat.blt j i = false := by
    cases hb : Nat.blt j i with
    | false => rfl
    | true => exact absurd (bltI.1 hb) h
   have h2 : Nat.blt j (i + 1) = false := by
    cases hb : Nat.blt j (i + 1) with
    | false => rfl
    | true => have := bltI.1 hb; omega
   rw [h1, h2]
theorem yrI (x y i : Nat) : mix i x y i = W y i := by
 have h1 : Nat.blt i i = false := by
  cases hb : Nat.blt i i with
  | false => rfl
  | true => have := bltI.1 hb; omega
 simp [mix, h1]
theorem ys9 (x y i : Nat) : wd (x &&& y) i = wd x i &&& wd y i := by
 apply Nat.eq_of_testBit_eq; intro j
 rw [Nat.testBit_and, ybF, ybF, ybF, Nat.testBit_and]
 by_cases hj : j < 64 <;> simp [hj]
theorem ytj (x y i : Nat) : wd (x ||| y) i = wd x i ||| wd y i := by
 apply Nat.eq_of_testBit_eq; intro j
 rw [Nat.testBit_or, ybF, ybF, ybF, Nat.testBit_or]
 by_cases hj : j < 64 <;> simp [hj]
theorem yti {x y m : Nat} (h : x < 2 ^ m) : x &&& y < 2 ^ m := Nat.lt_of_le_of_lt Nat.and_le_left h
theorem yc7 {x i : Nat} (h : x / 2 ^ i ≠ 0) : yaC x = i + yaC (x / 2 ^ i) := by
 apply Nat.le_antisymm
 ·rw [yaN, Nat.pow_add, Nat.mul_comm, ← Nat.div_lt_iff_lt_mul (Nat.two_pow_pos i)]
  exact yon _
 ·have h1 := ysM h
  have h2 : 2 ^ (i + (yaC (x / 2 ^ i) - 1)) ≤ x := by
   rw [Nat.pow_add, Nat.mul_comm]
   exact (Nat.le_div_iff_mul_le (Nat.two_pow_pos i)).1 h1
  have hp := yrp h
  apply Classical.byContradiction
  intro hc
  have h3 : yaC x ≤ i + (yaC (x / 2 ^ i) - 1) := by omega
  have := (yaN x _).1 h3
  omega
theorem yfT (x : Nat) (k0 : Int → Prop) (k1 : Prop) (h : x ≠ 0 → k0 (yaC x)) (n i : Nat) (hi : i < 6) (hx : x < 2 ^ (64 * (i + 1))) (hrec : x < 2 ^ (64 * i) → zcf.l2 k0 k1 n ((i : Int) - 1) (W x)) :
  zcf.l2 k0 k1 (n + 1) i (W x) := by
 have hwd : wd x i = x / 2 ^ (64 * i) := by
  unfold wd
  apply Nat.mod_eq_of_lt
  rw [Nat.div_lt_iff_lt_mul (Nat.two_pow_pos _), show (18446744073709551616 : Nat) = 2 ^ 64 from rfl, ← Nat.pow_add]
  rw [show 64 + 64 * i = 64 * (i + 1) from by omega]; exact hx
 unfold zcf.l2 zcf.l2.step
 have hi' : (leI 0 (i : Int) && ltI (i : Int) 6) = true := ybz (by omega) (by omega)
 rw [yaD (ya7 (by omega)), ya2 hi', Int.toNat_natCast, ya5]
 by_cases hz : wd x i = 0
 ·have hx2 : x < 2 ^ (64 * i) := by
   rw [hwd] at hz
   rcases (Nat.div_eq_zero_iff).1 hz with h' | h'
   ·have := Nat.two_pow_pos (64 * i); omega
   ·exact h'
  rw [yau (by rw [hz]; rfl), yar (by omega) (by omega)]
  exact hrec hx2
 ·rw [yaD (by rw [show (0 : Int) = ((0 : Nat) : Int) from rfl, yfZ]; simp [hz]), ya2 hi']
  refine ym2 _ (ycN _ _) _ ?_
  have hb : yaC (wd x i) ≤ 64 := (yaN _ _).2 (ycN x i)
  rw [ycM (by omega) (by omega), yaw (by omega) (by omega)]
  have hx0 : x ≠ 0 := by
   intro e; subst e; exact hz (ycl 0 i (Nat.two_pow_pos _))
  have := h hx0
  rw [hwd] at hz ⊢
  rw [yc7 hz] at this
  rw [show (64 * (i : Int) + (yaC (x / 2 ^ (64 * i)) : Int)) = ((64 * i + yaC (x / 2 ^ (64 * i)) : Nat) : Int) from by omega]
  exact this
theorem ykd (x : Nat) (k0 : Int → Prop) (k1 : Prop) (h : x ≠ 0 → k0 (yaC x)) (h1 : x = 0 → k1) (i : Nat) : i < 6 → x < 2 ^ (64 * (i + 1)) → zcf.l2 k0 k1 (i + 2) i (W x) := by
 induction i with
 | zero =>
  intro hi hx
  refine yfT x k0 k1 h 1 0 hi hx fun hx2 => ?_
  have hx0 : x = 0 := by
   have : x < 1 := hx2
   omega
  unfold zcf.l2 zcf.l2.step
  rw [yau (by decide)]
  exact h1 hx0
 | succ i ih =>
  intro hi hx
  refine yfT x k0 k1 h (i + 2) (i + 1) hi hx fun hx2 => ?_
  rw [show (((i + 1 : Nat) : Int) - 1) = (i : Int) from by omega]
  exact ih (by omega) hx2
theorem ynw (x : Nat) (hx : x < Q6) (K : Int → Prop) (h : K (yaC x)) : zcf (W x) K := by
 rw [zcf.is]
 obtain ⟨i, hi⟩ : ∃ i, i = 5 := ⟨_, rfl⟩
 have := ykd x K (K 0) (fun _ => h) (fun e => by subst e; exact h) i (by omega) (by rw [yeh (show 64 * (i + 1) = 384 by omega)]; exact hx)
 rw [hi] at this
 exact ⟨5 + 2, this⟩
end Go.Ev.S

/- What the abacus reckons with words and with numbers of six words. -/
set_option linter.unusedVariables false
set_option linter.unusedSimpArgs false
set_option maxRecDepth 8000
namespace Go.Ev.S
open Go Go.Ev
theorem ypG (g : Nat → Int) (i : Nat) (a b : Int) : upd (upd g i a) i b = upd g i b := by
 funext j
 simp only [upd]
 cases Nat.beq j i <;> rfl
theorem yrA (g : Nat → Int) (i : Nat) (a : Int) : upd g i a i = a := by
 simp only [upd]
 have : Nat.beq i i = true := by simp
 rw [this]; rfl
theorem ysT (x y : Int) : ∃ m : Nat, m < 18446744073709551616 ∧ yaR .u64 x y = (m : Int) := by
 refine ⟨(yaR .u64 x y).toNat, ?_, ?_⟩ <;> (show _; simp only [yaR]; rw [ydt]; omega)
theorem yte (a : Int) (K : Int → Prop) (h : ∀ v, K v) : zab a K := by
 rw [zab.is]; unfold zab.d
 obtain ⟨m, hm, e⟩ := ysT (yhq IntKind.u64 a (yrT IntKind.u64 a)) 285870213051353865
 rw [e, show (58 : Int) = ((58 : Nat) : Int) from rfl, ydM m 58 (by omega)]
 have h1 : m >>> 58 < 64 := by rw [Nat.shiftRight_eq_div_pow]; omega
 by_cases h0 : eqI a 0 = true
 ·rw [yaD h0]; exact h _
 ·rw [yau (by simpa using h0)]; exact ⟨ybz (by omega) (by omega), h _⟩
theorem ykY (a : Int) (K : Int → Prop) (h : ∀ v, K v) : zdp a K := by
 rw [zdp.is]; exact yte a _ fun v => h v
theorem yfs (x : Nat → Int) (k0 : Int → Prop) (k1 : Prop) (h0 : ∀ v, k0 v) (h1 : k1) : ∀ (j i : Nat), i + j = 6 → zde.l2 k0 k1 (j + 1) x i := by
 intro j
 induction j with
 | zero =>
  intro i hij
  unfold zde.l2 zde.l2.step
  rw [yau (yb0 (by omega))]; exact h1
 | succ j ih =>
  intro i hij
  have ih := ih (i + 1) (by omega)
  have e : ((i + 1 : Nat) : Int) = (i : Int) + 1 := by omega
  rw [e] at ih
  unfold zde.l2 zde.l2.step
  rw [yaD (ybn (by omega)), ya2 (ybz (by omega) (by omega)), yaw (by omega) (by omega)]
  by_cases hz : (!eqI (x (Int.toNat (i : Int))) 0) = true
  ·rw [yaD hz]; exact ykY _ _ fun v => h0 _
  ·rw [yau (by simpa using hz)]; exact ih
theorem ykS (x : Nat → Int) (K : Int → Prop) (h : ∀ v, K v) : zde x K := by
 rw [zde.is]
 exact ⟨7, yfs x _ _ (fun v => h v) (h _) 6 0 rfl⟩
theorem yfq (n m : Int) : yfE n m = if n < m then m else n := by
 unfold yfE ltI; by_cases h : n < m <;> simp [h]
theorem yjq (n m : Int) : yog n m = if m < n then m else n := by
 unfold yog ltI; by_cases h : m < n <;> simp [h]
theorem yj0 (n : Nat) (h : n ≤ 64) (K : Int → Prop) : zdq n K = K ((2 ^ n - 1 : Nat)) := by
 rw [zdq.is]; unfold zdq.d; rw [zdr.is]; unfold zdr.d
 have e : yog (yfE (n : Int) 0) 64 = (n : Int) := by
  rw [yfq, yjq]; split <;> split <;> omega
 rw [e, yaY (by omega) (by omega)]
 show gd (!ltI (n : Int) 0) (K (yae IntKind.u64 (ybA IntKind.u64 1 (n : Int)) 1)) = _
 rw [ya2 (ygA (by omega))]
 by_cases hn : n = 64
 ·subst hn; rfl
 ·have hlt : 2 ^ n < 18446744073709551616 := ykG (by omega)
  have hp := Nat.two_pow_pos n
  rw [yoU n (by omega)]
  generalize 2 ^ n = p at *
  rw [yex (by omega) (by omega), show ((p : Int) - 1) = ((p - 1 : Nat) : Int) from by omega]
theorem yi5 (n : Int) (h : n ≤ 0) (h2 : -9223372036854775808 ≤ n) (K : Int → Prop) : zdq n K = K 0 := by
 rw [zdq.is]; unfold zdq.d; rw [zdr.is]; unfold zdr.d
 have e : yog (yfE n 0) 64 = 0 := by
  rw [yfq, yjq]; split <;> split <;> omega
 rw [e]; rfl
theorem yiE (n : Int) (h : 64 ≤ n) (K : Int → Prop) : zdq n K = K ((2 ^ 64 - 1 : Nat)) := by
 rw [zdq.is]; unfold zdq.d; rw [zdr.is]; unfold zdr.d
 have e : yog (yfE n 0) 64 = 64 := by
  rw [yfq, yjq]; split <;> split <;> omega
 rw [e]; rfl
theorem ydq (n : Nat) (h : n ≤ 384) (K : Int → Prop) : zdn n K = K n := by
 rw [zdn.is]; unfold zdn.d
 have e : yog (yfE (n : Int) 0) 384 = (n : Int) := by
  rw [yfq, yjq]; split <;> split <;> omega
 rw [e]
theorem yem (x : Nat) (h : x < 2 ^ 128) (K : (Nat → Int) → Prop) : zdh (Hi x) (Lo x) K = K (W x) := by
 rw [zdh.is]; unfold zdh.d; rw [yrG x h]
theorem ycL (x i : Nat) (hi : i < 384) (K : Bool → Prop) : zdb (W x) i K = K (x.testBit i) := by
 rw [zdb.is]; unfold zdb.d
 have h1 : i % 64 < 64 := Nat.mod_lt _ (by omega)
 rw [yaD (ya7 (by omega)), yaD (ybn (by omega)), yos i (by omega), yps i, ya2 (ybz (by omega) (by omega)), yaY (by omega) (by omega), ya2 (ygA (by omega)), Int.toNat_natCast, ya5, ymJ _ _ (ycN _ _) h1, ybF]
 rw [show 64 * (i / 64) + i % 64 = i from by omega]
 simp [h1]
theorem yiU (x y : Nat) (hx : x < Q6) (k0 : (Nat → Int) → (Nat → Int) → Prop) (z : Nat → Int) (h : k0 (W (x &&& y)) z) :
  ∀ (j i : Nat), i + j = 6 → zda.l2 k0 (j + 1) i (mix i (x &&& y) x) (W y) z := by
 intro j
 induction j with
 | zero =>
  intro i hij
  have h6 : i = 6 := by omega
  have hx' : x < 2 ^ (64 * i) := by rw [yeh (show 64 * i = 384 by omega)]; exact hx
  unfold zda.l2 zda.l2.step
  rw [yau (yb0 (by omega)), yo5 _ _ i (yti hx') hx']
  exact h
 | succ j ih =>
  intro i hij
  have ih := ih (i + 1) (by omega)
  have e : ((i + 1 : Nat) : Int) = (i : Int) + 1 := by omega
  rw [e] at ih
  unfold zda.l2 zda.l2.step
  have hi : (leI 0 (i : Int) && ltI (i : Int) 6) = true := ybz (by omega) (by omega)
  rw [yaD (ybn (by omega)), ya2 hi, ya2 hi, ya2 hi, Int.toNat_natCast, yrI, ya5, ya5, ylN _ _ (ycN _ _) (ycN _ _), ← ys9, ← ya5, ymB, yaw (by omega) (by omega)]
  exact ih
theorem ycA (x y : Nat) (hx : x < Q6) (K : (Nat → Int) → Prop) (h : K (W (x &&& y))) : zda (W x) (W y) K := by
 rw [zda.is]
 refine ⟨7, ?_⟩
 have := yiU x y hx (fun y0 y1 => K y0) (fun _ => 0) h 6 0 rfl
 rw [yl2] at this
 exact this
theorem yr4 (n i : Nat) : ((wd (2 ^ n - 1) i : Nat) : Int) = if 64 * i + 64 ≤ n then ((2 ^ 64 - 1 : Nat) : Int) else if n ≤ 64 * i then 0 else ((2 ^ (n - 64 * i) - 1 : Nat) : Int) := by
 have key : ∀ m, m ≤ 64 → (∀ j, j < 64 → (decide (64 * i + j < n) = decide (j < m))) → wd (2 ^ n - 1) i = 2 ^ m - 1 := by
  intro m hm hj
  apply Nat.eq_of_testBit_eq; intro j
  rw [ybF, Nat.testBit_two_pow_sub_one, Nat.testBit_two_pow_sub_one]
  by_cases h : j < 64
  ·rw [hj j h]; simp [h]
  ·have : ¬ j < m := by omega
   simp [h, this]
 split
 ·rw [key 64 (Nat.le_refl _) (by intro j hj; apply decide_eq_decide.2; omega)]
 ·split
  ·rw [key 0 (by omega) (by intro j hj; apply decide_eq_decide.2; omega)]; rfl
  ·rw [key (n - 64 * i) (by omega) (by intro j hj; apply decide_eq_decide.2; omega)]
theorem ypF (n i : Nat) (hn : n ≤ 384) (hi : i < 6) (K : Int → Prop) : zdq (yae .i64 n (yaR .i64 64 i)) K = K (W (2 ^ n - 1) i) := by
 have e : yae .i64 (n : Int) (yaR .i64 64 (i : Int)) = (n : Int) - 64 * i := by
  rw [ycM (by omega) (by omega), yar (by omega) (by omega)]
 rw [e, ya5, yr4]
 split
 ·rw [yiE _ (by omega)]
 ·split
  ·rw [yi5 _ (by omega) (by omega)]
  ·rw [show (n : Int) - 64 * i = ((n - 64 * i : Nat) : Int) from by omega, yj0 _ (by omega)]
theorem yhy (n : Nat) (hn : n ≤ 384) (k0 : (Nat → Int) → (Nat → Int) → Prop) (z : Nat → Int) (h : k0 z (W (2 ^ n - 1))) :
  ∀ (j i : Nat), i + j = 6 → zdf.l4 k0 (j + 1) n i z (W ((2 ^ n - 1) % 2 ^ (64 * i))) := by
 intro j
 induction j with
 | zero =>
  intro i hij
  have : i = 6 := by omega
  have hp := Nat.two_pow_pos n
  have hlt : 2 ^ n - 1 < 2 ^ (64 * i) := by
   have := Nat.pow_le_pow_right (n := 2) (by omega) (show n ≤ 64 * i by omega)
   omega
  unfold zdf.l4 zdf.l4.step
  rw [yau (yb0 (by omega)), Nat.mod_eq_of_lt hlt]
  exact h
 | succ j ih =>
  intro i hij
  have ih := ih (i + 1) (by omega)
  have e : ((i + 1 : Nat) : Int) = (i : Int) + 1 := by omega
  rw [e, ymw] at ih
  unfold zdf.l4 zdf.l4.step
  rw [yaD (ybn (by omega)), ypF n i hn (by omega), ya2 (ybz (by omega) (by omega)), Int.toNat_natCast, ya5, ysO _ _ i (Nat.mod_lt _ (Nat.two_pow_pos _)) (ycN _ _), yaw (by omega) (by omega)]
  exact ih
theorem ycb (n : Nat) (hn : n ≤ 384) (K : (Nat → Int) → Prop) (h : K (W (2 ^ n - 1))) : zdf n K := by
 rw [zdf.is]; unfold zdf.d
 rw [ydq n hn]
 refine ⟨7, ?_⟩
 have := yhy n hn (fun y0 y1 => K y1) (fun _ => 0) h 6 0 rfl
 rw [Nat.mul_zero, Nat.pow_zero, Nat.mod_one, W_zero] at this
 exact this
theorem yth (a : Nat) : ybA .u64 (a : Int) 64 = 0 := by
 have h1 : min (Int.toNat 64) (IntKind.bits .u64) = 64 := rfl
 simp only [ybA, h1]
 rw [ydt]; omega
theorem yhV (x i q r : Nat) (hr : r < 64) : orI .u64 (yaQ .u64 (W x (i + q)) (r : Int)) (ybA .u64 (W x (i + q + 1)) (yae .u64 64 (r : Int))) = W (x / 2 ^ (64 * q + r)) i := by
 rw [yex (by omega) (by omega), show (64 : Int) - r = ((64 - r : Nat) : Int) from by omega, ya5, ya5, ydM _ _ hr, ya5]
 have hs : wd x (i + q) >>> r < 18446744073709551616 := Nat.lt_of_le_of_lt (Nat.shiftRight_le _ _) (ycN _ _)
 have e : ybA .u64 ((wd x (i + q + 1) : Nat) : Int) ((64 - r : Nat) : Int) = ((wd x (i + q + 1) <<< (64 - r) % 18446744073709551616 : Nat) : Int) := by
  by_cases h0 : r = 0
  ·subst h0
   show ybA .u64 _ 64 = _
   rw [yth, Nat.shiftLeft_eq]; simp
  ·exact ylK _ _ (by omega)
 rw [e, ygR _ _ hs (Nat.mod_lt _ (by omega))]
 congr 1
 apply Nat.eq_of_testBit_eq; intro j
 rw [Nat.testBit_or, Nat.testBit_shiftRight, show (18446744073709551616 : Nat) = 2 ^ 64 from rfl, Nat.testBit_mod_two_pow, Nat.testBit_shiftLeft, ybF, ybF, ybF, Nat.testBit_div_two_pow]
 by_cases hj : j < 64
 ·by_cases h2 : r + j < 64
  ·have h3 : ¬ (64 - r ≤ j) := by omega
   simp [hj, h2, h3]
   congr 1; omega
  ·have h3 : 64 - r ≤ j := by omega
   have h4 : j - (64 - r) < 64 := by omega
   simp [hj, h2, h3, h4]
   congr 1; omega
 ·have h2 : ¬ r + j < 64 := by omega
  simp [hj, h2]
theorem ym1 (x q r i : Nat) (hr : r < 64) (hx : x < Q6) (hi : i + q = 5) : yaQ .u64 (W x (i + q)) (r : Int) = W (x / 2 ^ (64 * q + r)) i := by
 rw [← yhV x i q r hr]
 have h0 : wd x (i + q + 1) = 0 := ycl x _ (by rw [yeh (by omega)]; exact hx)
 rw [ya5 x (i + q + 1), h0]
 have e : ybA .u64 ((0 : Nat) : Int) (yae .u64 64 (r : Int)) = 0 := by
  rw [yex (by omega) (by omega)]
  show IntKind.wrap .u64 _ = _
  rw [ydt]; simp
 have hs : wd x (i + q) >>> r < 18446744073709551616 := Nat.lt_of_le_of_lt (Nat.shiftRight_le _ _) (ycN _ _)
 rw [e, ya5, ydM _ _ hr, show (0 : Int) = ((0 : Nat) : Int) from rfl, ygR _ _ hs (by omega), Nat.or_zero]
theorem yhp (x q r : Nat) (hx : x < Q6) (hr : r < 64) (hq : q ≤ 6) (b : Bool) (k0 : Bool → (Nat → Int) → Prop) (h : k0 b (W (x / 2 ^ (64 * q + r)))) :
  ∀ (j i : Nat), i + q + j = 6 → zdk.l5 k0 (j + 1) b q r i (W x) (W (x / 2 ^ (64 * q + r) % 2 ^ (64 * i))) := by
 intro j
 induction j with
 | zero =>
  intro i hij
  have hlt : x / 2 ^ (64 * q + r) < 2 ^ (64 * i) := by
   rw [Nat.div_lt_iff_lt_mul (Nat.two_pow_pos _), ← Nat.pow_add]
   exact Nat.lt_of_lt_of_le hx (by rw [← yeh (show 64 * i + 64 * q = 384 by omega)]; exact Nat.pow_le_pow_right (by omega) (by omega))
  unfold zdk.l5 zdk.l5.step
  rw [yaw (by omega) (by omega), yau (yb0 (by omega)), Nat.mod_eq_of_lt hlt]
  exact h
 | succ j ih =>
  intro i hij
  have ih := ih (i + 1) (by omega)
  have e : ((i + 1 : Nat) : Int) = (i : Int) + 1 := by omega
  rw [e, ymw] at ih
  unfold zdk.l5 zdk.l5.step
  have e1 : yai .i64 (i : Int) (q : Int) = ((i + q : Nat) : Int) := by rw [yaw (by omega) (by omega)]; omega
  rw [e1, yaD (ybn (by omega)), ya2 (ybz (by omega) (by omega)), ya2 (ygA (by omega)), ya2 (ybz (by omega) (by omega)), Int.toNat_natCast, Int.toNat_natCast]
  rw [show yai .i64 (i : Int) 1 = (i : Int) + 1 from yaw (by omega) (by omega)]
  have e2 : yai .i64 ((i + q : Nat) : Int) 1 = ((i + q + 1 : Nat) : Int) := by rw [yaw (by omega) (by omega)]; omega
  have hsub : yae .u64 64 (r : Int) = 64 - (r : Int) := yex (by omega) (by omega)
  by_cases h5 : i + q < 5
  ·rw [yaD (ybn (by omega)), ya2 (ybz (by omega) (by omega)), e2, ya2 (ybz (by omega) (by omega)), ya2 (ygA (by rw [hsub]; omega)), ya2 (ybz (by omega) (by omega)), Int.toNat_natCast, ypG, yrA, yhV x i q r hr, ya5, ysO _ _ i (Nat.mod_lt _ (Nat.two_pow_pos _)) (ycN _ _)]
   exact ih
  ·rw [yau (yb0 (by omega)), ym1 x q r i hr hx (by omega), ya5, ysO _ _ i (Nat.mod_lt _ (Nat.two_pow_pos _)) (ycN _ _)]
   exact ih
theorem yhT (x n : Nat) (hx : x < Q6) (hn : n ≤ 384) (K : (Nat → Int) → Bool → Prop) (h : ∀ b, K (W (x / 2 ^ n)) b) : zdk (W x) n K := by
 rw [zdk.is]; unfold zdk.d
 have key : ∀ b, ∃ m, zdk.l5 (fun y0 y1 => K y1 y0) m b (yaH IntKind.i64 (n : Int) 64) (cvI IntKind.u64 (yb6 IntKind.i64 (n : Int) 64)) 0 (W x) fun x => 0 := by
  intro b
  rw [yos n (by omega), yps n, yaY (by omega) (by omega)]
  refine ⟨6 - n / 64 + 1, ?_⟩
  have := yhp x (n / 64) (n % 64) hx (Nat.mod_lt _ (by omega)) (by omega) b (fun y0 y1 => K y1 y0) (by rw [Nat.div_add_mod]; exact h b) (6 - n / 64) 0 (by omega)
  rw [Nat.mul_zero, Nat.pow_zero, Nat.mod_one, W_zero] at this
  exact this
 rw [ydq n hn]
 by_cases hz : (!eqN 6 (W x) fun x => 0) = true
 ·rw [yaD hz]
  exact ykS _ _ fun v => key _
 ·rw [yau (by simpa using hz)]
  exact key _
end Go.Ev.S

/- The lowest bit: of a word (the table of math/bits), of six words; a shift to the right with what fell off. -/
set_option linter.unusedVariables false
set_option linter.unusedSimpArgs false
set_option maxRecDepth 8000
namespace Go.Ev.S
open Go Go.Ev
theorem yr1 (k q : Nat) (hk : k < 64) (ha : 2 ^ k * (2 * q + 1) < 18446744073709551616) : (2 ^ k * (2 * q + 1)) &&& (18446744073709551616 - 2 ^ k * (2 * q + 1)) = 2 ^ k := by
 have hp := Nat.two_pow_pos k
 have e1 : 2 ^ k * (2 * q + 1) = 2 ^ (k + 1) * q + 2 ^ k := by rw [Nat.pow_succ, Nat.mul_add, Nat.mul_one, Nat.mul_assoc]
 have e2 : 2 ^ k * (2 * q + 1) - 1 = 2 ^ (k + 1) * q + (2 ^ k - 1) := by omega
 have h1 : 2 ^ k < 2 ^ (k + 1) := Nat.pow_lt_pow_right (by omega) (by omega)
 apply Nat.eq_of_testBit_eq; intro j
 have e3 : 18446744073709551616 - 2 ^ k * (2 * q + 1) = 2 ^ 64 - ((2 ^ k * (2 * q + 1) - 1) + 1) := by
  rw [show (2 : Nat) ^ 64 = 18446744073709551616 from rfl]; omega
 rw [Nat.testBit_and, e3, Nat.testBit_two_pow_sub_succ (by rw [show (2 : Nat) ^ 64 = 18446744073709551616 from rfl]; omega), e2]
 conv => lhs; lhs; rw [e1]
 rw [Nat.testBit_two_pow_mul_add _ h1, Nat.testBit_two_pow_mul_add _ (by omega : 2 ^ k - 1 < 2 ^ (k + 1)), Nat.testBit_two_pow, Nat.testBit_two_pow_sub_one]
 by_cases hj : j < k + 1
 ·by_cases hjk : j = k
  ·subst hjk; simp [hk]
  ·have : j < k := by omega
   have h3 : ¬ k = j := by omega
   simp [hj, this, h3]
 ·have h3 : ¬ k = j := by omega
  simp only [hj, if_false, h3, decide_false]
  cases q.testBit (j - (k + 1)) <;> simp
theorem ysq : ((List.range 64).all fun k => ys1 ((2 ^ k * 285870213051353865 % 18446744073709551616) >>> 58) == (k : Int)) = true := by decide +kernel
theorem yt0 (k q : Nat) (hk : k < 64) (ha : 2 ^ k * (2 * q + 1) < 18446744073709551616) (K : Int → Prop) (h : K k) : zab ((2 ^ k * (2 * q + 1) : Nat) : Int) K := by
 have hp := Nat.two_pow_pos k
 have hpos : 0 < 2 ^ k * (2 * q + 1) := Nat.mul_pos hp (by omega)
 have hl := yr1 k q hk ha
 have hk2 : 2 ^ k < 18446744073709551616 := ykG hk
 have ht := List.all_eq_true.1 ysq k (List.mem_range.2 hk)
 rw [zab.is]; unfold zab.d
 generalize 2 ^ k * (2 * q + 1) = a at *
 have e1 : yrT .u64 (a : Int) = ((18446744073709551616 - a : Nat) : Int) := by
  show IntKind.wrap .u64 _ = _
  rw [ydt]; omega
 have e2 : yaR .u64 ((2 ^ k : Nat) : Int) 285870213051353865 = ((2 ^ k * 285870213051353865 % 18446744073709551616 : Nat) : Int) := by
  show IntKind.wrap .u64 _ = _
  rw [ydt]
  generalize 2 ^ k = p at *
  omega
 have h1 : (2 ^ k * 285870213051353865 % 18446744073709551616) >>> 58 < 64 := by
  rw [Nat.shiftRight_eq_div_pow]
  have := Nat.mod_lt (2 ^ k * 285870213051353865) (show 0 < 18446744073709551616 by omega)
  omega
 rw [yau (yhK (by omega)), e1, ylN _ _ (by omega) (by omega), hl, e2, show (58 : Int) = ((58 : Nat) : Int) from rfl, ydM _ 58 (by omega)]
 refine ⟨ybz (by omega) (by omega), ?_⟩
 rw [Int.toNat_natCast, yrK, eq_of_beq ht, yie (by omega) (by omega)]
 exact h
theorem ylE (k q : Nat) (hk : k < 64) (ha : 2 ^ k * (2 * q + 1) < 18446744073709551616) (K : Int → Prop) (h : K k) : zdp ((2 ^ k * (2 * q + 1) : Nat) : Int) K := by
 rw [zdp.is]; exact yt0 k q hk ha _ h
end Go.Ev.S

/- Lengths, sums and the like: the abacus' words and six words. -/
set_option linter.unusedVariables false
set_option linter.unusedSimpArgs false
set_option maxRecDepth 8000
namespace Go.Ev.S
open Go Go.Ev
theorem ysf (v : Nat) (h : v < 256) : cvI .u8 (v : Int) = (v : Int) := by
 exact yub (by omega) (by omega)
theorem ycS (L : List UInt8) (hL : ((List.range 256).all fun v => yaI L v == (yaC v : Int)) = true) (a n : Nat) (nI S : Int) (hn0 : nI = n) (hS : S = ((a / 2 ^ n : Nat) : Int)) (hlt : a / 2 ^ n < 256) (hn : n ≤ 56)
  (h0 : a / 2 ^ n ≠ 0 ∨ n = 0) (K : Int → Prop) (h : K (yaC a)) : gd (leI 0 (cvI .u8 S) && ltI (cvI .u8 S) 256) (K (yai .i64 nI (cvI .i64 (yaI L (Int.toNat (cvI .u8 S)))))) := by
 subst hS hn0
 have hb : yaI L (a / 2 ^ n) = (yaC (a / 2 ^ n) : Int) := eq_of_beq (List.all_eq_true.1 hL _ (List.mem_range.2 hlt))
 have hb8 : yaC (a / 2 ^ n) ≤ 8 := (yaN _ _).2 hlt
 have e : yaC a = n + yaC (a / 2 ^ n) := by
  rcases h0 with h0 | h0
  ·exact yc7 h0
  ·subst h0; rw [Nat.pow_zero, Nat.div_one, Nat.zero_add]
 generalize a / 2 ^ n = v at *
 rw [ysf _ hlt, ya2 (ybz (by omega) (by omega)), Int.toNat_natCast, hb, yie (by omega) (by omega), yaw (by omega) (by omega), show ((n : Nat) : Int) + (yaC v : Int) = ((yaC a : Nat) : Int) from by rw [e]; omega]
 exact h
theorem ydG (a i : Nat) (hi : i < 64) : yaQ .u64 (a : Int) (i : Int) = ((a / 2 ^ i : Nat) : Int) := by rw [ydM a i hi, Nat.shiftRight_eq_div_pow]
theorem yiZ (a : Nat) (ha : a < 18446744073709551616) (K : Int → Prop) (h : K (yaC a)) : zaa a K := by
 have s32 : yaQ .u64 (a : Int) 32 = ((a / 2 ^ 32 : Nat) : Int) := ydG a 32 (by omega)
 have s16 : yaQ .u64 (a : Int) 16 = ((a / 2 ^ 16 : Nat) : Int) := ydG a 16 (by omega)
 have s8 : yaQ .u64 (a : Int) 8 = ((a / 2 ^ 8 : Nat) : Int) := ydG a 8 (by omega)
 have t16 : yaQ .u64 ((a / 2 ^ 32 : Nat) : Int) 16 = ((a / 2 ^ 32 / 2 ^ 16 : Nat) : Int) := ydG (a / 2 ^ 32) 16 (by omega)
 have t8 : yaQ .u64 ((a / 2 ^ 32 : Nat) : Int) 8 = ((a / 2 ^ 32 / 2 ^ 8 : Nat) : Int) := ydG (a / 2 ^ 32) 8 (by omega)
 have u8 : yaQ .u64 ((a / 2 ^ 32 / 2 ^ 16 : Nat) : Int) 8 = ((a / 2 ^ 32 / 2 ^ 16 / 2 ^ 8 : Nat) : Int) := ydG (a / 2 ^ 32 / 2 ^ 16) 8 (by omega)
 have v8 : yaQ .u64 ((a / 2 ^ 16 : Nat) : Int) 8 = ((a / 2 ^ 16 / 2 ^ 8 : Nat) : Int) := ydG (a / 2 ^ 16) 8 (by omega)
 rw [zaa.is]; unfold zaa.d
 rw [s32, s16, s8, t16, t8, u8, v8]
 have d1 : a / 2 ^ 32 / 2 ^ 16 / 2 ^ 8 = a / 2 ^ 56 := by rw [Nat.div_div_eq_div_mul, Nat.div_div_eq_div_mul]
 have d2 : a / 2 ^ 32 / 2 ^ 16 = a / 2 ^ 48 := by rw [Nat.div_div_eq_div_mul]
 have d3 : a / 2 ^ 32 / 2 ^ 8 = a / 2 ^ 40 := by rw [Nat.div_div_eq_div_mul]
 have d4 : a / 2 ^ 16 / 2 ^ 8 = a / 2 ^ 24 := by rw [Nat.div_div_eq_div_mul]
 rw [d1, d2, d3, d4]
 by_cases c1 : 4294967296 ≤ a
 ·rw [yaD (ya7 (by omega))]
  by_cases c2 : 65536 ≤ a / 2 ^ 32
  ·rw [yaD (ya7 (by omega))]
   by_cases c3 : 256 ≤ a / 2 ^ 48
   ·rw [yaD (ya7 (by omega))]
    exact ycS _ (by decide +kernel) a 56 _ _ rfl rfl (by omega) (by omega) (by omega) K h
   ·rw [yau (yeC (by omega))]
    exact ycS _ (by decide +kernel) a 48 _ _ rfl rfl (by omega) (by omega) (by omega) K h
  ·rw [yau (yeC (by omega))]
   by_cases c3 : 256 ≤ a / 2 ^ 32
   ·rw [yaD (ya7 (by omega))]
    exact ycS _ (by decide +kernel) a 40 _ _ rfl rfl (by omega) (by omega) (by omega) K h
   ·rw [yau (yeC (by omega))]
    exact ycS _ (by decide +kernel) a 32 _ _ rfl rfl (by omega) (by omega) (by omega) K h
 ·rw [yau (yeC (by omega))]
  by_cases c2 : 65536 ≤ a
  ·rw [yaD (ya7 (by omega))]
   by_cases c3 : 256 ≤ a / 2 ^ 16
   ·rw [yaD (ya7 (by omega))]
    exact ycS _ (by decide +kernel) a 24 _ _ rfl rfl (by omega) (by omega) (by omega) K h
   ·rw [yau (yeC (by omega))]
    exact ycS _ (by decide +kernel) a 16 _ _ rfl rfl (by omega) (by omega) (by omega) K h
  ·rw [yau (yeC (by omega))]
   by_cases c3 : 256 ≤ a
   ·rw [yaD (ya7 (by omega))]
    exact ycS _ (by decide +kernel) a 8 _ _ rfl rfl (by omega) (by omega) (by omega) K h
   ·rw [yau (yeC (by omega))]
    exact ycS _ (by decide +kernel) a 0 _ _ rfl (by simp) (by simp; omega) (by omega) (.inr rfl) K h
theorem yeF (a : Nat) (ha : a < 18446744073709551616) (K : Int → Prop) (h : K (yaC a)) : zdo a K := by
 rw [zdo.is]; exact yiZ a ha _ h
theorem yfb (x : Nat) (k0 : Int → Prop) (k1 : Prop) (h : x ≠ 0 → k0 (yaC x)) (n i : Nat) (hi : i < 6) (hx : x < 2 ^ (64 * (i + 1))) (hrec : x < 2 ^ (64 * i) → zdd.l2 k0 k1 n ((i : Int) - 1) (W x)) :
  zdd.l2 k0 k1 (n + 1) i (W x) := by
 have hwd : wd x i = x / 2 ^ (64 * i) := by
  unfold wd
  apply Nat.mod_eq_of_lt
  rw [Nat.div_lt_iff_lt_mul (Nat.two_pow_pos _), show (18446744073709551616 : Nat) = 2 ^ 64 from rfl, ← Nat.pow_add]
  rw [show 64 + 64 * i = 64 * (i + 1) from by omega]; exact hx
 unfold zdd.l2 zdd.l2.step
 have hi' : (leI 0 (i : Int) && ltI (i : Int) 6) = true := ybz (by omega) (by omega)
 rw [yaD (ya7 (by omega)), ya2 hi', Int.toNat_natCast, ya5]
 by_cases hz : wd x i = 0
 ·have hx2 : x < 2 ^ (64 * i) := by
   rw [hwd] at hz
   rcases (Nat.div_eq_zero_iff).1 hz with h' | h'
   ·have := Nat.two_pow_pos (64 * i); omega
   ·exact h'
  rw [yau (by rw [hz]; rfl), yar (by omega) (by omega)]
  exact hrec hx2
 ·rw [yaD (by rw [show (0 : Int) = ((0 : Nat) : Int) from rfl, yfZ]; simp [hz]), ya2 hi']
  refine yeF _ (ycN _ _) _ ?_
  have hb : yaC (wd x i) ≤ 64 := (yaN _ _).2 (ycN x i)
  rw [ycM (by omega) (by omega), yaw (by omega) (by omega)]
  have hx0 : x ≠ 0 := by
   intro e; subst e; exact hz (ycl 0 i (Nat.two_pow_pos _))
  have := h hx0
  rw [hwd] at hz ⊢
  rw [yc7 hz] at this
  rw [show (64 * (i : Int) + (yaC (x / 2 ^ (64 * i)) : Int)) = ((64 * i + yaC (x / 2 ^ (64 * i)) : Nat) : Int) from by omega]
  exact this
theorem yi9 (x : Nat) (k0 : Int → Prop) (k1 : Prop) (h : x ≠ 0 → k0 (yaC x)) (h1 : x = 0 → k1) (i : Nat) : i < 6 → x < 2 ^ (64 * (i + 1)) → zdd.l2 k0 k1 (i + 2) i (W x) := by
 induction i with
 | zero =>
  intro hi hx
  refine yfb x k0 k1 h 1 0 hi hx fun hx2 => ?_
  have hx0 : x = 0 := by
   have : x < 1 := hx2
   omega
  unfold zdd.l2 zdd.l2.step
  rw [yau (by decide)]
  exact h1 hx0
 | succ i ih =>
  intro hi hx
  refine yfb x k0 k1 h (i + 2) (i + 1) hi hx fun hx2 => ?_
  rw [show (((i + 1 : Nat) : Int) - 1) = (i : Int) from by omega]
  exact ih (by omega) hx2
theorem ybq (x : Nat) (hx : x < Q6) (K : Int → Prop) (h : K (yaC x)) : zdd (W x) K := by
 rw [zdd.is]
 obtain ⟨i, hi⟩ : ∃ i, i = 5 := ⟨_, rfl⟩
 have := yi9 x K (K 0) (fun _ => h) (fun e => by subst e; exact h) i (by omega) (by rw [yeh (show 64 * (i + 1) = 384 by omega)]; exact hx)
 rw [hi] at this
 exact ⟨5 + 2, this⟩
theorem ynL (x : Nat) (h : x < 18446744073709551616) (K : (Nat → Int) → Prop) : zdg x K = K (W x) := by
 rw [zdg.is]; unfold zdg.d; rw [ytY x h]
theorem yei (x : Nat) (h : x < 2 ^ 128) (K : Int → Int → Bool → Prop) : zdm (W x) K = K (Hi x) (Lo x) true := by
 rw [zdm.is]; unfold zdm.d
 rw [ymn x 2 h (by omega), ymn x 3 h (by omega), ymn x 4 h (by omega), ymn x 5 h (by omega), yul x h, yui x]
 rfl
theorem yjK (x y : Nat) (hx : x < Q6) (hy : y < Q6) (k0 : (Nat → Int) → (Nat → Int) → Prop) (z : Nat → Int) (h : k0 (W (x ||| y)) z) :
  ∀ (j i : Nat), i + j = 6 → zdi.l2 k0 (j + 1) i (mix i (x ||| y) x) (W y) z := by
 intro j
 induction j with
 | zero =>
  intro i hij
  have hx' : x < 2 ^ (64 * i) := by rw [yeh (show 64 * i = 384 by omega)]; exact hx
  have hy' : y < 2 ^ (64 * i) := by rw [yeh (show 64 * i = 384 by omega)]; exact hy
  unfold zdi.l2 zdi.l2.step
  rw [yau (yb0 (by omega)), yo5 _ _ i (Nat.or_lt_two_pow hx' hy') hx']
  exact h
 | succ j ih =>
  intro i hij
  have ih := ih (i + 1) (by omega)
  have e : ((i + 1 : Nat) : Int) = (i : Int) + 1 := by omega
  rw [e] at ih
  unfold zdi.l2 zdi.l2.step
  have hi : (leI 0 (i : Int) && ltI (i : Int) 6) = true := ybz (by omega) (by omega)
  rw [yaD (ybn (by omega)), ya2 hi, ya2 hi, ya2 hi, Int.toNat_natCast, yrI, ya5, ya5, ygR _ _ (ycN _ _) (ycN _ _), ← ytj, ← ya5, ymB, yaw (by omega) (by omega)]
  exact ih
theorem ynt (x y : Nat) (hx : x < Q6) (hy : y < Q6) (K : (Nat → Int) → Prop) (h : K (W (x ||| y))) : zdi (W x) (W y) K := by
 rw [zdi.is]
 refine ⟨7, ?_⟩
 have := yjK x y hx hy (fun y0 y1 => K y0) (fun _ => 0) h 6 0 rfl
 rw [yl2] at this
 exact this
def part (z i : Nat) : Nat → Int := fun j => cond (Nat.ble i j) (W z j) 0
theorem yqo (z : Nat) (hz : z < Q6) : part z 6 = fun _ => 0 := by
 funext j
 unfold part
 cases h : Nat.ble 6 j with
 | false => rfl
 | true =>
  have hj : 6 ≤ j := Nat.le_of_ble_eq_true h
  show W z j = 0
  rw [ya5, ycl z j]; rfl
  obtain ⟨m, hm⟩ : ∃ m : Nat, m = 384 := ⟨_, rfl⟩
  exact Nat.lt_of_lt_of_le hz (by rw [← yeh hm]; exact Nat.pow_le_pow_right (by omega) (by omega))
theorem ykA (z i : Nat) : upd (part z (i + 1)) i (W z i) = part z i := by
 funext j
 simp only [upd, part]
 by_cases h : j = i
 ·subst h
  have h1 : Nat.beq j j = true := by simp
  have h2 : Nat.ble j j = true := by simp
  rw [h1, h2]; rfl
 ·have h1 : Nat.beq j i = false := by rw [Bool.eq_false_iff]; intro hq; exact h (Nat.eq_of_beq_eq_true hq)
  have h2 : Nat.ble (i + 1) j = Nat.ble i j := by
   rw [Bool.eq_iff_iff, Nat.ble_eq, Nat.ble_eq]; omega
  rw [h1, h2]; rfl
theorem yqy (x q r : Nat) (hx : x < Q6) (hq : q ≤ 6) (hr : r < 64) : part (x * 2 ^ (64 * q + r) % Q6) q = W (x * 2 ^ (64 * q + r) % Q6) := by
 funext j
 unfold part
 cases h : Nat.ble q j with
 | true => rfl
 | false =>
  have hj : j < q := by
   apply Classical.byContradiction; intro hc
   have := Nat.ble_eq_true_of_le (show q ≤ j by omega)
   rw [this] at h; cases h
  show 0 = W _ j
  obtain ⟨m, hm⟩ : ∃ m : Nat, m = 384 := ⟨_, rfl⟩
  rw [ya5]
  have : wd (x * 2 ^ (64 * q + r) % Q6) j = 0 := by
   apply Nat.eq_of_testBit_eq; intro b
   rw [ybF, Nat.zero_testBit, ← yeh hm, Nat.testBit_mod_two_pow, ← Nat.shiftLeft_eq, Nat.testBit_shiftLeft]
   by_cases hb : b < 64
   ·have : ¬ 64 * q + r ≤ 64 * j + b := by omega
    simp [this]
   ·simp [hb]
  rw [this]; rfl
theorem ysi (a s : Nat) (ha : a < 18446744073709551616) (hs : s ≤ 64) : yaQ .u64 (a : Int) (s : Int) = ((a >>> s : Nat) : Int) := by
 by_cases h : s = 64
 ·subst h
  rw [ysX a 64 ha (by omega), Nat.shiftRight_eq_div_pow, Nat.div_eq_of_lt (by exact ha)]; rfl
 ·exact ydM a s (by omega)
theorem ysy (x q r i : Nat) (hi : i < 6) (hq : q ≤ i) (hr : r < 64) :
  wd (x * 2 ^ (64 * q + r) % Q6) i = (wd x (i - q) <<< r % 18446744073709551616) ||| (if q < i then wd x (i - q - 1) >>> (64 - r) else 0) := by
 obtain ⟨m, hm⟩ : ∃ m : Nat, m = 384 := ⟨_, rfl⟩
 apply Nat.eq_of_testBit_eq; intro b
 rw [ybF, ← yeh hm, Nat.testBit_mod_two_pow, ← Nat.shiftLeft_eq, Nat.testBit_shiftLeft, Nat.testBit_or, show (18446744073709551616 : Nat) = 2 ^ 64 from rfl, Nat.testBit_mod_two_pow, Nat.testBit_shiftLeft, ybF]
 by_cases hb : b < 64
 ·have h1 : 64 * i + b < m := by omega
  by_cases hbr : r ≤ b
  ·have h2 : 64 * q + r ≤ 64 * i + b := by omega
   have h3 : b - r < 64 := by omega
   have h4 : 64 * i + b - (64 * q + r) = 64 * (i - q) + (b - r) := by omega
   split
   ·rw [Nat.testBit_shiftRight, ybF]
    have h5 : ¬ 64 - r + b < 64 := by omega
    simp [hb, h1, hbr, h2, h3, h4, h5]
   ·simp [hb, h1, hbr, h2, h3, h4]
  ·split
   ·rename_i hqi
    rw [Nat.testBit_shiftRight, ybF]
    have h2 : 64 * q + r ≤ 64 * i + b := by omega
    have h5 : 64 - r + b < 64 := by omega
    have h4 : 64 * i + b - (64 * q + r) = 64 * (i - q - 1) + (64 - r + b) := by omega
    simp [hb, h1, hbr, h2, h4, h5]
   ·have h2 : ¬ 64 * q + r ≤ 64 * i + b := by omega
    simp [hb, h1, hbr, h2]
 ·split
  ·rw [Nat.testBit_shiftRight, ybF]
   have h5 : ¬ 64 - r + b < 64 := by omega
   simp [hb, h5]
  ·simp [hb]
theorem yhx (x q r : Nat) (hx : x < Q6) (hr : r < 64) (hq : q ≤ 6) (b : Bool) (k0 : Bool → (Nat → Int) → Prop) (h : k0 b (W (x * 2 ^ (64 * q + r) % Q6))) :
  ∀ (j : Nat), q + j ≤ 6 → zdc.l5 k0 (j + 1) b q r (((q + j : Nat) : Int) - 1) (W x) (part (x * 2 ^ (64 * q + r) % Q6) (q + j)) := by
 intro j
 induction j with
 | zero =>
  intro hij
  unfold zdc.l5 zdc.l5.step
  rw [yau (yeC (by omega)), Nat.add_zero, yqy x q r hx hq hr]
  exact h
 | succ j ih =>
  intro hij
  have ih := ih (by omega)
  have e : (((q + (j + 1) : Nat) : Int) - 1) = ((q + j : Nat) : Int) := by omega
  rw [e]
  unfold zdc.l5 zdc.l5.step
  have e1 : yae .i64 ((q + j : Nat) : Int) (q : Int) = (j : Int) := by rw [yar (by omega) (by omega)]; omega
  have e2 : yae .i64 ((q + j : Nat) : Int) 1 = ((q + j : Nat) : Int) - 1 := yar (by omega) (by omega)
  have lw := ysy x q r (q + j) (by omega) (by omega) hr
  have lj : q + j - q = j := by omega
  rw [lj] at lw
  have ha : wd x j <<< r % 18446744073709551616 < 18446744073709551616 := Nat.mod_lt _ (by omega)
  rw [yaD (ya7 (by omega)), e1, ya2 (ybz (by omega) (by omega)), ya2 (ygA (by omega)), ya2 (ybz (by omega) (by omega)), Int.toNat_natCast, Int.toNat_natCast, ya5 x j, ylK _ r hr, e2]
  by_cases hj : j = 0
  ·rw [if_neg (by omega), Nat.or_zero] at lw
   rw [yau (yb0 (by omega)), ← lw, ← ya5, show q + (j + 1) = q + j + 1 from rfl, ykA]
   exact ih
  ·rw [if_pos (by omega)] at lw
   have hs : wd x (j - 1) >>> (64 - r) < 18446744073709551616 := Nat.lt_of_le_of_lt (Nat.shiftRight_le _ _) (ycN _ _)
   have e3 : yae .i64 (j : Int) 1 = ((j - 1 : Nat) : Int) := by rw [yar (by omega) (by omega)]; omega
   have e4 : yae .u64 64 (r : Int) = ((64 - r : Nat) : Int) := by rw [yex (by omega) (by omega)]; omega
   rw [yaD (ybn (by omega)), ya2 (ybz (by omega) (by omega)), e3, ya2 (ybz (by omega) (by omega)), e4, ya2 (ygA (by omega)), ya2 (ybz (by omega) (by omega)), ypG, yrA, Int.toNat_natCast, ya5 x (j - 1), ysi _ _ (ycN _ _) (by omega), ygR _ _ ha hs, ← lw, ← ya5, show q + (j + 1) = q + j + 1 from rfl, ykA]
   exact ih
theorem yiT (x n : Nat) (hx : x < Q6) (hn : n ≤ 384) (K : (Nat → Int) → Bool → Prop) (h : ∀ b, K (W (x * 2 ^ n % Q6)) b) : zdc (W x) n K := by
 rw [zdc.is]; unfold zdc.d
 have key : ∀ b, ∃ m, zdc.l5 (fun y0 y1 => K y1 y0) m b (yaH IntKind.i64 (n : Int) 64) (cvI IntKind.u64 (yb6 IntKind.i64 (n : Int) 64)) 5 (W x) fun x => 0 := by
  intro b
  rw [yos n (by omega), yps n, yaY (by omega) (by omega)]
  refine ⟨6 - n / 64 + 1, ?_⟩
  have hm : n % 64 < 64 := Nat.mod_lt _ (by omega)
  have := yhx x (n / 64) (n % 64) hx hm (by omega) b (fun y0 y1 => K y1 y0) (by rw [Nat.div_add_mod]; exact h b) (6 - n / 64) (by omega)
  rw [show n / 64 + (6 - n / 64) = 6 from by omega, yqo _ (Nat.mod_lt _ ytl)] at this
  exact this
 rw [ydq n hn]
 refine ybq x hx _ ?_
 by_cases hc : ltI 384 (yai IntKind.i64 (yaC x : Int) (n : Int)) = true
 ·rw [yaD hc]; exact key _
 ·rw [yau (by simpa using hc)]; exact key _
end Go.Ev.S

/- The texts of numbers of 384 bits. -/
set_option linter.unusedVariables false
set_option linter.unusedSimpArgs false
set_option maxRecDepth 8000
namespace Go.Ev.S
open Go Go.Ev
def tw (v : Nat) : List UInt8 := if v = 0 then [48] else hx v
theorem ytp {v N : Nat} (hN : N = 96) (h : v < Q6) : v < 16 ^ N := by
 rw [p16, yeh (by omega)]; exact h
theorem yqB {v : Nat} (h : v < Q6) : yaC v ≤ 384 := (yaN v 384).2 (Nat.lt_of_lt_of_eq h (yeh rfl).symm)
theorem yty (v k : Nat) : dg 64 v (k / 16) / 2 ^ (4 * (k % 16)) % 16 = dg 4 v k := by
 unfold dg
 have hs : 4 * (k % 16) + 4 ≤ 64 := by omega
 generalize hsd : 4 * (k % 16) = s at *
 have e1 : (2 : Nat) ^ 64 = 2 ^ s * 2 ^ (64 - s) := by rw [← Nat.pow_add]; congr 1; omega
 have e2 : 2 ^ (64 - s) = 16 * 2 ^ (60 - s) := by rw [show (16 : Nat) = 2 ^ 4 from rfl, ← Nat.pow_add]; congr 1; omega
 rw [e1, Nat.mod_mul_right_div_self, e2, Nat.mod_mul_right_mod, Nat.div_div_eq_div_mul, ← Nat.pow_add, show (2 : Nat) ^ 4 = 16 from rfl]
 congr 3; omega
theorem nib (v k : Nat) : yhq .u64 (yaQ .u64 (W v (k / 16)) ((4 * (k % 16) : Nat) : Int)) 15 = ((dg 4 v k : Nat) : Int) := by
 have hw : wd v (k / 16) < 18446744073709551616 := ycN _ _
 have hb : wd v (k / 16) / 2 ^ (4 * (k % 16)) < 2 ^ IntKind.u64.bits := Nat.lt_of_le_of_lt (Nat.div_le_self _ _) hw
 rw [ya5, ydG _ _ (by omega), show (15 : Int) = ((15 : Nat) : Int) from rfl, yua rfl _ _ hb (by decide)]
 congr 1
 have := yty v k
 have e : wd v (k / 16) = dg 64 v (k / 16) := rfl
 rw [e, show (15 : Nat) = 2 ^ 4 - 1 from rfl, Nat.and_two_pow_sub_one_eq_mod]
 exact this
theorem ytG (v k : Nat) : dg 4 v k < 16 := ybN 4 v k
theorem yqR : ∀ (n x : Nat) (g : Nat → Int), (∀ j, j < n → g j = ((yph (dg 4 x (n - 1 - j))).toNat : Int)) → x < 2 ^ (4 * n) → (n = 0 ∨ dg 4 x (n - 1) ≠ 0) → ya1 n g = hx x := by
 intro n
 induction n with
 | zero =>
  intro x g _ hx' _
  have : x = 0 := by simp at hx'; omega
  subst this; rw [yeu]; rfl
 | succ n ih =>
  intro x g hg hx' ht
  have hx0 : x ≠ 0 := by
   intro e; subst e
   rcases ht with h | h
   ·omega
   ·exact h (ydP 4 0 _ (Nat.two_pow_pos _))
  have hd : ∀ j, dg 4 (x / 16) j = dg 4 x (1 + j) := fun j => by
   have := yh3 4 x 1 j
   rwa [show 2 ^ (4 * 1) = 16 from rfl] at this
  have h1 : ya1 n g = hx (x / 16) := by
   refine ih (x / 16) g (fun j hj => ?_) ?_ ?_
   ·rw [hg j (by omega), hd]; congr 4; omega
   ·rw [Nat.div_lt_iff_lt_mul (by omega)]; rw [ydS] at hx'; exact hx'
   ·rcases Nat.eq_zero_or_pos n with h | h
    ·exact .inl h
    ·right
     rw [hd, show 1 + (n - 1) = n + 1 - 1 from by omega]
     exact ht.resolve_left (by omega)
  have h2 : ya1 (n + 1) g = ya1 n g ++ [UInt8.ofNat (g n).toNat] := by
   unfold ya1
   rw [List.range_succ, List.map_append]; rfl
  rw [h2, h1, ye1 hx0, hg n (by omega), Int.toNat_natCast, show n + 1 - 1 - n = 0 from by omega]
  congr 2
  unfold dg
  rw [Nat.mul_zero, Nat.pow_zero, Nat.div_one]
  exact UInt8.ofNat_toNat
theorem yhI (v n : Nat) (hn : n ≤ 96) (k0 : Nat → Nat → Nat → (Nat → Int) → Prop) (hk : ∀ g : Nat → Int, (∀ j, j < n → g j = ((yph (dg 4 v (n - 1 - j))).toNat : Int)) → k0 n n n g) :
  ∀ (j i : Nat), i + j = n → ∀ g : Nat → Int, (∀ t, t < i → g t = ((yph (dg 4 v (n - 1 - t))).toNat : Int)) → ∃ m, zdl.l4 k0 m (n : Int) n n (n : Int) (i : Int) (W v) n g := by
 intro j
 induction j with
 | zero =>
  intro i hi g hg
  refine ⟨1, ?_⟩
  unfold zdl.l4 zdl.l4.step
  rw [yau (yb0 (by omega))]
  exact hk g fun t ht => hg t (by omega)
 | succ j ih =>
  intro i hi g hg
  obtain ⟨m, hm⟩ := ih (i + 1) (by omega) (upd g i ((yph (dg 4 v (n - 1 - i))).toNat : Int)) (fun t ht => by
   by_cases h : t = i
   ·subst h; rw [ybv]
   ·rw [yco _ _ _ _ h]; exact hg t (by omega))
  refine ⟨m + 1, ?_⟩
  unfold zdl.l4 zdl.l4.step
  have e0 : yae .i64 (yae .i64 (n : Int) 1) (i : Int) = ((n - 1 - i : Nat) : Int) := by rw [yar (a := (n : Int)) (by omega) (by omega), yar (by omega) (by omega)]; omega
  have e1 : yaH .i64 ((n - 1 - i : Nat) : Int) 16 = (((n - 1 - i) / 16 : Nat) : Int) := yiM _ 16 (by omega) (by omega)
  have e2 : yb6 .i64 ((n - 1 - i : Nat) : Int) 16 = (((n - 1 - i) % 16 : Nat) : Int) := ylR .i64 _ 16
  have e3 : cvI .u64 (yaR .i64 4 (((n - 1 - i) % 16 : Nat) : Int)) = ((4 * ((n - 1 - i) % 16) : Nat) : Int) := by
   rw [ycM (by omega) (by omega), yaY (by omega) (by omega)]; omega
  have hd := ytG v (n - 1 - i)
  rw [yaD (ybn (by omega)), e0, e1, e2, e3, Int.toNat_natCast, nib, Int.toNat_natCast, Int.toNat_natCast, yrZ _ hd, yaw (by omega) (by omega)]
  rw [ya2 (by simp only [Bool.and_eq_true]; exact ⟨ya7 (by omega), ybn (by omega)⟩), ya2 (by rw [yb0 (by omega)]; rfl), ya2 (by simp only [Bool.and_eq_true]; exact ⟨ya7 (by omega), ybn (by omega)⟩), ya2 (by simp only [Bool.and_eq_true]; exact ⟨ya7 (by omega), ybn (by omega)⟩)]
  exact hm
theorem yfK (v : Nat) (hv : v < Q6) (K : List UInt8 → Prop) (hK : K (tw v)) : zdl (W v) K := by
 rw [zdl.is]; unfold zdl.d
 refine ybq v hv _ ?_
 have hb : yaC v ≤ 384 := by
  exact yqB hv
 have hq : yaH .i64 (yai .i64 (yaC v : Int) 3) 4 = (((yaC v + 3) / 4 : Nat) : Int) := by
  rw [yaw (by omega) (by omega), show (yaC v : Int) + 3 = ((yaC v + 3 : Nat) : Int) from by omega]; exact yiM _ 4 (by omega) (by omega)
 obtain ⟨n, hn⟩ : ∃ n : Nat, n = if (yaC v + 3) / 4 < 1 then 1 else (yaC v + 3) / 4 := ⟨_, rfl⟩
 have hm : yfE 1 (yaH .i64 (yai .i64 (yaC v : Int) 3) 4) = (n : Int) := by
  rw [hq, yfq, hn]; split <;> split <;> omega
 have hn96 : n ≤ 96 := by rw [hn]; split <;> omega
 have hn1 : 1 ≤ n := by rw [hn]; split <;> omega
 rw [hm, ya2 (by simp only [Bool.and_eq_true]; exact ⟨ya7 (by omega), ya7 (by omega), ya7 (by omega)⟩), Int.toNat_natCast]
 have hlt : v < 2 ^ (4 * n) := by rw [← yaN, hn]; split <;> omega
 refine yhI v n hn96 _ (fun g hg => ?_) n 0 (by omega) _ (fun t ht => by omega)
 show K (ya1 n g)
 unfold tw at hK
 by_cases h0 : v = 0
 ·rw [if_pos h0] at hK
  have hn' : n = 1 := by rw [hn, h0, show yaC 0 = 0 from by decide]; rfl
  subst hn'
  have : ya1 1 g = [48] := by
   unfold ya1
   rw [show List.range 1 = [0] from rfl, List.map_cons, List.map_nil, hg 0 (by omega), h0, show dg 4 0 (1 - 1 - 0) = 0 from by decide]; rfl
  rw [this]; exact hK
 ·rw [if_neg h0] at hK
  rw [yqR n v g hg hlt (.inr ?_)]
  ·exact hK
  ·intro hz
   have h1 := ybY 4 v (n - 1)
   rw [show n - 1 + 1 = n from by omega, Nat.mod_eq_of_lt hlt, hz, Nat.zero_mul, Nat.add_zero] at h1
   have h2 : v < 2 ^ (4 * (n - 1)) := by rw [h1]; exact Nat.mod_lt _ (Nat.two_pow_pos _)
   rw [← yaN] at h2
   have : yaC v ≠ 0 := by
    intro hh
    have := (yaN v 0).1 (by omega); omega
   rw [hn] at h2
   split at h2 <;> omega
end Go.Ev.S

/- Natural numbers as rows of words: moved to the left and to the right; how long they are. -/
set_option linter.unusedVariables false
set_option linter.unusedSimpArgs false
set_option maxRecDepth 8000
namespace Go.Ev.S
open Go Go.Ev
theorem yg0 {d m r : Nat} (hd : d < 2 ^ r) (hm : m % 2 ^ r = 0) : d ||| m = d + m := by
 have h5 := Nat.div_add_mod m (2 ^ r)
 rw [hm, Nat.add_zero, Nat.mul_comm] at h5
 have := Nat.shiftLeft_add_eq_or_of_lt hd (m / 2 ^ r)
 rw [Nat.shiftLeft_eq, h5] at this
 rw [Nat.or_comm, ← this, Nat.add_comm]
theorem B64 : (2 : Nat) ^ 64 = 18446744073709551616 := rfl
theorem ykf (a r : Nat) (ha : a < 4294967296) (hr : r < 32) : ybA .u64 (a : Int) (r : Int) = ((a * 2 ^ r : Nat) : Int) ∧ a * 2 ^ r < 9223372036854775808 := by
 have h1 : a * 2 ^ r < 2 ^ 63 := by
  have h2 : a * 2 ^ r < 2 ^ 32 * 2 ^ 31 := Nat.mul_lt_mul_of_lt_of_le (by rw [B32]; exact ha) (Nat.pow_le_pow_right (by omega) (by omega)) (Nat.two_pow_pos _)
  rwa [← Nat.pow_add] at h2
 have e63 : (2 : Nat) ^ 63 = 9223372036854775808 := rfl
 have hb : IntKind.bits .u64 = 64 := rfl
 refine ⟨?_, by omega⟩
 rw [ynZ (k := .u64) rfl a r (by rw [hb]; omega), hb, Nat.mod_eq_of_lt (by rw [B64]; omega)]
theorem yoF (s B P : Nat) : s % B * P + s / B * (P * B) = s * P := by
 have := Nat.div_add_mod s B
 conv => rhs; rw [← this]
 rw [Nat.add_mul, Nat.mul_comm B, Nat.mul_assoc, Nat.mul_comm B, Nat.add_comm]
theorem ysE (x i s t y N : Nat) (ht : t = i + s / 32) (hy : dg 32 x i * 2 ^ (s % 32) = y) (hNN : x % 2 ^ (32 * i) * 2 ^ s = N) :
  ∃ N1, upd (G 32 N) t (((dg 32 N t ||| y % 4294967296 : Nat)) : Int) = G 32 N1 ∧ dg 32 N1 (t + 1) = 0 ∧ upd (G 32 N1) (t + 1) ((y / 4294967296 : Nat) : Int) = G 32 (x % 2 ^ (32 * (i + 1)) * 2 ^ s) := by
 have hdx := ybN 32 x i
 rw [B32] at hdx
 have hr : s % 32 < 32 := Nat.mod_lt _ (by omega)
 have hx := Nat.mod_lt x (Nat.two_pow_pos (32 * i))
 have hp : 2 ^ (32 * i) * 2 ^ s = 2 ^ (32 * t + s % 32) := by rw [← Nat.pow_add]; congr 1; omega
 have hN : N < 2 ^ (32 * t + s % 32) := by
  rw [← hp, ← hNN]; exact Nat.mul_lt_mul_of_pos_right hx (Nat.two_pow_pos _)
 have hlow := ymi 32 N t (s % 32) hN
 have hN1 : N < 2 ^ (32 * (t + 1)) := Nat.lt_of_lt_of_le hN (Nat.pow_le_pow_right (by omega) (by omega))
 have hym : y % 4294967296 % 2 ^ (s % 32) = 0 := by
  rw [show (4294967296 : Nat) = 2 ^ 32 from rfl, Nat.mod_mod_of_dvd _ (Nat.pow_dvd_pow 2 (by omega)), ← hy]
  exact Nat.mul_mod_left _ _
 have hor : dg 32 N t ||| y % 4294967296 = dg 32 N t + y % 4294967296 := yg0 hlow hym
 have hsum : dg 32 N t + y % 4294967296 < 2 ^ 32 := by
  rw [← hor]; exact Nat.or_lt_two_pow (ybN 32 N t) (by rw [B32]; exact Nat.mod_lt _ (by omega))
 have hyl : y / 4294967296 < 2 ^ 32 := by
  rw [B32, Nat.div_lt_iff_lt_mul (by omega), ← hy]
  have : dg 32 x i * 2 ^ (s % 32) < 2 ^ 32 * 2 ^ 32 := Nat.mul_lt_mul_of_lt_of_le (by rw [B32]; exact hdx) (Nat.pow_le_pow_right (by omega) (by omega)) (Nat.two_pow_pos _)
  rw [B32] at this; exact this
 have hG1 : upd (G 32 N) t (((dg 32 N t ||| y % 4294967296 : Nat)) : Int) = G 32 (N + y % 4294967296 * 2 ^ (32 * t)) := by
  rw [hor]
  refine ykE ?_ hsum
  rw [Nat.add_mul]; omega
 have hlt : N + y % 4294967296 * 2 ^ (32 * t) < 2 ^ (32 * (t + 1)) := by
  have hNl : N = N % 2 ^ (32 * t) + dg 32 N t * 2 ^ (32 * t) := by
   have := ybY 32 N t
   rw [Nat.mod_eq_of_lt hN1] at this; exact this
  have h1 := ypJ 32 (N % 2 ^ (32 * t)) (dg 32 N t + y % 4294967296) t (Nat.mod_lt _ (Nat.two_pow_pos _)) hsum
  rw [Nat.add_mul] at h1
  omega
 refine ⟨N + y % 4294967296 * 2 ^ (32 * t), hG1, ydP 32 _ _ hlt, ?_⟩
 rw [yp2 32 _ _ (t + 1) hlt hyl]
 refine congrArg (G 32) ?_
 have h2 := yoF y 4294967296 (2 ^ (32 * t))
 rw [ydS, B32]
 have h3 : y * 2 ^ (32 * t) = dg 32 x i * 2 ^ (32 * i) * 2 ^ s := by
  rw [← hy, Nat.mul_assoc, ← Nat.pow_add, Nat.mul_assoc, ← Nat.pow_add]; congr 2; omega
 rw [ybY, Nat.add_mul, hNN, ← h3]
 omega
theorem ylX (x n s : Nat) (hn : n ≤ 1000000) (hs : s ≤ 100000000) (hx : x < 2 ^ (32 * n)) (c0 m0 : Nat) (k0 : Nat → Nat → Nat → (Nat → Int) → Prop) (h : k0 (n + s / 32 + 1) c0 m0 (G 32 (x * 2 ^ s))) :
  ∀ (j i : Nat), i + j = n → zcb.l5 k0 (j + 1) s (n + s / 32 + 1) c0 n (G 32 x) n i m0 (G 32 (x % 2 ^ (32 * i) * 2 ^ s)) := by
 intro j
 induction j with
 | zero =>
  intro i hi
  unfold zcb.l5 zcb.l5.step
  rw [yau (yb0 (by omega)), show i = n from by omega, Nat.mod_eq_of_lt hx]
  exact h
 | succ j ih =>
  intro i hi
  have ih := ih (i + 1) (by omega)
  have e : ((i + 1 : Nat) : Int) = (i : Int) + 1 := by omega
  obtain ⟨N1, u1, u2, u3⟩ := ysE x i s _ _ _ rfl rfl rfl
  rw [e, ← u3] at ih
  have hd := ybN 32 x i
  rw [B32] at hd
  obtain ⟨q1, q2⟩ := ykf (dg 32 x i) (s % 32) hd (Nat.mod_lt _ (by omega))
  have e1 : Int.toNat ((i : Int) + (s : Int) / 32) = i + s / 32 := by omega
  have e2 : Int.toNat ((i : Int) + (s : Int) / 32 + 1) = i + s / 32 + 1 := by omega
  have e3 : (s : Int) % 32 = ((s % 32 : Nat) : Int) := by omega
  have e4 : ((dg 32 x i * 2 ^ (s % 32) : Nat) : Int) % 4294967296 = ((dg 32 x i * 2 ^ (s % 32) % 4294967296 : Nat) : Int) := by omega
  have e5 : ((dg 32 x i * 2 ^ (s % 32) : Nat) : Int) / 4294967296 % 4294967296 = ((dg 32 x i * 2 ^ (s % 32) / 4294967296 : Nat) : Int) := by omega
  have hb : IntKind.bits .u32 = 32 := rfl
  have o1 : orI .u32 ((dg 32 (x % 2 ^ (32 * i) * 2 ^ s) (i + s / 32) : Nat) : Int) ((dg 32 x i * 2 ^ (s % 32) % 4294967296 : Nat) : Int) = ((dg 32 (x % 2 ^ (32 * i) * 2 ^ s) (i + s / 32) ||| dg 32 x i * 2 ^ (s % 32) % 4294967296 : Nat) : Int) :=
   ysw (k := .u32) rfl _ _ (by rw [hb]; exact ybN 32 _ _) (by rw [hb, B32]; exact Nat.mod_lt _ (by omega))
  have o2 : orI .u32 ((0 : Nat) : Int) ((dg 32 x i * 2 ^ (s % 32) / 4294967296 : Nat) : Int) = ((dg 32 x i * 2 ^ (s % 32) / 4294967296 : Nat) : Int) := by
   rw [ysw (k := .u32) rfl _ _ (by rw [hb, B32]; omega) (by rw [hb, B32]; omega), Nat.zero_or]
  unfold zcb.l5 zcb.l5.step
  simp (disch := omega) only [ybn, yb0, ya7, ybj, ybQ, Bool.and_self, Bool.not_false, Int.toNat_natCast, ydw, yka, yaw, yaY, ybt, e1, e2, e3, q1, yci, yd5, e4, e5, o1, u1, u2, o2]
  exact ih
theorem yip (x n s : Nat) (hn : n ≤ 1000000) (hs : s ≤ 100000000) (hx : x < 2 ^ (32 * n)) : x * 2 ^ s < 2 ^ (32 * (n + s / 32 + 1)) := by
 have : x * 2 ^ s < 2 ^ (32 * n) * 2 ^ s := Nat.mul_lt_mul_of_pos_right hx (Nat.two_pow_pos _)
 rw [← Nat.pow_add] at this
 exact Nat.lt_of_lt_of_le this (Nat.pow_le_pow_right (by omega) (by omega))
theorem ygV (x n s : Nat) (hn : n ≤ 1000000) (hs : s ≤ 100000000) (hx : x < 2 ^ (32 * n)) (K0 : Prop) (K1 : Nat → Nat → Nat → (Nat → Int) → Prop) (h0 : n = 0 → K0) (h1 : n ≠ 0 → ∀ c m, K1 (wl 32 (x * 2 ^ s)) c m (G 32 (x * 2 ^ s))) :
  zcb n (G 32 x) s K0 K1 := by
 rw [zcb.is]; unfold zcb.d
 by_cases hz : n = 0
 ·rw [yaD (yoi (by omega))]; exact h0 hz
 ·rw [yau (yhK (by omega))]
  have e1 : Int.toNat ((n : Int) + (s : Int) / 32 + 1) = n + s / 32 + 1 := by omega
  simp (disch := omega) only [ydw, yaw, ya7, ybj, Bool.and_self, e1]
  refine ⟨n + 1, ?_⟩
  have := ylX x n s hn hs hx (n + s / 32 + 1) (n + s / 32 + 1) (fun y0 y1 y2 y3 => zbu y0 y1 y2 y3 fun y0 y1 y2 y3 => K1 y0 y1 y2 y3) ?_ n 0 (by omega)
  ·rw [Nat.mul_zero, Nat.pow_zero, Nat.mod_one, Nat.zero_mul, yel] at this; exact this
  ·exact ydI _ _ _ _ (by omega) (Nat.le_refl _) (yip x n s hn hs hx) _ fun c => h1 hz c _
theorem ysc (x s i : Nat) : (dg 32 x (i + s / 32) + dg 32 x (i + s / 32 + 1) * 4294967296) / 2 ^ (s % 32) % 4294967296 = dg 32 (x / 2 ^ s) i := by
 have hr : s % 32 < 32 := Nat.mod_lt _ (by omega)
 have h1 : dg 32 x (i + s / 32) + dg 32 x (i + s / 32 + 1) * 4294967296 = x / 2 ^ (32 * (i + s / 32)) % 2 ^ 64 := by
  have a := ydY 32 x (i + s / 32)
  have b := ydY 32 x (i + s / 32 + 1)
  rw [B32] at a b
  rw [a, b, B64]
  have c := ybN 32 x (i + s / 32)
  have d := ybN 32 x (i + s / 32 + 1)
  rw [B32] at c d
  omega
 rw [h1]
 unfold dg
 rw [Nat.div_div_eq_div_mul, ← Nat.pow_add]
 have h2 : (2 : Nat) ^ 64 = 2 ^ (s % 32) * 2 ^ (64 - s % 32) := by rw [← Nat.pow_add]; congr 1; omega
 rw [h2, Nat.mod_mul_right_div_self, Nat.div_div_eq_div_mul, ← Nat.pow_add, show (4294967296 : Nat) = 2 ^ 32 from rfl, Nat.mod_mod_of_dvd _ (Nat.pow_dvd_pow 2 (by omega))]
 congr 3; omega
theorem yiN (x n s : Nat) (hn : n ≤ 1000000) (hx : x < 2 ^ (32 * n)) (hs : s / 32 < n) (c0 m0 : Nat) (k0 : Nat → Nat → Nat → (Nat → Int) → Prop) (h : k0 (n - s / 32) c0 m0 (G 32 (x / 2 ^ s % 2 ^ (32 * (n - s / 32))))) :
  ∀ (j i : Nat), i + j = n - s / 32 → zbw.l5 k0 (j + 1) n (G 32 x) s (n - s / 32) c0 ((n - s / 32 : Nat) : Int) i m0 (G 32 (x / 2 ^ s % 2 ^ (32 * i))) := by
 intro j
 induction j with
 | zero =>
  intro i hi
  unfold zbw.l5 zbw.l5.step
  rw [yau (yb0 (by omega)), show i = n - s / 32 from by omega]
  exact h
 | succ j ih =>
  intro i hi
  have ih := ih (i + 1) (by omega)
  have e : ((i + 1 : Nat) : Int) = (i : Int) + 1 := by omega
  have hr : s % 32 < 32 := Nat.mod_lt _ (by omega)
  have hw := ysc x s i
  have hdw := ybN 32 (x / 2 ^ s) i
  rw [e, ybY, ← yp2 32 _ _ i (Nat.mod_lt _ (Nat.two_pow_pos _)) hdw, ← hw] at ih
  have hd := ybN 32 x (i + s / 32)
  have hd2 := ybN 32 x (i + s / 32 + 1)
  rw [B32] at hd hd2
  have e1 : Int.toNat ((i : Int) + (s : Int) / 32) = i + s / 32 := by omega
  have e2 : Int.toNat ((i : Int) + (s : Int) / 32 + 1) = i + s / 32 + 1 := by omega
  have e3 : (s : Int) % 32 = ((s % 32 : Nat) : Int) := by omega
  have hb : IntKind.bits .u64 = 64 := rfl
  have sh : ∀ z : Nat, yaQ .u64 (z : Int) ((s % 32 : Nat) : Int) = ((z / 2 ^ (s % 32) : Nat) : Int) := fun z => by
   rw [yiw (k := .u64) (by rw [hb]; omega)]; simp
  unfold zbw.l5 zbw.l5.step
  by_cases hlt : i + s / 32 + 1 < n
  ·have o1 : orI .u64 ((dg 32 x (i + s / 32) : Nat) : Int) (ybA .u64 ((dg 32 x (i + s / 32 + 1) : Nat) : Int) 32) = ((dg 32 x (i + s / 32) + dg 32 x (i + s / 32 + 1) * 4294967296 : Nat) : Int) := by
    have := ynZ (k := .u64) rfl (dg 32 x (i + s / 32 + 1)) 32 (by rw [hb]; omega)
    rw [show ((32 : Nat) : Int) = 32 from rfl] at this
    rw [this, hb, B32, Nat.mod_eq_of_lt (by rw [B64]; omega), ysw (k := .u64) rfl _ _ (by rw [hb, B64]; omega) (by rw [hb, B64]; omega)]
    congr 1
    exact yg0 (r := 32) (by rw [B32]; exact hd) (by rw [B32]; exact Nat.mul_mod_left _ _)
   have e4 : (((dg 32 x (i + s / 32) + dg 32 x (i + s / 32 + 1) * 4294967296) / 2 ^ (s % 32) : Nat) : Int) % 4294967296 = (((dg 32 x (i + s / 32) + dg 32 x (i + s / 32 + 1) * 4294967296) / 2 ^ (s % 32) % 4294967296 : Nat) : Int) := by omega
   simp (disch := omega) only [ybn, yb0, ya7, ybj, ybQ, Bool.and_self, Bool.not_false, Int.toNat_natCast, ydw, yka, yaw, yaY, ybt, e1, e2, e3, o1, sh, yci, e4]
   exact ih
  ·have hz : dg 32 x (i + s / 32 + 1) = 0 := yjc 32 x n _ hx (by omega)
   rw [hz, Nat.zero_mul, Nat.add_zero] at ih
   have e4 : ((dg 32 x (i + s / 32) / 2 ^ (s % 32) : Nat) : Int) % 4294967296 = ((dg 32 x (i + s / 32) / 2 ^ (s % 32) % 4294967296 : Nat) : Int) := by omega
   simp (disch := omega) only [ybn, yb0, ya7, ybj, ybQ, yrn, Bool.and_self, Bool.not_false, Int.toNat_natCast, ydw, yka, yaw, yaY, ybt, e1, e2, e3, sh, yci, e4]
   exact ih
theorem ygw (x n s : Nat) (hn : n ≤ 1000000) (hs : s < 9223372036854775808) (hx : x < 2 ^ (32 * n)) (K : Nat → (Nat → Int) → Prop) (h : K (wl 32 (x / 2 ^ s)) (G 32 (x / 2 ^ s))) : zbw n (G 32 x) s K := by
 rw [zbw.is]; unfold zbw.d
 rw [ydw (by omega) (by omega) (by omega)]
 by_cases hlt : n ≤ s / 32
 ·rw [yaD (ya7 (by omega))]
  have hz : x / 2 ^ s = 0 := Nat.div_eq_of_lt (Nat.lt_of_lt_of_le hx (Nat.pow_le_pow_right (by omega) (by omega)))
  rw [hz, ydp, yel] at h
  exact h
 ·rw [yau (yeC (by omega))]
  have e1 : Int.toNat ((n : Int) - (s : Int) / 32) = n - s / 32 := by omega
  have e2 : (n : Int) - (s : Int) / 32 = ((n - s / 32 : Nat) : Int) := by omega
  simp (disch := omega) only [yar, ya7, ybj, Bool.and_self, e1]
  have hlt2 : x / 2 ^ s < 2 ^ (32 * (n - s / 32)) := by
   rw [Nat.div_lt_iff_lt_mul (Nat.two_pow_pos _), ← Nat.pow_add]
   exact Nat.lt_of_lt_of_le hx (Nat.pow_le_pow_right (by omega) (by omega))
  refine ⟨n - s / 32 + 1, ?_⟩
  have := yiN x n s hn hx (by omega) (n - s / 32) (n - s / 32) (fun y0 y1 y2 y3 => zbu y0 y1 y2 y3 fun y0 y1 y2 y3 => K y0 y3) ?_ (n - s / 32) 0 (by omega)
  ·rw [Nat.mul_zero, Nat.pow_zero, Nat.mod_one, yel] at this; exact this
  ·rw [Nat.mod_eq_of_lt hlt2]
   exact ydI _ _ _ _ (by omega) (Nat.le_refl _) hlt2 _ fun c => h
theorem yry (k x : Nat) (hk : k ≠ 0) (hx : x ≠ 0) : yaC x = k * (wl k x - 1) + yaC (dg k x (wl k x - 1)) := by
 have h1 := yer k hk x
 have hp : wl k x ≠ 0 := by rw [yiu hx hk]; omega
 have h2 : x / 2 ^ (k * (wl k x - 1)) = dg k x (wl k x - 1) := by
  have := ydY k x (wl k x - 1)
  rw [show wl k x - 1 + 1 = wl k x from by omega, Nat.div_eq_of_lt h1] at this
  omega
 have h3 := ymW k hk x hx
 rw [← h2] at h3 ⊢
 exact yc7 h3
theorem ysx (b : UInt8) (l : List UInt8) : dg 8 (val (b :: l)) l.length = b.toNat := by
 have := ym0 (b :: l) l.length (by simp)
 rw [show (b :: l).length - 1 - l.length = 0 from by simp] at this
 exact this.symm
theorem yfp (a : List UInt8) (K : Int → Prop) (h : K (if May a then (yaC (val a) : Int) else 0)) : zbn a K := by
 rw [zbn.is]; unfold zbn.d
 rw [yaW]
 by_cases hm : May a
 ·rw [if_pos hm] at h
  rw [if_pos hm, yau (by rfl), ycY]
  cases a with
  | nil => rw [yaD (by simp)]; exact h
  | cons b l =>
   have hl := hm.1
   rw [List.length_cons] at hl
   have hv : val (b :: l) ≠ 0 := fun e => by have := hm.nb; rw [e, ybe] at this; cases this
   have hb := yry 8 _ (by omega) hv
   rw [yrP hm.2, List.length_cons, Nat.add_sub_cancel, ysx] at hb
   have hbl := yrs b
   rw [yau (by simp), ya2 (ybn (by rw [List.length_cons]; omega)), ygM, yaY (by omega) (by omega)]
   refine yeF _ (by omega) _ ?_
   have h8 : yaC b.toNat ≤ 8 := (yaN _ _).2 hbl
   rw [List.length_cons]
   simp (disch := omega) only [yar, ycM, yaw]
   rw [show 8 * (((l.length + 1 : Nat) : Int) - 1) + (yaC b.toNat : Int) = ((yaC (val (b :: l)) : Nat) : Int) from by rw [hb]; omega]
   exact h
 ·rw [if_neg hm] at h
  rw [if_neg hm, yaD (by rfl)]; exact h
def ybG (x : Nat) : Nat := if h : x % 2 = 1 ∨ x = 0 then 0 else ybG (x / 2) + 1
decreasing_by omega
theorem yeZ (x : Nat) (h : x ≠ 0) : ∃ q, x = 2 ^ ybG x * (2 * q + 1) := by
 induction x using Nat.strongRecOn with
 | _ x ih =>
  by_cases h1 : x % 2 = 1
  ·have : ybG x = 0 := by rw [ybG]; simp [h1]
   exact ⟨x / 2, by rw [this, Nat.pow_zero, Nat.one_mul]; omega⟩
  ·have : ybG x = ybG (x / 2) + 1 := by rw [ybG]; rw [dif_neg (by omega)]
   obtain ⟨q, hq⟩ := ih (x / 2) (by omega) (by omega)
   refine ⟨q, ?_⟩
   rw [this, Nat.pow_succ, Nat.mul_assoc, Nat.mul_comm 2, ← Nat.mul_assoc, ← hq]; omega
theorem ylC (k q : Nat) : ybG (2 ^ k * (2 * q + 1)) = k := by
 induction k with
 | zero => rw [ybG]; rw [dif_pos (by left; omega)]
 | succ k ih =>
  have hp := Nat.two_pow_pos k
  have hpos : 0 < 2 ^ k * (2 * q + 1) := Nat.mul_pos hp (by omega)
  have e : 2 ^ (k + 1) * (2 * q + 1) = 2 * (2 ^ k * (2 * q + 1)) := by rw [Nat.pow_succ, Nat.mul_comm (2 ^ k) 2, Nat.mul_assoc]
  rw [e, ybG, dif_neg (by omega), show 2 * (2 ^ k * (2 * q + 1)) / 2 = 2 ^ k * (2 * q + 1) from by omega, ih]
theorem yp1 (x t : Nat) (h0 : x % 2 ^ (8 * t) = 0) (hd : dg 8 x t ≠ 0) : ybG x = 8 * t + ybG (dg 8 x t) := by
 obtain ⟨q, hq⟩ := yeZ _ hd
 have hlt := ybN 8 x t
 have hk : ybG (dg 8 x t) < 8 := by
  apply Classical.byContradiction
  intro hc
  have h1 : 2 ^ 8 ≤ 2 ^ ybG (dg 8 x t) := Nat.pow_le_pow_right (by omega) (by omega)
  have h2 : 2 ^ ybG (dg 8 x t) * 1 ≤ 2 ^ ybG (dg 8 x t) * (2 * q + 1) := Nat.mul_le_mul_left _ (by omega)
  omega
 have hx := ygn 8 x t
 rw [h0, Nat.zero_add] at hx
 generalize hkk : ybG (dg 8 x t) = k at *
 have h8 : (2 : Nat) ^ (8 * (t + 1)) = 2 ^ (8 * t) * (2 ^ k * (2 * 2 ^ (7 - k))) := by
  rw [show (2 : Nat) * 2 ^ (7 - k) = 2 ^ (8 - k) from by rw [show 8 - k = 7 - k + 1 from by omega, Nat.pow_succ, Nat.mul_comm], ← Nat.pow_add, ← Nat.pow_add]; congr 1; omega
 have e : x = 2 ^ (8 * t + k) * (2 * (q + x / 2 ^ (8 * (t + 1)) * 2 ^ (7 - k)) + 1) := by
  conv => lhs; rw [hx, hq]
  generalize x / 2 ^ (8 * (t + 1)) = y
  rw [h8, Nat.pow_add]
  generalize 2 ^ (8 * t) = P
  generalize 2 ^ k = Q
  generalize 2 ^ (7 - k) = R
  have e1 : y * (P * (Q * (2 * R))) = P * Q * (2 * (y * R)) := by
   rw [Nat.mul_left_comm y P, Nat.mul_left_comm y Q, Nat.mul_left_comm y 2, ← Nat.mul_assoc P]
  rw [e1, Nat.mul_comm (Q * _) P, ← Nat.mul_assoc, ← Nat.mul_add]
  congr 1; omega
 have := ylC (8 * t + k) (q + x / 2 ^ (8 * (t + 1)) * 2 ^ (7 - k))
 rw [← e] at this
 exact this
theorem yoP : ybG 0 = 0 := by rw [ybG]; simp
theorem yjO (a : List UInt8) (hl : a.length ≤ 100000) (k0 : Int → Prop) (k1 : Prop) (h0 : val a ≠ 0 → k0 (ybG (val a))) (h1 : val a = 0 → k1) :
  ∀ (j t : Nat), t + j = a.length → val a % 2 ^ (8 * t) = 0 → zbo.l4 k0 k1 (j + 1) a ((a.length : Int) - 1 - t) := by
 intro j
 induction j with
 | zero =>
  intro t ht hm
  unfold zbo.l4 zbo.l4.step
  rw [yau (yeC (by omega))]
  refine h1 ?_
  rw [Nat.mod_eq_of_lt (by have := ymy a; rw [yp9] at this; rwa [show t = a.length from by omega])] at hm
  exact hm
 | succ j ih =>
  intro t ht hm
  have hd := ybN 8 (val a) t
  have e8 : (2 : Nat) ^ 8 = 256 := rfl
  have e1 : Int.toNat ((a.length : Int) - 1 - t) = a.length - 1 - t := by omega
  have e2 : (a.length : Int) - 1 - ((a.length : Int) - 1 - t) = t := by omega
  have e3 : (a.length : Int) - 1 - t - 1 = (a.length : Int) - 1 - ((t + 1 : Nat) : Int) := by omega
  unfold zbo.l4 zbo.l4.step
  simp (disch := omega) only [ybn, ya7, ybj, ybQ, Bool.and_self, e1]
  rw [ygJ a t (by omega)]
  by_cases hz : dg 8 (val a) t = 0
  ·rw [yoi (by omega), yau (by rfl)]
   simp (disch := omega) only [yar, e3]
   refine ih (t + 1) (by omega) ?_
   rw [ybY, hm, hz]; omega
  ·rw [yhK (by omega), yaD (by rfl), yaY (by omega) (by omega)]
   obtain ⟨q, hq⟩ := yeZ _ hz
   have hk : ybG (dg 8 (val a) t) < 64 := by
    apply Classical.byContradiction
    intro hc
    have h1 : 2 ^ 64 ≤ 2 ^ ybG (dg 8 (val a) t) := Nat.pow_le_pow_right (by omega) (by omega)
    have h2 : 2 ^ ybG (dg 8 (val a) t) * 1 ≤ 2 ^ ybG (dg 8 (val a) t) * (2 * q + 1) := Nat.mul_le_mul_left _ (by omega)
    rw [B64] at h1; omega
   have hlow := yp1 (val a) t hm hz
   have := ylE (ybG (dg 8 (val a) t)) q hk (by rw [← hq]; omega) (fun y0 => k0 (yai .i64 (yaR .i64 8 (yae .i64 (yae .i64 (a.length : Int) 1) ((a.length : Int) - 1 - t))) y0)) ?_
   ·rw [← hq] at this; exact this
   ·simp (disch := omega) only [yar, ycM, yaw, e2]
    rw [show 8 * (t : Int) + (ybG (dg 8 (val a) t) : Int) = ((ybG (val a) : Nat) : Int) from by rw [hlow]; omega]
    refine h0 fun e => hz ?_
    rw [e]; exact ydP 8 0 t (Nat.two_pow_pos _)
theorem yfw (a : List UInt8) (K : Int → Prop) (h : K (if May a then (ybG (val a) : Int) else 0)) : zbo a K := by
 rw [zbo.is]; unfold zbo.d
 rw [yaW]
 by_cases hm : May a
 ·rw [if_pos hm] at h
  have hl := hm.1
  rw [if_pos hm, yau (by rfl), yar (by omega) (by omega)]
  refine ⟨a.length + 1, ?_⟩
  have := yjO a (by omega) (fun y0 => K y0) (K 0) (fun _ => h) (fun e => by rw [e, yoP] at h; exact h) a.length 0 (by omega) (by simp [Nat.mod_one])
  rw [show (a.length : Int) - 1 - ((0 : Nat) : Int) = (a.length : Int) - 1 from by omega] at this
  exact this
 ·rw [if_neg hm] at h
  rw [if_neg hm, yaD (by rfl)]; exact h
end Go.Ev.S

/- Natural numbers as rows of words: divided. -/
set_option linter.unusedVariables false
set_option linter.unusedSimpArgs false
set_option maxRecDepth 8000
namespace Go.Ev.S
open Go Go.Ev
theorem yre {B P U D v1 v2 dl x u2 ul q left : Nat} (hP : 0 < P) (hD : D = (v1 * B + v2) * P + dl) (hU : U = (x * B + u2) * P + ul) (hul : ul < P) (hx : q * v1 + left = x) (hD0 : 0 < D) (hUB : U < D * B)
  (h : B ≤ q ∨ left * B + u2 < q * v2) : U / D < q := by
 rw [Nat.div_lt_iff_lt_mul hD0]
 rcases h with h | h
 ·exact Nat.lt_of_lt_of_le hUB (by rw [Nat.mul_comm q]; exact Nat.mul_le_mul_left _ h)
 ·have h1 : (x * B + u2 + 1) * P ≤ q * ((v1 * B + v2) * P) := by
   rw [← Nat.mul_assoc]
   refine Nat.mul_le_mul_right _ ?_
   rw [← hx, Nat.mul_add, Nat.add_mul, ← Nat.mul_assoc]
   omega
  have h2 : q * ((v1 * B + v2) * P) ≤ q * D := Nat.mul_le_mul_left _ (by omega)
  rw [Nat.add_mul, Nat.one_mul] at h1
  omega
theorem yrc {B P U D v1 v2 dl x u2 ul q left : Nat} (hD : D = (v1 * B + v2) * P + dl) (hdl : dl < P) (hU : U = (x * B + u2) * P + ul) (hx : q * v1 + left = x) (hD0 : 0 < D) (hv : 0 < v1) (hqB : q < B) (h : q * v2 ≤ left * B + u2) : q ≤ U / D + 1 := by
 have key : (q - 1) * D ≤ U := by
  have h1 : (q - 1) * D ≤ (q - 1) * ((v1 * B + v2 + 1) * P) := Nat.mul_le_mul_left _ (by rw [Nat.add_mul (v1 * B + v2)]; omega)
  have h2 : (q - 1) * (v1 * B + v2 + 1) ≤ x * B + u2 := by
   rcases Nat.eq_zero_or_pos q with h0 | h0
   ·subst h0; simp
   ·have e1 : (q - 1) * (v1 * B + v2 + 1) = q * (v1 * B + v2) + (q - 1) - (v1 * B + v2) := by
     obtain ⟨t, rfl⟩ : ∃ t, q = t + 1 := ⟨q - 1, by omega⟩
     rw [Nat.add_sub_cancel, Nat.mul_add t, Nat.add_mul t 1]
     omega
    have e2 : q * (v1 * B + v2) ≤ x * B + u2 := by
     rw [← hx, Nat.mul_add, Nat.add_mul, ← Nat.mul_assoc]; omega
    have e3 : B ≤ v1 * B := Nat.le_mul_of_pos_left _ hv
    omega
  have h3 : (q - 1) * ((v1 * B + v2 + 1) * P) ≤ (x * B + u2) * P := by
   rw [← Nat.mul_assoc]; exact Nat.mul_le_mul_right _ h2
  omega
 have := (Nat.le_div_iff_mul_le hD0).2 key
 omega
theorem ygz (a b : Nat) (ha : a < 4294967296) (hb : b < 4294967296) : orI .u64 (ybA .u64 (a : Int) 32) (b : Int) = ((a * 4294967296 + b : Nat) : Int) := by
 have hb64 : IntKind.bits .u64 = 64 := rfl
 have := ynZ (k := .u64) rfl a 32 (by rw [hb64]; omega)
 rw [show ((32 : Nat) : Int) = 32 from rfl] at this
 rw [this, hb64, B32, Nat.mod_eq_of_lt (by rw [B64]; omega), ysw (k := .u64) rfl _ _ (by rw [hb64, B64]; omega) (by rw [hb64, B64]; omega)]
 congr 1
 rw [Nat.or_comm, yg0 (r := 32) (by rw [B32]; exact hb) (by rw [B32]; exact Nat.mul_mod_left _ _), Nat.add_comm]
theorem ypa (a b : Nat) (ha : a < 18446744073709551616) : yaH .u64 (a : Int) (b : Int) = ((a / b : Nat) : Int) := by
 have h : a / b ≤ a := Nat.div_le_self a b
 show IntKind.wrap .u64 ((a : Int).tdiv b) = _
 rw [Int.tdiv_eq_ediv_of_nonneg (by omega)]
 have : (a : Int) / (b : Int) = ((a / b : Nat) : Int) := by simp
 rw [this]
 generalize a / b = q at h ⊢
 exact yf4 (by omega) (by omega)
theorem yh6 {again : Nat → Int → Nat → Nat → Int → Int → Int → Int → Nat → (Nat → Int) → Nat → (Nat → Int) → Nat → (Nat → Int) → Prop} {k0 : Nat → Int → Nat → Nat → Int → Int → Int → Nat → (Nat → Int) → Nat → (Nat → Int) → Nat → (Nat → Int) → Prop} (n0 : Nat) (s : Int) (L md i : Nat) (hmd : 2 ≤ md) (hmd2 : md ≤ 1000000) (c1 c2 c3 : Nat) (f1 f3 : Nat → Int) (D v1 q left : Nat) (hv1 : v1 < 4294967296) (hl : left < 4294967296) (e1 : dg 32 D (md - 1) = v1) (hq1 : q + 1 < 18446744073709551616)
  (h1 : left + v1 < 4294967296 → again n0 s md L md i q (left + v1 : Nat) c1 f1 c2 (G 32 D) c3 f3) (h2 : 4294967296 ≤ left + v1 → k0 n0 s md L md i q c1 f1 c2 (G 32 D) c3 f3) :
  gd (leI 0 (yae IntKind.i64 (md : Int) 1) && ltI (yae IntKind.i64 (md : Int) 1) (md : Int)) (br (leI 4294967296 (yai IntKind.u64 (left : Int) (cvI IntKind.u64 (G 32 D (Int.toNat (yae IntKind.i64 (md : Int) 1)))))) (k0 n0 s md L md i (yae IntKind.u64 ((q + 1 : Nat) : Int) 1) c1 f1 c2 (G 32 D) c3 f3) (again n0 s md L md i (yae IntKind.u64 ((q + 1 : Nat) : Int) 1) (yai IntKind.u64 (left : Int) (cvI IntKind.u64 (G 32 D (Int.toNat (yae IntKind.i64 (md : Int) 1))))) c1 f1 c2 (G 32 D) c3 f3)) := by
 have s1 : yae .u64 ((q + 1 : Nat) : Int) 1 = (q : Int) := by rw [yex (by omega) (by omega)]; omega
 have a1 : yai .u64 (left : Int) ((v1 : Nat) : Int) = ((left + v1 : Nat) : Int) := by rw [yje (by omega) (by omega)]; omega
 have i0 : yae IntKind.i64 (md : Int) 1 = (md : Int) - 1 := by rw [yar (by omega) (by omega)]
 have i1 : Int.toNat ((md : Int) - 1) = md - 1 := by omega
 have i2 : cvI IntKind.u64 ((v1 : Nat) : Int) = v1 := by rw [yaY (by omega) (by omega)]
 rw [i0, i1, ybt, e1, i2, a1, s1, ya2 (by rw [ya7 (by omega), ybn (by omega)]; rfl)]
 by_cases hl2 : left + v1 < 4294967296
 ·rw [yau (yeC (by omega))]; exact h1 hl2
 ·rw [yaD (ya7 (by omega))]; exact h2 (by omega)
theorem ynl (left u2 q v2 : Nat) (hl : left < 4294967296) (hu : u2 < 4294967296) (hq : q < 4294967296) (hv : v2 < 4294967296) : ltI (orI IntKind.u64 (ybA IntKind.u64 (left : Int) 32) (cvI IntKind.u64 (u2 : Int))) (yaR IntKind.u64 (q : Int) (cvI IntKind.u64 (v2 : Int))) = decide (left * 4294967296 + u2 < q * v2) := by
 have h1 : q * v2 ≤ 4294967295 * 4294967295 := Nat.mul_le_mul (by omega) (by omega)
 have e4 : ((q : Int) * ((v2 : Nat) : Int)) = ((q * v2 : Nat) : Int) := by simp
 rw [yaY (by omega) (by omega), yaY (by omega) (by omega), ygz left u2 hl hu, yoM (by rw [e4]; omega) (by rw [e4]; omega), e4]
 generalize q * v2 = t
 by_cases h : left * 4294967296 + u2 < t
 ·rw [ybn (by omega)]; exact (decide_eq_true h).symm
 ·rw [yb0 (by omega)]; exact (decide_eq_false h).symm
theorem yit {again : Nat → Int → Nat → Nat → Int → Int → Int → Int → Nat → (Nat → Int) → Nat → (Nat → Int) → Nat → (Nat → Int) → Prop} {k0 : Nat → Int → Nat → Nat → Int → Int → Int → Nat → (Nat → Int) → Nat → (Nat → Int) → Nat → (Nat → Int) → Prop} (n0 : Nat) (s : Int) (L md i : Nat) (hi : i ≤ 1000000) (hmd : 2 ≤ md) (hmd2 : md ≤ 1000000) (hL : i + md < L) (c1 c2 c3 : Nat) (f1 : Nat → Int) (D N v1 v2 u2 q left : Nat) (hv1 : v1 < 4294967296) (hv2 : v2 < 4294967296) (hu2 : u2 < 4294967296) (hl : left < 4294967296)
  (e1 : dg 32 D (md - 1) = v1) (e2 : dg 32 D (md - 2) = v2) (e3 : dg 32 N (i + md - 2) = u2) (hq1 : q < 18446744073709551616)
  (hd : 4294967296 ≤ q ∨ left * 4294967296 + u2 < q * v2 → ∃ p, q = p + 1 ∧ (left + v1 < 4294967296 → again n0 s md L md i p (left + v1 : Nat) c1 f1 c2 (G 32 D) c3 (G 32 N)) ∧ (4294967296 ≤ left + v1 → k0 n0 s md L md i p c1 f1 c2 (G 32 D) c3 (G 32 N)))
  (hk : q < 4294967296 → q * v2 ≤ left * 4294967296 + u2 → k0 n0 s md L md i q c1 f1 c2 (G 32 D) c3 (G 32 N)) :
  zby.l24.step again k0 n0 s md L md i q left c1 f1 c2 (G 32 D) c3 (G 32 N) := by
 unfold zby.l24.step
 by_cases hbig : 4294967296 ≤ q
 ·rw [yaD (ya7 (by omega))]
  obtain ⟨p, rfl, h1, h2⟩ := hd (.inl hbig)
  exact yh6 n0 s L md i hmd hmd2 c1 c2 c3 f1 _ D v1 p left hv1 hl e1 (by omega) h1 h2
 ·rw [yau (yeC (by omega))]
  have i0 : yae IntKind.i64 (md : Int) 2 = (md : Int) - 2 := by rw [yar (by omega) (by omega)]
  have i1 : yai IntKind.i64 (i : Int) (md : Int) = (i : Int) + md := by rw [yaw (by omega) (by omega)]
  have i2 : yae IntKind.i64 ((i : Int) + md) 2 = (i : Int) + md - 2 := by rw [yar (by omega) (by omega)]
  have i3 : Int.toNat ((md : Int) - 2) = md - 2 := by omega
  have i4 : Int.toNat ((i : Int) + md - 2) = i + md - 2 := by omega
  rw [i0, i1, i2, i3, i4, ya2 (by rw [ya7 (by omega), ybn (by omega)]; rfl), ya2 (by rw [ya7 (by omega), ybn (by omega)]; rfl), ybt, ybt, e2, e3, ynl left u2 q v2 hl hu2 (by omega) hv2]
  by_cases ht : left * 4294967296 + u2 < q * v2
  ·rw [yaD (decide_eq_true ht)]
   obtain ⟨p, rfl, h1, h2⟩ := hd (.inr ht)
   exact yh6 n0 s L md i hmd hmd2 c1 c2 c3 f1 _ D v1 p left hv1 hl e1 (by omega) h1 h2
  ·rw [yau (decide_eq_false ht)]
   exact hk (by omega) (by omega)
theorem yna {B v1 x q left : Nat} (hxv : x / B ≤ v1) (hB : 0 < B) (hx : q * v1 + left = x) (hq : B ≤ q) : left < B := by
 have h1 : B * v1 ≤ q * v1 := Nat.mul_le_mul_right _ hq
 have h2 := Nat.div_add_mod x B
 have h3 := Nat.mod_lt x hB
 have h4 : B * (x / B) ≤ B * v1 := Nat.mul_le_mul_left _ hxv
 omega
theorem ynj {B q v2 left u2 : Nat} (hq : q < B) (hv : v2 < B) (hl : B ≤ left) : q * v2 ≤ left * B + u2 := by
 have h1 : q * v2 ≤ B * B := Nat.mul_le_mul (by omega) (by omega)
 have h2 : B * B ≤ left * B := Nat.mul_le_mul_right _ hl
 omega
theorem yhl (n s : Int) (L md i : Nat) (hi : i ≤ 1000000) (hmd : 2 ≤ md) (hmd2 : md ≤ 1000000) (hL : i + md < L) (n0 : Nat) (D N : Nat) (c1 c2 c3 : Nat) (f1 : Nat → Int)
  (U v1 v2 dl x u2 ul P : Nat) (hP : 0 < P) (hD : D = (v1 * 4294967296 + v2) * P + dl) (hdl : dl < P) (hU : U = (x * 4294967296 + u2) * P + ul) (hul : ul < P) (hD0 : 0 < D) (hUB : U < D * 4294967296) (hv : 0 < v1)
  (hxv : x / 4294967296 ≤ v1) (hx2 : x < 18446744073709551616)
  (e1 : dg 32 D (md - 1) = v1) (e2 : dg 32 D (md - 2) = v2) (e3 : dg 32 N (i + md - 2) = u2)
  (k0 : Nat → Int → Nat → Nat → Int → Int → Int → Nat → (Nat → Int) → Nat → (Nat → Int) → Nat → (Nat → Int) → Prop)
  (h : ∀ q : Nat, U / D ≤ q → q ≤ U / D + 1 → q < 4294967296 → k0 n0 s md L md i q c1 f1 c2 (G 32 D) c3 (G 32 N)) :
  ∀ (q left : Nat), q * v1 + left = x → left < 4294967296 → U / D ≤ q → zby.l24 k0 (q + 1) n0 s md L md i q left c1 f1 c2 (G 32 D) c3 (G 32 N) := by
 have hv1 := ybN 32 D (md - 1)
 have hv2 := ybN 32 D (md - 2)
 have hu2 := ybN 32 N (i + md - 2)
 rw [B32, e1] at hv1
 rw [B32, e2] at hv2
 rw [B32, e3] at hu2
 have done : ∀ q left : Nat, q * v1 + left = x → U / D ≤ q → q < 4294967296 → q * v2 ≤ left * 4294967296 + u2 → k0 n0 s md L md i q c1 f1 c2 (G 32 D) c3 (G 32 N) :=
  fun q left hx hge hlt ht => h q hge (yrc hD hdl hU hx hD0 hv hlt ht) hlt
 have qx : ∀ q left : Nat, q * v1 + left = x → q < 18446744073709551616 := fun q left hx => by
  have : q * 1 ≤ q * v1 := Nat.mul_le_mul_left _ hv
  omega
 intro q
 induction q with
 | zero =>
  intro left hx hl hge
  unfold zby.l24
  refine yit n0 s L md i hi hmd hmd2 hL c1 c2 c3 f1 D N v1 v2 u2 0 left hv1 hv2 hu2 hl e1 e2 e3 (by omega) (fun hc => ?_) (fun a b => done 0 left hx hge a b)
  rw [Nat.zero_mul] at hc
  omega
 | succ q ih =>
  intro left hx hl hge
  have hqx := qx (q + 1) left hx
  have hx' : q * v1 + (left + v1) = x := by rw [Nat.add_mul] at hx; omega
  have hover : 4294967296 ≤ left + v1 → q < 4294967296 := fun hl2 => by
   apply Classical.byContradiction
   intro hc
   have := yna hxv (by omega) hx' (by omega)
   omega
  unfold zby.l24
  refine yit n0 s L md i hi hmd hmd2 hL c1 c2 c3 f1 D N v1 v2 u2 (q + 1) left hv1 hv2 hu2 hl e1 e2 e3 hqx (fun hc => ?_) (fun a b => done (q + 1) left hx hge a b)
  have hlt := yre hP hD hU hul hx hD0 hUB hc
  have hge' : U / D ≤ q := Nat.le_of_lt_succ hlt
  exact ⟨q, rfl, fun hl2 => ih (left + v1) hx' hl2 hge', fun hl2 => done q (left + v1) hx' hge' (hover hl2) (ynj (hover hl2) hv2 hl2)⟩
theorem yqI (k n x : Nat) (hk : k ≠ 0) (h : ∀ i, n ≤ i → dg k x i = 0) : x < 2 ^ (k * n) := by
 rw [← yfv k hk]
 apply Classical.byContradiction
 intro hc
 have hx : x ≠ 0 := by intro e; subst e; rw [ydp] at hc; omega
 exact ymW k hk x hx (h _ (by omega))
theorem ylw {k N N' w j n : Nat} (hk : k ≠ 0) (hN : N < 2 ^ (k * n)) (hj : j < n) (hw : w < 2 ^ k) (h : N' + dg k N j * 2 ^ (k * j) = N + w * 2 ^ (k * j)) : N' < 2 ^ (k * n) := by
 refine yqI k n N' hk fun i hi => ?_
 have h1 := congrFun (ykE h hw) i
 rw [yco _ _ _ _ (by omega), ybt, ybt, yjc k N n i hN hi] at h1
 omega
theorem yhB (n0 : Nat) (s : Int) (L md i q : Nat) (hi : i ≤ 1000000) (hmd2 : md ≤ 1000000) (hL : i + md < L) (hq : q < 4294967296) (c1 c2 c3 : Nat) (f1 : Nat → Int) (D N0 : Nat) (hD : D < 2 ^ (32 * md)) (hN0 : N0 < 2 ^ (32 * (i + md + 1)))
  (k0 : Nat → Int → Nat → Nat → Int → Int → Int → Int → Int → Nat → (Nat → Int) → Nat → (Nat → Int) → Nat → (Nat → Int) → Prop)
  (h : ∀ (N c : Nat) (b : Int), N < 2 ^ (32 * (i + md + 1)) → c < 4294967296 → -1 ≤ b → b ≤ 0 → (N : Int) + (b - c) * ((2 ^ (32 * (i + md)) : Nat) : Int) = N0 - ((q * D * 2 ^ (32 * i) : Nat) : Int) → k0 n0 s md L md i q c b c1 f1 c2 (G 32 D) c3 (G 32 N)) :
  ∀ (j k N c : Nat) (b : Int), k + j = md → N < 2 ^ (32 * (i + md + 1)) → c < 4294967296 → -1 ≤ b → b ≤ 0 → (N : Int) + (b - c) * ((2 ^ (32 * (i + k)) : Nat) : Int) = N0 - ((q * (D % 2 ^ (32 * k)) * 2 ^ (32 * i) : Nat) : Int) →
   zby.l31 k0 (j + 1) n0 s md L md i q c b md k c1 f1 c2 (G 32 D) c3 (G 32 N) := by
 intro j
 induction j with
 | zero =>
  intro k N c b hk hN hc hb1 hb2 hE
  have hk : k = md := by omega
  subst hk
  unfold zby.l31 zby.l31.step
  rw [yau (yb0 (by omega))]
  rw [Nat.mod_eq_of_lt hD] at hE
  exact h N c b hN hc hb1 hb2 hE
 | succ j ih =>
  intro k N c b hk hN hc hb1 hb2 hE
  have hdN := ybN 32 N (i + k)
  have hdD := ybN 32 D k
  rw [B32] at hdN hdD
  have hm : q * dg 32 D k ≤ 4294967295 * 4294967295 := Nat.mul_le_mul (by omega) (by omega)
  have hD1 := ybY 32 D k
  -- the product's low word, and what is carried
  have hs : ∀ (t : Nat) (z : Int), t = c + q * dg 32 D k → z = b + ((dg 32 N (i + k) : Int) - ((t % 4294967296 : Nat) : Int)) →
    zby.l31 k0 (j + 1) n0 s md L md i q ((t / 4294967296 : Nat) : Int) (z / 4294967296) md ((k : Int) + 1) c1 f1 c2 (G 32 D) c3 (upd (G 32 N) (i + k) (z % 4294967296)) := by
   intro t z ht hz
   have hw : z % 4294967296 = ((z % 4294967296).toNat : Int) := by omega
   have hwl : (z % 4294967296).toNat < 2 ^ 32 := by rw [B32]; omega
   have e : ((k + 1 : Nat) : Int) = (k : Int) + 1 := by omega
   have hsp := ygn 32 N (i + k)
   obtain ⟨N', hN'⟩ : ∃ N', N' + dg 32 N (i + k) * 2 ^ (32 * (i + k)) = N + (z % 4294967296).toNat * 2 ^ (32 * (i + k)) :=
    ⟨N % 2 ^ (32 * (i + k)) + (z % 4294967296).toNat * 2 ^ (32 * (i + k)) + N / 2 ^ (32 * (i + k + 1)) * 2 ^ (32 * (i + k + 1)), by omega⟩
   rw [hw, ykE hN' hwl, ← e]
   refine ih (k + 1) N' _ _ (by omega) (ylw (by omega) hN (by omega) hwl hN') (by omega) (by omega) (by omega) ?_
   rw [hD1, show i + (k + 1) = i + k + 1 from by omega, ydS, B32]
   have hp : 2 ^ (32 * (i + k)) = 2 ^ (32 * k) * 2 ^ (32 * i) := by rw [← Nat.pow_add, show 32 * k + 32 * i = 32 * (i + k) from by omega]
   have h1 : ((q * (D % 2 ^ (32 * k) + dg 32 D k * 2 ^ (32 * k)) * 2 ^ (32 * i) : Nat) : Int) = ((q * (D % 2 ^ (32 * k)) * 2 ^ (32 * i) : Nat) : Int) + ((q * dg 32 D k : Nat) : Int) * ((2 ^ (32 * (i + k)) : Nat) : Int) := by
    rw [hp, Nat.mul_add, Nat.add_mul, ← Nat.mul_assoc q (dg 32 D k), Nat.mul_assoc (q * dg 32 D k)]
    simp
   rw [h1]
   generalize 2 ^ (32 * (i + k)) = P at *
   have h4 := Int.emod_add_mul_ediv z 4294967296
   have h5 : z * (P : Int) = (z % 4294967296).toNat * (P : Int) + z / 4294967296 * ((P : Int) * 4294967296) := by
    conv => lhs; rw [← h4]
    rw [← hw, Int.add_mul, Int.mul_comm (4294967296 : Int), Int.mul_assoc, Int.mul_comm (4294967296 : Int)]
   have h6 : z * (P : Int) = b * P + (dg 32 N (i + k) : Int) * P - ((t % 4294967296 : Nat) : Int) * P := by rw [hz, Int.add_mul, Int.sub_mul]; omega
   have h7 : ((t : Nat) : Int) * (P : Int) = ((t % 4294967296 : Nat) : Int) * P + ((t / 4294967296 : Nat) : Int) * ((P : Int) * 4294967296) := by
    have := yoF t 4294967296 P
    have h8 : ((t % 4294967296 * P + t / 4294967296 * (P * 4294967296) : Nat) : Int) = ((t * P : Nat) : Int) := by rw [this]
    simpa using h8.symm
   have h9 : ((t : Nat) : Int) * (P : Int) = (c : Int) * P + ((q * dg 32 D k : Nat) : Int) * P := by rw [ht]; rw [show ((c + q * dg 32 D k : Nat) : Int) = (c : Int) + ((q * dg 32 D k : Nat) : Int) from by omega, Int.add_mul]
   have h10 : (N' : Int) + (dg 32 N (i + k) : Int) * P = N + ((z % 4294967296).toNat : Int) * P := by
    have : ((N' + dg 32 N (i + k) * P : Nat) : Int) = ((N + (z % 4294967296).toNat * P : Nat) : Int) := by rw [hN']
    simpa using this
   have c4 : ((P * 4294967296 : Nat) : Int) = (P : Int) * 4294967296 := by simp
   rw [c4, Int.sub_mul]
   rw [Int.sub_mul] at hE
   omega
  have e0 : Int.toNat ((i : Int) + k) = i + k := by omega
  have e5 : yaR .u64 (q : Int) (dg 32 D k : Int) = ((q * dg 32 D k : Nat) : Int) := by
   have e4 : ((q : Int) * (dg 32 D k : Int)) = ((q * dg 32 D k : Nat) : Int) := by simp
   rw [yoM (by rw [e4]; omega) (by rw [e4]; omega), e4]
  have e6 : (c : Int) + ((q * dg 32 D k : Nat) : Int) = ((c + q * dg 32 D k : Nat) : Int) := by omega
  have e7 : ((c + q * dg 32 D k : Nat) : Int) / 4294967296 = (((c + q * dg 32 D k) / 4294967296 : Nat) : Int) := by omega
  have e8 : ((c + q * dg 32 D k : Nat) : Int) % 4294967296 = (((c + q * dg 32 D k) % 4294967296 : Nat) : Int) := by omega
  unfold zby.l31 zby.l31.step
  simp (disch := omega) only [ybn, ya7, ybj, ybQ, Bool.and_self, Int.toNat_natCast, yaw, yar, yaY, yje, ybt, e0, e5, e6, yd5, ynJ, yci, e7, e8, yie]
  exact hs _ _ rfl rfl
theorem yhL (n0 : Nat) (s : Int) (L md i : Nat) (q : Int) (hi : i ≤ 1000000) (hmd2 : md ≤ 1000000) (hL : i + md < L) (c1 c2 c3 : Nat) (f1 : Nat → Int) (D N0 : Nat) (hD : D < 2 ^ (32 * md))
  (k0 : Nat → Int → Nat → Nat → Int → Int → Int → Int → Nat → (Nat → Int) → Nat → (Nat → Int) → Nat → (Nat → Int) → Prop)
  (h : ∀ (N c : Nat), N < 2 ^ (32 * (i + md + 1)) → c < 4294967296 → N + c * 2 ^ (32 * (i + md)) = N0 + D * 2 ^ (32 * i) → k0 n0 s md L md i q c c1 f1 c2 (G 32 D) c3 (G 32 N)) :
  ∀ (j k N c : Nat), k + j = md → N < 2 ^ (32 * (i + md + 1)) → c < 2 → N + c * 2 ^ (32 * (i + k)) = N0 + D % 2 ^ (32 * k) * 2 ^ (32 * i) → zby.l45 k0 (j + 1) n0 s md L md i q c md k c1 f1 c2 (G 32 D) c3 (G 32 N) := by
 intro j
 induction j with
 | zero =>
  intro k N c hk hN hc hE
  have hk : k = md := by omega
  subst hk
  unfold zby.l45 zby.l45.step
  rw [yau (yb0 (by omega))]
  rw [Nat.mod_eq_of_lt hD] at hE
  exact h N c hN (by omega) hE
 | succ j ih =>
  intro k N c hk hN hc hE
  have hdN := ybN 32 N (i + k)
  have hdD := ybN 32 D k
  rw [B32] at hdN hdD
  have hD1 := ybY 32 D k
  obtain ⟨N', s1, s2⟩ := yqp (k := 32) (N := N) (j := i + k) (s := c + (dg 32 N (i + k) + dg 32 D k)) rfl
  have hw : (c + (dg 32 N (i + k) + dg 32 D k)) % 4294967296 < 2 ^ 32 := Nat.mod_lt _ (by omega)
  have e : ((k + 1 : Nat) : Int) = (k : Int) + 1 := by omega
  have next := ih (k + 1) N' ((c + (dg 32 N (i + k) + dg 32 D k)) / 4294967296) (by omega) (ylw (by omega) hN (by omega) hw s1) (by omega) (by
   rw [hD1, show i + (k + 1) = i + k + 1 from by omega]
   rw [B32, Nat.add_mul, Nat.add_mul] at s2
   have hp : dg 32 D k * 2 ^ (32 * k) * 2 ^ (32 * i) = dg 32 D k * 2 ^ (32 * (i + k)) := by rw [Nat.mul_assoc, ← Nat.pow_add, show 32 * k + 32 * i = 32 * (i + k) from by omega]
   rw [Nat.add_mul, hp]
   omega)
  rw [e] at next
  have hG : upd (G 32 N) (i + k) (((c + (dg 32 N (i + k) + dg 32 D k)) % 4294967296 : Nat) : Int) = G 32 N' := ykE s1 hw
  have e0 : Int.toNat ((i : Int) + k) = i + k := by omega
  have e1 : ((c : Int) + ((dg 32 N (i + k) : Int) + (dg 32 D k : Int))) / 4294967296 = (((c + (dg 32 N (i + k) + dg 32 D k)) / 4294967296 : Nat) : Int) := by omega
  have e2 : ((c : Int) + ((dg 32 N (i + k) : Int) + (dg 32 D k : Int))) % 4294967296 = (((c + (dg 32 N (i + k) + dg 32 D k)) % 4294967296 : Nat) : Int) := by omega
  unfold zby.l45 zby.l45.step
  simp (disch := omega) only [ybn, ya7, ybj, ybQ, Bool.and_self, Int.toNat_natCast, yaw, yaY, yje, ybt, e0, yd5, yci, e1, e2]
  rw [hG]; exact next
end Go.Ev.S

/- Natural numbers as rows of words: the loop of the long division. -/
set_option linter.unusedVariables false
set_option linter.unusedSimpArgs false
set_option maxRecDepth 8000
namespace Go.Ev.S
open Go Go.Ev
theorem yo3 {PT E R T q qs Nl : Nat} {z : Int} (hE : E < PT) (hNl : Nl < PT) (h1 : qs * E ≤ R) (h2 : R < qs * E + E) (hT : T = q * E) (h : (Nl : Int) + z * (PT : Int) = R - (T : Int)) (hq1 : qs ≤ q) (hq2 : q ≤ qs + 1) :
  (q = qs ∧ z = 0 ∧ Nl = R - qs * E) ∨ (q = qs + 1 ∧ z = -1 ∧ Nl + E = PT + (R - qs * E)) := by
 have zp : z ≥ 1 → (PT : Int) ≤ z * PT := fun hz => by
  have := Int.mul_le_mul_of_nonneg_right hz (show (0 : Int) ≤ PT by omega)
  omega
 have zn : z ≤ -1 → z * PT ≤ -(PT : Int) := fun hz => by
  have := Int.mul_le_mul_of_nonneg_right hz (show (0 : Int) ≤ PT by omega)
  omega
 have zn2 : z ≤ -2 → z * PT ≤ -(PT : Int) - PT := fun hz => by
  have := Int.mul_le_mul_of_nonneg_right hz (show (0 : Int) ≤ PT by omega)
  omega
 rcases (by omega : q = qs ∨ q = qs + 1) with e | e
 ·left
  rw [e] at hT
  have hz : z = 0 := by
   rcases (by omega : z ≥ 1 ∨ z ≤ -1 ∨ z = 0) with hz | hz | hz
   ·have := zp hz; omega
   ·have := zn hz; omega
   ·exact hz
  subst hz
  refine ⟨e, rfl, ?_⟩
  rw [Int.zero_mul] at h
  omega
 ·right
  rw [e, Nat.add_mul, Nat.one_mul] at hT
  have hz : z = -1 := by
   rcases (by omega : z ≥ 1 ∨ z ≤ -2 ∨ z = 0 ∨ z = -1) with hz | hz | hz | hz
   ·have := zp hz; omega
   ·have := zn2 hz; omega
   ·subst hz; rw [Int.zero_mul] at h; omega
   ·exact hz
  subst hz
  refine ⟨e, rfl, ?_⟩
  omega
theorem yly (D R md i : Nat) (hmd : 2 ≤ md) (hD : D < 2 ^ (32 * md)) (hv : dg 32 D (md - 1) ≠ 0) (hR : R < D * 2 ^ (32 * (i + 1))) :
  ∃ dl ul P, 0 < P ∧ dl < P ∧ ul < P ∧ D = (dg 32 D (md - 1) * 4294967296 + dg 32 D (md - 2)) * P + dl ∧
   R / 2 ^ (32 * i) = ((dg 32 R (i + md) * 4294967296 + dg 32 R (i + md - 1)) * 4294967296 + dg 32 R (i + md - 2)) * P + ul ∧
   R / 2 ^ (32 * i) < D * 4294967296 ∧ dg 32 R (i + md) ≤ dg 32 D (md - 1) ∧ R / 2 ^ (32 * i) / D ≤ (dg 32 R (i + md) * 4294967296 + dg 32 R (i + md - 1)) / dg 32 D (md - 1) := by
 obtain ⟨m, rfl⟩ : ∃ m, md = m + 2 := ⟨md - 2, by omega⟩
 have hU : R / 2 ^ (32 * i) < D * 4294967296 := by
  rw [Nat.div_lt_iff_lt_mul (Nat.two_pow_pos _), Nat.mul_assoc, Nat.mul_comm 4294967296, ← B32, ← ydS]
  exact hR
 have hd := fun j => yh3 32 R i j
 generalize R / 2 ^ (32 * i) = U at *
 have hUB : U < 2 ^ (32 * (m + 3)) := by
  rw [ydS, B32]
  exact Nat.lt_trans hU (Nat.mul_lt_mul_of_pos_right hD (by omega))
 have a1 := ydY 32 D m
 have a2 := ydY 32 D (m + 1)
 have b1 := ydY 32 U m
 have b2 := ydY 32 U (m + 1)
 have b3 := ydY 32 U (m + 2)
 rw [Nat.div_eq_of_lt hD] at a2
 rw [Nat.div_eq_of_lt hUB] at b3
 rw [B32] at a1 a2 b1 b2 b3
 rw [hd] at b1 b2 b3
 rw [show m + 1 + 1 = m + 2 from rfl] at b2
 have hP := Nat.two_pow_pos (32 * m)
 have c1 := Nat.div_add_mod D (2 ^ (32 * m))
 have c2 := Nat.div_add_mod U (2 ^ (32 * m))
 have c3 := Nat.mod_lt D hP
 have c4 := Nat.mod_lt U hP
 have c5 := Nat.mod_lt D (Nat.two_pow_pos (32 * (m + 1)))
 have c6 := Nat.div_add_mod D (2 ^ (32 * (m + 1)))
 have d1 : D / 2 ^ (32 * m) = dg 32 D (m + 1) * 4294967296 + dg 32 D m := by omega
 have d2 : U / 2 ^ (32 * m) = (dg 32 R (i + (m + 2)) * 4294967296 + dg 32 R (i + (m + 1))) * 4294967296 + dg 32 R (i + m) := by omega
 have d3 : D / 2 ^ (32 * (m + 1)) = dg 32 D (m + 1) := by omega
 have d4 : U / 2 ^ (32 * (m + 1)) = dg 32 R (i + (m + 2)) * 4294967296 + dg 32 R (i + (m + 1)) := by omega
 have d5 : U / 2 ^ (32 * (m + 2)) = dg 32 R (i + (m + 2)) := by omega
 simp only [show m + 2 - 1 = m + 1 from rfl, show m + 2 - 2 = m from rfl, show i + (m + 2) - 1 = i + (m + 1) from rfl, show i + (m + 2) - 2 = i + m from rfl] at hv ⊢
 refine ⟨D % 2 ^ (32 * m), U % 2 ^ (32 * m), 2 ^ (32 * m), hP, c3, c4, ?_, ?_, hU, ?_, ?_⟩
 ·rw [← d1, Nat.mul_comm]; exact c1.symm
 ·rw [← d2, Nat.mul_comm]; exact c2.symm
 ·rw [← d5]
  have : U < (dg 32 D (m + 1) + 1) * 2 ^ (32 * (m + 2)) := by
   rw [show m + 2 = m + 1 + 1 from rfl, ydS 32 (m + 1), B32, ← Nat.mul_assoc]
   refine Nat.lt_of_lt_of_le hU (Nat.mul_le_mul_right _ ?_)
   rw [Nat.add_mul, ← d3, Nat.mul_comm (D / _)]
   omega
  have := (Nat.div_lt_iff_lt_mul (Nat.two_pow_pos (32 * (m + 2)))).2 this
  omega
 ·rw [← d4, Nat.div_div_eq_div_mul]
  refine Nat.div_le_div_left ?_ (Nat.mul_pos (Nat.two_pow_pos _) (by omega))
  rw [← d3]; exact Nat.mul_div_le D _
theorem yjf {N t w z : Nat} (hN : N < 2 ^ (32 * (t + 1))) (hw : w < 2 ^ 32) : upd (G 32 N) t (w : Int) = G 32 (N % 2 ^ (32 * t) + w * 2 ^ (32 * t)) := by
 rw [yrM 32 N w t hw, Nat.div_eq_of_lt hN, Nat.zero_mul, Nat.add_zero]
theorem yg1 (n0 : Nat) (s : Int) (L md i : Nat) (hmd : 2 ≤ md) (hmd2 : md ≤ 1000000) (hi : i ≤ 1000000) (hL : i + md < L) (hL2 : L ≤ 2000000) (hin : i < n0) (hn : n0 ≤ 1000000) (c1 c2 c3 : Nat) (D Q R : Nat)
  (hD : D < 2 ^ (32 * md)) (hv : dg 32 D (md - 1) ≠ 0) (hR : R < D * 2 ^ (32 * (i + 1))) (hQ : Q % 2 ^ (32 * (i + 1)) = 0)
  (again : Nat → Int → Nat → Nat → Int → Int → Nat → (Nat → Int) → Nat → (Nat → Int) → Nat → (Nat → Int) → Prop) (k0 : Nat → Int → Nat → Nat → (Nat → Int) → Nat → (Nat → Int) → Prop)
  (h : ∀ q R', q < 4294967296 → R' + q * (D * 2 ^ (32 * i)) = R → R' < D * 2 ^ (32 * i) → again n0 s md L md ((i : Int) - 1) c1 (G 32 (Q + q * 2 ^ (32 * i))) c2 (G 32 D) c3 (G 32 R')) :
  zby.l20.step again k0 n0 s md L md i c1 (G 32 Q) c2 (G 32 D) c3 (G 32 R) := by
 obtain ⟨dl, ul, P, hP, hdl, hul, hDe, hUe, hUB, hu1, hq0⟩ := yly D R md i hmd hD hv hR
 have hv1 := ybN 32 D (md - 1)
 have hv2 := ybN 32 D (md - 2)
 have hr0 := ybN 32 R (i + md)
 have hr1 := ybN 32 R (i + md - 1)
 rw [B32] at hv1 hv2 hr0 hr1
 have hD0 : 0 < D := by
  rcases Nat.eq_zero_or_pos D with e | e
  ·rw [e] at hR; omega
  ·exact e
 have hx2 : dg 32 R (i + md) * 4294967296 + dg 32 R (i + md - 1) < 18446744073709551616 := by omega
 have hqs : R / 2 ^ (32 * i) / D < 4294967296 := (Nat.div_lt_iff_lt_mul hD0).2 (by rw [Nat.mul_comm 4294967296]; exact hUB)
 have hPi := Nat.two_pow_pos (32 * i)
 have hE : D * 2 ^ (32 * i) < 2 ^ (32 * (i + md)) := by
  rw [show 32 * (i + md) = 32 * md + 32 * i from by omega, Nat.pow_add]
  exact Nat.mul_lt_mul_of_pos_right hD hPi
 have hRlt : R < 2 ^ (32 * (i + md + 1)) := by
  refine Nat.lt_trans hR ?_
  rw [show 32 * (i + md + 1) = 32 * md + 32 * (i + 1) from by omega, Nat.pow_add]
  exact Nat.mul_lt_mul_of_pos_right hD (Nat.two_pow_pos _)
 have hq1 : R / 2 ^ (32 * i) / D * (D * 2 ^ (32 * i)) ≤ R := by
  rw [Nat.div_div_eq_div_mul, Nat.mul_comm (2 ^ (32 * i)) D]; exact Nat.div_mul_le_self _ _
 have hq2 : R < R / 2 ^ (32 * i) / D * (D * 2 ^ (32 * i)) + D * 2 ^ (32 * i) := by
  rw [Nat.div_div_eq_div_mul, Nat.mul_comm (2 ^ (32 * i)) D]
  have a := Nat.div_add_mod R (D * 2 ^ (32 * i))
  have b := Nat.mod_lt R (Nat.mul_pos hD0 hPi)
  rw [Nat.mul_comm] at a
  omega
 generalize R / 2 ^ (32 * i) = U at *
 have fin := h (U / D) (R - U / D * (D * 2 ^ (32 * i))) hqs (by omega) (by omega)
 generalize hqse : U / D = qs at *
 have i0 : yae IntKind.i64 (md : Int) 1 = (md : Int) - 1 := by rw [yar (by omega) (by omega)]
 have i1 : yai IntKind.i64 (i : Int) (md : Int) = (i : Int) + md := by rw [yaw (by omega) (by omega)]
 have i2 : yae IntKind.i64 ((i : Int) + md) 1 = (i : Int) + md - 1 := by rw [yar (by omega) (by omega)]
 have i3 : Int.toNat ((md : Int) - 1) = md - 1 := by omega
 have i4 : Int.toNat ((i : Int) + md - 1) = i + md - 1 := by omega
 have i5 : Int.toNat ((i : Int) + md) = i + md := by omega
 have i6 : yae IntKind.i64 (i : Int) 1 = (i : Int) - 1 := by rw [yar (by omega) (by omega)]
 have w0 : (leI 0 ((i : Int) + md) && ltI ((i : Int) + md) (L : Int)) = true := by rw [ya7 (by omega), ybn (by omega)]; rfl
 have w1 : (leI 0 ((i : Int) + md - 1) && ltI ((i : Int) + md - 1) (L : Int)) = true := by rw [ya7 (by omega), ybn (by omega)]; rfl
 have w2 : (leI 0 ((md : Int) - 1) && ltI ((md : Int) - 1) (md : Int)) = true := by rw [ya7 (by omega), ybn (by omega)]; rfl
 have w3 : (leI 0 (i : Int) && ltI (i : Int) (n0 : Int)) = true := by rw [ya7 (by omega), ybn (by omega)]; rfl
 have w4 : (!eqI ((dg 32 D (md - 1) : Nat) : Int) 0) = true := by rw [yhK (by omega)]; rfl
 have c0 : ∀ j, cvI IntKind.u64 ((dg 32 D j : Nat) : Int) = (dg 32 D j : Nat) := fun j => by
  have := ybN 32 D j; rw [B32] at this; rw [yaY (by omega) (by omega)]
 have c4 : ∀ j, cvI IntKind.u64 ((dg 32 R j : Nat) : Int) = (dg 32 R j : Nat) := fun j => by
  have := ybN 32 R j; rw [B32] at this; rw [yaY (by omega) (by omega)]
 -- the quotient's word
 have setQ : ∀ q : Nat, q = qs → upd (G 32 Q) i (cvI IntKind.u32 (q : Int)) = G 32 (Q + qs * 2 ^ (32 * i)) := by
  intro q e
  have hz : dg 32 Q i = 0 := by
   have := ybY 32 Q i
   rw [hQ] at this
   have h0 : dg 32 Q i * 2 ^ (32 * i) = 0 := by omega
   rcases Nat.mul_eq_zero.1 h0 with h0 | h0
   ·exact h0
   ·omega
  rw [e, yci, show ((qs : Nat) : Int) % 4294967296 = ((qs : Nat) : Int) from by omega]
  exact ykE (by rw [hz]; omega) (by rw [B32]; exact hqs)
 unfold zby.l20.step
 rw [yaD (ya7 (by omega)), i1, i2, i0, i3, i4, i5, ya2 w0, ya2 w1, ya2 w2]
 simp only [ybt]
 rw [c0, c4, c4, ya2 w4, ya2 w2, ya2 w4, ygz _ _ hr0 hr1, ypa _ _ hx2, yka (by omega), ← Int.natCast_emod]
 refine ⟨_, yhl 0 s L md i hi hmd hmd2 hL n0 D R c1 c2 c3 (G 32 Q) U (dg 32 D (md - 1)) (dg 32 D (md - 2)) dl _ (dg 32 R (i + md - 2)) ul P hP hDe hdl hUe hul hD0 hUB (by omega) ?_ hx2 rfl rfl rfl _ ?_ _ _ ?_ ?_ ?_⟩
 ·omega
 ·-- behind the guess
  intro q hge hle hqB
  rw [hqse] at hge hle
  refine ⟨md + 1, ?_⟩
  refine yhB n0 s L md i q hi hmd2 hL hqB c1 c2 c3 (G 32 Q) D R hD hRlt _ ?_ md 0 R 0 0 (by omega) hRlt (by omega) (by omega) (by omega) (by simp [Nat.mod_one])
  intro N c b hN hc hb1 hb2 hE2
  have hdN := ybN 32 N (i + md)
  rw [B32] at hdN
  have hNs := ybY 32 N (i + md)
  rw [Nat.mod_eq_of_lt hN] at hNs
  have hNl := Nat.mod_lt N (Nat.two_pow_pos (32 * (i + md)))
  have e1 : ((dg 32 N (i + md) : Nat) : Int) - (c : Int) = (dg 32 N (i + md) : Int) - c := rfl
  have cz : yai IntKind.i64 b (yae IntKind.i64 (cvI IntKind.i64 ((dg 32 N (i + md) : Nat) : Int)) (cvI IntKind.i64 (c : Int))) = b + ((dg 32 N (i + md) : Int) - c) := by
   rw [yie (by omega) (by omega), yie (by omega) (by omega), yar (by omega) (by omega), yaw (by omega) (by omega)]
  have hf := yo3 (z := b + ((dg 32 N (i + md) : Int) - c)) (T := q * D * 2 ^ (32 * i)) (q := q) hE hNl hq1 hq2 (by rw [Nat.mul_assoc]) (by
   rw [← hE2]
   have e2 : (N : Int) = ((N % 2 ^ (32 * (i + md)) : Nat) : Int) + (dg 32 N (i + md) : Int) * ((2 ^ (32 * (i + md)) : Nat) : Int) := by
    have : ((N : Nat) : Int) = ((N % 2 ^ (32 * (i + md)) + dg 32 N (i + md) * 2 ^ (32 * (i + md)) : Nat) : Int) := by rw [← hNs]
    rw [this]; simp
   rw [e2]
   generalize ((2 ^ (32 * (i + md)) : Nat) : Int) = PT
   rw [show b + ((dg 32 N (i + md) : Int) - c) = dg 32 N (i + md) + (b - c) from by omega, Int.add_mul]
   omega) hge hle
  show gd _ _
  rw [i1, i5, ya2 w0, ya2 w0]
  simp only [ybt]
  rw [cz]
  rcases hf with ⟨hq, hz, hNe⟩ | ⟨hq, hz, hNe⟩
  ·rw [hz, yau (by rfl), ya2 w3, i6, Int.toNat_natCast, setQ q hq]
   have : upd (G 32 N) (i + md) (cvI IntKind.u32 0) = G 32 (R - qs * (D * 2 ^ (32 * i))) := by
    have := yjf (w := 0) (z := 0) hN (by omega)
    rw [Nat.zero_mul, Nat.add_zero, hNe] at this
    exact this
   rw [this]; exact fin
  ·rw [hz, yaD (by rfl)]
   have hup : upd (G 32 N) (i + md) (cvI IntKind.u32 (-1)) = G 32 (N % 2 ^ (32 * (i + md)) + 4294967295 * 2 ^ (32 * (i + md))) :=
    yjf (w := 4294967295) (z := 0) hN (by omega)
   have hNlt := ypJ 32 (N % 2 ^ (32 * (i + md))) 4294967295 (i + md) hNl (by omega)
   have hs1 : yae IntKind.u64 (q : Int) 1 = ((qs : Nat) : Int) := by rw [yex (by omega) (by omega)]; omega
   rw [hup, hs1]
   refine ⟨md + 1, ?_⟩
   refine yhL n0 s L md i (qs : Int) hi hmd2 hL c1 c2 c3 (G 32 Q) D (N % 2 ^ (32 * (i + md)) + 4294967295 * 2 ^ (32 * (i + md))) hD _ ?_ md 0 _ 0 (by omega) hNlt (by omega) (by simp [Nat.mod_one])
   intro N2 c5 hN2 hc5 hE3
   have hd2 := ybN 32 N2 (i + md)
   rw [B32] at hd2
   have hNs2 := ybY 32 N2 (i + md)
   rw [Nat.mod_eq_of_lt hN2] at hNs2
   have hNl2 := Nat.mod_lt N2 (Nat.two_pow_pos (32 * (i + md)))
   have cc : cvI IntKind.u32 (c5 : Int) = c5 := by rw [yci]; omega
   -- the sum of the two highest words is the base
   have hsum : dg 32 N2 (i + md) + c5 = 4294967296 ∧ N2 % 2 ^ (32 * (i + md)) = R - qs * (D * 2 ^ (32 * i)) := by
    have hl : N2 % 2 ^ (32 * (i + md)) + (dg 32 N2 (i + md) + c5) * 2 ^ (32 * (i + md)) = (R - qs * (D * 2 ^ (32 * i))) + 4294967296 * 2 ^ (32 * (i + md)) := by
     rw [Nat.add_mul]; omega
    have hlt : R - qs * (D * 2 ^ (32 * i)) < 2 ^ (32 * (i + md)) := by omega
    generalize 2 ^ (32 * (i + md)) = PT at *
    generalize dg 32 N2 (i + md) + c5 = t at *
    generalize R - qs * (D * 2 ^ (32 * i)) = v at *
    generalize N2 % PT = u at *
    have hPT : 0 < PT := by omega
    have a1 : (u + t * PT) / PT = t := by rw [Nat.add_mul_div_right _ _ hPT, Nat.div_eq_of_lt hNl2, Nat.zero_add]
    have a2 : (v + 4294967296 * PT) / PT = 4294967296 := by rw [Nat.add_mul_div_right _ _ hPT, Nat.div_eq_of_lt hlt, Nat.zero_add]
    rw [hl, a2] at a1
    subst a1
    exact ⟨rfl, by omega⟩
   show gd _ _
   rw [i1, i5, ya2 w0, ya2 w0, ya2 w3, i6, Int.toNat_natCast, setQ qs rfl]
   simp only [ybt]
   have ha : yai IntKind.u32 ((dg 32 N2 (i + md) : Nat) : Int) (cvI IntKind.u32 (c5 : Int)) = ((0 : Nat) : Int) := by
    rw [cc, show yai IntKind.u32 ((dg 32 N2 (i + md) : Nat) : Int) (c5 : Int) = IntKind.wrap .u32 (((dg 32 N2 (i + md) : Nat) : Int) + c5) from rfl, yl3]
    omega
   rw [ha, yjf (w := 0) (z := 0) hN2 (by omega), Nat.zero_mul, Nat.add_zero, hsum.2]
   exact fin
 ·rw [Nat.mul_comm]; exact Nat.div_add_mod _ _
 ·exact Nat.lt_trans (Nat.mod_lt _ (by omega)) hv1
 ·rw [hqse]; exact hq0
theorem yrh {Q n m : Nat} (h : Q % 2 ^ m = 0) (hn : n ≤ m) : Q % 2 ^ n = 0 := by
 have : 2 ^ n ∣ 2 ^ m := Nat.pow_dvd_pow 2 hn
 exact Nat.mod_eq_zero_of_dvd (Nat.dvd_trans this (Nat.dvd_of_mod_eq_zero h))
theorem yhN (n0 : Nat) (s : Int) (L md : Nat) (hmd : 2 ≤ md) (hmd2 : md ≤ 1000000) (hL2 : L ≤ 2000000) (hn : n0 ≤ 1000000) (c1 c2 c3 : Nat) (D N0 : Nat)
  (hD : D < 2 ^ (32 * md)) (hv : dg 32 D (md - 1) ≠ 0)
  (k0 : Nat → Int → Nat → Nat → (Nat → Int) → Nat → (Nat → Int) → Prop)
  (h : ∀ Q R, Q * D + R = N0 → R < D → Q < 2 ^ (32 * n0) → k0 n0 s L c1 (G 32 Q) c3 (G 32 R)) :
  ∀ (t Q R : Nat), t + md ≤ L → t ≤ n0 → R < D * 2 ^ (32 * t) → Q % 2 ^ (32 * t) = 0 → Q < 2 ^ (32 * n0) → Q * D + R = N0 → zby.l20 k0 (t + 1) n0 s md L md ((t : Int) - 1) c1 (G 32 Q) c2 (G 32 D) c3 (G 32 R) := by
 intro t
 induction t with
 | zero =>
  intro Q R hL ht hR hQ hQ2 hN
  unfold zby.l20 zby.l20.step
  rw [yau (yeC (by omega))]
  refine h Q R hN ?_ hQ2
  rw [Nat.mul_zero, Nat.pow_zero, Nat.mul_one] at hR; exact hR
 | succ t ih =>
  intro Q R hL ht hR hQ hQ2 hN
  unfold zby.l20
  rw [show ((t + 1 : Nat) : Int) - 1 = (t : Int) from by omega]
  refine yg1 n0 s L md t hmd hmd2 (by omega) (by omega) hL2 (by omega) hn c1 c2 c3 D Q R hD hv hR hQ _ _ fun q R' hq he hR' => ?_
  have hz : dg 32 Q t = 0 := by
   have h1 := ybY 32 Q t
   rw [hQ] at h1
   have h0 : dg 32 Q t * 2 ^ (32 * t) = 0 := by omega
   have hp := Nat.two_pow_pos (32 * t)
   rcases Nat.mul_eq_zero.1 h0 with h0 | h0
   ·exact h0
   ·omega
  refine ih _ R' (by omega) (by omega) hR' ?_ (ylw (w := q) (j := t) (by omega) hQ2 (by omega) (by rw [B32]; exact hq) (by rw [hz]; omega)) ?_
  ·rw [Nat.add_mul_mod_self_right]; exact yrh hQ (by omega)
  ·rw [Nat.add_mul, Nat.mul_assoc, Nat.mul_comm (2 ^ (32 * t)) D]; omega
theorem yiW (x y n : Nat) (hn : n ≤ 1000000) (hy : y ≠ 0) (hyB : y < 4294967296) (k0 : Nat → Int → Nat → (Nat → Int) → Prop) (c : Nat) (h : k0 n ((x % y : Nat) : Int) c (G 32 (x / y))) :
  ∀ t, t ≤ n → zby.l7 k0 (t + 1) n (G 32 x) 1 (G 32 y) n ((x / 2 ^ (32 * t) % y : Nat) : Int) ((t : Int) - 1) c (G 32 (x / 2 ^ (32 * t) / y * 2 ^ (32 * t))) := by
 intro t
 induction t with
 | zero =>
  intro ht
  unfold zby.l7 zby.l7.step
  rw [yau (yeC (by omega)), Nat.mul_zero, Nat.pow_zero, Nat.div_one, Nat.mul_one]
  exact h
 | succ t ih =>
  intro ht
  have ih := ih (by omega)
  have hX := ydY 32 x t
  rw [B32] at hX
  have hd := ybN 32 x t
  rw [B32] at hd
  have hp := Nat.two_pow_pos (32 * t)
  generalize hX1 : x / 2 ^ (32 * (t + 1)) = X1 at *
  rw [hX] at ih
  have hr := Nat.mod_lt X1 (show 0 < y by omega)
  have hdm := Nat.div_add_mod X1 y
  generalize hre : X1 % y = r at *
  generalize hqe : X1 / y = Q1 at *
  have hsum : dg 32 x t + X1 * 4294967296 = r * 4294967296 + dg 32 x t + y * (Q1 * 4294967296) := by
   rw [← hdm, Nat.add_mul, Nat.mul_assoc]; omega
  have hmod : (dg 32 x t + X1 * 4294967296) % y = (r * 4294967296 + dg 32 x t) % y := by rw [hsum, Nat.add_mul_mod_self_left]
  have hdiv : (dg 32 x t + X1 * 4294967296) / y = (r * 4294967296 + dg 32 x t) / y + Q1 * 4294967296 := by rw [hsum, Nat.add_mul_div_left _ _ (by omega)]
  rw [hmod, hdiv] at ih
  have hq : (r * 4294967296 + dg 32 x t) / y < 4294967296 := by
   rw [Nat.div_lt_iff_lt_mul (by omega)]
   have : (r + 1) * 4294967296 ≤ y * 4294967296 := Nat.mul_le_mul_right _ hr
   omega
  have hw : r * 4294967296 + dg 32 x t < 18446744073709551616 := by omega
  have hG : upd (G 32 (Q1 * 2 ^ (32 * (t + 1)))) t (((r * 4294967296 + dg 32 x t) / y : Nat) : Int) = G 32 (((r * 4294967296 + dg 32 x t) / y + Q1 * 4294967296) * 2 ^ (32 * t)) := by
   have hz : dg 32 (Q1 * 2 ^ (32 * (t + 1))) t = 0 := by
    unfold dg
    rw [ydS, B32, Nat.mul_comm (2 ^ _), ← Nat.mul_assoc, Nat.mul_div_cancel _ hp]
    exact Nat.mul_mod_left _ _
   refine ykE ?_ (by rw [B32]; exact hq)
   rw [hz, ydS, B32, Nat.add_mul, Nat.mul_comm (2 ^ (32 * t)) 4294967296, ← Nat.mul_assoc]
   omega
  rw [← hG] at ih
  have o := ygz r (dg 32 x t) (by omega) hd
  have y0 : G 32 y 0 = (y : Int) := by rw [ybt, ysp 32 y (by rw [B32]; exact hyB)]
  have e1 : ((t + 1 : Nat) : Int) - 1 = (t : Int) := by omega
  have w0 : (leI 0 (t : Int) && ltI (t : Int) (n : Int)) = true := by rw [ya7 (by omega), ybn (by omega)]; rfl
  have w1 : (!eqI (y : Int) 0) = true := by rw [yhK (by omega)]; rfl
  have cy : cvI IntKind.u64 (y : Int) = y := by rw [yaY (by omega) (by omega)]
  have cx : cvI IntKind.u64 ((dg 32 x t : Nat) : Int) = (dg 32 x t : Nat) := by rw [yaY (by omega) (by omega)]
  have r0 : ∀ a : Nat, yb6 IntKind.u64 ((a : Nat) : Int) ((y : Nat) : Int) = ((a % y : Nat) : Int) := fun a => by rw [yka (by omega), ← Int.natCast_emod]
  unfold zby.l7 zby.l7.step
  rw [e1, yaD (ya7 (by omega)), ya2 w0, ya2 (ybn (by omega)), y0, cy, ya2 w1, ya2 w0, ya2 (ybn (by omega)), ya2 w1, Int.toNat_natCast, ybt, cx, o, ypa _ _ hw, r0, yci, yar (by omega) (by omega)]
  have e2 : ∀ q : Nat, q < 4294967296 → ((q : Nat) : Int) % 4294967296 = q := fun q h => by omega
  rw [e2 _ hq]
  exact ih
theorem yt9 (n x : Nat) (hx : x < 2 ^ (32 * n)) : app n (G 32 x) (upd (fun _ => 0) 0 0) = G 32 x := by
 funext i
 unfold app
 by_cases h : i < n
 ·have : Nat.blt i n = true := by simpa using h
  rw [this]; rfl
 ·have : Nat.blt i n = false := by
   apply Bool.eq_false_iff.2; intro hc; simp at hc; omega
  rw [this, ybt, yjc 32 x n i hx (by omega)]
  show upd (fun _ => 0) 0 0 (i - n) = _
  by_cases h0 : i - n = 0
  ·rw [h0, ybv]; rfl
  ·rw [yco _ _ _ _ h0]; rfl
theorem yle (x y s : Nat) : x * 2 ^ s / (y * 2 ^ s) = x / y := Nat.mul_div_mul_right _ _ (Nat.two_pow_pos s)
theorem ylx (x y s : Nat) : x * 2 ^ s % (y * 2 ^ s) = x % y * 2 ^ s := Nat.mul_mod_mul_right _ _ _
theorem yud (k : Nat) (hk : k ≠ 0) (x n : Nat) : n < wl k x ↔ 2 ^ (k * n) ≤ x := by
 have := yfv k hk x n
 omega
theorem yf0 (x y : Nat) (hx : wl 32 x ≤ 100000) (hy0 : y ≠ 0) (hy : wl 32 y ≤ 100000) (K : Nat → (Nat → Int) → Nat → (Nat → Int) → Prop) (h : K (wl 32 (x / y)) (G 32 (x / y)) (wl 32 (x % y)) (G 32 (x % y))) :
  zby (wl 32 x) (G 32 x) (wl 32 y) (G 32 y) K := by
 have h32 : (32 : Nat) ≠ 0 := by omega
 rw [zby.is]; unfold zby.d
 refine yid x y _ _ (by omega) (by omega) rfl rfl _ ?_
 rw [yr9]
 by_cases hlt : x < y
 ·rw [yaD (by simpa using hlt)]
  rw [Nat.div_eq_of_lt hlt, Nat.mod_eq_of_lt hlt, ydp, yel] at h
  exact h
 ·rw [yau (by simpa using hlt)]
  have hxl := yer 32 h32 x
  have hyl := yer 32 h32 y
  have hyt := ymW 32 h32 y hy0
  have hxy := ycm (k := 32) h32 (show y ≤ x by omega)
  have hyp : wl 32 y ≠ 0 := by rw [yiu hy0 h32]; omega
  have hdx : x / y < 2 ^ (32 * wl 32 x) := Nat.lt_of_le_of_lt (Nat.div_le_self x y) hxl
  generalize hne : wl 32 x = n at *
  rw [ya2 (by rw [ya7 (by omega), ya7 (by omega), ya7 (by omega)]; rfl)]
  by_cases h1 : wl 32 y = 1
  ·have hyB : y < 4294967296 := by rw [h1] at hyl; exact hyl
   rw [h1, yaD (yoi (by omega)), Int.toNat_natCast, yar (by omega) (by omega)]
   refine ⟨n + 1, ?_⟩
   have := yiW x y n (by omega) hy0 hyB (fun y0 y1 y2 y3 => zbt y0 y2 y3 fun y0 y1_1 y2 => zbu 1 1 1 (upd (fun x => 0) 0 (cvI IntKind.u32 y1)) fun y0_1 y1 y2_1 y3 => K y0 y2 y0_1 y3) n ?_ n (Nat.le_refl _)
   ·rw [Nat.div_eq_of_lt hxl, Nat.zero_mod, Nat.zero_div, Nat.zero_mul, yel] at this
    exact this
   ·refine ydK n n _ (by omega) hdx _ ?_
    have hm := Nat.mod_lt x (show 0 < y by omega)
    have := yp2 32 0 (x % y) 0 (by simp) (by rw [B32]; omega)
    rw [Nat.mul_zero, Nat.pow_zero, Nat.mul_one, Nat.zero_add, yel] at this
    rw [yci, show ((x % y : Nat) : Int) % 4294967296 = ((x % y : Nat) : Int) from by generalize x % y = r at *; omega, this]
    exact ydI 1 1 1 _ (by omega) (by omega) (by rw [show 32 * 1 = 32 from rfl, B32]; omega) _ fun c => h
  ·rw [yau (yhK (by omega))]
   have hdt := ybN 32 y (wl 32 y - 1)
   rw [B32] at hdt
   have e1 : Int.toNat ((wl 32 y : Int) - 1) = wl 32 y - 1 := by omega
   rw [yar (by omega) (by omega), e1, ya2 (by rw [ya7 (by omega), ybn (by omega)]; rfl), ybt, yaY (by omega) (by omega)]
   refine yeF _ (by omega) _ ?_
   have hb : yaC (dg 32 y (wl 32 y - 1)) ≤ 32 := (yaN _ _).2 (by rw [B32]; exact hdt)
   have es : yae IntKind.i64 32 ((yaC (dg 32 y (wl 32 y - 1)) : Nat) : Int) = ((32 - yaC (dg 32 y (wl 32 y - 1)) : Nat) : Int) := by
    rw [yar (by omega) (by omega)]; omega
   rw [es]
   generalize hse : 32 - yaC (dg 32 y (wl 32 y - 1)) = s
   have hs : s ≤ 32 := by omega
   -- the divisor moved
   have hps := Nat.two_pow_pos s
   have hD0 : y * 2 ^ s ≠ 0 := by
    intro e; rcases Nat.mul_eq_zero.1 e with e | e
    ·exact hy0 e
    ·omega
   have hX0 : x * 2 ^ s ≠ 0 := by
    intro e; rcases Nat.mul_eq_zero.1 e with e | e
    ·omega
    ·omega
   have hle : ∀ z : Nat, z ≤ z * 2 ^ s := fun z => Nat.le_mul_of_pos_right z hps
   have wD1 := ycm (k := 32) h32 (hle y)
   have wX1 := ycm (k := 32) h32 (hle x)
   have wup : ∀ z m : Nat, z < 2 ^ (32 * m) → wl 32 (z * 2 ^ s) ≤ m + 1 := fun z m hz => by
    rw [yfv 32 h32, ydS]
    exact Nat.mul_lt_mul_of_lt_of_le hz (Nat.pow_le_pow_right (by omega) hs) (Nat.two_pow_pos _)
   have wD2 := wup y _ hyl
   have wX2 := wup x _ hxl
   have wDX : wl 32 (y * 2 ^ s) ≤ wl 32 (x * 2 ^ s) := ycm (k := 32) h32 (Nat.mul_le_mul_right _ (by omega))
   rw [hne] at wX1
   refine ygV y _ s (by omega) (by omega) hyl _ _ (fun e => absurd e hyp) fun _ c2 m2 => ?_
   refine ygV x _ s (by omega) (by omega) hxl _ _ (fun e => absurd e (by omega)) fun _ c3 m3 => ?_
   have hDl := yer 32 h32 (y * 2 ^ s)
   have hDt := ymW 32 h32 _ hD0
   have hXl := yer 32 h32 (x * 2 ^ s)
   rw [yt9 _ _ hXl]
   generalize hmd : wl 32 (y * 2 ^ s) = md at *
   generalize hL : wl 32 (x * 2 ^ s) = L at *
   rw [ya2 (yuc (by omega))]
   refine ⟨1, ?_⟩
   unfold zby.l16 zby.l16.step
   rw [yaw (by omega) (by omega), yau (yb0 (by omega)), Int.toNat_natCast]
   dsimp only
   have ei : yae IntKind.i64 (yae IntKind.i64 ((L + 1 : Nat) : Int) (md : Int)) 1 = ((L + 1 - md : Nat) : Int) - 1 := by
    simp (disch := omega) only [yar]
    omega
   rw [ei]
   refine ⟨L + 1 - md + 1, ?_⟩
   rw [← yel 32]
   refine yhN n s (L + 1) md (by omega) (by omega) (by omega) (by omega) n m2 (L + 1) (y * 2 ^ s) (x * 2 ^ s) hDl hDt _ (fun Q R he hR hQ => ?_) (L + 1 - md) 0 (x * 2 ^ s) (by omega) (by omega) ?_ (by simp) (Nat.two_pow_pos _) (by omega)
   ·have hq : Q = x / y := by
     rw [← yle x y s, ← he, Nat.mul_comm Q, Nat.mul_add_div (by omega), Nat.div_eq_of_lt hR, Nat.add_zero]
    have hr : R = x % y * 2 ^ s := by
     rw [← ylx x y s, ← he, Nat.mul_comm Q, Nat.mul_add_mod, Nat.mod_eq_of_lt hR]
    refine ydK n n Q (by omega) hQ _ ?_
    have hRX : R < 2 ^ (32 * (L + 1)) := by
     have h1 : R ≤ x * 2 ^ s := by rw [← he]; omega
     have h2 : (2 : Nat) ^ (32 * L) ≤ 2 ^ (32 * (L + 1)) := Nat.pow_le_pow_right (by omega) (by omega)
     omega
    refine ydK (L + 1) (L + 1) R (by omega) hRX _ ?_
    refine ygw R _ s ?_ (by omega) (yer 32 h32 R) _ ?_
    ·have := (yfv 32 h32 R (L + 1)).2 hRX
     omega
    ·have : R / 2 ^ s = x % y := by rw [hr, Nat.mul_div_cancel _ hps]
     rw [this, hq]; exact h
   ·have h1 : 2 ^ (32 * (md - 1)) ≤ y * 2 ^ s := (yud 32 h32 _ _).1 (by omega)
    have h2 : 2 ^ (32 * (md - 1)) * 2 ^ (32 * (L + 1 - md)) ≤ y * 2 ^ s * 2 ^ (32 * (L + 1 - md)) := Nat.mul_le_mul_right _ h1
    rw [← Nat.pow_add, show 32 * (md - 1) + 32 * (L + 1 - md) = 32 * L from by omega] at h2
    omega
end Go.Ev.S

/- Natural numbers: quotients, greatest common divisors, roots. -/
set_option linter.unusedVariables false
set_option linter.unusedSimpArgs false
set_option maxRecDepth 8000
namespace Go.Ev.S
open Go Go.Ev
theorem yq8 {a : List UInt8} (h : ynW a = true) : val a = 0 ↔ a = [] := by
 constructor
 ·intro e; rw [← ymA h, e, ybe]
 ·intro e; subst e; rfl
theorem yft (a b : List UInt8) (K : List UInt8 → List UInt8 → Int → Prop) (h1 : ¬ (May a ∧ May b) → K [] [] 2) (h0 : b = [] → K [] [] 2) (h2 : May a → May b → val b ≠ 0 → K (nb (val a / val b)) (nb (val a % val b)) 0) : zbk a b K := by
 rw [zbk.is]; unfold zbk.d
 rw [ydT]
 by_cases h : May a ∧ May b
 ·rw [yau (by simp [h]), ycY]
  by_cases hb : b = []
  ·rw [yaD (by simpa using hb)]; exact h0 hb
  ·rw [yau (by simpa using hb)]
   have hv : val b ≠ 0 := fun e => hb ((yq8 h.2.2).1 e)
   refine h.1.words _ (h.2.words _ ?_)
   have w1 := h.1.wl; have w2 := h.2.wl
   have w3 := ycm (k := 32) (by omega) (Nat.div_le_self (val a) (val b))
   have w4 := ycm (k := 32) (by omega) (Nat.mod_le (val a) (val b))
   refine yf0 _ _ (by omega) hv (by omega) _ ?_
   refine yby _ _ (by omega) (yhe _) _ ?_
   exact yby _ _ (by omega) (yhe _) _ (h2 h.1 h.2 hv)
 ·rw [yaD (by simp [h])]; exact h1 h
theorem ykJ (k0 : Nat → (Nat → Int) → Prop) : ∀ (y x : Nat), wl 32 x ≤ 100000 → wl 32 y ≤ 100000 → k0 (wl 32 (Nat.gcd x y)) (G 32 (Nat.gcd x y)) → ∃ f, zbl.l4 k0 f (wl 32 x) (G 32 x) (wl 32 y) (G 32 y) := by
 intro y
 induction y using Nat.strongRecOn with
 | _ y ih =>
  intro x hx hy hk
  by_cases h0 : y = 0
  ·subst h0
   refine ⟨1, ?_⟩
   unfold zbl.l4 zbl.l4.step
   rw [ydp, yau (yb0 (by omega))]
   rw [Nat.gcd_zero_right] at hk; exact hk
  ·have hm := Nat.mod_lt x (show 0 < y by omega)
   have w := ycm (k := 32) (by omega) (Nat.le_of_lt hm)
   have hg : Nat.gcd y (x % y) = Nat.gcd x y := by rw [Nat.gcd_comm x y, Nat.gcd_rec y x, Nat.gcd_comm]
   obtain ⟨f, hf⟩ := ih (x % y) hm y hy (by omega) (by rw [hg]; exact hk)
   refine ⟨f + 1, ?_⟩
   unfold zbl.l4 zbl.l4.step
   have hp : wl 32 y ≠ 0 := by rw [yiu h0 (by omega)]; omega
   rw [yaD (ybn (by omega))]
   exact yf0 x y hx h0 hy _ hf
theorem ynM (x y : Nat) : Nat.gcd x y ≤ x ∨ Nat.gcd x y ≤ y := by
 rcases Nat.eq_zero_or_pos x with e | e
 ·right; subst e; rw [Nat.gcd_zero_left]; omega
 ·left; exact Nat.gcd_le_left y e
theorem yiq (a b : List UInt8) (K : List UInt8 → Int → Prop) (h1 : ¬ (May a ∧ May b) → K [] 2) (h2 : May a → May b → K (nb (Nat.gcd (val a) (val b))) 0) : zbl a b K := by
 rw [zbl.is]; unfold zbl.d
 rw [ydT]
 by_cases h : May a ∧ May b
 ·rw [yau (by simp [h])]
  refine h.1.words _ (h.2.words _ ?_)
  have w1 := h.1.wl; have w2 := h.2.wl
  refine ykJ _ _ _ (by omega) (by omega) ?_
  have w3 : wl 32 (Nat.gcd (val a) (val b)) ≤ 4096 := by
   rcases ynM (val a) (val b) with e | e
   ·have := ycm (k := 32) (by omega) e; omega
   ·have := ycm (k := 32) (by omega) e; omega
  exact yby _ _ (by omega) (yhe _) _ (h2 h.1 h.2)
 ·rw [yaD (by simp [h])]; exact h1 h
end Go.Ev.S

/- What the document's answer reckons with natural numbers: products. -/
set_option linter.unusedVariables false
set_option linter.unusedSimpArgs false
set_option maxRecDepth 8000
namespace Go.Ev.S
open Go Go.Ev
end Go.Ev.S

/- What the document's answer reckons with natural numbers: made, measured, moved. -/
set_option linter.unusedVariables false
set_option linter.unusedSimpArgs false
set_option maxRecDepth 8000
namespace Go.Ev.S
open Go Go.Ev
theorem W_G (x : Nat) : W x = G 64 x := rfl
theorem ytL {i : Nat} (h : i = 48) : 2 ^ (8 * i) = Q6 := yeh (by omega)
theorem yqM (d b s w : Nat) (hd : d < 2 ^ s) (hs : s + w ≤ 64) (hb : b < 2 ^ w) : orI .u64 (d : Int) (ybA .u64 (b : Int) (s : Int)) = ((d + b * 2 ^ s : Nat) : Int) := by
 have hb64 : IntKind.bits .u64 = 64 := rfl
 have h1 : b * 2 ^ s + 2 ^ s ≤ 2 ^ 64 := by
  have h2 : (b + 1) * 2 ^ s ≤ 2 ^ w * 2 ^ s := Nat.mul_le_mul_right _ hb
  have h3 : 2 ^ w * 2 ^ s ≤ 2 ^ 64 := by rw [← Nat.pow_add]; exact Nat.pow_le_pow_right (by omega) (by omega)
  rw [Nat.add_mul] at h2; omega
 have hP := Nat.two_pow_pos s
 rw [ynZ (k := .u64) rfl b s (by rw [hb64]; omega), hb64, Nat.mod_eq_of_lt (by omega), ysw (k := .u64) rfl _ _ (by rw [hb64]; omega) (by rw [hb64]; omega)]
 congr 1
 exact yg0 hd (Nat.mul_mod_left _ _)
theorem yru {d b s w : Nat} (hd : d < 2 ^ s) (hs : s + w ≤ 64) (hb : b < 2 ^ w) : d + b * 2 ^ s < 2 ^ 64 := by
 have h2 : (b + 1) * 2 ^ s ≤ 2 ^ w * 2 ^ s := Nat.mul_le_mul_right _ hb
 have h3 : 2 ^ w * 2 ^ s ≤ 2 ^ 64 := by rw [← Nat.pow_add]; exact Nat.pow_le_pow_right (by omega) (by omega)
 rw [Nat.add_mul] at h2; omega
theorem ypI (x : Nat) (h : x ≠ 0) : x.testBit (ybG x) = true ∧ ∀ i, i < ybG x → x.testBit i = false := by
 obtain ⟨q, hq⟩ := yeZ x h
 generalize ybG x = k at *
 subst hq
 constructor
 ·rw [Nat.testBit_two_pow_mul]; simp [Nat.testBit_zero]
 ·intro i hi
  rw [Nat.testBit_two_pow_mul]; simp; omega
theorem ylo (x n : Nat) (h0 : x ≠ 0) (hx : x < 2 ^ n) : ybG x < n := by
 obtain ⟨b1, _⟩ := ypI x h0
 apply Classical.byContradiction
 intro hc
 rw [Nat.testBit_lt_two_pow (Nat.lt_of_lt_of_le hx (Nat.pow_le_pow_right (by omega) (by omega)))] at b1
 cases b1
theorem ygs (x s : Nat) (h : x ≠ 0) : yaC (x * 2 ^ s) = yaC x + s := by
 have h1 : x * 2 ^ s / 2 ^ s = x := Nat.mul_div_cancel _ (Nat.two_pow_pos s)
 have := yc7 (x := x * 2 ^ s) (i := s) (by rw [h1]; exact h)
 rw [this, h1, Nat.add_comm]
theorem ypw (x n : Nat) : (nb x).length ≤ n ↔ yaC x ≤ 8 * n := by
 rw [ycD, yaN, yp9]
theorem yiC (x : Nat) : (nb x).length ≤ 16384 ↔ yaC x ≤ 131072 := by
 have := ypw x 16384
 omega
theorem ytF (x n : Int) : ltI x n = decide (x < n) := by simp [ltI]
end Go.Ev.S

/- What the document's answer reckons with natural numbers: quotients, greatest common divisors, roots. -/
set_option linter.unusedVariables false
set_option linter.unusedSimpArgs false
set_option maxRecDepth 8000
namespace Go.Ev.S
open Go Go.Ev
end Go.Ev.S

/- The laws of natural numbers that need no quotient: sums, products, a ring. -/
set_option linter.unusedVariables false
set_option linter.unusedSimpArgs false
set_option maxRecDepth 8000
namespace Go.Ev.S
open Go Go.Ev
theorem yqe (a : List UInt8) : eqS a a = true := by simp [eqS]
theorem yiy (a : Int) : eqI a a = true := by simp [eqI]
end Go.Ev.S

/- The law of shifts. -/
set_option linter.unusedVariables false
set_option linter.unusedSimpArgs false
set_option maxRecDepth 8000
namespace Go.Ev.S
open Go Go.Ev
theorem yrE {a : List UInt8} (hm : May a) (h : a ≠ []) : val a ≠ 0 := fun e => by have := hm.nb; rw [e, ybe] at this; exact h this.symm
theorem yrb {a : List UInt8} (hm : May a) : yaC (val a) ≤ 131072 := by rw [← yiC, hm.nb]; exact hm.1
theorem ylP (a : List UInt8) (n : Int) (hn : n < 9223372036854775808) (K : List UInt8 → Int → Prop) (h0 : ¬ May a → K [] 2) (h1 : May a → n < 0 → K [] 2) (h2 : May a → 0 ≤ n → a = [] → K [] 0)
  (h3 : May a → 0 ≤ n → a ≠ [] → 131072 < (yaC (val a) : Int) + n → K [] 4) (h4 : May a → 0 ≤ n → a ≠ [] → (yaC (val a) : Int) + n ≤ 131072 → K (nb (val a * 2 ^ n.toNat)) 0) : zbm a n K := by
 rw [zbm.is]; unfold zbm.d
 rw [yaW]
 by_cases hm : May a
 ·rw [if_pos hm, yau (by rfl)]
  by_cases hneg : n < 0
  ·rw [yaD (ybn hneg)]; exact h1 hm hneg
  rw [yau (yb0 (by omega)), ycY]
  by_cases hz : a = []
  ·rw [yaD (by simp [hz])]; exact h2 hm (by omega) hz
  rw [yau (by simp [hz])]
  refine yfp a _ ?_
  have hb := yrb hm
  rw [if_pos hm, yar (by omega) (by omega)]
  by_cases hlong : 131072 < (yaC (val a) : Int) + n
  ·rw [yaD (ybn (by omega))]; exact h3 hm (by omega) hz hlong
  rw [yau (yb0 (by omega))]
  obtain ⟨s, rfl⟩ : ∃ s : Nat, n = s := ⟨n.toNat, by omega⟩
  have h4 := h4 hm (by omega) hz (by omega)
  rw [Int.toNat_natCast] at h4
  refine hm.words _ ?_
  have hw := hm.wl
  refine ygV _ _ s (by omega) (by omega) hm.lt _ _ (fun hc => ?_) fun _ c m => ?_
  ·exfalso
   have := hm.lt
   rw [hc] at this
   have h0 := yrE hm hz
   simp at this; omega
  ·refine ylG _ _ ?_ (yhe _) _ ?_
   ·have hl := yip (val a) _ s (by omega) (by omega) hm.lt
    have := (yfv 32 (by omega) _ _).2 hl
    omega
   ·have : (nb (val a * 2 ^ s)).length ≤ 16384 := by
     rw [yiC, ygs _ _ (yrE hm hz)]; omega
    rw [if_neg (by omega)]; exact h4
 ·rw [if_neg hm, yaD (by rfl)]; exact h0 hm
theorem yjT (a : List UInt8) (n : Int) (hn : n < 9223372036854775808) (K : List UInt8 → Bool → Int → Prop) (h0 : ¬ May a → K [] false 2) (h1 : May a → n < 0 → K [] false 2) (h2 : May a → 0 ≤ n → a = [] → K [] false 0)
  (h3 : May a → 0 ≤ n → a ≠ [] → K (nb (val a / 2 ^ n.toNat)) (decide ((ybG (val a) : Int) < n)) 0) : zbq a n K := by
 rw [zbq.is]; unfold zbq.d
 rw [yaW]
 by_cases hm : May a
 ·rw [if_pos hm, yau (by rfl)]
  by_cases hneg : n < 0
  ·rw [yaD (ybn hneg)]; exact h1 hm hneg
  rw [yau (yb0 (by omega)), ycY]
  by_cases hz : a = []
  ·rw [yaD (by simp [hz])]; exact h2 hm (by omega) hz
  rw [yau (by simp [hz])]
  obtain ⟨s, rfl⟩ : ∃ s : Nat, n = s := ⟨n.toNat, by omega⟩
  have h3 := h3 hm (by omega) hz
  rw [Int.toNat_natCast] at h3
  refine hm.words _ ?_
  have hw := hm.wl
  refine ygw _ _ s (by omega) (by omega) hm.lt _ ?_
  have hle : wl 32 (val a / 2 ^ s) ≤ wl 32 (val a) := ycm (by omega) (Nat.div_le_self _ _)
  refine yby _ _ (by omega) (yhe _) _ ?_
  refine yfw a _ ?_
  rw [if_pos hm, ytF]; exact h3
 ·rw [if_neg hm, yaD (by rfl)]; exact h0 hm
end Go.Ev.S

/- The formats: their numbers, and the encodings that have names. -/
set_option linter.unusedVariables false
set_option linter.unusedSimpArgs false
set_option maxRecDepth 8000
namespace Go.Ev.S
open Go Go.Ev
def fw : Nat → Nat | 0 => 32 | 1 => 64 | 2 => 16 | 3 => 128 | _ => 0
def fp : Nat → Nat | 0 => 24 | 1 => 53 | 2 => 11 | 3 => 113 | _ => 0
def fe : Nat → Nat | 0 => 127 | 1 => 1023 | 2 => 15 | 3 => 16383 | _ => 0
def sg (f : Nat) (neg : Bool) : Nat := cond neg (2 ^ (fw f - 1)) 0
def enc (f : Nat) (neg : Bool) (e t : Nat) : Nat := sg f neg + e * 2 ^ (fp f - 1) + t
theorem yec {f : Nat} (h : f ≤ 3) : f = 0 ∨ f = 1 ∨ f = 2 ∨ f = 3 := by omega
theorem yaV (f : Nat) (h : f ≤ 3) (K : Int → Prop) : zck f K = K 0 := by
 rw [zck.is]; unfold zck.d; rw [yau (yb0 (by omega))]
theorem ybh (f : Nat) (h : f ≤ 3) (K : Int → Prop) : zcq f K = K (fw f) := by
 rw [zcq.is]; unfold zcq.d; rw [zcu.is]
 rcases yec h with rfl | rfl | rfl | rfl <;> kernel_rfl
theorem yaq (f : Nat) (h : f ≤ 3) (K : Int → Prop) : zcp f K = K (fp f) := by
 rw [zcp.is]; unfold zcp.d; rw [zcu.is]
 rcases yec h with rfl | rfl | rfl | rfl <;> kernel_rfl
theorem ya9 (f : Nat) (h : f ≤ 3) (K : Int → Prop) : zcl f K = K (fe f) := by
 rw [zcl.is]; unfold zcl.d; rw [zcu.is]
 rcases yec h with rfl | rfl | rfl | rfl <;> kernel_rfl
theorem ybw (f : Nat) (h : f ≤ 3) (K : Int → Prop) : zcm f K = K (1 - (fe f : Int)) := by
 rw [zcm.is]; unfold zcm.d; rw [yaV f h, ya9 f h]
 rcases yec h with rfl | rfl | rfl | rfl <;> kernel_rfl
theorem yja (f : Nat) (h : f ≤ 3) (K : Int → Int → Prop) : (zcq f fun y0 => zcs 1 (yae IntKind.i64 y0 1) K) = K (Hi (2 ^ (fw f - 1))) (Lo (2 ^ (fw f - 1))) := by
 rw [ybh f h, zcs.is]
 rcases yec h with rfl | rfl | rfl | rfl <;> kernel_rfl
theorem ytQ (f : Nat) (h : f ≤ 3) (neg : Bool) : sg f neg < 2 ^ 128 := by
 rcases yec h with rfl | rfl | rfl | rfl <;> cases neg <;> decide
theorem yfa (f x : Nat) (h : f ≤ 3) (hx : x < 2 ^ 128) (neg : Bool) (K : Int → Int → Prop) : zcv f (Hi x) (Lo x) neg K = K (Hi (x ||| sg f neg)) (Lo (x ||| sg f neg)) := by
 rw [zcv.is]; unfold zcv.d; rw [yaV f h, yau (by decide)]
 cases neg with
 | false => rw [yau rfl]; simp [sg]
 | true =>
  rw [yaD rfl, yja f h]
  obtain ⟨h1, h2⟩ := ytk x (2 ^ (fw f - 1)) hx (ytQ f h true)
  rw [h1, h2]; rfl
theorem HiLo_zero : Hi 0 = 0 ∧ Lo 0 = 0 := ⟨rfl, rfl⟩
theorem ydr (f : Nat) (h : f ≤ 3) (neg : Bool) (K : Int → Int → Prop) : zcr f neg K = K (Hi (enc f neg 0 0)) (Lo (enc f neg 0 0)) := by
 rw [zcr.is]; unfold zcr.d
 have := yfa f 0 h (by decide) neg K
 rw [HiLo_zero.1, HiLo_zero.2, Nat.zero_or] at this
 rw [this]; simp [enc]
theorem yhJ (f e : Nat) (h : f ≤ 3) (he : e = 1 ∨ e = fe f ∨ e = 2 * fe f + 1) (K : Int → Int → Prop) : zct f e K = K (Hi (e * 2 ^ (fp f - 1))) (Lo (e * 2 ^ (fp f - 1))) := by
 rw [zct.is]; unfold zct.d; rw [yaq f h, zcs.is]
 rcases he with rfl | rfl | rfl <;> rcases yec h with rfl | rfl | rfl | rfl <;> kernel_rfl
theorem yqc (f e : Nat) (h : f ≤ 3) (he : e = 1 ∨ e = fe f ∨ e = 2 * fe f + 1) (neg : Bool) : (e * 2 ^ (fp f - 1)) ||| sg f neg = enc f neg e 0 ∧ e * 2 ^ (fp f - 1) < 2 ^ 128 := by
 rcases he with rfl | rfl | rfl <;> rcases yec h with rfl | rfl | rfl | rfl <;> cases neg <;> decide
theorem yfV (f : Nat) (h : f ≤ 3) (neg : Bool) (K : Int → Int → Prop) : zco f neg K = K (Hi (enc f neg (2 * fe f + 1) 0)) (Lo (enc f neg (2 * fe f + 1) 0)) := by
 rw [zco.is]; unfold zco.d; rw [yaV f h, yau (by decide), ya9 f h]
 have e1 : yai IntKind.i64 (yaR IntKind.i64 2 (fe f)) 1 = ((2 * fe f + 1 : Nat) : Int) := by rcases yec h with rfl | rfl | rfl | rfl <;> decide
 obtain ⟨h1, h2⟩ := yqc f _ h (.inr (.inr rfl)) neg
 rw [e1, yhJ f _ h (.inr (.inr rfl)), yfa f _ h h2 neg, h1]
theorem ybu (f x : Nat) (h : f ≤ 3) (hx : x < 2 ^ 128) (K : Bool → Prop) : zcn f (Hi x) (Lo x) K = K (decide (x < 2 ^ fw f)) := by
 rw [zcn.is]; unfold zcn.d
 have ez : eqI (Hi x) 0 = decide (x / 18446744073709551616 = 0) := by
  unfold Hi; rw [show (0 : Int) = ((0 : Nat) : Int) from rfl, yfZ]
 have es : ∀ w : Nat, w < 64 → eqI (yaQ .u64 (Lo x) (w : Int)) 0 = decide (x % 18446744073709551616 < 2 ^ w) := by
  intro w hw
  unfold Lo
  rw [ydM _ w hw, Nat.shiftRight_eq_div_pow, show (0 : Int) = ((0 : Nat) : Int) from rfl, yfZ, decide_eq_decide, Nat.div_eq_zero_iff]
  have := Nat.two_pow_pos w
  omega
 have hx' : x < 340282366920938463463374607431768211456 := hx
 rcases yec h with rfl | rfl | rfl | rfl
 ·rw [yau (by decide), yau (by decide), yaD (by decide), yaD (by decide), ez, ybh 0 (by omega)]
  show br (decide (x / 18446744073709551616 = 0)) (gd (!ltI (cvI IntKind.u64 ((32 : Nat) : Int)) 0) (K (eqI (yaQ .u64 (Lo x) (cvI IntKind.u64 ((32 : Nat) : Int))) 0))) (K false) = K (decide (x < 2 ^ 32))
  rw [yaY (by omega) (by omega), ya2 (ygA (by omega)), es 32 (by omega), show (2 : Nat) ^ 32 = 4294967296 from rfl]
  by_cases hq : x / 18446744073709551616 = 0
  ·rw [yaD (by simp [hq])]; congr 1; rw [decide_eq_decide]; omega
  ·rw [yau (by simp [hq])]; congr 1; symm; rw [decide_eq_false_iff_not]; omega
 ·rw [yau (by decide), yaD (by decide), ez]
  show K _ = K (decide (x < 2 ^ 64))
  congr 1; rw [decide_eq_decide, show (2 : Nat) ^ 64 = 18446744073709551616 from rfl]; omega
 ·rw [yau (by decide), yau (by decide), yau (by decide), yaD (by decide), ez, ybh 2 (by omega)]
  show br (decide (x / 18446744073709551616 = 0)) (gd (!ltI (cvI IntKind.u64 ((16 : Nat) : Int)) 0) (K (eqI (yaQ .u64 (Lo x) (cvI IntKind.u64 ((16 : Nat) : Int))) 0))) (K false) = K (decide (x < 2 ^ 16))
  rw [yaY (by omega) (by omega), ya2 (ygA (by omega)), es 16 (by omega), show (2 : Nat) ^ 16 = 65536 from rfl]
  by_cases hq : x / 18446744073709551616 = 0
  ·rw [yaD (by simp [hq])]; congr 1; rw [decide_eq_decide]; omega
  ·rw [yau (by simp [hq])]; congr 1; symm; rw [decide_eq_false_iff_not]; omega
 ·rw [yaD (by decide)]
  congr 1; symm; rw [decide_eq_true_eq]; exact hx
theorem yeM (f : Nat) (h : 3 < f) (hi lo : Int) (K : Bool → Prop) : zcn f hi lo K = K false := by
 rw [zcn.is]; unfold zcn.d
 rw [yau (yhK (by omega)), yau (yhK (by omega)), yau (yhK (by omega)), yau (yhK (by omega))]
end Go.Ev.S

/- The document's answer on formats: an encoding of its fields, and its fields. -/
set_option linter.unusedVariables false
set_option linter.unusedSimpArgs false
set_option maxRecDepth 8000
namespace Go.Ev.S
open Go Go.Ev
theorem yjJ (f : Nat) (h : f ≤ 3) (K : Bool → Prop) : zci f K = K true := by
 rw [zci.is]; unfold zci.d; rw [ya7 (by omega)]
theorem yjY (f : Nat) (h : 3 < f) (K : Bool → Prop) : zci f K = K false := by
 rw [zci.is]; unfold zci.d; rw [yeC (by omega)]
theorem ykL (f : Nat) (h : f ≤ 3) (K : Int → Prop) : zcj f K = K (fw f) := by
 rw [zcj.is]
 rcases yec h with rfl | rfl | rfl | rfl <;> kernel_rfl
theorem yt7 (f : Nat) (h : f ≤ 3) : 2 ^ (fw f - 1) = (2 * fe f + 2) * 2 ^ (fp f - 1) := by rcases yec h with rfl | rfl | rfl | rfl <;> decide
theorem ycr (f : Nat) (h : f ≤ 3) : 1 ≤ fw f ∧ fw f ≤ 128 ∧ 2 ≤ fp f ∧ fp f ≤ 113 ∧ fp f < fw f ∧ 2 * fe f + 1 < 32768 := by rcases yec h with rfl | rfl | rfl | rfl <;> decide
theorem yg8 {f e t : Nat} (h : f ≤ 3) (he : e ≤ 2 * fe f + 1) (ht : t < 2 ^ (fp f - 1)) : e * 2 ^ (fp f - 1) + t < 2 ^ (fw f - 1) := by
 rw [yt7 f h]
 have : (e + 1) * 2 ^ (fp f - 1) ≤ (2 * fe f + 2) * 2 ^ (fp f - 1) := Nat.mul_le_mul_right _ (by omega)
 rw [Nat.add_mul, Nat.one_mul] at this
 omega
theorem yfN {f e t : Nat} (h : f ≤ 3) (he : e ≤ 2 * fe f + 1) (ht : t < 2 ^ (fp f - 1)) (neg : Bool) : enc f neg e t < 2 ^ fw f := by
 have h1 := yg8 h he ht
 have h2 := (ycr f h).1
 have h3 : 2 ^ fw f = 2 ^ (fw f - 1) + 2 ^ (fw f - 1) := by
  have : fw f = fw f - 1 + 1 := by omega
  conv => lhs; rw [this, Nat.pow_succ]
  omega
 unfold enc sg
 cases neg <;> simp <;> omega
theorem yuf {a : Nat} (h : a ≤ 128) {x : Nat} (hx : x < 2 ^ a) : x < 2 ^ 128 := Nat.lt_of_lt_of_le hx (Nat.pow_le_pow_right (by omega) h)
theorem ylF (f x : Nat) (h : f ≤ 3) (hx : x < 2 ^ 128) (K : Bool → Prop) (hK : K (decide (x < 2 ^ fw f))) : zch f (Hi x) (Lo x) K := by
 rw [zch.is]; unfold zch.d; rw [yjJ f h, yaD (by decide), yiF x hx]
 refine ynw x (yqu (a := 128) (by omega) hx) _ ?_
 rw [ykL f h, yto]
 have : decide (yaC x ≤ fw f) = decide (x < 2 ^ fw f) := by rw [decide_eq_decide]; exact yaN x _
 rw [this]; exact hK
theorem ylu (f : Nat) (h : 3 < f) (hi lo : Int) (K : Bool → Prop) : zch f hi lo K = K false := by
 rw [zch.is]; unfold zch.d; rw [yjY f h]; rfl
end Go.Ev.S

/- The plain law of ShapeMakes, and that of ShapeNumbers. -/
set_option linter.unusedVariables false
set_option linter.unusedSimpArgs false
set_option maxRecDepth 8000
namespace Go.Ev.S
open Go Go.Ev
theorem ys5 {a : Int} (w : (Lit.int .u8 a).wf = true) : ∃ n : Nat, a = n ∧ n < 256 := by
 obtain ⟨h1, h2⟩ := yqh w
 exact ⟨a.toNat, by omega, by omega⟩
theorem yop {a : Int} (w : (Lit.int .u64 a).wf = true) : ∃ n : Nat, a = n ∧ n < 18446744073709551616 := by
 obtain ⟨h1, h2⟩ := yow w
 exact ⟨a.toNat, by omega, by omega⟩
theorem yrf {a b : Int} (w : (Lit.int .u64 a).wf = true) (w2 : (Lit.int .u64 b).wf = true) : ∃ x : Nat, x < 2 ^ 128 ∧ a = Hi x ∧ b = Lo x := by
 obtain ⟨n, rfl, h1⟩ := yop w
 obtain ⟨m, rfl, h2⟩ := yop w2
 exact ⟨two n m, ys4 h1 h2, (ytB h2).symm, (ys3 h2).symm⟩
theorem ypk {x : Nat} {p q : Prop} (h : p) : br (eqI (Hi x) (Hi x) && eqI (Lo x) (Lo x)) p q := by rw [ypj, yaD (by simp)]; exact h
end Go.Ev.S

/- Natural numbers made of words, told as words. -/
set_option linter.unusedVariables false
set_option linter.unusedSimpArgs false
set_option maxRecDepth 8000
namespace Go.Ev.S
open Go Go.Ev
theorem ysL (k n z w : Nat) (hz : z < 2 ^ (k * n)) : app n (G k z) (G k w) = G k (z + w * 2 ^ (k * n)) := by
 funext i
 unfold app
 cases hb : Nat.blt i n with
 | true =>
  have hi : i < n := Nat.le_of_ble_eq_true hb
  rw [cond_true, ybt, ybt]
  have h := ymb k (z + w * 2 ^ (k * n)) n i hi
  rw [Nat.add_mul_mod_self_right, Nat.mod_eq_of_lt hz] at h
  rw [h]
 | false =>
  have hi : n ≤ i := by
   apply Classical.byContradiction; intro hc
   have : Nat.blt i n = true := Nat.ble_eq_true_of_le (show i + 1 ≤ n by omega)
   rw [hb] at this; cases this
  rw [cond_false, ybt, ybt]
  have h := yh3 k (z + w * 2 ^ (k * n)) n (i - n)
  rw [Nat.add_mul_div_right _ _ (Nat.two_pow_pos _), Nat.div_eq_of_lt hz, Nat.zero_add, show n + (i - n) = i from by omega] at h
  rw [h]
theorem yrF (x : Nat) (hx : x < 18446744073709551616) : upd (upd (fun _ => 0) 0 (cvI .u32 (x : Int))) 1 (cvI .u32 (yaQ .u64 (x : Int) 32)) = G 32 x := by
 have e1 : cvI .u32 (x : Int) = ((x % 2 ^ 32 : Nat) : Int) := by rw [yci, show (2 : Nat) ^ 32 = 4294967296 from rfl]; omega
 have e2 : cvI .u32 (yaQ .u64 (x : Int) 32) = ((x / 2 ^ 32 : Nat) : Int) := by
  rw [yd5, yci, show (2 : Nat) ^ 32 = 4294967296 from rfl]; omega
 rw [e1, e2, ← yel 32, yp2 32 0 _ 0 (by decide) (Nat.mod_lt _ (Nat.two_pow_pos _)), yp2 32 _ _ 1 (by rw [Nat.zero_add, Nat.mul_zero, Nat.pow_zero, Nat.mul_one, Nat.mul_one]; exact Nat.mod_lt _ (Nat.two_pow_pos _)) (by rw [show (2 : Nat) ^ 32 = 4294967296 from rfl]; omega)]
 refine congrArg (G 32) ?_
 rw [show (2 : Nat) ^ (32 * 0) = 1 from rfl, show (2 : Nat) ^ (32 * 1) = 4294967296 from rfl]; omega
theorem yrR {n : Nat} (h : n = 12) : 2 ^ (32 * n) = Q6 := yeh (by omega)
theorem ysS (x m n : Nat) (h : n = 2 * m) : x % 2 ^ (32 * n) + wd x m * 2 ^ (32 * n) = x % 2 ^ (32 * (n + 2)) := by
 have := ybY 64 x m
 rw [show 64 * (m + 1) = 32 * (n + 2) from by omega, show 64 * m = 32 * n from by omega] at this
 exact this.symm
theorem yeG (x m n n2 : Nat) (h : n = 2 * m) (h2 : n2 = n + 2) (g : Nat → Int) (hg : g = G 32 (x % 2 ^ (32 * n))) : app n g (upd (upd (fun _ => 0) 0 (cvI .u32 (W x m))) 1 (cvI .u32 (yaQ .u64 (W x m) 32))) = G 32 (x % 2 ^ (32 * n2)) := by
 rw [hg, ya5, yrF _ (ycN x m), ysL 32 n _ _ (Nat.mod_lt _ (Nat.two_pow_pos _)), ysS x m n h, h2]
theorem yn1 (x n : Nat) (h : n = 2) : upd (upd (fun _ => 0) 0 (cvI IntKind.u32 (W x 0))) 1 (cvI IntKind.u32 (yaQ IntKind.u64 (W x 0) 32)) = G 32 (x % 2 ^ (32 * n)) := by
 subst h
 rw [ya5, yrF _ (ycN x 0)]
 refine congrArg (G 32) ?_
 unfold wd
 rw [show (2 : Nat) ^ (64 * 0) = 1 from rfl, Nat.div_one]
theorem yhR (x n2 n4 n6 n8 n10 n12 : Nat) (h2 : n2 = 2) (h4 : n4 = n2 + 2) (h6 : n6 = n4 + 2) (h8 : n8 = n6 + 2) (h10 : n10 = n8 + 2) (h12 : n12 = n10 + 2) (hx : x < Q6) :
  app n10 (app n8 (app n6 (app n4 (app n2 (upd (upd (fun _ => 0) 0 (cvI IntKind.u32 (W x 0))) 1 (cvI IntKind.u32 (yaQ IntKind.u64 (W x 0) 32))) (upd (upd (fun x => 0) 0 (cvI IntKind.u32 (W x 1))) 1 (cvI IntKind.u32 (yaQ IntKind.u64 (W x 1) 32)))) (upd (upd (fun x => 0) 0 (cvI IntKind.u32 (W x 2))) 1 (cvI IntKind.u32 (yaQ IntKind.u64 (W x 2) 32)))) (upd (upd (fun x => 0) 0 (cvI IntKind.u32 (W x 3))) 1 (cvI IntKind.u32 (yaQ IntKind.u64 (W x 3) 32)))) (upd (upd (fun x => 0) 0 (cvI IntKind.u32 (W x 4))) 1 (cvI IntKind.u32 (yaQ IntKind.u64 (W x 4) 32)))) (upd (upd (fun x => 0) 0 (cvI IntKind.u32 (W x 5))) 1 (cvI IntKind.u32 (yaQ IntKind.u64 (W x 5) 32))) = G 32 x := by
 have e0 := yn1 x n2 h2
 have e1 := yeG x 1 n2 n4 (by omega) h4 _ e0
 have e2 := yeG x 2 n4 n6 (by omega) h6 _ e1
 have e3 := yeG x 3 n6 n8 (by omega) h8 _ e2
 have e4 := yeG x 4 n8 n10 (by omega) h10 _ e3
 have e5 := yeG x 5 n10 n12 (by omega) h12 _ e4
 rw [e5, yrR (by omega), Nat.mod_eq_of_lt hx]
theorem yjb (x : Nat) (hx : x < Q6) (K : List UInt8 → Prop) (h : K (nb x)) : zbp (W x) K := by
 rw [zbp.is]; unfold zbp.d
 rw [yhR x 2 4 6 8 10 12 rfl rfl rfl rfl rfl rfl hx]
 refine yby 12 x (by omega) ?_ _ h
 rw [yrR (n := 12) rfl]; exact hx
theorem yhj (a : List UInt8) (x : Nat) (n : Nat) (hn : n ≤ 12) (k0 : List UInt8 → (Nat → Int) → Prop) (h : k0 a (G 64 (x % 2 ^ (32 * n)))) :
  ∀ (j i : Nat), i + j = n → zbr.l4 k0 (j + 1) a n (G 32 x) n i (G 64 (x % 2 ^ (32 * i))) := by
 intro j
 induction j with
 | zero =>
  intro i hi
  unfold zbr.l4 zbr.l4.step
  rw [yau (yb0 (by omega)), show i = n from by omega]
  exact h
 | succ j ih =>
  intro i hi
  have ih := ih (i + 1) (by omega)
  have e : ((i + 1 : Nat) : Int) = (i : Int) + 1 := by omega
  rw [e] at ih
  unfold zbr.l4 zbr.l4.step
  simp (disch := omega) only [ydw, yka, yaw, ycM, yaY, ybn, ya7, yb0, ybj, ybQ, Bool.and_self, Bool.not_false]
  have e1 : Int.toNat ((i : Int) / 2) = i / 2 := by omega
  have e2 : Int.toNat (i : Int) = i := by omega
  have e3 : 32 * ((i : Int) % 2) = ((32 * (i % 2) : Nat) : Int) := by omega
  have hd := ybN 32 x i
  have e8 : (2 : Nat) ^ 32 = 4294967296 := rfl
  have hlow := ymi 64 (x % 2 ^ (32 * i)) (i / 2) (32 * (i % 2)) (by rw [show 64 * (i / 2) + 32 * (i % 2) = 32 * i from by omega]; exact Nat.mod_lt _ (Nat.two_pow_pos _))
  rw [e1, e2, e3, ybt, ybt, yaY (by omega) (by omega), yqM _ _ _ 32 hlow (by omega) hd]
  rw [ykE (k := 64) (N' := x % 2 ^ (32 * (i + 1)))]
  ·exact ih
  ·rw [ybY, Nat.add_mul, Nat.mul_assoc, ← Nat.pow_add, show 32 * (i % 2) + 64 * (i / 2) = 32 * i from by omega]; omega
  ·exact yru hlow (by omega) hd
theorem yi7 (a : List UInt8) (K : (Nat → Int) → Bool → Prop) (h : if May a ∧ a.length ≤ 48 then K (W (val a)) true else K (W 0) false) : zbr a K := by
 rw [zbr.is]; unfold zbr.d
 rw [yaW]
 by_cases hm : May a
 ·rw [if_pos hm, yau (by rfl)]
  by_cases hl : a.length ≤ 48
  ·rw [if_pos ⟨hm, hl⟩] at h
   rw [yau (yb0 (by omega))]
   refine yf1 a (by omega) _ ?_
   refine ⟨(a.length + 3) / 4 + 1, ?_⟩
   have hlt : val a < 2 ^ (32 * ((a.length + 3) / 4)) := Nat.lt_of_lt_of_le (yk4 a) (Nat.pow_le_pow_right (by omega) (by omega))
   have hQ : val a < Q6 := Nat.lt_of_lt_of_le (yk4 a) (ynX (by omega))
   have := yhj a (val a) ((a.length + 3) / 4) (by omega) (fun y0 y1 => zdd y1 fun y0_1 => zbn y0 fun y0 => K y1 (eqI y0_1 y0)) ?_ ((a.length + 3) / 4) 0 (by omega)
   ·rw [show (2 : Nat) ^ (32 * 0) = 1 from rfl, Nat.mod_one, yel] at this
    exact this
   ·rw [Nat.mod_eq_of_lt hlt, ← W_G]
    refine ybq (val a) hQ _ ?_
    refine yfp a _ ?_
    rw [if_pos hm, yoi rfl]; exact h
  ·rw [if_neg (by omega)] at h
   rw [yaD (ybn (by omega))]
   rw [W_zero] at h; exact h
 ·rw [if_neg (by simp [hm])] at h
  rw [if_neg hm, yaD (by rfl)]
  rw [W_zero] at h; exact h
theorem yjn : ∀ (n : Nat) (g : Nat → Int), eqN n g g = true
 | 0, _ => rfl
 | n + 1, g => by unfold eqN; simp [yjn n g, yiy]
end Go.Ev.S

/- Exact numbers: which may be; made, told. -/
set_option linter.unusedVariables false
set_option linter.unusedSimpArgs false
set_option maxRecDepth 8000
namespace Go.Ev.S
open Go Go.Ev
def fit (x : Nat) : Prop := (nb x).length ≤ 16384
instance (x : Nat) : Decidable (fit x) := by unfold fit; infer_instance
theorem yju (K : List UInt8 → Int → Prop) (x : Nat) : ytH K x = if fit x then K (nb x) 0 else K [] 4 := by
 unfold ytH
 by_cases h : 16384 < (nb x).length
 ·rw [if_pos h, if_neg (show ¬ fit x from Nat.not_le.2 h)]
 ·rw [if_neg h, if_pos (show fit x from Nat.not_lt.1 h)]
theorem yjk {K : List UInt8 → Int → Prop} {x : Nat} (h1 : fit x → K (nb x) 0) (h2 : ¬ fit x → K [] 4) : ytH K x := by
 rw [yju]; split
 ·exact h1 ‹_›
 ·exact h2 ‹_›
theorem yce {x : Nat} (h : fit x) : May (nb x) := ⟨h, ysg x⟩
theorem yrN {a : List UInt8} (h : May a) : nb (val a) = a := ymA h.2
theorem yov {a : List UInt8} (h : May a) : fit (val a) := by unfold fit; rw [yrN h]; exact h.1
theorem ymx {x y : Nat} (h : fit y) (hl : x ≤ y) : fit x := (ycD x 16384).2 (Nat.lt_of_le_of_lt hl ((ycD y 16384).1 h))
theorem yl0 {a : List UInt8} (h : May a) : val a ≠ 0 ↔ a ≠ [] := by
 constructor
 ·rintro h1 rfl; exact h1 yjr
 ·intro h1 h2
  have := yrN h
  rw [h2, ybe] at this
  exact h1 this.symm
theorem ymF (x : Nat) : fit x ↔ yaC x ≤ 131072 := yiC x
theorem ymo {x n : Nat} (h : x ≠ 0) : fit (x * 2 ^ n) ↔ yaC x + n ≤ 131072 := by
 rw [ymF, ygs x n h]
theorem yoa {a : List UInt8} (n : Int) (h0 : 0 ≤ n) (hn : n < 9223372036854775808) (ha : May a) {K : List UInt8 → Int → Prop} (h : ytH K (val a * 2 ^ n.toNat)) : zbm a n K := by
 refine ylP a n hn K (fun hh => absurd ha hh) (fun _ hh => by omega) ?_ ?_ ?_
 ·rintro _ _ rfl
  rw [yjr, Nat.zero_mul, yju, ybe, if_pos (by unfold fit; rw [ybe]; decide)] at h
  exact h
 ·intro _ _ h1 h2
  rw [yju, if_neg (by rw [ymo ((yl0 ha).2 h1)]; omega)] at h
  exact h
 ·intro _ _ h1 h2
  rw [yju, if_pos (by rw [ymo ((yl0 ha).2 h1)]; omega)] at h
  exact h
theorem yhk {a : List UInt8} (n : Nat) (hn : (n : Int) < 9223372036854775808) (ha : May a) (hne : a ≠ []) {K : List UInt8 → Bool → Int → Prop} (h : K (nb (val a / 2 ^ n)) (decide (ybG (val a) < n)) 0) : zbq a n K := by
 refine yjT a n hn K (fun hh => absurd ha hh) (fun _ hh => by omega) (fun _ _ hh => absurd hh hne) ?_
 intro _ _ _
 rw [show decide ((ybG (val a) : Int) < (n : Int)) = decide (ybG (val a) < n) from by rw [decide_eq_decide]; omega]
 exact h
theorem ymT {a : List UInt8} (ha : May a) (h : val a ≠ 0) : ybG (val a) < 131072 := by
 have h1 := ylo _ _ h (yk4 a)
 have := ha.1; omega
theorem yrq (a : List UInt8) (h : a ≠ []) : eqI (yhq .u8 (yaI a (a.length - 1)) 1) 1 = decide (val a % 2 = 1) := by
 have hl : 0 < a.length := List.length_pos_iff.2 h
 have := ygJ a 0 hl
 rw [Nat.sub_zero] at this
 rw [this]
 unfold dg
 rw [Nat.mul_zero, Nat.pow_zero, Nat.div_one]
 have hb : val a % 2 ^ 8 < 256 := Nat.mod_lt _ (by decide)
 have e : val a % 2 = (val a % 2 ^ 8) % 2 := by rw [show (2 : Nat) ^ 8 = 256 from rfl]; omega
 rw [e]
 generalize val a % 2 ^ 8 = v at hb
 revert v
 decide
theorem yfU (a : List UInt8) (K : Bool → Prop) (hl : a.length < 9223372036854775808) (h : K (decide (val a % 2 = 1))) : zah a K := by
 rw [zah.is]; unfold zah.d
 rw [ycY]
 by_cases h0 : a = []
 ·subst h0
  rw [yau (by rfl)]; exact h
 ·have hp : 0 < a.length := List.length_pos_iff.2 h0
  rw [yaD (by simp [h0]), yar (by omega) (by omega), ya7 (by omega), ybn (by omega), ya2 (by rfl), show Int.toNat ((a.length : Int) - 1) = a.length - 1 from by omega, yrq a h0]
  exact h
def win (e : Int) : Prop := -1048576 ≤ e ∧ e ≤ 1048576
instance (e : Int) : Decidable (win e) := by unfold win; infer_instance
theorem ycG (e : Int) (K : Bool → Prop) (h : K (decide (win e))) : zaj e K := by
 rw [zaj.is]; unfold zaj.d
 by_cases h1 : -1048576 ≤ e
 ·rw [yaD (ya7 h1)]
  refine cast (congrArg K ?_) h
  unfold leI
  rw [decide_eq_decide]; unfold win; omega
 ·rw [yau (yeC (by omega))]
  refine cast (congrArg K ?_) h
  rw [decide_eq_false_iff_not]; unfold win; omega
structure ytN (n : Bool) (a b : List UInt8) (e : Int) : Prop where
 ma : May a
 mb : May b
 ob : val b % 2 = 1
 we : win e
 z : a = [] → n = false ∧ b = [1] ∧ e = 0
 r : a ≠ [] → val a % 2 = 1 ∧ Nat.gcd (val a) (val b) = 1
theorem yfQ : nb 1 = [1] := by rw [ye8 (by decide), ybe]; decide
theorem ylU (g : Nat) : eqS (nb g) [1] = decide (g = 1) := by
 rw [ydn, decide_eq_decide, ← yfQ]
 exact ⟨fun h => ytb h, fun h => by rw [h]⟩
noncomputable instance (n : Bool) (a b : List UInt8) (e : Int) : Decidable (ytN n a b e) := Classical.propDecidable _
theorem ye7 (K : Bool → List UInt8 → List UInt8 → Int → Prop) : zag K = K false [] [1] 0 := by rw [zag.is]; rfl
theorem ysH (n : Bool) (b : List UInt8) (e : Int) : (yf9 n false && (eqS [] [] && (eqS b [1] && eqI e 0))) = decide (n = false ∧ b = [1] ∧ e = 0) := by
 rw [ydn, ydn]
 cases n
 ·by_cases h1 : b = [1]
  ·by_cases h2 : e = 0
   ·simp [h1, h2, yf9, eqI]
   ·simp [h1, h2, yf9, eqI]
  ·simp [h1, yf9]
 ·simp [yf9]
theorem ycW (n : Bool) (a b : List UInt8) (e : Int) (K : Int → Prop) (h1 : ytN n a b e → K 0) (h2 : ¬ ytN n a b e → K 2) : zac n a b e K := by
 rw [zac.is]; unfold zac.d
 rw [yaW]
 by_cases ma : May a
 rotate_left
 ·rw [if_neg ma]; exact h2 fun h => ma h.ma
 rw [if_pos ma, yau (by rfl), yaW]
 by_cases mb : May b
 rotate_left
 ·rw [if_neg mb]; exact h2 fun h => mb h.mb
 rw [if_pos mb, yau (by rfl)]
 have la := ma.1
 have lb := mb.1
 refine yfU b _ (by omega) ?_
 by_cases ob : val b % 2 = 1
 rotate_left
 ·rw [show decide (val b % 2 = 1) = false from by simpa using ob]; exact h2 fun h => ob h.ob
 rw [show decide (val b % 2 = 1) = true from by simpa using ob, yau (by rfl)]
 refine ycG e _ ?_
 by_cases we : win e
 rotate_left
 ·rw [show decide (win e) = false from by simpa using we]; exact h2 fun h => we h.we
 rw [show decide (win e) = true from by simpa using we, yau (by rfl), ycY]
 by_cases ha : a = []
 ·subst ha
  rw [yaD (by rfl), ye7, ysH]
  by_cases hz : n = false ∧ b = [1] ∧ e = 0
  ·rw [yau (by simp [hz])]; exact h1 ⟨ma, mb, ob, we, fun _ => hz, fun h => absurd rfl h⟩
  ·rw [yaD (by simp only [hz, decide_false]; rfl)]; exact h2 fun h => hz (h.z rfl)
 ·rw [yau (by simpa using ha)]
  refine yiq a b _ (fun h => absurd ⟨ma, mb⟩ h) fun _ _ => ?_
  refine yfU a _ (by omega) ?_
  by_cases oa : val a % 2 = 1
  rotate_left
  ·rw [show decide (val a % 2 = 1) = false from by simpa using oa]; exact h2 fun h => oa (h.r ha).1
  rw [show decide (val a % 2 = 1) = true from by simpa using oa, yau (by rfl), ylU]
  by_cases hg : Nat.gcd (val a) (val b) = 1
  ·rw [yau (by simp [hg])]; exact h1 ⟨ma, mb, ob, we, fun h => absurd h ha, fun _ => ⟨oa, hg⟩⟩
  ·rw [yaD (by simp [hg])]; exact h2 fun h => hg (h.r ha).2
def odp (a : Nat) : Nat := a / 2 ^ ybG a
def rdA (a b : Nat) : Nat := odp a / Nat.gcd (odp a) (odp b)
def rdB (a b : Nat) : Nat := odp b / Nat.gcd (odp a) (odp b)
def rdE (a b : Nat) (e : Int) : Int := e + ((ybG a : Int) - ybG b)
def mkE (n : Bool) (a b : Nat) (e : Int) (K : Bool → List UInt8 → List UInt8 → Int → Int → Prop) : Prop :=
 if a = 0 then K false [] [1] 0 0 else if win (rdE a b e) then K n (nb (rdA a b)) (nb (rdB a b)) (rdE a b e) 0 else K false [] [] 0 4
theorem ylO {x : Nat} (h : fit x) (d : Nat) : fit (x / d) := ymx h (Nat.div_le_self x d)
theorem yd0 {a : Nat} (h : a ≠ 0) : a = 2 ^ ybG a * odp a ∧ odp a % 2 = 1 := by
 obtain ⟨q, hq⟩ := yeZ a h
 have e : odp a = 2 * q + 1 := by
  unfold odp
  exact Nat.div_eq_of_eq_mul_right (Nat.two_pow_pos _) hq
 rw [e]
 exact ⟨hq, by omega⟩
theorem ymr {a : Nat} (h : a ≠ 0) : odp a ≠ 0 := by have := (yd0 h).2; omega
theorem yi0 (n : Bool) (x y : List UInt8) (e : Int) (K : Bool → List UInt8 → List UInt8 → Int → Int → Prop) (h1 : ¬ (May x ∧ May y ∧ y ≠ [] ∧ win e) → K false [] [] 0 2)
  (h2 : May x → May y → y ≠ [] → win e → mkE n (val x) (val y) e K) : zae n x y e K := by
 rw [zae.is]; unfold zae.d
 rw [yaW]
 by_cases mx : May x
 rotate_left
 ·rw [if_neg mx]; exact h1 fun h => mx h.1
 rw [if_pos mx, yau (by rfl), yaW]
 by_cases my : May y
 rotate_left
 ·rw [if_neg my]; exact h1 fun h => my h.2.1
 rw [if_pos my, yau (by rfl), ycY]
 by_cases hy : y = []
 ·rw [yaD (by simpa using hy)]; exact h1 fun h => h.2.2.1 hy
 rw [yau (by simpa using hy)]
 refine ycG e _ ?_
 by_cases we : win e
 rotate_left
 ·rw [show decide (win e) = false from by simpa using we]; exact h1 fun h => we h.2.2.2
 rw [show decide (win e) = true from by simpa using we, yau (by rfl), ycY]
 have h2 := h2 mx my hy we
 unfold mkE at h2
 by_cases hx : x = []
 ·rw [yaD (by simpa using hx), ye7]
  rw [if_pos (by rw [hx]; rfl)] at h2; exact h2
 rw [yau (by simpa using hx)]
 have nx := (yl0 mx).2 hx
 have ny := (yl0 my).2 hy
 rw [if_neg nx] at h2
 refine yfw x _ ?_
 refine yfw y _ ?_
 rw [if_pos mx, if_pos my]
 have bx := ymT mx nx
 have by' := ymT my ny
 refine yhk _ (by omega) mx hx ?_
 refine yhk _ (by omega) my hy ?_
 have fx : fit (odp (val x)) := ylO (yov mx) _
 have fy : fit (odp (val y)) := ylO (yov my) _
 refine yiq _ _ _ (fun h => absurd ⟨yce fx, yce fy⟩ h) fun _ _ => ?_
 rw [ybB, ybB]
 show br (!eqS (nb (Nat.gcd (odp (val x)) (odp (val y)))) [1]) _ _
 rw [ylU]
 have we' := we
 unfold win at we'
 have ee : yai .i64 e (yae .i64 (ybG (val x) : Int) (ybG (val y) : Int)) = rdE (val x) (val y) e := by
  unfold rdE
  rw [yar (by omega) (by omega), yaw (by omega) (by omega)]
 rw [ee]
 have gne : Nat.gcd (odp (val x)) (odp (val y)) ≠ 0 := by
  intro h0; exact ymr nx (Nat.gcd_eq_zero_iff.1 h0).1
 have fin : ∀ p q, p = nb (rdA (val x) (val y)) → q = nb (rdB (val x) (val y)) → zaj (rdE (val x) (val y) e) fun y0_7 => br (!y0_7) (K false [] [] 0 4) (K n p q (rdE (val x) (val y) e) 0) := by
  rintro p q rfl rfl
  refine ycG _ _ ?_
  by_cases w : win (rdE (val x) (val y) e)
  ·rw [if_pos w] at h2
   rw [show decide (win (rdE (val x) (val y) e)) = true from by simpa using w]; exact h2
  ·rw [if_neg w] at h2
   rw [show decide (win (rdE (val x) (val y) e)) = false from by simpa using w]; exact h2
 by_cases hg : Nat.gcd (odp (val x)) (odp (val y)) = 1
 ·rw [yau (by simp [hg])]
  refine fin _ _ ?_ ?_
  ·unfold rdA; rw [hg, Nat.div_one]; rfl
  ·unfold rdB; rw [hg, Nat.div_one]; rfl
 ·rw [yaD (by simp [hg])]
  have fg : fit (Nat.gcd (odp (val x)) (odp (val y))) := ymx fx (Nat.gcd_le_left _ (Nat.pos_of_ne_zero (ymr nx)))
  refine yft _ _ _ (fun h => absurd ⟨yce fx, yce fg⟩ h) (fun h => absurd h (ysv gne)) fun _ _ _ => ?_
  refine yft _ _ _ (fun h => absurd ⟨yce fy, yce fg⟩ h) (fun h => absurd h (ysv gne)) fun _ _ _ => ?_
  refine fin _ _ ?_ ?_
  ·rw [ybB, ybB]; rfl
  ·rw [ybB, ybB]; rfl
end Go.Ev.S

/- Exact numbers added, multiplied, compared, measured: the document's. -/
set_option linter.unusedVariables false
set_option linter.unusedSimpArgs false
set_option maxRecDepth 8000
namespace Go.Ev.S
open Go Go.Ev
structure Can (n : Bool) (a b : Nat) (e : Int) : Prop where
 fa : fit a
 fb : fit b
 ob : b % 2 = 1
 we : win e
 z : a = 0 → n = false ∧ b = 1 ∧ e = 0
 r : a ≠ 0 → a % 2 = 1 ∧ Nat.gcd a b = 1
theorem nb_nil {a : Nat} : nb a = [] ↔ a = 0 := by
 constructor
 ·intro h; rw [← ybB a, h, yjr]
 ·rintro rfl; exact ybe
theorem Can.may {n : Bool} {a b : Nat} {e : Int} (h : Can n a b e) : ytN n (nb a) (nb b) e := by
 refine ⟨yce h.fa, yce h.fb, by rw [ybB]; exact h.ob, h.we, ?_, ?_⟩
 ·intro h0
  obtain ⟨h1, h2, h3⟩ := h.z (nb_nil.1 h0)
  exact ⟨h1, by rw [h2]; exact yfQ, h3⟩
 ·intro h0
  rw [ybB, ybB]; exact h.r fun h1 => h0 (nb_nil.2 h1)
theorem Can.b0 {n : Bool} {a b : Nat} {e : Int} (h : Can n a b e) : b ≠ 0 := by have := h.ob; omega
theorem Can.e64 {n : Bool} {a b : Nat} {e : Int} (h : Can n a b e) : -1048576 ≤ e ∧ e ≤ 1048576 := h.we
theorem yke (a : Nat) : eqS (nb a) [] = decide (a = 0) := by rw [ycY, decide_eq_decide]; exact nb_nil
theorem yee {a : Nat} (n : Int) (h0 : 0 ≤ n) (hn : n < 9223372036854775808) (ha : fit a) {K : List UInt8 → Int → Prop} (h : ytH K (a * 2 ^ n.toNat)) : zbm (nb a) n K := by
 refine yoa n h0 hn (yce ha) ?_; rw [ybB]; exact h
theorem ykP {a b : Nat} (ha : fit a) (hb : fit b) {K : Int → Int → Prop} (h : K (sgn a b) 0) : zbj (nb a) (nb b) K := by
 refine ync _ _ K (fun hn => absurd ⟨yce ha, yce hb⟩ hn) fun _ _ => ?_
 rw [ybB, ybB]; exact h
theorem ykR {a b : Nat} (ha : fit a) (hb : fit b) (h0 : b ≠ 0) {K : List UInt8 → List UInt8 → Int → Prop} (h : K (nb (a / b)) (nb (a % b)) 0) : zbk (nb a) (nb b) K := by
 refine yft _ _ K (fun hn => absurd ⟨yce ha, yce hb⟩ hn) (fun hh => absurd (nb_nil.1 hh) h0) fun _ _ _ => ?_; rw [ybB, ybB]; exact h
theorem ykK {a : Nat} (ha : fit a) {K : Int → Prop} (h : K (yaC a)) : zbn (nb a) K := by
 refine yfp _ K ?_; rw [if_pos (yce ha), ybB]; exact h
theorem yks (n : Bool) {a b : Nat} {e : Int} (ha : fit a) (hb : fit b) (h0 : b ≠ 0) (we : win e) {K : Bool → List UInt8 → List UInt8 → Int → Int → Prop} (h : mkE n a b e K) : zae n (nb a) (nb b) e K := by
 refine yi0 n _ _ e K (fun hn => absurd ⟨yce ha, yce hb, ysv h0, we⟩ hn) fun _ _ _ _ => ?_; rw [ybB, ybB]; exact h
def lv (a bd : Nat) (ae n : Int) : Nat := a * bd * 2 ^ (ae - n).toNat
section
variable {n1 n2 : Bool} {a1 b1 a2 b2 : Nat} {e1 e2 : Int}
theorem yl1 {c : Prop} [Decidable c] {p q : Prop} (h1 : c → p) (h2 : ¬ c → q) : br (decide c) p q := by
 by_cases h : c
 ·rw [yaD (by simpa using h)]; exact h1 h
 ·rw [yau (by simpa using h)]; exact h2 h
theorem yi3 {c : Prop} [Decidable c] {p q : Prop} (h1 : ¬ c → p) (h2 : c → q) : br (!decide c) p q := by
 by_cases h : c
 ·rw [yau (by simpa using h)]; exact h2 h
 ·rw [yaD (by simpa using h)]; exact h1 h
end
end Go.Ev.S

/- Exact numbers scaled, measured, cut: the document's. -/
set_option linter.unusedVariables false
set_option linter.unusedSimpArgs false
set_option maxRecDepth 8000
namespace Go.Ev.S
open Go Go.Ev
def tp (a b : Nat) : Int :=
 if yaC b ≤ yaC a then (if b * 2 ^ (yaC a - yaC b) ≤ a then ((yaC a - yaC b : Nat) : Int) else ((yaC a - yaC b : Nat) : Int) - 1)
 else (if b ≤ a * 2 ^ (yaC b - yaC a) then -((yaC b - yaC a : Nat) : Int) else -((yaC b - yaC a : Nat) : Int) - 1)
theorem yeH {a : Nat} (h : fit a) : yaC a ≤ 131072 := (ymF a).1 h
theorem yrz {a b : Nat} (ha : fit a) (hb : b ≠ 0) (hl : yaC b ≤ yaC a) : fit (b * 2 ^ (yaC a - yaC b)) := by
 rw [ymF, ygs _ _ hb]; have := yeH ha; omega
theorem ypA (a b : Nat) : ltI (sgn a b) 0 = !decide (b ≤ a) := by
 unfold sgn ltI
 by_cases h : b ≤ a
 ·(repeat' split) <;> simp <;> omega
 ·rw [if_pos (by omega)]; simp; omega
theorem yjd (a n : Nat) : yaC a ≤ n ↔ a < 2 ^ n := yaN a n
theorem yiH {a : Nat} (h : a ≠ 0) : 2 ^ (yaC a - 1) ≤ a := by
 have h1 : ¬ yaC a ≤ yaC a - 1 := by
  have : 0 < yaC a := by unfold yaC; rw [if_neg h]; omega
  omega
 rw [yjd] at h1; omega
theorem ysC {a b : Nat} (ha : a ≠ 0) (hb : b ≠ 0) : (0 ≤ tp a b → b * 2 ^ (tp a b).toNat ≤ a ∧ a < b * 2 ^ ((tp a b).toNat + 1)) ∧ (tp a b < 0 → b ≤ a * 2 ^ (-tp a b).toNat ∧ a * 2 ^ ((-tp a b).toNat - 1) < b) := by
 have a1 := yiH ha
 have a2 := (yjd a _).1 (Nat.le_refl _)
 have b1 := yiH hb
 have b2 := (yjd b _).1 (Nat.le_refl _)
 have pa : 0 < yaC a := by unfold yaC; rw [if_neg ha]; omega
 have pb : 0 < yaC b := by unfold yaC; rw [if_neg hb]; omega
 unfold tp
 by_cases hl : yaC b ≤ yaC a
 ·rw [if_pos hl]
  obtain ⟨d, hd⟩ : ∃ d, d = yaC a - yaC b := ⟨_, rfl⟩
  rw [← hd]
  -- a < b 2^(d+1)
  have h1 : a < b * 2 ^ (d + 1) := by
   have : 2 ^ (yaC b - 1) * 2 ^ (d + 1) ≤ b * 2 ^ (d + 1) := Nat.mul_le_mul_right _ b1
   rw [← Nat.pow_add, show yaC b - 1 + (d + 1) = yaC a from by omega] at this
   omega
  by_cases h2 : b * 2 ^ d ≤ a
  ·rw [if_pos h2]
   refine ⟨fun _ => ?_, fun h => by omega⟩
   rw [show ((d : Int)).toNat = d from by omega]
   exact ⟨h2, h1⟩
  ·rw [if_neg h2]
   rcases Nat.eq_zero_or_pos d with h0 | h0
   ·refine ⟨fun h => by omega, fun _ => ?_⟩
    rw [h0] at h2 ⊢
    rw [show (-(((0 : Nat) : Int) - 1)).toNat = 1 from by omega, Nat.sub_self]
    refine ⟨?_, by omega⟩
    have : b < a * 2 := by
     have : 2 ^ (yaC a - 1) * 2 ≤ a * 2 := Nat.mul_le_mul_right _ a1
     rw [← Nat.pow_succ, show (yaC a - 1).succ = yaC b from by omega] at this
     omega
    omega
   ·refine ⟨fun _ => ?_, fun h => by omega⟩
    rw [show ((d : Int) - 1).toNat = d - 1 from by omega, show d - 1 + 1 = d from by omega]
    refine ⟨?_, by omega⟩
    have : b * 2 ^ (d - 1) ≤ 2 ^ yaC b * 2 ^ (d - 1) := Nat.mul_le_mul_right _ (by omega)
    rw [← Nat.pow_add, show yaC b + (d - 1) = yaC a - 1 from by omega] at this
    omega
 ·rw [if_neg hl]
  obtain ⟨d, hd⟩ : ∃ d, d = yaC b - yaC a := ⟨_, rfl⟩
  rw [← hd]
  have h1 : b < a * 2 ^ (d + 1) := by
   have : 2 ^ (yaC a - 1) * 2 ^ (d + 1) ≤ a * 2 ^ (d + 1) := Nat.mul_le_mul_right _ a1
   rw [← Nat.pow_add, show yaC a - 1 + (d + 1) = yaC b from by omega] at this
   omega
  have h3 : a * 2 ^ (d - 1) < b := by
   have : a * 2 ^ (d - 1) < 2 ^ yaC a * 2 ^ (d - 1) := Nat.mul_lt_mul_of_pos_right a2 (Nat.two_pow_pos _)
   rw [← Nat.pow_add, show yaC a + (d - 1) = yaC b - 1 from by omega] at this
   omega
  by_cases h2 : b ≤ a * 2 ^ d
  ·rw [if_pos h2]
   refine ⟨fun h => by omega, fun _ => ?_⟩
   rw [show (- -(d : Int)).toNat = d from by omega]
   exact ⟨h2, h3⟩
  ·rw [if_neg h2]
   refine ⟨fun h => by omega, fun _ => ?_⟩
   rw [show (-(-(d : Int) - 1)).toNat = d + 1 from by omega, show d + 1 - 1 = d from by omega]
   exact ⟨by omega, by omega⟩
theorem yq6 {a b : Nat} (ha : fit a) (hb : fit b) : -131073 ≤ tp a b ∧ tp a b ≤ 131072 := by
 have := yeH ha
 have := yeH hb
 unfold tp; (repeat' split) <;> omega
def yt2 (a b : Nat) (e n : Int) (K : List UInt8 → Bool → Int → Prop) : Prop :=
 if n < -2097152 ∨ 2097152 < n then K [] false 2 else if a = 0 then K [] true 0 else
 if n ≤ e then (if fit (a * 2 ^ (e - n).toNat) then K (nb (a * 2 ^ (e - n).toNat / b)) (decide (a * 2 ^ (e - n).toNat % b = 0)) 0 else K [] false 4)
 else if tp a b + e < n then K [] false 0 else K (nb (a / (b * 2 ^ (n - e).toNat))) (decide (a % (b * 2 ^ (n - e).toNat) = 0)) 0
theorem ysn {a b : Nat} {e n : Int} (ha : a ≠ 0) (hb : b ≠ 0) (fa : fit a) (h1 : ¬ n ≤ e) (h2 : ¬ tp a b + e < n) : fit (b * 2 ^ (n - e).toNat) := by
 have h := (ysC ha hb).1 (by omega)
 refine ymx fa (Nat.le_trans (Nat.mul_le_mul_left _ ?_) h.1)
 exact Nat.pow_le_pow_right (by omega) (by omega)
end Go.Ev.S

/- Exact numbers added, multiplied, compared, measured: the abacus. -/
set_option linter.unusedVariables false
set_option linter.unusedSimpArgs false
set_option maxRecDepth 8000
namespace Go.Ev.S
open Go Go.Ev
section
variable {n1 n2 : Bool} {a1 b1 a2 b2 : Nat} {e1 e2 : Int}
end
theorem yf2 (n : Bool) {a b : Nat} {e : Int} (c : Can n a b e) (h0 : a ≠ 0) (K : Int → Prop) (h2 : K (tp a b + e)) : zai n (nb a) (nb b) e K := by
 have w := c.e64
 have la := yeH c.fa
 have lb := yeH c.fb
 rw [zai.is]; unfold zai.d
 refine ykK c.fa ?_
 refine ykK c.fb ?_
 rw [yar (by omega) (by omega)]
 unfold tp at h2
 by_cases hl : yaC b ≤ yaC a
 ·rw [if_pos hl] at h2
  rw [yaD (ya7 (by omega))]
  have et : ((yaC a : Int) - yaC b).toNat = yaC a - yaC b := by omega
  have hf := yrz c.fa c.b0 hl
  refine yee _ (by omega) (by omega) c.fb (yjk (fun f => ?_) fun f => absurd (by rw [et]; exact hf) f)
  refine ykP c.fa f ?_
  rw [et, ypA]
  refine yi3 (fun h3 => ?_) fun h3 => ?_
  ·rw [if_neg h3] at h2
   rw [yar (by omega) (by omega), yaw (by omega) (by omega), show ((yaC a : Int) - yaC b - 1 + e) = ((yaC a - yaC b : Nat) : Int) - 1 + e from by omega]; exact h2
  ·rw [if_pos h3] at h2
   rw [yaw (by omega) (by omega), show ((yaC a : Int) - yaC b + e) = ((yaC a - yaC b : Nat) : Int) + e from by omega]; exact h2
 ·rw [if_neg hl] at h2
  rw [yau (yeC (by omega))]
  have en : yrT .i64 ((yaC a : Int) - yaC b) = (yaC b : Int) - yaC a := by
   show IntKind.wrap .i64 _ = _
   rw [yf5 (by omega) (by omega)]; omega
  have et : ((yaC b : Int) - yaC a).toNat = yaC b - yaC a := by omega
  have hf := yrz c.fb h0 (show yaC a ≤ yaC b by omega)
  rw [en]
  refine yee _ (by omega) (by omega) c.fa (yjk (fun f => ?_) fun f => absurd (by rw [et]; exact hf) f)
  refine ykP f c.fb ?_
  rw [et, ypA]
  refine yi3 (fun h3 => ?_) fun h3 => ?_
  ·rw [if_neg h3] at h2
   rw [yar (by omega) (by omega), yaw (by omega) (by omega), show ((yaC a : Int) - yaC b - 1 + e) = -((yaC b - yaC a : Nat) : Int) - 1 + e from by omega]; exact h2
  ·rw [if_pos h3] at h2
   rw [yaw (by omega) (by omega), show ((yaC a : Int) - yaC b + e) = -((yaC b - yaC a : Nat) : Int) + e from by omega]; exact h2
theorem ykC (n : Bool) {a b : Nat} {e : Int} (c : Can n a b e) (K : Int → Int → Prop) (h1 : a = 0 → K 0 2) (h2 : a ≠ 0 → K (tp a b + e) 0) : zaf n (nb a) (nb b) e K := by
 rw [zaf.is]; unfold zaf.d
 refine ycW _ _ _ _ _ (fun _ => ?_) fun hh => absurd c.may hh
 rw [yau (by rfl), yke]
 refine yl1 h1 fun h0 => ?_
 exact yf2 n c h0 _ (h2 h0)
theorem yhF (s : Bool) {a b : Nat} {e : Int} (c : Can s a b e) (n : Int) (hn : -9223372036854775808 ≤ n ∧ n < 9223372036854775808) (K : List UInt8 → Bool → Int → Prop) (h : yt2 a b e n K) : zad s (nb a) (nb b) e n K := by
 have w := c.e64
 rw [zad.is]; unfold zad.d
 refine ycW _ _ _ _ _ (fun _ => ?_) fun hh => absurd c.may hh
 rw [yau (by rfl)]
 unfold yt2 at h
 by_cases g1 : n < -2097152
 ·rw [yaD (ybn g1)]; rw [if_pos (.inl g1)] at h; exact h
 rw [yau (yb0 (by omega))]
 by_cases g2 : 2097152 < n
 ·rw [yaD (ybn g2)]; rw [if_pos (.inr g2)] at h; exact h
 rw [yau (yb0 (by omega)), yke]
 rw [if_neg (by omega)] at h
 refine yl1 (fun h0 => ?_) fun h0 => ?_
 ·rw [if_pos h0] at h; exact h
 rw [if_neg h0] at h
 by_cases g3 : n ≤ e
 ·rw [yaD (ya7 g3)]
  rw [if_pos g3] at h
  rw [yar (by omega) (by omega)]
  refine yee _ (by omega) (by omega) c.fa (yjk (fun f1 => ?_) fun f1 => ?_)
  ·rw [if_pos f1] at h
   rw [yau (by rfl)]
   refine ykR f1 c.fb c.b0 ?_
   rw [yke]; exact h
  ·rw [if_neg f1] at h
   rw [yaD (by rfl)]; exact h
 ·rw [yau (yeC (by omega))]
  rw [if_neg g3] at h
  refine yf2 s c h0 _ ?_
  by_cases g4 : tp a b + e < n
  ·rw [yaD (ybn g4)]; rw [if_pos g4] at h; exact h
  rw [yau (yb0 (by omega))]
  rw [if_neg g4] at h
  have hf := ysn h0 c.b0 c.fa g3 g4
  rw [yar (by omega) (by omega)]
  refine yee _ (by omega) (by omega) c.fb (yjk (fun f1 => ?_) fun f1 => absurd hf f1)
  refine ykR c.fa hf (Nat.mul_ne_zero c.b0 (Nat.pos_iff_ne_zero.1 (Nat.two_pow_pos _))) ?_
  rw [yke]; exact h
end Go.Ev.S

/- Exact numbers as rational ones. -/
set_option linter.unusedVariables false
set_option linter.unusedSimpArgs false
set_option maxRecDepth 8000
namespace Go.Ev.S
open Go Go.Ev
def p2 (e : Int) : Rat := (2 : Rat) ^ e
theorem ytJ : (2 : Rat) ≠ 0 := by decide
theorem yrW (e : Int) : 0 < p2 e := Rat.zpow_pos (by decide)
theorem ys2 (e : Int) : p2 e ≠ 0 := by have := yrW e; grind
theorem yrC (a b : Int) : p2 (a + b) = p2 a * p2 b := Rat.zpow_add ytJ a b
theorem yrV (n : Nat) : p2 (n : Int) = ((2 ^ n : Nat) : Rat) := by
 unfold p2; rw [Rat.zpow_natCast, Rat.natCast_pow]; rfl
def sR (n : Bool) : Rat := if n then -1 else 1
def V (n : Bool) (a b : Nat) (e : Int) : Rat := sR n * ((a : Rat) / (b : Rat)) * p2 e
theorem yjo {b : Nat} (h : b ≠ 0) : 0 < (b : Rat) := Rat.natCast_pos.2 (by omega)
theorem ylk {b : Nat} (h : b ≠ 0) : (b : Rat) ≠ 0 := by have := yjo h; grind
theorem yo4 (n : Bool) (b : Nat) (e : Int) : V n 0 b e = 0 := by
 unfold V; rw [show ((0 : Nat) : Rat) = 0 from rfl]; grind
theorem ysK (n : Bool) (a b k : Nat) (e : Int) : V n (a * 2 ^ k) b e = V n a b (e + k) := by
 unfold V
 rw [yrC, yrV, Rat.natCast_mul]; grind
theorem yqG (n : Bool) (a b g : Nat) (e : Int) (hg : g ≠ 0) (hb : b ≠ 0) : V n (g * a) (g * b) e = V n a b e := by
 have h1 := ylk hg
 have h2 := ylk hb
 unfold V
 rw [Rat.natCast_mul, Rat.natCast_mul]
 have : (g : Rat) * a / (g * b) = a / b := by grind
 rw [this]
theorem ytr (n : Bool) : sR (!n) = -sR n := by cases n <;> rfl
theorem ytR (n : Bool) (a b : Nat) (e : Int) : V (!n) a b e = -V n a b e := by unfold V; rw [ytr]; grind
theorem yso {a b : Rat} (ha : 0 < a) (hb : 0 < b) : 0 < a / b := by
 rw [Rat.div_def]; exact Rat.mul_pos ha (Rat.inv_pos.2 hb)
theorem ytT {a b : Nat} (ha : a ≠ 0) (hb : b ≠ 0) (e : Int) : 0 < V false a b e := by
 unfold V; rw [show sR false = 1 from rfl, Rat.one_mul]
 exact Rat.mul_pos (yso (yjo ha) (yjo hb)) (yrW e)
theorem ytA {n : Bool} {a b : Nat} (ha : a ≠ 0) (hb : b ≠ 0) (e : Int) : (n = false ↔ 0 < V n a b e) ∧ (n = true ↔ V n a b e < 0) := by
 have h := ytT ha hb e
 cases n with
 | false => exact ⟨⟨fun _ => h, fun _ => rfl⟩, ⟨fun h => (by cases h), fun h2 => by grind⟩⟩
 | true =>
  have h2 : V true a b e = -V false a b e := ytR false a b e
  rw [h2]
  exact ⟨⟨fun h => (by cases h), fun h => by grind⟩, ⟨fun _ => by grind, fun _ => rfl⟩⟩
theorem yh2 {a b : Nat} (ha : a ≠ 0) : Nat.gcd (odp a) (odp b) ≠ 0 := by
 intro h0; exact ymr ha (Nat.gcd_eq_zero_iff.1 h0).1
theorem yqz {a b : Nat} (ha : a ≠ 0) (hb : b ≠ 0) : a = Nat.gcd (odp a) (odp b) * rdA a b * 2 ^ ybG a ∧ b = Nat.gcd (odp a) (odp b) * rdB a b * 2 ^ ybG b := by
 have h1 := (yd0 ha).1
 have h2 := (yd0 hb).1
 have h3 : Nat.gcd (odp a) (odp b) * rdA a b = odp a := Nat.mul_div_cancel' (Nat.gcd_dvd_left _ _)
 have h4 : Nat.gcd (odp a) (odp b) * rdB a b = odp b := Nat.mul_div_cancel' (Nat.gcd_dvd_right _ _)
 rw [h3, h4]
 exact ⟨by rw [Nat.mul_comm]; exact h1, by rw [Nat.mul_comm]; exact h2⟩
theorem ymk {a b : Nat} (ha : a ≠ 0) (hb : b ≠ 0) : rdA a b % 2 = 1 ∧ rdB a b % 2 = 1 ∧ Nat.gcd (rdA a b) (rdB a b) = 1 := by
 have h1 := (yd0 ha).2
 have h2 := (yd0 hb).2
 have h3 : Nat.gcd (odp a) (odp b) * rdA a b = odp a := Nat.mul_div_cancel' (Nat.gcd_dvd_left _ _)
 have h4 : Nat.gcd (odp a) (odp b) * rdB a b = odp b := Nat.mul_div_cancel' (Nat.gcd_dvd_right _ _)
 refine ⟨?_, ?_, ?_⟩
 ·rcases Nat.mod_two_eq_zero_or_one (rdA a b) with h | h
  ·rw [← h3, Nat.mul_mod, h, Nat.mul_zero, Nat.zero_mod] at h1; cases h1
  ·exact h
 ·rcases Nat.mod_two_eq_zero_or_one (rdB a b) with h | h
  ·rw [← h4, Nat.mul_mod, h, Nat.mul_zero, Nat.zero_mod] at h2; cases h2
  ·exact h
 ·exact Nat.coprime_div_gcd_div_gcd (Nat.pos_of_ne_zero (yh2 ha))
theorem yuk (n : Bool) {a b : Nat} (e : Int) (ha : a ≠ 0) (hb : b ≠ 0) : V n (rdA a b) (rdB a b) (rdE a b e) = V n a b e := by
 obtain ⟨h1, h2⟩ := yqz ha hb
 have hg := yh2 (b := b) ha
 have hB : rdB a b ≠ 0 := by have := (ymk ha hb).2.1; omega
 have h3 : V n a b e * p2 (ybG b) = V n (rdA a b) (rdB a b) (e + ybG a) := by
  rw [← yqG n (rdA a b) (rdB a b) _ _ hg hB, ← ysK, ← h1]
  have h4 : (b : Rat) = ((Nat.gcd (odp a) (odp b) * rdB a b : Nat) : Rat) * p2 (ybG b) := by
   rw [yrV, ← Rat.natCast_mul, ← h2]
  have h5 : ((Nat.gcd (odp a) (odp b) * rdB a b : Nat) : Rat) ≠ 0 := ylk (Nat.mul_ne_zero hg hB)
  have h6 := ys2 (ybG b)
  unfold V
  rw [h4]
  generalize ((Nat.gcd (odp a) (odp b) * rdB a b : Nat) : Rat) = u at h5
  generalize p2 (ybG b) = v at h6
  generalize (a : Rat) = w
  have : w / (u * v) * v = w / u := by grind
  grind
 have h7 : V n (rdA a b) (rdB a b) (e + ybG a) = V n (rdA a b) (rdB a b) (rdE a b e) * p2 (ybG b) := by
  have e1 : e + (ybG a : Int) = rdE a b e + ybG b := by unfold rdE; omega
  rw [e1]
  unfold V
  rw [yrC]; grind
 have h8 := ys2 (ybG b)
 rw [h7] at h3
 grind
end Go.Ev.S
