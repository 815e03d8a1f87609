/- Functions of Go's library by contracts that are proved elsewhere: that they fit the evaluator. -/
import Derived.Test.YtfglhfahphncdaaGreatDoorEvC
import Derived.Below
import Derived.Sort.Grow
import Derived.Deep.Draws
import Derived.Lib.LaidTab
import Derived.Stop.LaidErr
import Derived.Test.YtfglhfahphncdaaGreatDoorDA
import Derived.Shelf.Strconv.Itoa4
import Derived.Shelf.Strconv.AtoiAll
import Derived.Shelf.Strings.Search1
import Derived.KernelRfl
set_option linter.unusedVariables false
set_option linter.unusedSimpArgs false
namespace Go.Ev.S
open Go Go.Ev Go.RowKit Go.Sort
theorem yoA {ρ : Ren} {H : yaf} {w w' : World} (hS : Sim ρ H w) (h : Below w.heap.size w w') : Ext ρ w ρ w' ∧ Sim ρ H w' := by
 have hx : Ext ρ w ρ w' := ⟨h.os, h.tape, h.output, h.size, fun b hb _ => h.block b hb, fun _ _ hh => hh, fun _ _ hh => hh, fun _ _ hh => .inl hh, fun b cs e fz hh =>
  ⟨cs, e, fz, (h.block b (by rw [Array.getElem?_eq_some_iff] at hh; exact hh.1)).trans hh, rfl⟩⟩
 refine ⟨hx, hS.len, fun b hb => Nat.lt_of_lt_of_le (hS.fl b hb) h.size, fun b r hb => Nat.lt_of_lt_of_le (hS.lt b r hb) h.size, hS.sep, hS.nodup, fun b v hb => ?_⟩
 obtain ⟨r, h1, h2, cs, e, fz, x, h3, h4, h5, h6, h7⟩ := hS.live b v hb
 have hbl := h.block r.mb (hS.lt b r h1)
 exact ⟨r, h1, h2, cs, e, fz, x, hbl.trans h3, h4, Rel.ext hx _ _ h5, h6, h7.keep hbl⟩
theorem yre {ρ : Ren} {H : yaf} {w : World} (hS : Sim ρ H w) : ∀ b, b ∈ ρ.mbs → b < w.heap.size := by
 intro b hb
 rcases List.mem_append.1 hb with h | h
 ·exact hS.fl b h
 ·obtain ⟨c, r, hr, rfl⟩ := ybX h
  exact hS.lt c r hr
theorem SoundE.shelf {P : Program} {gl : Nat → Option EV} {f : FuncId} {en : yan} (hk : ∃ fn, P.funcs[f]? = some fn ∧ fn.body.isNone = false ∧ (fn.name == "runtime.NumGoroutine") = false)
  (hd : ∀ args H, Det2 (en.spec args H))
  (hs : ∀ (ρ : Ren) (H : yaf) (w : World) (args : List EV) (xs : List Value) (K : EV → yaf → Prop), en.spec args H K → RelL ρ w args xs → GOk gl ρ w → (∀ b, b ∈ ρ.mbs → b < w.heap.size) →
   Calls P f xs.toArray w fun e w' => (∃ v x, e = .returned x ∧ K v H ∧ Rel ρ w' v x) ∧ Below w.heap.size w w') : SoundE P gl f en := by
 refine ⟨?_, hd, hk⟩
 intro ρ H w args xs K h hr hS hG
 refine (hs ρ H w args xs K h hr hG (yre hS)).mono ?_
 rintro e w' ⟨⟨v, x, he, hK, hv⟩, hb⟩
 obtain ⟨h1, h2⟩ := yoA hS hb
 exact ⟨v, x, H, ρ, he, hK, hv, h2, h1, rfl⟩
theorem yl7 (w : World) (k : Nat) (os : Array Obj) : Below w.heap.size w (grow (w.drewN k) os) := by
 refine ⟨rfl, rfl, rfl, ?_, fun b hb => ?_⟩
 ·show _ ≤ (w.heap ++ os).size; rw [Array.size_append]; omega
 ·show (w.heap ++ os)[b]? = _; rw [Array.getElem?_append_left hb]
theorem ypI {P : Program} {gl : Nat → Option EV} {ρ : Ren} {w : World} {nm : String} {g n : Nat} {k : IntKind} {zs : List Int} {T : Nat → Int} (hG : GOk gl ρ w) (hg : P.globalNamed nm = some g) (hv : gl g = some (.arr k n T)) (hT : T = fun i => zs.getD i 0) (hn : zs.length = n) :
  Go.Lib.TabIs P w nm k zs := by
 obtain ⟨_, h1, h2⟩ := hG g _ hv
 obtain ⟨cs, t, fz, h3, h4⟩ := h2 k n T rfl
 obtain ⟨b, o, y, e, hy, hb, hm, hc⟩ := h1
 cases e
 have hy' : y = .agg (ya6 k n T).toArray := hy
 subst hy'
 unfold Go.Lib.TabIs World.var?
 rw [hg]
 show (match w.heap[g]? with | some (.cells cs _ _) => some cs | _ => none) = _
 rw [h3]
 show some cs = _
 congr 1
 apply Array.ext_getElem?
 intro i
 by_cases hi : i < n
 ·have h5 := hc i (by simpa [Value.cells, yai] using hi)
  rw [Nat.zero_add] at h5
  have h6 : w.cell? ⟨g, i, none⟩ = cs[i]? := by
   simp only [World.cell?, h3]; rfl
  rw [h6] at h5
  rw [h5]
  simp only [Value.cells, List.getElem?_toArray]
  rw [yau _ _ _ _ hi, hT]
  simp [List.getD, List.getElem?_eq_getElem (show i < zs.length by omega)]
 ·rw [Array.getElem?_eq_none (by omega), Array.getElem?_eq_none (by simp; omega)]
noncomputable def ygQ : Nat → Int := Classical.choose (⟨fun i => Go.Lib.pow10Tab.getD i 0, rfl⟩ : ∃ f, f = fun i => Go.Lib.pow10Tab.getD i 0)
theorem tab_pow10_is : ygQ = fun i => Go.Lib.pow10Tab.getD i 0 := Classical.choose_spec (⟨fun i => Go.Lib.pow10Tab.getD i 0, rfl⟩ : ∃ f, f = fun i => Go.Lib.pow10Tab.getD i 0)
noncomputable def yor : yan := ⟨[none], false, fun args H K => match args, H with
 | [.int .i64 a0], [] => zdb a0 (fun y0 => K (EV.str y0) [])
 | _, _ => False⟩
theorem yqA {P : Program} {r : Go.Shelf.Ren} (L : Go.Proofs.LaysM.n171 P r) {gl : Nat → Option EV} {f g : Nat} (hf : r.f 171 = f) (hg : P.globalNamed "internal/strconv.uint64pow10" = some g) (hv : gl g = some (.arr .u64 20 ygQ))
  (hk : ∃ fn, P.funcs[f]? = some fn ∧ fn.body.isNone = false ∧ (fn.name == "runtime.NumGoroutine") = false) : SoundE P gl f yor := by
 subst hf
 refine SoundE.shelf hk (fun args H K h => ?_) ?_
 ·simp only [yor] at h ⊢
  split at h
  ·rw [zdb.is] at h ⊢
   obtain ⟨h1, h2⟩ := h
   exact ⟨_, _, h2, fun K' hk => ⟨h1, hk⟩⟩
  ·exact h.elim
 ·intro ρ H w args xs K h hr hG hm
  simp only [yor] at h
  split at h
  ·rename_i a0
   rw [zdb.is] at h
   obtain ⟨⟨h1, h2⟩, h3⟩ := h
   obtain ⟨x, ys, rfl, hx, hys⟩ := hr
   obtain rfl : ys = [] := hys
   obtain rfl : x = .int .i64 a0 := hx
   refine (Go.Proofs.Any.strconv_Itoa L a0 h1 h2 w (ypI hG hg hv tab_pow10_is (by rw [Go.Lib.pow10Tab_length]))).mono ?_
   rintro e w' ⟨rfl, k, os, rfl⟩
   exact ⟨⟨_, _, rfl, h3, rfl⟩, yl7 _ _ _⟩
  ·exact h.elim
noncomputable def ylj (T : Nat) : yan := ⟨[none], false, fun args H K => match args, H with
 | [.str a0], [] => zda a0 (fun y0 => K (EV.tuple [EV.int IntKind.i64 y0, EV.nilIface]) []) (fun y0 => K (EV.tuple [EV.int IntKind.i64 y0, EV.iface T (EV.rref (EV.str [65, 116, 111, 105]))]) [])
 | _, _ => False⟩
theorem ykX (w : World) (t : Nat) (s : ByteArray) : Below w.heap.size w (Go.Lib.bytesWorld w t s) := by
 unfold Go.Lib.bytesWorld
 refine ⟨rfl, rfl, rfl, ?_, fun b hb => ?_⟩
 ·show w.heap.size ≤ (Array.modify (w.heap.push _) _ _).size
  rw [Array.size_modify, Array.size_push]; omega
 ·show (Array.modify (w.heap.push _) w.heap.size _)[b]? = w.heap[b]?
  rw [Array.getElem?_modify, if_neg (by omega), Array.getElem?_push, if_neg (by omega)]
theorem yqC {P : Program} {r : Go.Shelf.Ren} (L : Go.Proofs.LaysC.n172 P r) {gl : Nat → Option EV} {f T : Nat} (hf : r.f 172 = f) (hT : r.t 168 = T) {t1 t2 : Nat} {v1 v2 : EV} (hg : gl (r.g 15) = some (.iface t1 v1)) (hh : gl (r.g 16) = some (.iface t2 v2))
  (hk : ∃ fn, P.funcs[f]? = some fn ∧ fn.body.isNone = false ∧ (fn.name == "runtime.NumGoroutine") = false) : SoundE P gl f (ylj T) := by
 subst hf hT
 refine SoundE.shelf hk (fun args H K h => ?_) ?_
 ·simp only [ylj] at h ⊢
  split at h
  ·rw [zda.is] at h ⊢
   unfold zda.d at h ⊢
   obtain ⟨h1, h2⟩ := h
   split at h2
   ·exact ⟨_, _, h2, fun K' hk => ⟨h1, hk⟩⟩
   ·exact ⟨_, _, h2, fun K' hk => ⟨h1, hk⟩⟩
   ·exact ⟨_, _, h2, fun K' hk => ⟨h1, hk⟩⟩
  ·exact h.elim
 ·intro ρ H w args xs K h hr hG hm
  have cellOf : ∀ {g t v}, gl g = some (.iface t v) → ∃ ev, w.cell? ⟨g, 0, none⟩ = some ev ∧ (ev = .nilIface ∨ ∃ te pe, ev = .iface te pe) := by
   intro g t v hv
   obtain ⟨_, ⟨b, o, y, e, hy, _, _, hc⟩, _⟩ := hG g _ hv
   cases e
   obtain ⟨z, rfl, _⟩ := hy
   exact ⟨.iface t z, (hc 0 (by simp [Value.cells])).trans rfl, .inr ⟨t, z, rfl⟩⟩
  have err : ∀ {s : ByteArray} {ev : Value} {N : Nat} {w' : World}, w.heap.size ≤ N → w'.heap[N]? = some (.cells #[.string ⟨#[65, 116, 111, 105]⟩, .string s, ev] (r.t 210) (0, 0)) → Below w.heap.size w w' →
    Rel ρ w' (.iface (r.t 168) (.rref (.str [65, 116, 111, 105]))) (.iface (r.t 168) (.pointer (some ⟨N, 0, none⟩))) := by
   intro s ev N w' h1 h2 h3
   refine ⟨_, rfl, N, 0, .string ⟨#[65, 116, 111, 105]⟩, rfl, rfl, ?_, fun hh => ?_, ?_⟩
   ·rw [Array.getElem?_eq_some_iff] at h2; exact h2.1
   ·have := hm _ hh; omega
   ·intro i hi
    have hi0 : i = 0 := by simpa [Value.cells] using hi
    subst hi0
    simp only [World.cell?, h2]; rfl
  simp only [ylj] at h
  split at h
  ·rename_i a0
   rw [zda.is] at h
   unfold zda.d at h
   obtain ⟨h1, h3⟩ := h
   obtain ⟨x, ys, rfl, hx, hys⟩ := hr
   obtain rfl : ys = [] := hys
   obtain rfl : x = .string ⟨a0.toArray⟩ := hx
   have hsz : (⟨a0.toArray⟩ : ByteArray).size = a0.length := by simp [ByteArray.size]
   have hl : (⟨a0.toArray⟩ : ByteArray).data.toList = a0 := by simp
   cases hA : Go.Lib.atoiAll a0 with
   | ok v =>
    rw [hA] at h3
    refine (Go.Proofs.Any.strconv_Atoi_ok L _ (by rw [hsz]; omega) v (by rw [hl]; exact hA) w).mono ?_
    rintro e w' ⟨rfl, hw⟩
    refine ⟨⟨_, _, rfl, h3, _, rfl, _, _, rfl, rfl, _, _, rfl, rfl, rfl⟩, ?_⟩
    rcases hw with rfl | ⟨t, rfl⟩
    ·exact Below.refl _ _
    ·exact ykX _ _ _
   | range =>
    rw [hA] at h3
    obtain ⟨ev, hv, hev⟩ := cellOf hh
    refine (Go.Proofs.Any.strconv_Atoi_range L _ (by rw [hsz]; exact h1) (by rw [hl]; exact hA) ev w hv hev).mono ?_
    rintro e w' ⟨N, rfl, k1, k2, k3⟩
    rw [hl] at *
    exact ⟨⟨_, _, rfl, h3, _, rfl, _, _, rfl, rfl, _, _, rfl, err k1 k2 k3, rfl⟩, k3⟩
   | _ =>
    rw [hA] at h3
    obtain ⟨ev, hv, hev⟩ := cellOf hg
    refine (Go.Proofs.Any.strconv_Atoi_syntax L _ (by rw [hsz]; exact h1) (by rw [hl]; exact hA) ev w hv hev).mono ?_
    rintro e w' ⟨N, rfl, k1, k2, k3⟩
    exact ⟨⟨_, _, rfl, h3, _, rfl, _, _, rfl, rfl, _, _, rfl, err k1 k2 k3, rfl⟩, k3⟩
  ·exact h.elim
noncomputable def yon : yan := ⟨[none, none], false, fun args H K => match args, H with
 | [.str a0, .int .u8 a1], [] => zaj a0 a1 (fun y0 => K (EV.int IntKind.i64 y0) [])
 | _, _ => False⟩
theorem yje {P : Program} {r : Go.Shelf.Ren} (L : Go.Proofs.Lays.n217 P r) {gl : Nat → Option EV} {f : Nat} (hf : r.f 217 = f)
  (hk : ∃ fn, P.funcs[f]? = some fn ∧ fn.body.isNone = false ∧ (fn.name == "runtime.NumGoroutine") = false) : SoundE P gl f yon := by
 subst hf
 refine SoundE.shelf hk (fun args H K h => ?_) ?_
 ·simp only [yon] at h ⊢
  split at h
  ·rw [zaj.is] at h ⊢
   exact ⟨_, _, h, fun K' hk => hk⟩
  ·exact h.elim
 ·intro ρ H w args xs K h hr hG hm
  simp only [yon] at h
  split at h
  ·rename_i a0 a1
   rw [zaj.is] at h
   obtain ⟨x, ys, rfl, hx, z, zs, rfl, hz, hzs⟩ := hr
   obtain rfl : zs = [] := hzs
   obtain rfl : x = .string ⟨a0.toArray⟩ := hx
   obtain rfl : z = .int .u8 a1 := hz
   refine (Go.Proofs.Any.stringslite_IndexByte L ⟨a0.toArray⟩ a1 w).mono ?_
   rintro e w' ⟨rfl, rfl⟩
   exact ⟨⟨_, _, rfl, h, rfl⟩, Below.refl _ _⟩
  ·exact h.elim
theorem err_ok {P : Program} {n nm : String} {text : List UInt8} {r : List (String × DataW Unit)} {W : World} {g : Nat} {ti tp te ts : TypeId} {ms : Array (String × TypeId)} {f : Field}
  (h : laidMet P ((n, .iface nm (.ptr (.agg [.lit (.string text)]))) :: r) W)
  (hg : P.globalNamed n = some g) (ht : (P.globals[g]?).map (·.type) = some ti) (hi : P.underlying ti = some (.interface ms)) (hrow : ∀ u, P.typeName? 3 u = some nm → u = tp)
  (hp : P.underlying tp = some (.pointer te)) (he : P.underlying te = some (.struct #[f])) (hft : f.type = ts) (hfo : f.offset = 0) (hs : P.underlying ts = some .string) (hc : P.cellsOf te = 1) (hcs : P.cellsOf ts = 1) :
  Rel ⟨[], []⟩ W (.rref (.iface tp (.rref (.str text)))) (.pointer (some ⟨g, 0, none⟩)) ∧ ∀ k' n' f', EV.iface tp (.rref (.str text)) = .arr k' n' f' → ∃ cs t fz, W.heap[g]? = some (.cells cs t fz) ∧ cs.size = n' := by
 obtain ⟨a, s, hv, hcl, hst, _⟩ := laid_sentinel h hg ht hi hrow hp he hft hfo hs hc hcs
 refine ⟨?_, fun _ _ _ hh => by cases hh⟩
 obtain ⟨b, o, sp⟩ := a
 have hb : b < W.heap.size ∧ sp = none := by
  unfold World.cell? at hcl
  cases hw : W.heap[b]? with
  | none => rw [hw] at hcl; cases hcl
  | some c =>
   refine ⟨(Array.getElem?_eq_some_iff.1 hw).1, ?_⟩
   rw [hw] at hcl
   cases sp with
   | none => rfl
   | some q => cases c <;> simp at hcl
 obtain ⟨hb, rfl⟩ := hb
 have hgs : g < W.heap.size := by
  unfold World.var? at hv
  simp only [hg, Option.bind_some] at hv
  cases hw : W.heap[g]? with
  | none => rw [hw] at hv; cases hv
  | some c => exact (Array.getElem?_eq_some_iff.1 hw).1
 have hse : s = ⟨text.toArray⟩ := by
  obtain ⟨d⟩ := s
  have : d.toList = text := hst
  rw [← this]
 subst hse
 refine ⟨g, 0, .iface tp (.pointer (some ⟨b, o, none⟩)), rfl, ⟨_, rfl, b, o, .string ⟨text.toArray⟩, rfl, rfl, hb, by simp [Ren.mbs, Ren.own], ?_⟩, hgs, by simp [Ren.mbs, Ren.own], ?_⟩
 ·intro i hi0
  have h0 : i = 0 := by simpa [Value.cells] using hi0
  subst h0
  exact hcl.trans rfl
 ·intro i hi0
  have h0 : i = 0 := by simpa [Value.cells] using hi0
  subst h0
  rw [World.var?_cell hg hv]; rfl
end Go.Ev.S

/- Numbers of several words as natural ones; bits set one by one. -/
set_option linter.unusedVariables false
set_option linter.unusedSimpArgs false
namespace Go.Ev.S
open Go Go.Ev
theorem yrC {c : Bool} {p : Prop} (h : c = true) (hp : p) : gd c p := by rw [yaK h]; exact hp
theorem ya5 {i n : Int} (h : 0 ≤ i) (h2 : i < n) : (leI 0 i && ltI i n) = true := by rw [yaM h, ybz h2]; rfl
theorem yeo {i : Int} (h : 0 ≤ i) : (!ltI i 0) = true := by rw [ycd h]; rfl
theorem ydM (a b : Nat) (ha : a < 9223372036854775808) (hb : 0 < b) : yaQ .i64 (a : Int) (b : Int) = ((a / b : Nat) : Int) := by
 have h : a / b ≤ a := Nat.div_le_self a b
 show IntKind.wrap .i64 ((a : Int).tdiv b) = _
 rw [Int.tdiv_eq_ediv_of_nonneg (by omega)]
 have : (a : Int) / (b : Int) = ((a / b : Nat) : Int) := by simp
 rw [this]
 generalize a / b = q at h ⊢
 exact yhc (by omega) (by omega)
theorem yer (k : IntKind) (a b : Nat) : ybv k (a : Int) (b : Int) = ((a % b : Nat) : Int) := by
 show (a : Int).tmod b = _
 rw [Int.tmod_eq_emod_of_nonneg (by omega)]
 simp
theorem yiy (a : Nat) (ha : a < 9223372036854775808) : yaQ .i64 (a : Int) 64 = ((a / 64 : Nat) : Int) := ydM a 64 ha (by omega)
theorem yiI (a : Nat) : ybv .i64 (a : Int) 64 = ((a % 64 : Nat) : Int) := yer .i64 a 64
theorem yk0 (i : Nat) (hi : i < 64) : ybR .u64 1 (i : Int) = ((2 ^ i : Nat) : Int) := by
 have := yld 1 i hi
 rw [show (1 : Int) = ((1 : Nat) : Int) from rfl, this, Nat.shiftLeft_eq, Nat.one_mul]
 have h : 2 ^ i < 2 ^ 64 := Nat.pow_lt_pow_right (by omega) hi
 rw [Nat.mod_eq_of_lt h]
theorem yjI {i : Nat} (h : i < 64) : 2 ^ i < 18446744073709551616 := Nat.pow_lt_pow_right (a := 2) (m := i) (n := 64) (by omega) h
theorem yeb (a b : Nat) : eqI (a : Int) (b : Int) = decide (a = b) := by
 by_cases h : a = b
 ·subst h; simp [eqI]
 ·rw [yls (by omega)]; simp [h]
theorem yqR (a b : Nat) : leI (a : Int) (b : Int) = decide (a ≤ b) := by simp [leI]
theorem ygT {a b : Int} (h : 0 ≤ a - b) (h2 : a - b < 18446744073709551616) : yae .u64 a b = a - b := yhM h h2
theorem ykQ {a b : Int} (h : 0 ≤ a + b) (h2 : a + b < 18446744073709551616) : yaj .u64 a b = a + b := yhM h h2
def Q6 : Nat := 2 ^ 192 * 2 ^ 192
theorem ycM {n : Nat} (h : n = 384) : 2 ^ n = Q6 := by
 obtain ⟨a, ha⟩ : ∃ a, a = 192 := ⟨_, rfl⟩
 have : n = a + a := by omega
 rw [this, Nat.pow_add, ha]; exact rfl
theorem ypX : 0 < Q6 := Nat.mul_pos (Nat.two_pow_pos _) (Nat.two_pow_pos _)
theorem ygs {a : Nat} (h : a ≤ 384) : 2 ^ a ≤ Q6 := by
 obtain ⟨n, hn⟩ : ∃ n, n = 384 := ⟨_, rfl⟩
 rw [← ycM hn]; exact Nat.pow_le_pow_right (by omega) (by omega)
theorem yqX {a : Nat} (h : a < 384) : 2 ^ a < Q6 := by
 obtain ⟨n, hn⟩ : ∃ n, n = 384 := ⟨_, rfl⟩
 rw [← ycM hn]; exact Nat.pow_lt_pow_right (by omega) (by omega)
theorem ylw {a : Nat} (h : a ≤ 384) {x : Nat} (hx : x < 2 ^ a) : x < Q6 := Nat.lt_of_lt_of_le hx (ygs h)
def wd (x i : Nat) : Nat := x / 2 ^ (64 * i) % 18446744073709551616
theorem ycb (x i : Nat) : wd x i < 18446744073709551616 := Nat.mod_lt _ (by omega)
theorem ybt (x i j : Nat) : (wd x i).testBit j = (decide (j < 64) && x.testBit (64 * i + j)) := by
 unfold wd
 rw [show (18446744073709551616 : Nat) = 2 ^ 64 from rfl, Nat.testBit_mod_two_pow, Nat.testBit_div_two_pow, Nat.add_comm]
theorem yb9 (x i : Nat) (h : x < 2 ^ (64 * i)) : wd x i = 0 := by
 unfold wd; rw [Nat.div_eq_of_lt h]
def W (x : Nat) : Nat → Int := fun i => ((wd x i : Nat) : Int)
theorem yaX (x i : Nat) : W x i = ((wd x i : Nat) : Int) := rfl
theorem W_zero : W 0 = fun _ => 0 := by
 funext i
 have : wd 0 i = 0 := yb9 0 i (Nat.two_pow_pos _)
 simp [yaX, this]
theorem yps {x y : Nat} {n : Nat} (hx : x < 2 ^ (64 * n)) (hy : y < 2 ^ (64 * n)) (h : ∀ i, i < n → wd x i = wd y i) : x = y := by
 apply Nat.eq_of_testBit_eq
 intro j
 by_cases hj : j < 64 * n
 ·have h1 := congrArg (fun z => Nat.testBit z (j % 64)) (h (j / 64) (by omega))
  simp only [ybt] at h1
  have h2 : j % 64 < 64 := Nat.mod_lt _ (by omega)
  simp only [h2, decide_true, Bool.true_and] at h1
  rwa [show 64 * (j / 64) + j % 64 = j from by omega] at h1
 ·rw [Nat.testBit_lt_two_pow (Nat.lt_of_lt_of_le hx (Nat.pow_le_pow_right (by omega) (by omega))), Nat.testBit_lt_two_pow (Nat.lt_of_lt_of_le hy (Nat.pow_le_pow_right (by omega) (by omega)))]
theorem yq7 (hi lo : Nat) (hh : hi < 18446744073709551616) (hl : lo < 18446744073709551616) : upd (upd (fun _ => 0) 0 (lo : Int)) 1 (hi : Int) = W (hi * 18446744073709551616 + lo) := by
 funext i
 by_cases h1 : i = 1
 ·subst h1
  rw [ycf, yaX]
  congr 1
  unfold wd
  rw [show 2 ^ (64 * 1) = 18446744073709551616 from rfl]; omega
 ·rw [ydw _ _ _ _ h1]
  by_cases h0 : i = 0
  ·subst h0
   rw [ycf, yaX]
   congr 1
   unfold wd
   rw [show 2 ^ (64 * 0) = 1 from rfl]; omega
  ·rw [ydw _ _ _ _ h0, yaX, yb9]
   ·rfl
   ·refine Nat.lt_of_lt_of_le (show _ < 2 ^ 128 from ?_) (Nat.pow_le_pow_right (by omega) (by omega))
    rw [show (2 : Nat) ^ 128 = 340282366920938463463374607431768211456 from rfl]; omega
theorem yqN (lo : Nat) (hl : lo < 18446744073709551616) : upd (fun _ => 0) 0 (lo : Int) = W lo := by
 have h := yq7 0 lo (by omega) hl
 have h2 : upd (upd (fun _ => (0 : Int)) 0 (lo : Int)) 1 ((0 : Nat) : Int) = upd (fun _ => 0) 0 (lo : Int) := by
  funext i
  by_cases h1 : i = 1
  ·subst h1; rw [ycf, ydw _ _ _ _ (by omega)]; rfl
  ·rw [ydw _ _ _ _ h1]
 rw [h2] at h
 rw [h]; congr 1; omega
theorem yj1 (x n i : Nat) : wd (x ||| 2 ^ n) i = if i = n / 64 then wd x i ||| 2 ^ (n % 64) else wd x i := by
 apply Nat.eq_of_testBit_eq
 intro j
 have hm : n % 64 < 64 := Nat.mod_lt _ (by omega)
 rw [ybt, Nat.testBit_or, Nat.testBit_two_pow]
 by_cases hi : i = n / 64
 ·rw [if_pos hi, Nat.testBit_or, ybt, Nat.testBit_two_pow]
  by_cases hj : j < 64
  ·have : decide (n = 64 * i + j) = decide (n % 64 = j) := by rw [decide_eq_decide]; omega
   simp [hj, this]
  ·have : ¬ (n % 64 = j) := by omega
   simp [hj, this]
 ·rw [if_neg hi, ybt]
  by_cases hj : j < 64
  ·have : ¬ (n = 64 * i + j) := by omega
   simp [this]
  ·simp [hj]
theorem yeO (x n : Nat) : upd (W x) (n / 64) (orI .u64 (W x (n / 64)) (ybR .u64 1 ((n % 64 : Nat) : Int))) = W (x ||| 2 ^ n) := by
 have hm : n % 64 < 64 := Nat.mod_lt _ (by omega)
 rw [yk0 _ hm, yaX, yfQ _ _ (ycb _ _) (Nat.pow_lt_pow_right (by omega) hm)]
 funext i
 by_cases hi : i = n / 64
 ·subst hi
  rw [ycf, yaX, yj1, if_pos rfl]
 ·rw [ydw _ _ _ _ hi, yaX, yaX, yj1, if_neg hi]
def Hi (x : Nat) : Int := ((x / 18446744073709551616 : Nat) : Int)
def Lo (x : Nat) : Int := ((x % 18446744073709551616 : Nat) : Int)
def two (hi lo : Nat) : Nat := hi * 18446744073709551616 + lo
theorem yq0 {hi lo : Nat} (h : lo < 18446744073709551616) : Hi (two hi lo) = hi := by unfold Hi two; congr 1; omega
theorem yqU {hi lo : Nat} (h : lo < 18446744073709551616) : Lo (two hi lo) = lo := by unfold Lo two; congr 1; omega
theorem yq5 {hi lo : Nat} (h : hi < 18446744073709551616) (h2 : lo < 18446744073709551616) : two hi lo < 2 ^ 128 := by
 unfold two; rw [show (2 : Nat) ^ 128 = 340282366920938463463374607431768211456 from rfl]; omega
theorem yl4 {x : Nat} (h : x < 2 ^ 128) : x / 18446744073709551616 < 18446744073709551616 := by
 rw [show (2 : Nat) ^ 128 = 340282366920938463463374607431768211456 from rfl] at h; omega
theorem ynK (x : Nat) : x % 18446744073709551616 < 18446744073709551616 := Nat.mod_lt _ (by omega)
theorem ynH (x j : Nat) : (x / 18446744073709551616).testBit j = x.testBit (64 + j) := by
 rw [show (18446744073709551616 : Nat) = 2 ^ 64 from rfl, Nat.testBit_div_two_pow, Nat.add_comm]
theorem yoF (x j : Nat) : (x % 18446744073709551616).testBit j = (decide (j < 64) && x.testBit j) := by
 rw [show (18446744073709551616 : Nat) = 2 ^ 64 from rfl, Nat.testBit_mod_two_pow]
theorem yp3 (x y : Nat) : (eqI (Hi x) (Hi y) && eqI (Lo x) (Lo y)) = decide (x = y) := by
 unfold Hi Lo
 rw [yeb, yeb]
 by_cases h : x = y
 ·subst h; simp
 ·have : ¬ (x / 18446744073709551616 = y / 18446744073709551616 ∧ x % 18446744073709551616 = y % 18446744073709551616) := by omega
  rw [← Bool.decide_and]
  simp [h, this]
theorem ypS (x : Nat) (h : x < 2 ^ 128) : upd (upd (fun _ => 0) 0 (Lo x)) 1 (Hi x) = W x := by
 have := yq7 (x / 18446744073709551616) (x % 18446744073709551616) (yl4 h) (ynK x)
 unfold Lo Hi
 rw [this]; congr 1; omega
theorem yrz (x : Nat) (h : x < 2 ^ 128) : W x 1 = Hi x := by
 rw [yaX]; unfold Hi wd
 congr 1
 rw [show 2 ^ (64 * 1) = 18446744073709551616 from rfl]
 exact Nat.mod_eq_of_lt (yl4 h)
theorem yrA (x : Nat) : W x 0 = Lo x := by
 rw [yaX]; unfold Lo wd
 rw [show 2 ^ (64 * 0) = 1 from rfl, Nat.div_one]
theorem yfH (x i : Nat) (h : x < 2 ^ 128) (hi : 2 ≤ i) : W x i = 0 := by
 rw [yaX, yb9 x i (Nat.lt_of_lt_of_le h (Nat.pow_le_pow_right (by omega) (by omega)))]; rfl
theorem ypW (f : Bool → Bool → Bool) (op : Nat → Nat → Nat) (hop : ∀ a b j, (op a b).testBit j = f (a.testBit j) (b.testBit j)) (hf : f false false = false) (x y : Nat) :
  op x y / 18446744073709551616 = op (x / 18446744073709551616) (y / 18446744073709551616) ∧ op x y % 18446744073709551616 = op (x % 18446744073709551616) (y % 18446744073709551616) := by
 constructor
 ·apply Nat.eq_of_testBit_eq; intro j; rw [ynH, hop, hop, ynH, ynH]
 ·apply Nat.eq_of_testBit_eq; intro j; rw [yoF, hop, hop, yoF, yoF]
  by_cases hj : j < 64
  ·simp [hj]
  ·simp [hj, hf]
theorem yqY (x y : Nat) (hx : x < 2 ^ 128) (hy : y < 2 ^ 128) : orI .u64 (Hi x) (Hi y) = Hi (x ||| y) ∧ orI .u64 (Lo x) (Lo y) = Lo (x ||| y) := by
 obtain ⟨h1, h2⟩ := ypW (· || ·) (· ||| ·) (fun a b j => Nat.testBit_or a b j) rfl x y
 unfold Hi Lo
 exact ⟨by rw [yfQ _ _ (yl4 hx) (yl4 hy)]; exact congrArg _ h1.symm, by rw [yfQ _ _ (ynK x) (ynK y)]; exact congrArg _ h2.symm⟩
theorem yp2 (x y : Nat) (hx : x < 2 ^ 128) (hy : y < 2 ^ 128) : ypL .u64 (Hi x) (Hi y) = Hi (x ^^^ y) ∧ ypL .u64 (Lo x) (Lo y) = Lo (x ^^^ y) := by
 obtain ⟨h1, h2⟩ := ypW (· ^^ ·) (· ^^^ ·) (fun a b j => Nat.testBit_xor a b j) rfl x y
 unfold Hi Lo
 exact ⟨by rw [ynk _ _ (yl4 hx) (yl4 hy)]; exact congrArg _ h1.symm, by rw [ynk _ _ (ynK x) (ynK y)]; exact congrArg _ h2.symm⟩
end Go.Ev.S

/- Digits of natural numbers, as rows have them; texts of bytes as numbers. -/
set_option linter.unusedVariables false
set_option linter.unusedSimpArgs false
namespace Go.Ev.S
open Go Go.Ev
def dg (k x i : Nat) : Nat := x / 2 ^ (k * i) % 2 ^ k
def G (k x : Nat) : Nat → Int := fun i => ((dg k x i : Nat) : Int)
theorem yqG (k i : Nat) : 2 ^ (k * (i + 1)) = 2 ^ (k * i) * 2 ^ k := by rw [show k * (i + 1) = k * i + k from by rw [Nat.mul_add, Nat.mul_one], Nat.pow_add]
theorem yrq (k x i : Nat) : dg k x i < 2 ^ k := Nat.mod_lt _ (Nat.two_pow_pos k)
theorem yqt (k x i : Nat) (h : x < 2 ^ (k * i)) : dg k x i = 0 := by unfold dg; rw [Nat.div_eq_of_lt h, Nat.zero_mod]
theorem yq6 (k x i : Nat) : x % 2 ^ (k * (i + 1)) = x % 2 ^ (k * i) + dg k x i * 2 ^ (k * i) := by
 unfold dg
 rw [yqG, Nat.mod_mul, Nat.mul_comm (2 ^ (k * i))]
theorem yqP (k x i : Nat) : x / 2 ^ (k * i) = dg k x i + x / 2 ^ (k * (i + 1)) * 2 ^ k := by
 unfold dg
 rw [yqG, ← Nat.div_div_eq_div_mul]
 have := Nat.div_add_mod (x / 2 ^ (k * i)) (2 ^ k)
 rw [Nat.mul_comm] at this
 omega
theorem yq1 (k x i j : Nat) : dg k (x / 2 ^ (k * i)) j = dg k x (i + j) := by
 unfold dg
 rw [Nat.div_div_eq_div_mul, ← Nat.pow_add, Nat.mul_add]
def val (a : List UInt8) : Nat := a.foldl (fun v b => v * 256 + b.toNat) 0
def nb (x : Nat) : List UInt8 := if h : x = 0 then [] else nb (x / 256) ++ [UInt8.ofNat (x % 256)]
decreasing_by omega
def yrD (a : List UInt8) : Bool := match a with | [] => true | b :: _ => !(b.toNat == 0)
end Go.Ev.S

/- Rows of digits: a digit set, carried, cut; bytes the highest first. Whole numbers of the machine, plainly. -/
set_option linter.unusedVariables false
set_option linter.unusedSimpArgs false
namespace Go.Ev.S
open Go Go.Ev
end Go.Ev.S

/- Natural numbers as rows of words: made of texts, told as texts, cut, held against each other. -/
set_option linter.unusedVariables false
set_option linter.unusedSimpArgs false
set_option maxRecDepth 8000
namespace Go.Ev.S
open Go Go.Ev
theorem yrH {k : IntKind} (hk : k.signed = false) (a b : Nat) (ha : a < 2 ^ k.bits) (hb : b < 2 ^ k.bits) : orI k a b = ((a ||| b : Nat) : Int) := by
 have h3 : a ||| b < 2 ^ k.bits := Nat.or_lt_two_pow ha hb
 show IntKind.wrap k (((BitVec.ofInt k.bits (a : Int) ||| BitVec.ofInt k.bits (b : Int) : BitVec k.bits).toNat : Nat) : Int) = _
 rw [BitVec.toNat_or, BitVec.ofInt_natCast, BitVec.ofInt_natCast, BitVec.toNat_ofNat, BitVec.toNat_ofNat, Nat.mod_eq_of_lt ha, Nat.mod_eq_of_lt hb]
 simp only [IntKind.wrap, hk]
 have : ((a ||| b : Nat) : Int) % 2 ^ k.bits = ((a ||| b : Nat) : Int) := by
  refine Int.emod_eq_of_lt (by omega) ?_
  have e : ((2 ^ k.bits : Nat) : Int) = (2 : Int) ^ k.bits := by simp
  rw [← e]; omega
 simpa using this
theorem yrk {k : IntKind} (hk : k.signed = false) (a s : Nat) (hs : s ≤ k.bits) : ybR k a s = ((a * 2 ^ s % 2 ^ k.bits : Nat) : Int) := by
 have h1 : min (Int.toNat (s : Int)) k.bits = s := by rw [Int.toNat_natCast]; omega
 simp only [ybR, h1, IntKind.wrap, hk]
 simp
def May (a : List UInt8) : Prop := a.length ≤ 16384 ∧ yrD a = true
instance (a : List UInt8) : Decidable (May a) := inferInstanceAs (Decidable (_ ∧ _))
theorem ykJ (a : List UInt8) : eqS a [] = decide (a = []) := by cases a <;> simp [eqS]
end Go.Ev.S

/- Natural numbers as rows of words: sums, differences, products. -/
set_option linter.unusedVariables false
set_option linter.unusedSimpArgs false
set_option maxRecDepth 8000
namespace Go.Ev.S
open Go Go.Ev
end Go.Ev.S

/- The functions of natural numbers: held against each other, added, subtracted, multiplied; their texts. -/
set_option linter.unusedVariables false
set_option linter.unusedSimpArgs false
set_option maxRecDepth 8000
namespace Go.Ev.S
open Go Go.Ev
theorem ycO (a b : List UInt8) : eqS a b = decide (a = b) := by
 unfold eqS
 by_cases h : a = b <;> simp [h]
def ykp (n : Nat) : UInt8 := UInt8.ofNat (if n < 10 then 48 + n else 87 + n)
def hx (x : Nat) : List UInt8 := if h : x = 0 then [] else hx (x / 16) ++ [ykp (x % 16)]
decreasing_by omega
theorem yb8 : hx 0 = [] := by rw [hx]; simp
theorem yc2 {x : Nat} (h : x ≠ 0) : hx x = hx (x / 16) ++ [ykp (x % 16)] := by rw [hx]; simp [h]
theorem yp5 : ∀ n : Nat, n < 16 → yar [48, 49, 50, 51, 52, 53, 54, 55, 56, 57, 97, 98, 99, 100, 101, 102] n = ((ykp n).toNat : Int) := by decide
theorem yro {k : IntKind} (hk : k.signed = false) (a b : Nat) (ha : a < 2 ^ k.bits) (hb : b < 2 ^ k.bits) : yfL k a b = ((a &&& b : Nat) : Int) := by
 have h3 : a &&& b < 2 ^ k.bits := Nat.lt_of_le_of_lt Nat.and_le_left ha
 show IntKind.wrap k (((BitVec.ofInt k.bits (a : Int) &&& BitVec.ofInt k.bits (b : Int) : BitVec k.bits).toNat : Nat) : Int) = _
 rw [BitVec.toNat_and, BitVec.ofInt_natCast, BitVec.ofInt_natCast, BitVec.toNat_ofNat, BitVec.toNat_ofNat, Nat.mod_eq_of_lt ha, Nat.mod_eq_of_lt hb]
 simp only [IntKind.wrap, hk]
 have : ((a &&& b : Nat) : Int) % 2 ^ k.bits = ((a &&& b : Nat) : Int) := by
  refine Int.emod_eq_of_lt (by omega) ?_
  have e : ((2 ^ k.bits : Nat) : Int) = (2 : Int) ^ k.bits := by simp
  rw [← e]; omega
 simpa using this
end Go.Ev.S

/- What the document's answer reckons with natural numbers, byte by byte. -/
set_option linter.unusedVariables false
set_option linter.unusedSimpArgs false
set_option maxRecDepth 8000
namespace Go.Ev.S
open Go Go.Ev
end Go.Ev.S

/- The texts of natural numbers, read. -/
set_option linter.unusedVariables false
set_option linter.unusedSimpArgs false
set_option maxRecDepth 8000
namespace Go.Ev.S
open Go Go.Ev
def hv (c : Nat) : Nat := if 48 ≤ c ∧ c ≤ 57 then c - 48 else if 97 ≤ c ∧ c ≤ 102 then c - 87 else 16
def hd (c : UInt8) : Nat := hv c.toNat % 16
def hok (c : UInt8) : Bool := decide (hv c.toNat < 16)
def yi3 (s : List UInt8) : Nat := s.foldl (fun v c => v * 16 + hd c) 0
theorem ymr (s : List UInt8) : ∀ v, s.foldl (fun v c => v * 16 + hd c) v = v * 16 ^ s.length + yi3 s := by
 induction s with
 | nil => intro v; simp [yi3]
 | cons c l ih =>
  intro v
  simp only [List.foldl_cons, List.length_cons, yi3]
  rw [ih, ih (0 * 16 + hd c), Nat.pow_succ]
  rw [Nat.add_mul, Nat.add_mul, Nat.mul_assoc, Nat.mul_comm 16]
  omega
theorem ykz (a b : List UInt8) : yi3 (a ++ b) = yi3 a * 16 ^ b.length + yi3 b := by
 show (a ++ b).foldl _ 0 = _
 rw [List.foldl_append, ymr]; rfl
theorem yne (a : List UInt8) (c : UInt8) : yi3 (a ++ [c]) = yi3 a * 16 + hd c := by
 rw [ykz]; simp [yi3]
theorem p16 (n : Nat) : 16 ^ n = 2 ^ (4 * n) := by rw [Nat.pow_mul]
theorem ynb : ∀ n : Nat, n < 16 → hd (ykp n) = n ∧ hok (ykp n) = true ∧ (n ≠ 0 → ykp n ≠ 48) := by decide
theorem yp9 (x : Nat) : yi3 (hx x) = x ∧ (hx x).all hok = true := by
 induction x using Nat.strongRecOn with
 | _ x ih =>
  by_cases h : x = 0
  ·subst h; rw [yb8]; exact ⟨rfl, rfl⟩
  ·obtain ⟨h1, h2⟩ := ih (x / 16) (by omega)
   obtain ⟨g1, g2, _⟩ := ynb (x % 16) (by omega)
   rw [yc2 h, yne, h1, g1, List.all_append, h2]
   exact ⟨by omega, by simp [g2]⟩
theorem ylL (x n : Nat) : (hx x).length ≤ n ↔ x < 16 ^ n := by
 induction n generalizing x with
 | zero =>
  constructor
  ·intro h
   have : hx x = [] := List.length_eq_zero_iff.1 (by omega)
   have h2 := (yp9 x).1
   rw [this] at h2
   simp [yi3] at h2 ⊢; omega
  ·intro h
   have : x = 0 := by simp at h; omega
   subst this; rw [yb8]; simp
 | succ n ih =>
  by_cases h : x = 0
  ·subst h; rw [yb8]; simp [Nat.pow_pos]
  ·rw [yc2 h, List.length_append, List.length_singleton, Nat.pow_succ]
   have := ih (x / 16)
   rw [Nat.div_lt_iff_lt_mul (by omega)] at this
   omega
theorem yp8 (x : Nat) (h : x ≠ 0) : ((hx x)[0]?).getD 0 ≠ 48 := by
 induction x using Nat.strongRecOn with
 | _ x ih =>
  rw [yc2 h]
  by_cases h2 : x / 16 = 0
  ·rw [h2, yb8]
   have := (ynb (x % 16) (by omega)).2.2 (by omega)
   simpa using this
  ·have := ih (x / 16) (by omega) h2
   have hne : (hx (x / 16)) ≠ [] := by rw [yc2 h2]; simp
   rw [List.getElem?_append_left (List.length_pos_iff.2 hne)]
   exact this
end Go.Ev.S

/- What the document's answer reckons with words, bit by bit. -/
set_option linter.unusedVariables false
set_option linter.unusedSimpArgs false
namespace Go.Ev.S
open Go Go.Ev
theorem yd7 (a i : Nat) (ha : a < 18446744073709551616) (hi : i < 64) (K : Bool → Prop) : zaz a i K = K (a.testBit i) := by
 rw [zaz.is]; unfold zaz.d
 rw [yaE (yaM (by omega)), yaE (ybz (by omega)), ybk (by omega) (by omega), yaK (yeo (by omega)), ylo a i ha hi]
theorem ycG (a i : Nat) : a % 2 ^ (i + 1) = a % 2 ^ i + (a.testBit i).toNat * 2 ^ i := by
 have h : (a.testBit i).toNat = a / 2 ^ i % 2 := by
  rw [Nat.testBit_eq_decide_div_mod_eq]
  rcases Nat.mod_two_eq_zero_or_one (a / 2 ^ i) with h | h <;> rw [h] <;> rfl
 rw [h, Nat.mod_pow_succ, Nat.mul_comm]
theorem ygq (s i : Nat) (h : s < 2 ^ i) : s ||| 2 ^ i = s + 2 ^ i := by
 have := Nat.two_pow_add_eq_or_of_lt h 1
 rw [Nat.mul_one] at this
 rw [Nat.or_comm, ← this, Nat.add_comm]
def yhx (a b c i : Nat) : Nat := a % 2 ^ i + b % 2 ^ i + c
theorem yqe (a b c i : Nat) (hc : c ≤ 1) : yhx a b c i < 2 * 2 ^ i := by
 have h1 := Nat.mod_lt a (Nat.two_pow_pos i)
 have h2 := Nat.mod_lt b (Nat.two_pow_pos i)
 unfold yhx; omega
theorem yfO (a b c : Nat) (ha : a < 18446744073709551616) (hb : b < 18446744073709551616) (hc : c ≤ 1) (k0 : Bool → Int → Prop) (h : k0 (decide (18446744073709551616 ≤ a + b + c)) (((a + b + c) % 18446744073709551616 : Nat))) :
  ∀ (j i : Nat), i + j = 64 → zay.l3 k0 (j + 1) a b (decide (2 ^ i ≤ yhx a b c i)) ((yhx a b c i % 2 ^ i : Nat)) i
 | 0, i, hij => by
  have : i = 64 := by omega
  subst this
  unfold zay.l3 zay.l3.step
  rw [yav (by decide)]
  have e : yhx a b c 64 = a + b + c := by
   unfold yhx
   rw [show (2 : Nat) ^ 64 = 18446744073709551616 from rfl]; omega
  rw [e]
  exact h
 | j + 1, i, hij => by
  have ih := yfO a b c ha hb hc k0 h j (i + 1) (by omega)
  have e : ((i + 1 : Nat) : Int) = (i : Int) + 1 := by omega
  rw [e] at ih
  have hT : yhx a b c (i + 1) = yhx a b c i + (a.testBit i).toNat * 2 ^ i + (b.testBit i).toNat * 2 ^ i := by
   unfold yhx; rw [ycG, ycG]; omega
  have hlt := yqe a b c i hc
  have hp := Nat.two_pow_pos i
  have h2 : 2 ^ (i + 1) = 2 * 2 ^ i := by rw [Nat.pow_succ]; omega
  rw [hT, h2] at ih
  have hs : yhx a b c i % 2 ^ i < 2 ^ i := Nat.mod_lt _ hp
  have hsum : yhx a b c i % 2 ^ i = yhx a b c i - (if 2 ^ i ≤ yhx a b c i then 2 ^ i else 0) := by
   split
   ·rw [Nat.mod_eq_sub_mod (by omega), Nat.mod_eq_of_lt (by omega)]
   ·rw [Nat.mod_eq_of_lt (by omega)]; omega
  have hi64 : 2 ^ i < 18446744073709551616 := yjI (by omega)
  have hor : orI .u64 ((yhx a b c i % 2 ^ i : Nat) : Int) (ybR .u64 1 (cvI .u64 (i : Int))) = ((yhx a b c i % 2 ^ i + 2 ^ i : Nat) : Int) := by
   rw [ybk (by omega) (by omega), yk0 i (by omega), yfQ _ _ (Nat.lt_trans hs hi64) hi64, ygq _ _ hs]
  show zay.l3.step (zay.l3 k0 (j + 1)) k0 _ _ _ _ _
  unfold zay.l3.step
  rw [yaE (ybz (by omega)), yd7 a i ha (by omega), yd7 b i hb (by omega), hor, yat (by omega) (by omega), ybk (by omega) (by omega)]
  have fin : ∀ (cy : Bool) (s : Nat), (∀ S, S = yhx a b c i + (a.testBit i).toNat * 2 ^ i + (b.testBit i).toNat * 2 ^ i → decide (2 * 2 ^ i ≤ S) = cy ∧ S % (2 * 2 ^ i) = s) → zay.l3 k0 (j + 1) a b cy (s : Int) ((i : Int) + 1) := by
   intro cy s hh
   obtain ⟨g1, g2⟩ := hh _ rfl
   rw [g1, g2] at ih
   exact ih
  have md : ∀ S s : Nat, S = s ∨ S = s + 2 * 2 ^ i → s < 2 * 2 ^ i → S % (2 * 2 ^ i) = s := by
   intro S s hh hs
   rcases hh with rfl | rfl
   ·exact Nat.mod_eq_of_lt hs
   ·rw [Nat.add_mod_right]; exact Nat.mod_eq_of_lt hs
  generalize yhx a b c i % 2 ^ i = s0 at *
  generalize yhx a b c i = T at *
  generalize 2 ^ i = p at *
  clear hT hor ih
  have hg : ∀ q : Prop, q → gd (!ltI (i : Int) 0) q := fun q hq => yrC (yeo (by omega)) hq
  by_cases hcy : p ≤ T
  ·rw [if_pos hcy] at hsum
   simp only [hcy, decide_true] 
   cases hx : a.testBit i <;> cases hy : b.testBit i <;> simp only [ygS, br, cond_true, cond_false, Bool.not_true, Bool.not_false] <;> (try refine hg _ ?_) <;> (try simp only [ygS, br, cond_true, cond_false, Bool.not_true, Bool.not_false])
   all_goals
    refine fin _ _ fun S hS => ?_
    simp only [hx, hy, Bool.toNat_true, Bool.toNat_false] at hS
    refine ⟨?_, md _ _ (by omega) (by omega)⟩
    simp only [decide_eq_true_eq, decide_eq_false_iff_not]
    omega
  ·rw [if_neg hcy] at hsum
   simp only [hcy, decide_false]
   cases hx : a.testBit i <;> cases hy : b.testBit i <;> simp only [ygS, br, cond_true, cond_false, Bool.not_true, Bool.not_false] <;> (try refine hg _ ?_) <;> (try simp only [ygS, br, cond_true, cond_false, Bool.not_true, Bool.not_false])
   all_goals
    refine fin _ _ fun S hS => ?_
    simp only [hx, hy, Bool.toNat_true, Bool.toNat_false] at hS
    refine ⟨?_, md _ _ (by omega) (by omega)⟩
    simp only [decide_eq_true_eq, decide_eq_false_iff_not]
    omega
theorem yl5 (a b : Nat) (c : Bool) (ha : a < 18446744073709551616) (hb : b < 18446744073709551616) (K : Int → Bool → Prop)
  (h : K (((a + b + c.toNat) % 18446744073709551616 : Nat)) (decide (18446744073709551616 ≤ a + b + c.toNat))) : zay a b c K := by
 rw [zay.is]
 refine ⟨65, ?_⟩
 have := yfO a b c.toNat ha hb (by cases c <;> simp) (fun y0 y1 => K y1 y0) h 64 0 rfl
 have e1 : decide (2 ^ 0 ≤ yhx a b c.toNat 0) = c := by
  unfold yhx
  cases c <;> simp [Nat.mod_one]
 have e2 : yhx a b c.toNat 0 % 2 ^ 0 = 0 := by simp [Nat.mod_one]
 rw [e1, e2] at this
 exact this
def yf2 (a : Nat) : Nat → Nat
 | 0 => 0
 | i + 1 => cond (a.testBit i) (i + 1) (yf2 a i)
theorem yiw (a w : Nat) : ∀ n, yf2 a n ≤ w ↔ ∀ i, i < n → w ≤ i → a.testBit i = false
 | 0 => by simp [yf2]
 | n + 1 => by
  have ih := yiw a w n
  cases hb : a.testBit n with
  | true =>
   simp only [yf2, hb, cond_true]
   constructor
   ·intro h i hi hw; omega
   ·intro h
    apply Classical.byContradiction
    intro hc
    have := h n (by omega) (by omega)
    rw [hb] at this; cases this
  | false =>
   simp only [yf2, hb, cond_false]
   rw [ih]
   constructor
   ·intro h i hi hw
    by_cases hin : i = n
    ·subst hin; exact hb
    ·exact h i (by omega) hw
   ·intro h i hi hw; exact h i (by omega) hw
def ybu (a : Nat) : Nat := if a = 0 then 0 else a.log2 + 1
theorem yaY (a w : Nat) : ybu a ≤ w ↔ a < 2 ^ w := by
 unfold ybu
 by_cases h : a = 0
 ·subst h; simp [Nat.two_pow_pos]
 ·rw [if_neg h]
  rw [← Nat.log2_lt h]; omega
theorem yoh (a : Nat) : a < 2 ^ ybu a := (yaY a _).1 (Nat.le_refl _)
theorem ypy {a : Nat} (h : a ≠ 0) : 0 < ybu a := by unfold ybu; rw [if_neg h]; omega
theorem yqg {a : Nat} (h : a ≠ 0) : 2 ^ (ybu a - 1) ≤ a := by
 unfold ybu; rw [if_neg h]
 exact Nat.log2_self_le h
theorem ymj (a n : Nat) (ha : a < 2 ^ n) : yf2 a n = ybu a := by
 apply Nat.le_antisymm
 ·rw [yiw]
  intro i _ hw
  exact Nat.testBit_lt_two_pow (Nat.lt_of_lt_of_le (yoh a) (Nat.pow_le_pow_right (by omega) hw))
 ·rw [yaY]
  apply Nat.lt_pow_two_of_testBit
  intro i hi
  by_cases hin : i < n
  ·exact (yiw a _ n).1 (Nat.le_refl _) i hin hi
  ·exact Nat.testBit_lt_two_pow (Nat.lt_of_lt_of_le ha (Nat.pow_le_pow_right (by omega) (by omega)))
theorem yfV (a : Nat) (ha : a < 18446744073709551616) (k0 : Int → Prop) (h : k0 (yf2 a 64)) : ∀ (j i : Nat), i + j = 64 → zba.l3 k0 (j + 1) a (yf2 a i) i
 | 0, i, hij => by
  have : i = 64 := by omega
  subst this
  unfold zba.l3 zba.l3.step
  rw [yav (by decide)]
  exact h
 | j + 1, i, hij => by
  show br (ltI i 64) (zaz a i fun r0 => br r0 (zba.l3 k0 (j + 1) a (yaj .i64 i 1) (yaj .i64 i 1)) (zba.l3 k0 (j + 1) a (yf2 a i) (yaj .i64 i 1))) (k0 (yf2 a i))
  rw [yaE (ybz (by omega)), yd7 a i ha (by omega), yat (by omega) (by omega)]
  have ih := yfV a ha k0 h j (i + 1) (by omega)
  have e : ((i + 1 : Nat) : Int) = (i : Int) + 1 := by omega
  rw [e] at ih
  cases hb : a.testBit i with
  | true =>
   rw [yaE rfl]
   simp only [yf2, hb, cond_true] at ih
   rw [e] at ih
   exact ih
  | false =>
   rw [yav rfl]
   simp only [yf2, hb, cond_false] at ih
   exact ih
theorem ymJ (a : Nat) (ha : a < 18446744073709551616) (K : Int → Prop) (h : K (ybu a)) : zba a K := by
 rw [zba.is]
 refine ⟨65, yfV a ha K ?_ 64 0 rfl⟩
 rw [ymj a 64 ha]; exact h
end Go.Ev.S

/- What the document's answer reckons with numbers of six words. -/
set_option linter.unusedVariables false
set_option linter.unusedSimpArgs false
set_option maxRecDepth 8000
namespace Go.Ev.S
open Go Go.Ev
theorem ydL (n : Nat) (h : n ≤ 384) (K : Int → Prop) : zbe n K = K n := by
 rw [zbe.is]; unfold zbe.d
 rw [yav (ycd (by omega)), yav (ycd (by omega))]
theorem yd2 (x i : Nat) (hi : i < 384) (K : Bool → Prop) : zbd (W x) i K = K (x.testBit i) := by
 rw [zbd.is]; unfold zbd.d
 rw [yaE (yaM (by omega)), yaE (ybz (by omega)), yiy i (by omega), yiI i, yaK (ya5 (by omega) (by omega)), Int.toNat_natCast, yaX, yd7 _ _ (ycb _ _) (Nat.mod_lt _ (by omega)), ybt]
 have h1 : i % 64 < 64 := Nat.mod_lt _ (by omega)
 rw [show 64 * (i / 64) + i % 64 = i from by omega]
 simp [h1]
theorem ygE (x : Nat) (h : x < 18446744073709551616) (K : (Nat → Int) → Prop) : zbj x K = K (W x) := by
 rw [zbj.is]; unfold zbj.d; rw [yqN x h]
theorem yeG (x : Nat) (h : x < 2 ^ 128) (K : (Nat → Int) → Prop) : zbk (Hi x) (Lo x) K = K (W x) := by
 rw [zbk.is]; unfold zbk.d; rw [ypS x h]
theorem yfe (x : Nat) (h : x < 2 ^ 128) (K : Int → Int → Bool → Prop) : zbo (W x) K = K (Hi x) (Lo x) true := by
 rw [zbo.is]; unfold zbo.d
 rw [yfH x 2 h (by omega), yfH x 3 h (by omega), yfH x 4 h (by omega), yfH x 5 h (by omega), yrz x h, yrA x]
 rfl
theorem yoW (z w i : Nat) (hz : z < 2 ^ (64 * i)) (hw : w < 18446744073709551616) : upd (W z) i (w : Int) = W (z + w * 2 ^ (64 * i)) := by
 funext j
 have hP := Nat.two_pow_pos (64 * i)
 by_cases hj : j = i
 ·subst hj
  rw [ycf, yaX]
  congr 1
  unfold wd
  rw [Nat.add_mul_div_right _ _ hP, Nat.div_eq_of_lt hz, Nat.zero_add, Nat.mod_eq_of_lt hw]
 ·rw [ydw _ _ _ _ hj, yaX, yaX]
  congr 1
  by_cases hlt : j < i
  ·unfold wd
   have e : 2 ^ (64 * i) = 2 ^ (64 * j) * (18446744073709551616 * 2 ^ (64 * (i - j - 1))) := by
    rw [show (18446744073709551616 : Nat) = 2 ^ 64 from rfl, ← Nat.pow_add, ← Nat.pow_add]; congr 1; omega
   rw [e, Nat.mul_comm w, Nat.mul_assoc, Nat.add_mul_div_left _ _ (Nat.two_pow_pos _), Nat.mul_assoc, Nat.add_mul_mod_self_left]
  ·rw [yb9 z j (Nat.lt_of_lt_of_le hz (Nat.pow_le_pow_right (by omega) (by omega))), yb9]
   have h1 : z + w * 2 ^ (64 * i) < 2 ^ (64 * (i + 1)) := by
    rw [show 64 * (i + 1) = 64 * i + 64 from by omega, Nat.pow_add, show (2 : Nat) ^ 64 = 18446744073709551616 from rfl]
    have : (w + 1) * 2 ^ (64 * i) ≤ 18446744073709551616 * 2 ^ (64 * i) := Nat.mul_le_mul_right _ (by omega)
    rw [Nat.add_mul, Nat.one_mul] at this
    rw [Nat.mul_comm (2 ^ (64 * i))]
    omega
   exact Nat.lt_of_lt_of_le h1 (Nat.pow_le_pow_right (by omega) (by omega))
theorem ygc (x i : Nat) : x % 2 ^ (64 * (i + 1)) = x % 2 ^ (64 * i) + wd x i * 2 ^ (64 * i) := by
 unfold wd
 rw [show 64 * (i + 1) = 64 * i + 64 from by omega, Nat.pow_add, show (2 : Nat) ^ 64 = 18446744073709551616 from rfl, Nat.mod_mul, Nat.mul_comm (2 ^ (64 * i))]
def yib (x y i : Nat) : Nat := x % 2 ^ (64 * i) + y % 2 ^ (64 * i)
theorem yop (x y i q : Nat) (hqd : q = (decide (2 ^ (64 * i) ≤ yib x y i)).toNat) :
  (yib x y (i + 1) % 2 ^ (64 * (i + 1)) = yib x y i % 2 ^ (64 * i) + ((wd x i + wd y i + q) % 18446744073709551616) * 2 ^ (64 * i)) ∧
  (decide (2 ^ (64 * (i + 1)) ≤ yib x y (i + 1)) = decide (18446744073709551616 ≤ wd x i + wd y i + q)) := by
 have hP : 0 < 2 ^ (64 * i) := Nat.two_pow_pos _
 have h1 : x % 2 ^ (64 * i) < 2 ^ (64 * i) := Nat.mod_lt _ hP
 have h2 : y % 2 ^ (64 * i) < 2 ^ (64 * i) := Nat.mod_lt _ hP
 have hT : yib x y (i + 1) = yib x y i + (wd x i + wd y i) * 2 ^ (64 * i) := by
  unfold yib; rw [ygc, ygc, Nat.add_mul]; omega
 have hlt : yib x y i < 2 * 2 ^ (64 * i) := by unfold yib; omega
 have h64 : 2 ^ (64 * (i + 1)) = 2 ^ (64 * i) * 18446744073709551616 := by
  rw [show 64 * (i + 1) = 64 * i + 64 from by omega, Nat.pow_add]
 rw [hT, h64]
 clear hT h64 h1 h2
 generalize 2 ^ (64 * i) = P at *
 generalize yib x y i = T at *
 have hq : T = T % P + q * P := by
  by_cases hc : P ≤ T
  ·have : q = 1 := by rw [hqd]; simp only [hc, decide_true, Bool.toNat_true]
   rw [this, Nat.mod_eq_sub_mod hc, Nat.mod_eq_of_lt (by omega)]; omega
  ·have : q = 0 := by rw [hqd]; simp only [hc, decide_false, Bool.toNat_false]
   rw [this, Nat.mod_eq_of_lt (by omega)]; omega
 have hr : T % P < P := Nat.mod_lt _ hP
 clear hqd
 generalize T % P = r at *
 subst hq
 rw [show r + q * P + (wd x i + wd y i) * P = r + (wd x i + wd y i + q) * P from by rw [Nat.add_mul (wd x i + wd y i)]; omega]
 generalize wd x i + wd y i + q = v
 constructor
 ·rw [Nat.mod_mul, Nat.add_mul_mod_self_right, Nat.mod_eq_of_lt hr, Nat.add_mul_div_right _ _ hP, Nat.div_eq_of_lt hr, Nat.zero_add, Nat.mul_comm P]
 ·rw [decide_eq_decide]
  constructor
  ·intro h
   apply Classical.byContradiction
   intro hc
   have : (v + 1) * P ≤ 18446744073709551616 * P := Nat.mul_le_mul_right _ (by omega)
   rw [Nat.add_mul, Nat.mul_comm 18446744073709551616] at this
   omega
  ·intro h
   have : 18446744073709551616 * P ≤ v * P := Nat.mul_le_mul_right _ h
   rw [Nat.mul_comm 18446744073709551616] at this
   omega
theorem yke (x y : Nat) (k0 : Bool → (Nat → Int) → (Nat → Int) → Prop) (z : Nat → Int) (h : k0 (decide (Q6 ≤ yib x y 6)) z (W (yib x y 6 % Q6))) :
  ∀ (j i : Nat), i + j = 6 → zbb.l4 k0 (j + 1) (decide (2 ^ (64 * i) ≤ yib x y i)) i (W x) (W y) z (W (yib x y i % 2 ^ (64 * i))) := by
 intro j
 induction j with
 | zero =>
  intro i hij
  have h6 : i = 6 := by omega
  unfold zbb.l4 zbb.l4.step
  rw [yav (ycd (by omega)), ycM (show 64 * i = 384 by omega), h6]
  exact h
 | succ j ih =>
  intro i hij
  have ih := ih (i + 1) (by omega)
  have e : ((i + 1 : Nat) : Int) = (i : Int) + 1 := by omega
  rw [e] at ih
  obtain ⟨s1, s2⟩ := yop x y i _ rfl
  rw [s1, s2] at ih
  unfold zbb.l4 zbb.l4.step
  have hi : (leI 0 (i : Int) && ltI (i : Int) 6) = true := ya5 (by omega) (by omega)
  rw [yaE (ybz (by omega)), yaK hi, yaK hi, Int.toNat_natCast, yaX, yaX]
  refine yl5 _ _ _ (ycb _ _) (ycb _ _) _ ?_
  rw [yaK hi, yat (by omega) (by omega), yoW _ _ _ (Nat.mod_lt _ (Nat.two_pow_pos _)) (Nat.mod_lt _ (by omega))]
  exact ih
theorem yfr (x y : Nat) (hx : x < Q6) (hy : y < Q6) (K : (Nat → Int) → Bool → Prop) (h : K (W ((x + y) % Q6)) (decide (Q6 ≤ x + y))) : zbb (W x) (W y) K := by
 rw [zbb.is]
 refine ⟨7, ?_⟩
 have h6 : yib x y 6 = x + y := by
  obtain ⟨i, hi⟩ : ∃ i, i = 6 := ⟨_, rfl⟩
  rw [← hi]
  unfold yib; rw [ycM (show 64 * i = 384 by omega), Nat.mod_eq_of_lt hx, Nat.mod_eq_of_lt hy]
 have := yke x y (fun y0 y1 y2 => K y2 y0) (fun _ => 0) (by rw [h6]; exact h) 6 0 rfl
 have e1 : decide (2 ^ (64 * 0) ≤ yib x y 0) = false := by simp [yib, Nat.mod_one]
 have e2 : W (yib x y 0 % 2 ^ (64 * 0)) = fun _ => 0 := by
  rw [show yib x y 0 % 2 ^ (64 * 0) = 0 from by simp [Nat.mod_one]]; exact W_zero
 rw [e1, e2] at this
 exact this
theorem ypH {x n i m : Nat} (hb : x.testBit i = true) (h : i + n < m) :
  (x % 2 ^ (i + 1)) * 2 ^ n % 2 ^ m = ((x % 2 ^ i) * 2 ^ n % 2 ^ m) ||| 2 ^ (i + n) ∧ ¬ 2 ^ m ≤ (x % 2 ^ i) * 2 ^ n ∧ ¬ 2 ^ m ≤ (x % 2 ^ (i + 1)) * 2 ^ n := by
 have h1 : (x % 2 ^ i) * 2 ^ n < 2 ^ (i + n) := by
  rw [Nat.pow_add]; exact Nat.mul_lt_mul_of_pos_right (Nat.mod_lt _ (Nat.two_pow_pos _)) (Nat.two_pow_pos _)
 have h2 : (x % 2 ^ (i + 1)) * 2 ^ n = (x % 2 ^ i) * 2 ^ n + 2 ^ (i + n) := by
  rw [ycG, hb, Nat.add_mul, Nat.pow_add]; simp
 have h3 : 2 ^ (i + n) + 2 ^ (i + n) ≤ 2 ^ m := by
  have : 2 ^ (i + n + 1) ≤ 2 ^ m := Nat.pow_le_pow_right (by omega) (by omega)
  rw [Nat.pow_succ] at this; omega
 rw [h2]
 generalize x % 2 ^ i * 2 ^ n = A at *
 rw [Nat.mod_eq_of_lt (show A + 2 ^ (i + n) < 2 ^ m by omega), Nat.mod_eq_of_lt (show A < 2 ^ m by omega), ygq _ _ h1]
 exact ⟨rfl, by omega, by omega⟩
theorem ynf {x n i m : Nat} (hb : x.testBit i = true) (h : m ≤ i + n) :
  (x % 2 ^ (i + 1)) * 2 ^ n % 2 ^ m = (x % 2 ^ i) * 2 ^ n % 2 ^ m ∧ 2 ^ m ≤ (x % 2 ^ (i + 1)) * 2 ^ n := by
 have h2 : (x % 2 ^ (i + 1)) * 2 ^ n = (x % 2 ^ i) * 2 ^ n + 2 ^ (i + n) := by
  rw [ycG, hb, Nat.add_mul, Nat.pow_add]; simp
 have h3 : 2 ^ (i + n) = 2 ^ m * 2 ^ (i + n - m) := by rw [← Nat.pow_add]; congr 1; omega
 have h4 : 2 ^ m ≤ 2 ^ (i + n) := Nat.pow_le_pow_right (by omega) h
 rw [h2]
 exact ⟨by rw [h3, Nat.add_mul_mod_self_left], by omega⟩
theorem yg1 {x i : Nat} (hb : x.testBit i = false) : x % 2 ^ (i + 1) = x % 2 ^ i := by rw [ycG, hb]; simp
theorem yiU (x n m : Nat) (hm : m = 384) (hn : n ≤ 384) (k0 : Bool → (Nat → Int) → (Nat → Int) → Prop) (z : Nat → Int) (h : k0 (decide (2 ^ m ≤ (x % 2 ^ m) * 2 ^ n)) z (W ((x % 2 ^ m) * 2 ^ n % 2 ^ m))) :
  ∀ (j i : Nat), i + j = 384 → zbg.l5 k0 (j + 1) n (decide (2 ^ m ≤ (x % 2 ^ i) * 2 ^ n)) i (W x) z (W ((x % 2 ^ i) * 2 ^ n % 2 ^ m)) := by
 intro j
 induction j with
 | zero =>
  intro i hij
  have h6 : i = m := by omega
  subst h6
  unfold zbg.l5 zbg.l5.step
  rw [yav (ycd (by omega))]
  exact h
 | succ j ih =>
  intro i hij
  have ih := ih (i + 1) (by omega)
  have e : ((i + 1 : Nat) : Int) = (i : Int) + 1 := by omega
  rw [e] at ih
  unfold zbg.l5 zbg.l5.step
  rw [yaE (ybz (by omega)), yd2 x i (by omega)]
  have e1 : yaj .i64 (i : Int) (n : Int) = ((i + n : Nat) : Int) := by rw [yat (by omega) (by omega)]; omega
  rw [e1, yat (a := (i : Int)) (b := 1) (by omega) (by omega)]
  cases hb : x.testBit i with
  | false =>
   rw [yav rfl]
   rw [yg1 hb] at ih
   exact ih
  | true =>
   rw [yaE rfl]
   by_cases hin : i + n < 384
   ·obtain ⟨s1, s2, s3⟩ := ypH (m := m) hb (show i + n < m by omega)
    rw [s1] at ih
    rw [yaE (ybz (by omega)), yiy (i + n) (by omega), yiI, yaK (ya5 (by omega) (by omega)), ybk (by omega) (by omega), yaK (yeo (by omega)), yaK (ya5 (by omega) (by omega)), Int.toNat_natCast, yeO]
    simp only [s2, s3, decide_false] at ih ⊢
    exact ih
   ·obtain ⟨s1, s2⟩ := ynf (m := m) (n := n) hb (by omega)
    rw [yav (ycd (by omega))]
    rw [s1] at ih
    simp only [s2, decide_true] at ih
    exact ih
theorem ydi (x n : Nat) (hx : x < Q6) (hn : n ≤ 384) (K : (Nat → Int) → Bool → Prop) (h : K (W (x * 2 ^ n % Q6)) (decide (Q6 ≤ x * 2 ^ n))) : zbg (W x) n K := by
 rw [zbg.is]; unfold zbg.d
 rw [ydL n hn]
 refine ⟨384 + 1, ?_⟩
 obtain ⟨m, hm⟩ : ∃ m, m = 384 := ⟨_, rfl⟩
 have := yiU x n m hm hn (fun y0 y1 y2 => K y2 y0) (fun _ => 0) (by rw [ycM hm, Nat.mod_eq_of_lt hx]; exact h) 384 0 rfl
 rw [ycM hm] at this
 have e1 : decide (Q6 ≤ (x % 2 ^ 0) * 2 ^ n) = false := by
  simp only [Nat.pow_zero, Nat.mod_one, Nat.zero_mul, decide_eq_false_iff_not, Nat.not_le]; exact ypX
 have e2 : W ((x % 2 ^ 0) * 2 ^ n % Q6) = fun _ => 0 := by
  rw [show (x % 2 ^ 0) * 2 ^ n % Q6 = 0 from by simp [Nat.mod_one]]; exact W_zero
 rw [e1, e2] at this
 exact this
theorem yhw (x n m : Nat) (hm : m = 384) (hn : n ≤ 384) (k0 : Bool → (Nat → Int) → (Nat → Int) → Prop) (z : Nat → Int) (h : k0 (decide (x % 2 ^ min m n ≠ 0)) z (W ((x % 2 ^ m) / 2 ^ n))) :
  ∀ (j i : Nat), i + j = 384 → zbm.l5 k0 (j + 1) n (decide (x % 2 ^ min i n ≠ 0)) i (W x) z (W ((x % 2 ^ i) / 2 ^ n)) := by
 intro j
 induction j with
 | zero =>
  intro i hij
  have h6 : i = m := by omega
  subst h6
  unfold zbm.l5 zbm.l5.step
  rw [yav (ycd (by omega))]
  exact h
 | succ j ih =>
  intro i hij
  have ih := ih (i + 1) (by omega)
  have e : ((i + 1 : Nat) : Int) = (i : Int) + 1 := by omega
  rw [e] at ih
  unfold zbm.l5 zbm.l5.step
  rw [yaE (ybz (by omega)), yd2 x i (by omega), yat (a := (i : Int)) (b := 1) (by omega) (by omega)]
  cases hb : x.testBit i with
  | false =>
   rw [yav rfl]
   rw [yg1 hb] at ih
   have : x % 2 ^ min (i + 1) n = x % 2 ^ min i n := by
    by_cases hin : i < n
    ·rw [Nat.min_eq_left (by omega), Nat.min_eq_left (by omega), yg1 hb]
    ·rw [Nat.min_eq_right (by omega), Nat.min_eq_right (by omega)]
   rw [this] at ih
   exact ih
  | true =>
   rw [yaE rfl]
   by_cases hin : n ≤ i
   ·rw [yaE (yaM (by omega)), show yae .i64 (i : Int) (n : Int) = ((i - n : Nat) : Int) from by rw [yaW (by omega) (by omega)]; omega]
    have hlt : x % 2 ^ i < 2 ^ i := Nat.mod_lt _ (Nat.two_pow_pos _)
    have hp : 2 ^ i = 2 ^ (i - n) * 2 ^ n := by rw [← Nat.pow_add]; congr 1; omega
    have s1 : (x % 2 ^ (i + 1)) / 2 ^ n = (x % 2 ^ i) / 2 ^ n ||| 2 ^ (i - n) := by
     rw [ygq _ _ (by rw [Nat.div_lt_iff_lt_mul (Nat.two_pow_pos _), ← hp]; exact hlt), ycG, hb, Bool.toNat_true, Nat.one_mul]
     conv => lhs; rw [show (x % 2 ^ i + 2 ^ i) = x % 2 ^ i + 2 ^ (i - n) * 2 ^ n from by rw [← hp]]
     rw [Nat.add_mul_div_right _ _ (Nat.two_pow_pos _)]
    rw [s1, Nat.min_eq_right (by omega)] at ih
    rw [yiy (i - n) (by omega), yiI, yaK (ya5 (by omega) (by omega)), ybk (by omega) (by omega), yaK (yeo (by omega)), yaK (ya5 (by omega) (by omega)), Int.toNat_natCast, yeO, Nat.min_eq_right hin]
    exact ih
   ·rw [yav (yfE (by omega))]
    have hlt : x % 2 ^ (i + 1) < 2 ^ n := Nat.lt_of_lt_of_le (Nat.mod_lt _ (Nat.two_pow_pos _)) (Nat.pow_le_pow_right (by omega) (by omega))
    have hlt2 : x % 2 ^ i < 2 ^ n := Nat.lt_of_lt_of_le (Nat.mod_lt _ (Nat.two_pow_pos _)) (Nat.pow_le_pow_right (by omega) (by omega))
    rw [Nat.div_eq_of_lt hlt, Nat.min_eq_left (by omega)] at ih
    rw [Nat.div_eq_of_lt hlt2]
    have hne : x % 2 ^ (i + 1) ≠ 0 := by
     rw [ycG, hb, Bool.toNat_true, Nat.one_mul]
     have := Nat.two_pow_pos i; omega
    simp only [hne, ne_eq, not_false_eq_true, decide_true] at ih
    exact ih
theorem yj9 (x n : Nat) (hx : x < Q6) (hn : n ≤ 384) (K : (Nat → Int) → Bool → Prop) (h : K (W (x / 2 ^ n)) (decide (x % 2 ^ n ≠ 0))) : zbm (W x) n K := by
 rw [zbm.is]; unfold zbm.d
 rw [ydL n hn]
 refine ⟨384 + 1, ?_⟩
 obtain ⟨m, hm⟩ : ∃ m, m = 384 := ⟨_, rfl⟩
 have := yhw x n m hm hn (fun y0 y1 y2 => K y2 y0) (fun _ => 0) (by rw [ycM hm, Nat.mod_eq_of_lt hx, Nat.min_eq_right (by omega)]; exact h) 384 0 rfl
 have e1 : decide (x % 2 ^ min 0 n ≠ 0) = false := by simp [Nat.mod_one]
 have e2 : W ((x % 2 ^ 0) / 2 ^ n) = fun _ => 0 := by
  rw [show (x % 2 ^ 0) / 2 ^ n = 0 from by simp [Nat.mod_one]]; exact W_zero
 rw [e1, e2] at this
 exact this
theorem yil (n : Nat) (hn : n ≤ 384) (k0 : (Nat → Int) → (Nat → Int) → Prop) (z : Nat → Int) (h : k0 z (W (2 ^ n - 1))) :
  ∀ (j i : Nat), i + j = n → zbi.l4 k0 (j + 1) n i z (W (2 ^ i - 1)) := by
 intro j
 induction j with
 | zero =>
  intro i hij
  have : i = n := by omega
  subst this
  unfold zbi.l4 zbi.l4.step
  rw [yav (ycd (by omega))]
  exact h
 | succ j ih =>
  intro i hij
  have ih := ih (i + 1) (by omega)
  have e : ((i + 1 : Nat) : Int) = (i : Int) + 1 := by omega
  rw [e] at ih
  unfold zbi.l4 zbi.l4.step
  have hp := Nat.two_pow_pos i
  have s1 : 2 ^ (i + 1) - 1 = (2 ^ i - 1) ||| 2 ^ i := by rw [ygq _ _ (by omega), Nat.pow_succ]; omega
  rw [yaE (ybz (by omega)), yiy i (by omega), yiI, yaK (ya5 (by omega) (by omega)), ybk (by omega) (by omega), yaK (yeo (by omega)), yaK (ya5 (by omega) (by omega)), Int.toNat_natCast, yeO, yat (by omega) (by omega), ← s1]
  exact ih
theorem ygF (n : Nat) (hn : n ≤ 384) (K : (Nat → Int) → Prop) (h : K (W (2 ^ n - 1))) : zbi n K := by
 rw [zbi.is]; unfold zbi.d
 rw [ydL n hn]
 refine ⟨n + 1, ?_⟩
 have := yil n hn (fun y0 y1 => K y1) (fun _ => 0) h n 0 (by omega)
 rw [show 2 ^ 0 - 1 = 0 from rfl, W_zero] at this
 exact this
def mix (i : Nat) (x y : Nat) : Nat → Int := fun j => cond (Nat.blt j i) (W x j) (W y j)
theorem yiM (x y : Nat) : mix 0 x y = W y := by
 funext j
 have h1 : Nat.blt j 0 = false := by
  cases hb : Nat.blt j 0 with
  | false => rfl
  | true => have := bltI.1 hb; omega
 simp [mix, h1]
theorem ykC (x y n : Nat) (hx : x < 2 ^ (64 * n)) (hy : y < 2 ^ (64 * n)) : mix n x y = W x := by
 funext j
 unfold mix
 cases hb : Nat.blt j n with
 | true => rfl
 | false =>
  have hj : n ≤ j := by
   rcases Nat.lt_or_ge j n with h | h
   ·rw [bltI.2 h] at hb; cases hb
   ·exact h
  simp only [cond_false]
  rw [yaX, yaX, yb9 x j (Nat.lt_of_lt_of_le hx (Nat.pow_le_pow_right (by omega) (by omega))), yb9 y j (Nat.lt_of_lt_of_le hy (Nat.pow_le_pow_right (by omega) (by omega)))]
theorem yiY (x y i : Nat) : upd (mix i x y) i (W x i) = mix (i + 1) x y := by
 funext j
 by_cases hj : j = i
 ·subst hj; rw [ycf]; simp [mix, bltI.2 (show j < j + 1 by omega)]
 ·rw [ydw _ _ _ _ hj]
  unfold mix
  by_cases h : j < i
  ·rw [bltI.2 h, bltI.2 (show j < i + 1 by omega)]
  ·have h1 : Nat.blt j i = false := by
    cases hb : Nat.blt j i with
    | false => rfl
    | true => exact absurd (bltI.1 hb) h
   have h2 : Nat.blt j (i + 1) = false := by
    cases hb : Nat.blt j (i + 1) with
    | false => rfl
    | true => have := bltI.1 hb; omega
   rw [h1, h2]
theorem yny (x y i : Nat) : mix i x y i = W y i := by
 have h1 : Nat.blt i i = false := by
  cases hb : Nat.blt i i with
  | false => rfl
  | true => have := bltI.1 hb; omega
 simp [mix, h1]
theorem ypO (x y i : Nat) : wd (x &&& y) i = wd x i &&& wd y i := by
 apply Nat.eq_of_testBit_eq; intro j
 rw [Nat.testBit_and, ybt, ybt, ybt, Nat.testBit_and]
 by_cases hj : j < 64 <;> simp [hj]
theorem yrg (x y i : Nat) : wd (x ||| y) i = wd x i ||| wd y i := by
 apply Nat.eq_of_testBit_eq; intro j
 rw [Nat.testBit_or, ybt, ybt, ybt, Nat.testBit_or]
 by_cases hj : j < 64 <;> simp [hj]
theorem ypK {x y m : Nat} (h : x < 2 ^ m) : x &&& y < 2 ^ m := Nat.lt_of_le_of_lt Nat.and_le_left h
theorem yjZ (x y : Nat) (hx : x < Q6) (k0 : (Nat → Int) → (Nat → Int) → Prop) (z : Nat → Int) (h : k0 (W (x &&& y)) z) :
  ∀ (j i : Nat), i + j = 6 → zbc.l2 k0 (j + 1) i (mix i (x &&& y) x) (W y) z := by
 intro j
 induction j with
 | zero =>
  intro i hij
  have h6 : i = 6 := by omega
  have hx' : x < 2 ^ (64 * i) := by rw [ycM (show 64 * i = 384 by omega)]; exact hx
  unfold zbc.l2 zbc.l2.step
  rw [yav (ycd (by omega)), ykC _ _ i (ypK hx') hx']
  exact h
 | succ j ih =>
  intro i hij
  have ih := ih (i + 1) (by omega)
  have e : ((i + 1 : Nat) : Int) = (i : Int) + 1 := by omega
  rw [e] at ih
  unfold zbc.l2 zbc.l2.step
  have hi : (leI 0 (i : Int) && ltI (i : Int) 6) = true := ya5 (by omega) (by omega)
  rw [yaE (ybz (by omega)), yaK hi, yaK hi, yaK hi, Int.toNat_natCast, yny, yaX, yaX, yk2 _ _ (ycb _ _) (ycb _ _), ← ypO, ← yaX, yiY, yat (by omega) (by omega)]
  exact ih
theorem yh8 (x y : Nat) (hx : x < Q6) (K : (Nat → Int) → Prop) (h : K (W (x &&& y))) : zbc (W x) (W y) K := by
 rw [zbc.is]
 refine ⟨7, ?_⟩
 have := yjZ x y hx (fun y0 y1 => K y0) (fun _ => 0) h 6 0 rfl
 rw [yiM] at this
 exact this
theorem yfs {x i : Nat} (h : x / 2 ^ i ≠ 0) : ybu x = i + ybu (x / 2 ^ i) := by
 apply Nat.le_antisymm
 ·rw [yaY, Nat.pow_add, Nat.mul_comm, ← Nat.div_lt_iff_lt_mul (Nat.two_pow_pos i)]
  exact yoh _
 ·have h1 := yqg h
  have h2 : 2 ^ (i + (ybu (x / 2 ^ i) - 1)) ≤ x := by
   rw [Nat.pow_add, Nat.mul_comm]
   exact (Nat.le_div_iff_mul_le (Nat.two_pow_pos i)).1 h1
  have hp := ypy h
  apply Classical.byContradiction
  intro hc
  have h3 : ybu x ≤ i + (ybu (x / 2 ^ i) - 1) := by omega
  have := (yaY x _).1 h3
  omega
theorem yfK (x : Nat) (k0 : Int → Prop) (k1 : Prop) (h : x ≠ 0 → k0 (ybu x)) (n i : Nat) (hi : i < 6) (hx : x < 2 ^ (64 * (i + 1))) (hrec : x < 2 ^ (64 * i) → zbh.l2 k0 k1 n ((i : Int) - 1) (W x)) :
  zbh.l2 k0 k1 (n + 1) i (W x) := by
 have hwd : wd x i = x / 2 ^ (64 * i) := by
  unfold wd
  apply Nat.mod_eq_of_lt
  rw [Nat.div_lt_iff_lt_mul (Nat.two_pow_pos _), show (18446744073709551616 : Nat) = 2 ^ 64 from rfl, ← Nat.pow_add]
  rw [show 64 + 64 * i = 64 * (i + 1) from by omega]; exact hx
 unfold zbh.l2 zbh.l2.step
 have hi' : (leI 0 (i : Int) && ltI (i : Int) 6) = true := ya5 (by omega) (by omega)
 rw [yaE (yaM (by omega)), yaK hi', Int.toNat_natCast, yaX]
 by_cases hz : wd x i = 0
 ·have hx2 : x < 2 ^ (64 * i) := by
   rw [hwd] at hz
   rcases (Nat.div_eq_zero_iff).1 hz with h' | h'
   ·have := Nat.two_pow_pos (64 * i); omega
   ·exact h'
  rw [yav (by rw [hz]; rfl), yaW (by omega) (by omega)]
  exact hrec hx2
 ·rw [yaE (by rw [show (0 : Int) = ((0 : Nat) : Int) from rfl, yeb]; simp [hz]), yaK hi']
  refine ymJ _ (ycb _ _) _ ?_
  have hb : ybu (wd x i) ≤ 64 := (yaY _ _).2 (ycb x i)
  rw [ydF (by omega) (by omega), yat (by omega) (by omega)]
  have hx0 : x ≠ 0 := by
   intro e; subst e; exact hz (yb9 0 i (Nat.two_pow_pos _))
  have := h hx0
  rw [hwd] at hz ⊢
  rw [yfs hz] at this
  rw [show (64 * (i : Int) + (ybu (x / 2 ^ (64 * i)) : Int)) = ((64 * i + ybu (x / 2 ^ (64 * i)) : Nat) : Int) from by omega]
  exact this
theorem yi6 (x : Nat) (k0 : Int → Prop) (k1 : Prop) (h : x ≠ 0 → k0 (ybu x)) (h1 : x = 0 → k1) (i : Nat) : i < 6 → x < 2 ^ (64 * (i + 1)) → zbh.l2 k0 k1 (i + 2) i (W x) := by
 induction i with
 | zero =>
  intro hi hx
  refine yfK x k0 k1 h 1 0 hi hx fun hx2 => ?_
  have hx0 : x = 0 := by
   have : x < 1 := hx2
   omega
  unfold zbh.l2 zbh.l2.step
  rw [yav (by decide)]
  exact h1 hx0
 | succ i ih =>
  intro hi hx
  refine yfK x k0 k1 h (i + 2) (i + 1) hi hx fun hx2 => ?_
  rw [show (((i + 1 : Nat) : Int) - 1) = (i : Int) from by omega]
  exact ih (by omega) hx2
theorem ybI (x : Nat) (hx : x < Q6) (K : Int → Prop) (h : K (ybu x)) : zbh (W x) K := by
 rw [zbh.is]
 obtain ⟨i, hi⟩ : ∃ i, i = 5 := ⟨_, rfl⟩
 have := yi6 x K (K 0) (fun _ => h) (fun e => by subst e; exact h) i (by omega) (by rw [ycM (show 64 * (i + 1) = 384 by omega)]; exact hx)
 rw [hi] at this
 exact ⟨5 + 2, this⟩
end Go.Ev.S

/- What the abacus reckons with words and with numbers of six words. -/
set_option linter.unusedVariables false
set_option linter.unusedSimpArgs false
set_option maxRecDepth 8000
namespace Go.Ev.S
open Go Go.Ev
theorem ynr (g : Nat → Int) (i : Nat) (a b : Int) : upd (upd g i a) i b = upd g i b := by
 funext j
 simp only [upd]
 cases Nat.beq j i <;> rfl
theorem yp0 (g : Nat → Int) (i : Nat) (a : Int) : upd g i a i = a := by
 simp only [upd]
 have : Nat.beq i i = true := by simp
 rw [this]; rfl
theorem yqd (x y : Int) : ∃ m : Nat, m < 18446744073709551616 ∧ ya0 .u64 x y = (m : Int) := by
 refine ⟨(ya0 .u64 x y).toNat, ?_, ?_⟩ <;> (show _; simp only [ya0]; rw [yeQ]; omega)
theorem yrh (a : Int) (K : Int → Prop) (h : ∀ v, K v) : zab a K := by
 rw [zab.is]; unfold zab.d
 obtain ⟨m, hm, e⟩ := yqd (yfL IntKind.u64 a (ykq IntKind.u64 a)) 285870213051353865
 rw [e, show (58 : Int) = ((58 : Nat) : Int) from rfl, yel m 58 (by omega)]
 have h1 : m >>> 58 < 64 := by rw [Nat.shiftRight_eq_div_pow]; omega
 by_cases h0 : eqI a 0 = true
 ·rw [yaE h0]; exact h _
 ·rw [yav (by simpa using h0)]; exact ⟨ya5 (by omega) (by omega), h _⟩
theorem yjd (a : Int) (K : Int → Prop) (h : ∀ v, K v) : zdt a K := by
 rw [zdt.is]; exact yrh a _ fun v => h v
theorem yff (x : Nat → Int) (k0 : Int → Prop) (k1 : Prop) (h0 : ∀ v, k0 v) (h1 : k1) : ∀ (j i : Nat), i + j = 6 → zdi.l2 k0 k1 (j + 1) x i := by
 intro j
 induction j with
 | zero =>
  intro i hij
  unfold zdi.l2 zdi.l2.step
  rw [yav (ycd (by omega))]; exact h1
 | succ j ih =>
  intro i hij
  have ih := ih (i + 1) (by omega)
  have e : ((i + 1 : Nat) : Int) = (i : Int) + 1 := by omega
  rw [e] at ih
  unfold zdi.l2 zdi.l2.step
  rw [yaE (ybz (by omega)), yaK (ya5 (by omega) (by omega)), yat (by omega) (by omega)]
  by_cases hz : (!eqI (x (Int.toNat (i : Int))) 0) = true
  ·rw [yaE hz]; exact yjd _ _ fun v => h0 _
  ·rw [yav (by simpa using hz)]; exact ih
theorem yj6 (x : Nat → Int) (K : Int → Prop) (h : ∀ v, K v) : zdi x K := by
 rw [zdi.is]
 exact ⟨7, yff x _ _ (fun v => h v) (h _) 6 0 rfl⟩
theorem yhb (n m : Int) : yhm n m = if n < m then m else n := by
 unfold yhm ltI; by_cases h : n < m <;> simp [h]
theorem yi0 (n m : Int) : ym6 n m = if m < n then m else n := by
 unfold ym6 ltI; by_cases h : m < n <;> simp [h]
theorem yjR (n : Nat) (h : n ≤ 64) (K : Int → Prop) : zdu n K = K ((2 ^ n - 1 : Nat)) := by
 rw [zdu.is]; unfold zdu.d; rw [zdv.is]; unfold zdv.d
 have e : ym6 (yhm (n : Int) 0) 64 = (n : Int) := by
  rw [yhb, yi0]; split <;> split <;> omega
 rw [e, ybk (by omega) (by omega)]
 show gd (!ltI (n : Int) 0) (K (yae IntKind.u64 (ybR IntKind.u64 1 (n : Int)) 1)) = _
 rw [yaK (yeo (by omega))]
 by_cases hn : n = 64
 ·subst hn; rfl
 ·have hlt : 2 ^ n < 18446744073709551616 := yjI (by omega)
  have hp := Nat.two_pow_pos n
  rw [yk0 n (by omega)]
  generalize 2 ^ n = p at *
  rw [ygT (by omega) (by omega), show ((p : Int) - 1) = ((p - 1 : Nat) : Int) from by omega]
theorem yic (n : Int) (h : n ≤ 0) (h2 : -9223372036854775808 ≤ n) (K : Int → Prop) : zdu n K = K 0 := by
 rw [zdu.is]; unfold zdu.d; rw [zdv.is]; unfold zdv.d
 have e : ym6 (yhm n 0) 64 = 0 := by
  rw [yhb, yi0]; split <;> split <;> omega
 rw [e]; rfl
theorem yiS (n : Int) (h : 64 ≤ n) (K : Int → Prop) : zdu n K = K ((2 ^ 64 - 1 : Nat)) := by
 rw [zdu.is]; unfold zdu.d; rw [zdv.is]; unfold zdv.d
 have e : ym6 (yhm n 0) 64 = 64 := by
  rw [yhb, yi0]; split <;> split <;> omega
 rw [e]; rfl
theorem yc6 (n : Nat) (h : n ≤ 384) (K : Int → Prop) : zdr n K = K n := by
 rw [zdr.is]; unfold zdr.d
 have e : ym6 (yhm (n : Int) 0) 384 = (n : Int) := by
  rw [yhb, yi0]; split <;> split <;> omega
 rw [e]
theorem yee (x : Nat) (h : x < 2 ^ 128) (K : (Nat → Int) → Prop) : zdl (Hi x) (Lo x) K = K (W x) := by
 rw [zdl.is]; unfold zdl.d; rw [ypS x h]
theorem yc8 (x i : Nat) (hi : i < 384) (K : Bool → Prop) : zdf (W x) i K = K (x.testBit i) := by
 rw [zdf.is]; unfold zdf.d
 have h1 : i % 64 < 64 := Nat.mod_lt _ (by omega)
 rw [yaE (yaM (by omega)), yaE (ybz (by omega)), yiy i (by omega), yiI i, yaK (ya5 (by omega) (by omega)), ybk (by omega) (by omega), yaK (yeo (by omega)), Int.toNat_natCast, yaX, ylo _ _ (ycb _ _) h1, ybt]
 rw [show 64 * (i / 64) + i % 64 = i from by omega]
 simp [h1]
theorem yiz (x y : Nat) (hx : x < Q6) (k0 : (Nat → Int) → (Nat → Int) → Prop) (z : Nat → Int) (h : k0 (W (x &&& y)) z) :
  ∀ (j i : Nat), i + j = 6 → zde.l2 k0 (j + 1) i (mix i (x &&& y) x) (W y) z := by
 intro j
 induction j with
 | zero =>
  intro i hij
  have h6 : i = 6 := by omega
  have hx' : x < 2 ^ (64 * i) := by rw [ycM (show 64 * i = 384 by omega)]; exact hx
  unfold zde.l2 zde.l2.step
  rw [yav (ycd (by omega)), ykC _ _ i (ypK hx') hx']
  exact h
 | succ j ih =>
  intro i hij
  have ih := ih (i + 1) (by omega)
  have e : ((i + 1 : Nat) : Int) = (i : Int) + 1 := by omega
  rw [e] at ih
  unfold zde.l2 zde.l2.step
  have hi : (leI 0 (i : Int) && ltI (i : Int) 6) = true := ya5 (by omega) (by omega)
  rw [yaE (ybz (by omega)), yaK hi, yaK hi, yaK hi, Int.toNat_natCast, yny, yaX, yaX, yk2 _ _ (ycb _ _) (ycb _ _), ← ypO, ← yaX, yiY, yat (by omega) (by omega)]
  exact ih
theorem yeq (x y : Nat) (hx : x < Q6) (K : (Nat → Int) → Prop) (h : K (W (x &&& y))) : zde (W x) (W y) K := by
 rw [zde.is]
 refine ⟨7, ?_⟩
 have := yiz x y hx (fun y0 y1 => K y0) (fun _ => 0) h 6 0 rfl
 rw [yiM] at this
 exact this
theorem yqf (n i : Nat) : ((wd (2 ^ n - 1) i : Nat) : Int) = if 64 * i + 64 ≤ n then ((2 ^ 64 - 1 : Nat) : Int) else if n ≤ 64 * i then 0 else ((2 ^ (n - 64 * i) - 1 : Nat) : Int) := by
 have key : ∀ m, m ≤ 64 → (∀ j, j < 64 → (decide (64 * i + j < n) = decide (j < m))) → wd (2 ^ n - 1) i = 2 ^ m - 1 := by
  intro m hm hj
  apply Nat.eq_of_testBit_eq; intro j
  rw [ybt, Nat.testBit_two_pow_sub_one, Nat.testBit_two_pow_sub_one]
  by_cases h : j < 64
  ·rw [hj j h]; simp [h]
  ·have : ¬ j < m := by omega
   simp [h, this]
 split
 ·rw [key 64 (Nat.le_refl _) (by intro j hj; apply decide_eq_decide.2; omega)]
 ·split
  ·rw [key 0 (by omega) (by intro j hj; apply decide_eq_decide.2; omega)]; rfl
  ·rw [key (n - 64 * i) (by omega) (by intro j hj; apply decide_eq_decide.2; omega)]
theorem ynF (n i : Nat) (hn : n ≤ 384) (hi : i < 6) (K : Int → Prop) : zdu (yae .i64 n (ya0 .i64 64 i)) K = K (W (2 ^ n - 1) i) := by
 have e : yae .i64 (n : Int) (ya0 .i64 64 (i : Int)) = (n : Int) - 64 * i := by
  rw [ydF (by omega) (by omega), yaW (by omega) (by omega)]
 rw [e, yaX, yqf]
 split
 ·rw [yiS _ (by omega)]
 ·split
  ·rw [yic _ (by omega) (by omega)]
  ·rw [show (n : Int) - 64 * i = ((n - 64 * i : Nat) : Int) from by omega, yjR _ (by omega)]
theorem yhF (n : Nat) (hn : n ≤ 384) (k0 : (Nat → Int) → (Nat → Int) → Prop) (z : Nat → Int) (h : k0 z (W (2 ^ n - 1))) :
  ∀ (j i : Nat), i + j = 6 → zdj.l4 k0 (j + 1) n i z (W ((2 ^ n - 1) % 2 ^ (64 * i))) := by
 intro j
 induction j with
 | zero =>
  intro i hij
  have : i = 6 := by omega
  have hp := Nat.two_pow_pos n
  have hlt : 2 ^ n - 1 < 2 ^ (64 * i) := by
   have := Nat.pow_le_pow_right (n := 2) (by omega) (show n ≤ 64 * i by omega)
   omega
  unfold zdj.l4 zdj.l4.step
  rw [yav (ycd (by omega)), Nat.mod_eq_of_lt hlt]
  exact h
 | succ j ih =>
  intro i hij
  have ih := ih (i + 1) (by omega)
  have e : ((i + 1 : Nat) : Int) = (i : Int) + 1 := by omega
  rw [e, ygc] at ih
  unfold zdj.l4 zdj.l4.step
  rw [yaE (ybz (by omega)), ynF n i hn (by omega), yaK (ya5 (by omega) (by omega)), Int.toNat_natCast, yaX, yoW _ _ i (Nat.mod_lt _ (Nat.two_pow_pos _)) (ycb _ _), yat (by omega) (by omega)]
  exact ih
theorem ydC (n : Nat) (hn : n ≤ 384) (K : (Nat → Int) → Prop) (h : K (W (2 ^ n - 1))) : zdj n K := by
 rw [zdj.is]; unfold zdj.d
 rw [yc6 n hn]
 refine ⟨7, ?_⟩
 have := yhF n hn (fun y0 y1 => K y1) (fun _ => 0) h 6 0 rfl
 rw [Nat.mul_zero, Nat.pow_zero, Nat.mod_one, W_zero] at this
 exact this
theorem yq9 (a : Nat) : ybR .u64 (a : Int) 64 = 0 := by
 have h1 : min (Int.toNat 64) (IntKind.bits .u64) = 64 := rfl
 simp only [ybR, h1]
 rw [yeQ]; omega
theorem yh4 (x i q r : Nat) (hr : r < 64) : orI .u64 (ya7 .u64 (W x (i + q)) (r : Int)) (ybR .u64 (W x (i + q + 1)) (yae .u64 64 (r : Int))) = W (x / 2 ^ (64 * q + r)) i := by
 rw [ygT (by omega) (by omega), show (64 : Int) - r = ((64 - r : Nat) : Int) from by omega, yaX, yaX, yel _ _ hr, yaX]
 have hs : wd x (i + q) >>> r < 18446744073709551616 := Nat.lt_of_le_of_lt (Nat.shiftRight_le _ _) (ycb _ _)
 have e : ybR .u64 ((wd x (i + q + 1) : Nat) : Int) ((64 - r : Nat) : Int) = ((wd x (i + q + 1) <<< (64 - r) % 18446744073709551616 : Nat) : Int) := by
  by_cases h0 : r = 0
  ·subst h0
   show ybR .u64 _ 64 = _
   rw [yq9, Nat.shiftLeft_eq]; simp
  ·exact yld _ _ (by omega)
 rw [e, yfQ _ _ hs (Nat.mod_lt _ (by omega))]
 congr 1
 apply Nat.eq_of_testBit_eq; intro j
 rw [Nat.testBit_or, Nat.testBit_shiftRight, show (18446744073709551616 : Nat) = 2 ^ 64 from rfl, Nat.testBit_mod_two_pow, Nat.testBit_shiftLeft, ybt, ybt, ybt, Nat.testBit_div_two_pow]
 by_cases hj : j < 64
 ·by_cases h2 : r + j < 64
  ·have h3 : ¬ (64 - r ≤ j) := by omega
   simp [hj, h2, h3]
   congr 1; omega
  ·have h3 : 64 - r ≤ j := by omega
   have h4 : j - (64 - r) < 64 := by omega
   simp [hj, h2, h3, h4]
   congr 1; omega
 ·have h2 : ¬ r + j < 64 := by omega
  simp [hj, h2]
theorem ymf (x q r i : Nat) (hr : r < 64) (hx : x < Q6) (hi : i + q = 5) : ya7 .u64 (W x (i + q)) (r : Int) = W (x / 2 ^ (64 * q + r)) i := by
 rw [← yh4 x i q r hr]
 have h0 : wd x (i + q + 1) = 0 := yb9 x _ (by rw [ycM (by omega)]; exact hx)
 rw [yaX x (i + q + 1), h0]
 have e : ybR .u64 ((0 : Nat) : Int) (yae .u64 64 (r : Int)) = 0 := by
  rw [ygT (by omega) (by omega)]
  show IntKind.wrap .u64 _ = _
  rw [yeQ]; simp
 have hs : wd x (i + q) >>> r < 18446744073709551616 := Nat.lt_of_le_of_lt (Nat.shiftRight_le _ _) (ycb _ _)
 rw [e, yaX, yel _ _ hr, show (0 : Int) = ((0 : Nat) : Int) from rfl, yfQ _ _ hs (by omega), Nat.or_zero]
theorem yhf (x q r : Nat) (hx : x < Q6) (hr : r < 64) (hq : q ≤ 6) (b : Bool) (k0 : Bool → (Nat → Int) → Prop) (h : k0 b (W (x / 2 ^ (64 * q + r)))) :
  ∀ (j i : Nat), i + q + j = 6 → zdo.l5 k0 (j + 1) b q r i (W x) (W (x / 2 ^ (64 * q + r) % 2 ^ (64 * i))) := by
 intro j
 induction j with
 | zero =>
  intro i hij
  have hlt : x / 2 ^ (64 * q + r) < 2 ^ (64 * i) := by
   rw [Nat.div_lt_iff_lt_mul (Nat.two_pow_pos _), ← Nat.pow_add]
   exact Nat.lt_of_lt_of_le hx (by rw [← ycM (show 64 * i + 64 * q = 384 by omega)]; exact Nat.pow_le_pow_right (by omega) (by omega))
  unfold zdo.l5 zdo.l5.step
  rw [yat (by omega) (by omega), yav (ycd (by omega)), Nat.mod_eq_of_lt hlt]
  exact h
 | succ j ih =>
  intro i hij
  have ih := ih (i + 1) (by omega)
  have e : ((i + 1 : Nat) : Int) = (i : Int) + 1 := by omega
  rw [e, ygc] at ih
  unfold zdo.l5 zdo.l5.step
  have e1 : yaj .i64 (i : Int) (q : Int) = ((i + q : Nat) : Int) := by rw [yat (by omega) (by omega)]; omega
  rw [e1, yaE (ybz (by omega)), yaK (ya5 (by omega) (by omega)), yaK (yeo (by omega)), yaK (ya5 (by omega) (by omega)), Int.toNat_natCast, Int.toNat_natCast]
  rw [show yaj .i64 (i : Int) 1 = (i : Int) + 1 from yat (by omega) (by omega)]
  have e2 : yaj .i64 ((i + q : Nat) : Int) 1 = ((i + q + 1 : Nat) : Int) := by rw [yat (by omega) (by omega)]; omega
  have hsub : yae .u64 64 (r : Int) = 64 - (r : Int) := ygT (by omega) (by omega)
  by_cases h5 : i + q < 5
  ·rw [yaE (ybz (by omega)), yaK (ya5 (by omega) (by omega)), e2, yaK (ya5 (by omega) (by omega)), yaK (yeo (by rw [hsub]; omega)), yaK (ya5 (by omega) (by omega)), Int.toNat_natCast, ynr, yp0, yh4 x i q r hr, yaX, yoW _ _ i (Nat.mod_lt _ (Nat.two_pow_pos _)) (ycb _ _)]
   exact ih
  ·rw [yav (ycd (by omega)), ymf x q r i hr hx (by omega), yaX, yoW _ _ i (Nat.mod_lt _ (Nat.two_pow_pos _)) (ycb _ _)]
   exact ih
theorem yhz (x n : Nat) (hx : x < Q6) (hn : n ≤ 384) (K : (Nat → Int) → Bool → Prop) (h : ∀ b, K (W (x / 2 ^ n)) b) : zdo (W x) n K := by
 rw [zdo.is]; unfold zdo.d
 have key : ∀ b, ∃ m, zdo.l5 (fun y0 y1 => K y1 y0) m b (yaQ IntKind.i64 (n : Int) 64) (cvI IntKind.u64 (ybv IntKind.i64 (n : Int) 64)) 0 (W x) fun x => 0 := by
  intro b
  rw [yiy n (by omega), yiI n, ybk (by omega) (by omega)]
  refine ⟨6 - n / 64 + 1, ?_⟩
  have := yhf x (n / 64) (n % 64) hx (Nat.mod_lt _ (by omega)) (by omega) b (fun y0 y1 => K y1 y0) (by rw [Nat.div_add_mod]; exact h b) (6 - n / 64) 0 (by omega)
  rw [Nat.mul_zero, Nat.pow_zero, Nat.mod_one, W_zero] at this
  exact this
 rw [yc6 n hn]
 by_cases hz : (!eqN 6 (W x) fun x => 0) = true
 ·rw [yaE hz]
  exact yj6 _ _ fun v => key _
 ·rw [yav (by simpa using hz)]
  exact key _
end Go.Ev.S

/- The lowest bit: of a word (the table of math/bits), of six words; a shift to the right with what fell off. -/
set_option linter.unusedVariables false
set_option linter.unusedSimpArgs false
set_option maxRecDepth 8000
namespace Go.Ev.S
open Go Go.Ev
end Go.Ev.S

/- Lengths, sums and the like: the abacus' words and six words. -/
set_option linter.unusedVariables false
set_option linter.unusedSimpArgs false
set_option maxRecDepth 8000
namespace Go.Ev.S
open Go Go.Ev
theorem ym3 (v : Nat) (h : v < 256) : cvI .u8 (v : Int) = (v : Int) := by
 exact yrl (by omega) (by omega)
theorem ycE (L : List UInt8) (hL : ((List.range 256).all fun v => yar L v == (ybu v : Int)) = true) (a n : Nat) (nI S : Int) (hn0 : nI = n) (hS : S = ((a / 2 ^ n : Nat) : Int)) (hlt : a / 2 ^ n < 256) (hn : n ≤ 56)
  (h0 : a / 2 ^ n ≠ 0 ∨ n = 0) (K : Int → Prop) (h : K (ybu a)) : gd (leI 0 (cvI .u8 S) && ltI (cvI .u8 S) 256) (K (yaj .i64 nI (cvI .i64 (yar L (Int.toNat (cvI .u8 S)))))) := by
 subst hS hn0
 have hb : yar L (a / 2 ^ n) = (ybu (a / 2 ^ n) : Int) := eq_of_beq (List.all_eq_true.1 hL _ (List.mem_range.2 hlt))
 have hb8 : ybu (a / 2 ^ n) ≤ 8 := (yaY _ _).2 hlt
 have e : ybu a = n + ybu (a / 2 ^ n) := by
  rcases h0 with h0 | h0
  ·exact yfs h0
  ·subst h0; rw [Nat.pow_zero, Nat.div_one, Nat.zero_add]
 generalize a / 2 ^ n = v at *
 rw [ym3 _ hlt, yaK (ya5 (by omega) (by omega)), Int.toNat_natCast, hb, ynA (by omega) (by omega), yat (by omega) (by omega), show ((n : Nat) : Int) + (ybu v : Int) = ((ybu a : Nat) : Int) from by rw [e]; omega]
 exact h
theorem ydD (a i : Nat) (hi : i < 64) : ya7 .u64 (a : Int) (i : Int) = ((a / 2 ^ i : Nat) : Int) := by rw [yel a i hi, Nat.shiftRight_eq_div_pow]
theorem yiZ (a : Nat) (ha : a < 18446744073709551616) (K : Int → Prop) (h : K (ybu a)) : zaa a K := by
 have s32 : ya7 .u64 (a : Int) 32 = ((a / 2 ^ 32 : Nat) : Int) := ydD a 32 (by omega)
 have s16 : ya7 .u64 (a : Int) 16 = ((a / 2 ^ 16 : Nat) : Int) := ydD a 16 (by omega)
 have s8 : ya7 .u64 (a : Int) 8 = ((a / 2 ^ 8 : Nat) : Int) := ydD a 8 (by omega)
 have t16 : ya7 .u64 ((a / 2 ^ 32 : Nat) : Int) 16 = ((a / 2 ^ 32 / 2 ^ 16 : Nat) : Int) := ydD (a / 2 ^ 32) 16 (by omega)
 have t8 : ya7 .u64 ((a / 2 ^ 32 : Nat) : Int) 8 = ((a / 2 ^ 32 / 2 ^ 8 : Nat) : Int) := ydD (a / 2 ^ 32) 8 (by omega)
 have u8 : ya7 .u64 ((a / 2 ^ 32 / 2 ^ 16 : Nat) : Int) 8 = ((a / 2 ^ 32 / 2 ^ 16 / 2 ^ 8 : Nat) : Int) := ydD (a / 2 ^ 32 / 2 ^ 16) 8 (by omega)
 have v8 : ya7 .u64 ((a / 2 ^ 16 : Nat) : Int) 8 = ((a / 2 ^ 16 / 2 ^ 8 : Nat) : Int) := ydD (a / 2 ^ 16) 8 (by omega)
 rw [zaa.is]; unfold zaa.d
 rw [s32, s16, s8, t16, t8, u8, v8]
 have d1 : a / 2 ^ 32 / 2 ^ 16 / 2 ^ 8 = a / 2 ^ 56 := by rw [Nat.div_div_eq_div_mul, Nat.div_div_eq_div_mul]
 have d2 : a / 2 ^ 32 / 2 ^ 16 = a / 2 ^ 48 := by rw [Nat.div_div_eq_div_mul]
 have d3 : a / 2 ^ 32 / 2 ^ 8 = a / 2 ^ 40 := by rw [Nat.div_div_eq_div_mul]
 have d4 : a / 2 ^ 16 / 2 ^ 8 = a / 2 ^ 24 := by rw [Nat.div_div_eq_div_mul]
 rw [d1, d2, d3, d4]
 by_cases c1 : 4294967296 ≤ a
 ·rw [yaE (yaM (by omega))]
  by_cases c2 : 65536 ≤ a / 2 ^ 32
  ·rw [yaE (yaM (by omega))]
   by_cases c3 : 256 ≤ a / 2 ^ 48
   ·rw [yaE (yaM (by omega))]
    exact ycE _ (by decide +kernel) a 56 _ _ rfl rfl (by omega) (by omega) (by omega) K h
   ·rw [yav (yfE (by omega))]
    exact ycE _ (by decide +kernel) a 48 _ _ rfl rfl (by omega) (by omega) (by omega) K h
  ·rw [yav (yfE (by omega))]
   by_cases c3 : 256 ≤ a / 2 ^ 32
   ·rw [yaE (yaM (by omega))]
    exact ycE _ (by decide +kernel) a 40 _ _ rfl rfl (by omega) (by omega) (by omega) K h
   ·rw [yav (yfE (by omega))]
    exact ycE _ (by decide +kernel) a 32 _ _ rfl rfl (by omega) (by omega) (by omega) K h
 ·rw [yav (yfE (by omega))]
  by_cases c2 : 65536 ≤ a
  ·rw [yaE (yaM (by omega))]
   by_cases c3 : 256 ≤ a / 2 ^ 16
   ·rw [yaE (yaM (by omega))]
    exact ycE _ (by decide +kernel) a 24 _ _ rfl rfl (by omega) (by omega) (by omega) K h
   ·rw [yav (yfE (by omega))]
    exact ycE _ (by decide +kernel) a 16 _ _ rfl rfl (by omega) (by omega) (by omega) K h
  ·rw [yav (yfE (by omega))]
   by_cases c3 : 256 ≤ a
   ·rw [yaE (yaM (by omega))]
    exact ycE _ (by decide +kernel) a 8 _ _ rfl rfl (by omega) (by omega) (by omega) K h
   ·rw [yav (yfE (by omega))]
    exact ycE _ (by decide +kernel) a 0 _ _ rfl (by simp) (by simp; omega) (by omega) (.inr rfl) K h
theorem ylc (a : Nat) (ha : a < 18446744073709551616) (K : Int → Prop) (h : K (ybu a)) : zds a K := by
 rw [zds.is]; exact yiZ a ha _ h
theorem yeJ (x : Nat) (k0 : Int → Prop) (k1 : Prop) (h : x ≠ 0 → k0 (ybu x)) (n i : Nat) (hi : i < 6) (hx : x < 2 ^ (64 * (i + 1))) (hrec : x < 2 ^ (64 * i) → zdh.l2 k0 k1 n ((i : Int) - 1) (W x)) :
  zdh.l2 k0 k1 (n + 1) i (W x) := by
 have hwd : wd x i = x / 2 ^ (64 * i) := by
  unfold wd
  apply Nat.mod_eq_of_lt
  rw [Nat.div_lt_iff_lt_mul (Nat.two_pow_pos _), show (18446744073709551616 : Nat) = 2 ^ 64 from rfl, ← Nat.pow_add]
  rw [show 64 + 64 * i = 64 * (i + 1) from by omega]; exact hx
 unfold zdh.l2 zdh.l2.step
 have hi' : (leI 0 (i : Int) && ltI (i : Int) 6) = true := ya5 (by omega) (by omega)
 rw [yaE (yaM (by omega)), yaK hi', Int.toNat_natCast, yaX]
 by_cases hz : wd x i = 0
 ·have hx2 : x < 2 ^ (64 * i) := by
   rw [hwd] at hz
   rcases (Nat.div_eq_zero_iff).1 hz with h' | h'
   ·have := Nat.two_pow_pos (64 * i); omega
   ·exact h'
  rw [yav (by rw [hz]; rfl), yaW (by omega) (by omega)]
  exact hrec hx2
 ·rw [yaE (by rw [show (0 : Int) = ((0 : Nat) : Int) from rfl, yeb]; simp [hz]), yaK hi']
  refine ylc _ (ycb _ _) _ ?_
  have hb : ybu (wd x i) ≤ 64 := (yaY _ _).2 (ycb x i)
  rw [ydF (by omega) (by omega), yat (by omega) (by omega)]
  have hx0 : x ≠ 0 := by
   intro e; subst e; exact hz (yb9 0 i (Nat.two_pow_pos _))
  have := h hx0
  rw [hwd] at hz ⊢
  rw [yfs hz] at this
  rw [show (64 * (i : Int) + (ybu (x / 2 ^ (64 * i)) : Int)) = ((64 * i + ybu (x / 2 ^ (64 * i)) : Nat) : Int) from by omega]
  exact this
theorem yio (x : Nat) (k0 : Int → Prop) (k1 : Prop) (h : x ≠ 0 → k0 (ybu x)) (h1 : x = 0 → k1) (i : Nat) : i < 6 → x < 2 ^ (64 * (i + 1)) → zdh.l2 k0 k1 (i + 2) i (W x) := by
 induction i with
 | zero =>
  intro hi hx
  refine yeJ x k0 k1 h 1 0 hi hx fun hx2 => ?_
  have hx0 : x = 0 := by
   have : x < 1 := hx2
   omega
  unfold zdh.l2 zdh.l2.step
  rw [yav (by decide)]
  exact h1 hx0
 | succ i ih =>
  intro hi hx
  refine yeJ x k0 k1 h (i + 2) (i + 1) hi hx fun hx2 => ?_
  rw [show (((i + 1 : Nat) : Int) - 1) = (i : Int) from by omega]
  exact ih (by omega) hx2
theorem ybp (x : Nat) (hx : x < Q6) (K : Int → Prop) (h : K (ybu x)) : zdh (W x) K := by
 rw [zdh.is]
 obtain ⟨i, hi⟩ : ∃ i, i = 5 := ⟨_, rfl⟩
 have := yio x K (K 0) (fun _ => h) (fun e => by subst e; exact h) i (by omega) (by rw [ycM (show 64 * (i + 1) = 384 by omega)]; exact hx)
 rw [hi] at this
 exact ⟨5 + 2, this⟩
theorem ylZ (x : Nat) (h : x < 18446744073709551616) (K : (Nat → Int) → Prop) : zdk x K = K (W x) := by
 rw [zdk.is]; unfold zdk.d; rw [yqN x h]
theorem yef (x : Nat) (h : x < 2 ^ 128) (K : Int → Int → Bool → Prop) : zdq (W x) K = K (Hi x) (Lo x) true := by
 rw [zdq.is]; unfold zdq.d
 rw [yfH x 2 h (by omega), yfH x 3 h (by omega), yfH x 4 h (by omega), yfH x 5 h (by omega), yrz x h, yrA x]
 rfl
theorem yjH (x y : Nat) (hx : x < Q6) (hy : y < Q6) (k0 : (Nat → Int) → (Nat → Int) → Prop) (z : Nat → Int) (h : k0 (W (x ||| y)) z) :
  ∀ (j i : Nat), i + j = 6 → zdm.l2 k0 (j + 1) i (mix i (x ||| y) x) (W y) z := by
 intro j
 induction j with
 | zero =>
  intro i hij
  have hx' : x < 2 ^ (64 * i) := by rw [ycM (show 64 * i = 384 by omega)]; exact hx
  have hy' : y < 2 ^ (64 * i) := by rw [ycM (show 64 * i = 384 by omega)]; exact hy
  unfold zdm.l2 zdm.l2.step
  rw [yav (ycd (by omega)), ykC _ _ i (Nat.or_lt_two_pow hx' hy') hx']
  exact h
 | succ j ih =>
  intro i hij
  have ih := ih (i + 1) (by omega)
  have e : ((i + 1 : Nat) : Int) = (i : Int) + 1 := by omega
  rw [e] at ih
  unfold zdm.l2 zdm.l2.step
  have hi : (leI 0 (i : Int) && ltI (i : Int) 6) = true := ya5 (by omega) (by omega)
  rw [yaE (ybz (by omega)), yaK hi, yaK hi, yaK hi, Int.toNat_natCast, yny, yaX, yaX, yfQ _ _ (ycb _ _) (ycb _ _), ← yrg, ← yaX, yiY, yat (by omega) (by omega)]
  exact ih
theorem ymh (x y : Nat) (hx : x < Q6) (hy : y < Q6) (K : (Nat → Int) → Prop) (h : K (W (x ||| y))) : zdm (W x) (W y) K := by
 rw [zdm.is]
 refine ⟨7, ?_⟩
 have := yjH x y hx hy (fun y0 y1 => K y0) (fun _ => 0) h 6 0 rfl
 rw [yiM] at this
 exact this
def part (z i : Nat) : Nat → Int := fun j => cond (Nat.ble i j) (W z j) 0
theorem ypc (z : Nat) (hz : z < Q6) : part z 6 = fun _ => 0 := by
 funext j
 unfold part
 cases h : Nat.ble 6 j with
 | false => rfl
 | true =>
  have hj : 6 ≤ j := Nat.le_of_ble_eq_true h
  show W z j = 0
  rw [yaX, yb9 z j]; rfl
  obtain ⟨m, hm⟩ : ∃ m : Nat, m = 384 := ⟨_, rfl⟩
  exact Nat.lt_of_lt_of_le hz (by rw [← ycM hm]; exact Nat.pow_le_pow_right (by omega) (by omega))
theorem yjA (z i : Nat) : upd (part z (i + 1)) i (W z i) = part z i := by
 funext j
 simp only [upd, part]
 by_cases h : j = i
 ·subst h
  have h1 : Nat.beq j j = true := by simp
  have h2 : Nat.ble j j = true := by simp
  rw [h1, h2]; rfl
 ·have h1 : Nat.beq j i = false := by rw [Bool.eq_false_iff]; intro hq; exact h (Nat.eq_of_beq_eq_true hq)
  have h2 : Nat.ble (i + 1) j = Nat.ble i j := by
   rw [Bool.eq_iff_iff, Nat.ble_eq, Nat.ble_eq]; omega
  rw [h1, h2]; rfl
theorem yoY (x q r : Nat) (hx : x < Q6) (hq : q ≤ 6) (hr : r < 64) : part (x * 2 ^ (64 * q + r) % Q6) q = W (x * 2 ^ (64 * q + r) % Q6) := by
 funext j
 unfold part
 cases h : Nat.ble q j with
 | true => rfl
 | false =>
  have hj : j < q := by
   apply Classical.byContradiction; intro hc
   have := Nat.ble_eq_true_of_le (show q ≤ j by omega)
   rw [this] at h; cases h
  show 0 = W _ j
  obtain ⟨m, hm⟩ : ∃ m : Nat, m = 384 := ⟨_, rfl⟩
  rw [yaX]
  have : wd (x * 2 ^ (64 * q + r) % Q6) j = 0 := by
   apply Nat.eq_of_testBit_eq; intro b
   rw [ybt, Nat.zero_testBit, ← ycM hm, Nat.testBit_mod_two_pow, ← Nat.shiftLeft_eq, Nat.testBit_shiftLeft]
   by_cases hb : b < 64
   ·have : ¬ 64 * q + r ≤ 64 * j + b := by omega
    simp [this]
   ·simp [hb]
  rw [this]; rfl
theorem yqk (a s : Nat) (ha : a < 18446744073709551616) (hs : s ≤ 64) : ya7 .u64 (a : Int) (s : Int) = ((a >>> s : Nat) : Int) := by
 by_cases h : s = 64
 ·subst h
  rw [yqi a 64 ha (by omega), Nat.shiftRight_eq_div_pow, Nat.div_eq_of_lt (by exact ha)]; rfl
 ·exact yel a s (by omega)
theorem yqj (x q r i : Nat) (hi : i < 6) (hq : q ≤ i) (hr : r < 64) :
  wd (x * 2 ^ (64 * q + r) % Q6) i = (wd x (i - q) <<< r % 18446744073709551616) ||| (if q < i then wd x (i - q - 1) >>> (64 - r) else 0) := by
 obtain ⟨m, hm⟩ : ∃ m : Nat, m = 384 := ⟨_, rfl⟩
 apply Nat.eq_of_testBit_eq; intro b
 rw [ybt, ← ycM hm, Nat.testBit_mod_two_pow, ← Nat.shiftLeft_eq, Nat.testBit_shiftLeft, Nat.testBit_or, show (18446744073709551616 : Nat) = 2 ^ 64 from rfl, Nat.testBit_mod_two_pow, Nat.testBit_shiftLeft, ybt]
 by_cases hb : b < 64
 ·have h1 : 64 * i + b < m := by omega
  by_cases hbr : r ≤ b
  ·have h2 : 64 * q + r ≤ 64 * i + b := by omega
   have h3 : b - r < 64 := by omega
   have h4 : 64 * i + b - (64 * q + r) = 64 * (i - q) + (b - r) := by omega
   split
   ·rw [Nat.testBit_shiftRight, ybt]
    have h5 : ¬ 64 - r + b < 64 := by omega
    simp [hb, h1, hbr, h2, h3, h4, h5]
   ·simp [hb, h1, hbr, h2, h3, h4]
  ·split
   ·rename_i hqi
    rw [Nat.testBit_shiftRight, ybt]
    have h2 : 64 * q + r ≤ 64 * i + b := by omega
    have h5 : 64 - r + b < 64 := by omega
    have h4 : 64 * i + b - (64 * q + r) = 64 * (i - q - 1) + (64 - r + b) := by omega
    simp [hb, h1, hbr, h2, h4, h5]
   ·have h2 : ¬ 64 * q + r ≤ 64 * i + b := by omega
    simp [hb, h1, hbr, h2]
 ·split
  ·rw [Nat.testBit_shiftRight, ybt]
   have h5 : ¬ 64 - r + b < 64 := by omega
   simp [hb, h5]
  ·simp [hb]
theorem yhr (x q r : Nat) (hx : x < Q6) (hr : r < 64) (hq : q ≤ 6) (b : Bool) (k0 : Bool → (Nat → Int) → Prop) (h : k0 b (W (x * 2 ^ (64 * q + r) % Q6))) :
  ∀ (j : Nat), q + j ≤ 6 → zdg.l5 k0 (j + 1) b q r (((q + j : Nat) : Int) - 1) (W x) (part (x * 2 ^ (64 * q + r) % Q6) (q + j)) := by
 intro j
 induction j with
 | zero =>
  intro hij
  unfold zdg.l5 zdg.l5.step
  rw [yav (yfE (by omega)), Nat.add_zero, yoY x q r hx hq hr]
  exact h
 | succ j ih =>
  intro hij
  have ih := ih (by omega)
  have e : (((q + (j + 1) : Nat) : Int) - 1) = ((q + j : Nat) : Int) := by omega
  rw [e]
  unfold zdg.l5 zdg.l5.step
  have e1 : yae .i64 ((q + j : Nat) : Int) (q : Int) = (j : Int) := by rw [yaW (by omega) (by omega)]; omega
  have e2 : yae .i64 ((q + j : Nat) : Int) 1 = ((q + j : Nat) : Int) - 1 := yaW (by omega) (by omega)
  have lw := yqj x q r (q + j) (by omega) (by omega) hr
  have lj : q + j - q = j := by omega
  rw [lj] at lw
  have ha : wd x j <<< r % 18446744073709551616 < 18446744073709551616 := Nat.mod_lt _ (by omega)
  rw [yaE (yaM (by omega)), e1, yaK (ya5 (by omega) (by omega)), yaK (yeo (by omega)), yaK (ya5 (by omega) (by omega)), Int.toNat_natCast, Int.toNat_natCast, yaX x j, yld _ r hr, e2]
  by_cases hj : j = 0
  ·rw [if_neg (by omega), Nat.or_zero] at lw
   rw [yav (ycd (by omega)), ← lw, ← yaX, show q + (j + 1) = q + j + 1 from rfl, yjA]
   exact ih
  ·rw [if_pos (by omega)] at lw
   have hs : wd x (j - 1) >>> (64 - r) < 18446744073709551616 := Nat.lt_of_le_of_lt (Nat.shiftRight_le _ _) (ycb _ _)
   have e3 : yae .i64 (j : Int) 1 = ((j - 1 : Nat) : Int) := by rw [yaW (by omega) (by omega)]; omega
   have e4 : yae .u64 64 (r : Int) = ((64 - r : Nat) : Int) := by rw [ygT (by omega) (by omega)]; omega
   rw [yaE (ybz (by omega)), yaK (ya5 (by omega) (by omega)), e3, yaK (ya5 (by omega) (by omega)), e4, yaK (yeo (by omega)), yaK (ya5 (by omega) (by omega)), ynr, yp0, Int.toNat_natCast, yaX x (j - 1), yqk _ _ (ycb _ _) (by omega), yfQ _ _ ha hs, ← lw, ← yaX, show q + (j + 1) = q + j + 1 from rfl, yjA]
   exact ih
theorem yiF (x n : Nat) (hx : x < Q6) (hn : n ≤ 384) (K : (Nat → Int) → Bool → Prop) (h : ∀ b, K (W (x * 2 ^ n % Q6)) b) : zdg (W x) n K := by
 rw [zdg.is]; unfold zdg.d
 have key : ∀ b, ∃ m, zdg.l5 (fun y0 y1 => K y1 y0) m b (yaQ IntKind.i64 (n : Int) 64) (cvI IntKind.u64 (ybv IntKind.i64 (n : Int) 64)) 5 (W x) fun x => 0 := by
  intro b
  rw [yiy n (by omega), yiI n, ybk (by omega) (by omega)]
  refine ⟨6 - n / 64 + 1, ?_⟩
  have hm : n % 64 < 64 := Nat.mod_lt _ (by omega)
  have := yhr x (n / 64) (n % 64) hx hm (by omega) b (fun y0 y1 => K y1 y0) (by rw [Nat.div_add_mod]; exact h b) (6 - n / 64) (by omega)
  rw [show n / 64 + (6 - n / 64) = 6 from by omega, ypc _ (Nat.mod_lt _ ypX)] at this
  exact this
 rw [yc6 n hn]
 refine ybp x hx _ ?_
 by_cases hc : ltI 384 (yaj IntKind.i64 (ybu x : Int) (n : Int)) = true
 ·rw [yaE hc]; exact key _
 ·rw [yav (by simpa using hc)]; exact key _
end Go.Ev.S

/- The texts of numbers of 384 bits. -/
set_option linter.unusedVariables false
set_option linter.unusedSimpArgs false
set_option maxRecDepth 8000
namespace Go.Ev.S
open Go Go.Ev
def tw (v : Nat) : List UInt8 := if v = 0 then [48] else hx v
theorem ypF {v N : Nat} (hN : N = 96) (h : v < Q6) : v < 16 ^ N := by
 rw [p16, ycM (by omega)]; exact h
theorem ypb {v : Nat} (h : v < Q6) : ybu v ≤ 384 := (yaY v 384).2 (Nat.lt_of_lt_of_eq h (ycM rfl).symm)
theorem yrd (v k : Nat) : dg 64 v (k / 16) / 2 ^ (4 * (k % 16)) % 16 = dg 4 v k := by
 unfold dg
 have hs : 4 * (k % 16) + 4 ≤ 64 := by omega
 generalize hsd : 4 * (k % 16) = s at *
 have e1 : (2 : Nat) ^ 64 = 2 ^ s * 2 ^ (64 - s) := by rw [← Nat.pow_add]; congr 1; omega
 have e2 : 2 ^ (64 - s) = 16 * 2 ^ (60 - s) := by rw [show (16 : Nat) = 2 ^ 4 from rfl, ← Nat.pow_add]; congr 1; omega
 rw [e1, Nat.mod_mul_right_div_self, e2, Nat.mod_mul_right_mod, Nat.div_div_eq_div_mul, ← Nat.pow_add, show (2 : Nat) ^ 4 = 16 from rfl]
 congr 3; omega
theorem nib (v k : Nat) : yfL .u64 (ya7 .u64 (W v (k / 16)) ((4 * (k % 16) : Nat) : Int)) 15 = ((dg 4 v k : Nat) : Int) := by
 have hw : wd v (k / 16) < 18446744073709551616 := ycb _ _
 have hb : wd v (k / 16) / 2 ^ (4 * (k % 16)) < 2 ^ IntKind.u64.bits := Nat.lt_of_le_of_lt (Nat.div_le_self _ _) hw
 rw [yaX, ydD _ _ (by omega), show (15 : Int) = ((15 : Nat) : Int) from rfl, yro rfl _ _ hb (by decide)]
 congr 1
 have := yrd v k
 have e : wd v (k / 16) = dg 64 v (k / 16) := rfl
 rw [e, show (15 : Nat) = 2 ^ 4 - 1 from rfl, Nat.and_two_pow_sub_one_eq_mod]
 exact this
theorem yln (v k : Nat) : dg 4 v k < 16 := yrq 4 v k
theorem ypf : ∀ (n x : Nat) (g : Nat → Int), (∀ j, j < n → g j = ((ykp (dg 4 x (n - 1 - j))).toNat : Int)) → x < 2 ^ (4 * n) → (n = 0 ∨ dg 4 x (n - 1) ≠ 0) → ybY n g = hx x := by
 intro n
 induction n with
 | zero =>
  intro x g _ hx' _
  have : x = 0 := by simp at hx'; omega
  subst this; rw [yb8]; rfl
 | succ n ih =>
  intro x g hg hx' ht
  have hx0 : x ≠ 0 := by
   intro e; subst e
   rcases ht with h | h
   ·omega
   ·exact h (yqt 4 0 _ (Nat.two_pow_pos _))
  have hd : ∀ j, dg 4 (x / 16) j = dg 4 x (1 + j) := fun j => by
   have := yq1 4 x 1 j
   rwa [show 2 ^ (4 * 1) = 16 from rfl] at this
  have h1 : ybY n g = hx (x / 16) := by
   refine ih (x / 16) g (fun j hj => ?_) ?_ ?_
   ·rw [hg j (by omega), hd]; congr 4; omega
   ·rw [Nat.div_lt_iff_lt_mul (by omega)]; rw [yqG] at hx'; exact hx'
   ·rcases Nat.eq_zero_or_pos n with h | h
    ·exact .inl h
    ·right
     rw [hd, show 1 + (n - 1) = n + 1 - 1 from by omega]
     exact ht.resolve_left (by omega)
  have h2 : ybY (n + 1) g = ybY n g ++ [UInt8.ofNat (g n).toNat] := by
   unfold ybY
   rw [List.range_succ, List.map_append]; rfl
  rw [h2, h1, yc2 hx0, hg n (by omega), Int.toNat_natCast, show n + 1 - 1 - n = 0 from by omega]
  congr 2
  unfold dg
  rw [Nat.mul_zero, Nat.pow_zero, Nat.div_one]
  exact UInt8.ofNat_toNat
theorem yhs (v n : Nat) (hn : n ≤ 96) (k0 : Nat → Nat → Nat → (Nat → Int) → Prop) (hk : ∀ g : Nat → Int, (∀ j, j < n → g j = ((ykp (dg 4 v (n - 1 - j))).toNat : Int)) → k0 n n n g) :
  ∀ (j i : Nat), i + j = n → ∀ g : Nat → Int, (∀ t, t < i → g t = ((ykp (dg 4 v (n - 1 - t))).toNat : Int)) → ∃ m, zdp.l4 k0 m (n : Int) n n (n : Int) (i : Int) (W v) n g := by
 intro j
 induction j with
 | zero =>
  intro i hi g hg
  refine ⟨1, ?_⟩
  unfold zdp.l4 zdp.l4.step
  rw [yav (ycd (by omega))]
  exact hk g fun t ht => hg t (by omega)
 | succ j ih =>
  intro i hi g hg
  obtain ⟨m, hm⟩ := ih (i + 1) (by omega) (upd g i ((ykp (dg 4 v (n - 1 - i))).toNat : Int)) (fun t ht => by
   by_cases h : t = i
   ·subst h; rw [ycf]
   ·rw [ydw _ _ _ _ h]; exact hg t (by omega))
  refine ⟨m + 1, ?_⟩
  unfold zdp.l4 zdp.l4.step
  have e0 : yae .i64 (yae .i64 (n : Int) 1) (i : Int) = ((n - 1 - i : Nat) : Int) := by rw [yaW (a := (n : Int)) (by omega) (by omega), yaW (by omega) (by omega)]; omega
  have e1 : yaQ .i64 ((n - 1 - i : Nat) : Int) 16 = (((n - 1 - i) / 16 : Nat) : Int) := ydM _ 16 (by omega) (by omega)
  have e2 : ybv .i64 ((n - 1 - i : Nat) : Int) 16 = (((n - 1 - i) % 16 : Nat) : Int) := yer .i64 _ 16
  have e3 : cvI .u64 (ya0 .i64 4 (((n - 1 - i) % 16 : Nat) : Int)) = ((4 * ((n - 1 - i) % 16) : Nat) : Int) := by
   rw [ydF (by omega) (by omega), ybk (by omega) (by omega)]; omega
  have hd := yln v (n - 1 - i)
  rw [yaE (ybz (by omega)), e0, e1, e2, e3, Int.toNat_natCast, nib, Int.toNat_natCast, Int.toNat_natCast, yp5 _ hd, yat (by omega) (by omega)]
  rw [yaK (by simp only [Bool.and_eq_true]; exact ⟨yaM (by omega), ybz (by omega)⟩), yaK (by rw [ycd (by omega)]; rfl), yaK (by simp only [Bool.and_eq_true]; exact ⟨yaM (by omega), ybz (by omega)⟩), yaK (by simp only [Bool.and_eq_true]; exact ⟨yaM (by omega), ybz (by omega)⟩)]
  exact hm
theorem yfS (v : Nat) (hv : v < Q6) (K : List UInt8 → Prop) (hK : K (tw v)) : zdp (W v) K := by
 rw [zdp.is]; unfold zdp.d
 refine ybp v hv _ ?_
 have hb : ybu v ≤ 384 := by
  exact ypb hv
 have hq : yaQ .i64 (yaj .i64 (ybu v : Int) 3) 4 = (((ybu v + 3) / 4 : Nat) : Int) := by
  rw [yat (by omega) (by omega), show (ybu v : Int) + 3 = ((ybu v + 3 : Nat) : Int) from by omega]; exact ydM _ 4 (by omega) (by omega)
 obtain ⟨n, hn⟩ : ∃ n : Nat, n = if (ybu v + 3) / 4 < 1 then 1 else (ybu v + 3) / 4 := ⟨_, rfl⟩
 have hm : yhm 1 (yaQ .i64 (yaj .i64 (ybu v : Int) 3) 4) = (n : Int) := by
  rw [hq, yhb, hn]; split <;> split <;> omega
 have hn96 : n ≤ 96 := by rw [hn]; split <;> omega
 have hn1 : 1 ≤ n := by rw [hn]; split <;> omega
 rw [hm, yaK (by simp only [Bool.and_eq_true]; exact ⟨yaM (by omega), yaM (by omega), yaM (by omega)⟩), Int.toNat_natCast]
 have hlt : v < 2 ^ (4 * n) := by rw [← yaY, hn]; split <;> omega
 refine yhs v n hn96 _ (fun g hg => ?_) n 0 (by omega) _ (fun t ht => by omega)
 show K (ybY n g)
 unfold tw at hK
 by_cases h0 : v = 0
 ·rw [if_pos h0] at hK
  have hn' : n = 1 := by rw [hn, h0, show ybu 0 = 0 from by decide]; rfl
  subst hn'
  have : ybY 1 g = [48] := by
   unfold ybY
   rw [show List.range 1 = [0] from rfl, List.map_cons, List.map_nil, hg 0 (by omega), h0, show dg 4 0 (1 - 1 - 0) = 0 from by decide]; rfl
  rw [this]; exact hK
 ·rw [if_neg h0] at hK
  rw [ypf n v g hg hlt (.inr ?_)]
  ·exact hK
  ·intro hz
   have h1 := yq6 4 v (n - 1)
   rw [show n - 1 + 1 = n from by omega, Nat.mod_eq_of_lt hlt, hz, Nat.zero_mul, Nat.add_zero] at h1
   have h2 : v < 2 ^ (4 * (n - 1)) := by rw [h1]; exact Nat.mod_lt _ (Nat.two_pow_pos _)
   rw [← yaY] at h2
   have : ybu v ≠ 0 := by
    intro hh
    have := (yaY v 0).1 (by omega); omega
   rw [hn] at h2
   split at h2 <;> omega
theorem ypr : ∀ x : Nat, x < 16 → ybw [48, 49, 50, 51, 52, 53, 54, 55, 56, 57, 97, 98, 99, 100, 101, 102] x (x + 1) = [ykp x] := by decide
theorem yfW (d : Nat) (hd : d < 16) (K : List UInt8 → Prop) (hK : K [ykp d]) : zbp (d : Int) K := by
 rw [zbp.is]; unfold zbp.d
 have e : yaj .u64 (d : Int) 1 = ((d + 1 : Nat) : Int) := by rw [ykQ (by omega) (by omega)]; omega
 rw [e, yaK (by simp only [Bool.and_eq_true]; exact ⟨yaM (by omega), yaM (by omega), yaM (by omega)⟩), Int.toNat_natCast, Int.toNat_natCast, ypr d hd]
 exact hK
theorem ynV (v i : Nat) : v / 16 ^ i = v / 16 ^ (i + 1) * 16 + dg 4 v i := by
 have h := yqP 4 v i
 rw [← p16, ← p16, show (2 : Nat) ^ 4 = 16 from rfl] at h
 omega
theorem ypV (v i : Nat) (h : v / 16 ^ i ≠ 0) : hx (v / 16 ^ i) = hx (v / 16 ^ (i + 1)) ++ [ykp (dg 4 v i)] := by
 have hd := ynV v i
 have hl := yln v i
 rw [yc2 h, show v / 16 ^ i / 16 = v / 16 ^ (i + 1) from by omega, show v / 16 ^ i % 16 = dg 4 v i from by omega]
theorem yi2 (v : Nat) {N : Nat} (hN : N = 96) (k0 : List UInt8 → Prop) (hk : k0 (tw v)) : ∀ i : Nat, i ≤ 95 → v < 16 ^ N → ∃ n, zbn.l3 k0 n (hx (v / 16 ^ (i + 1))) (i : Int) (W v) := by
 intro i
 induction i with
 | zero =>
  intro hi hv
  have tail : zbn.l3 k0 1 (tw v) (-1) (W v) := by
   unfold zbn.l3 zbn.l3.step
   rw [yav (yfE (by omega))]; exact hk
  refine ⟨2, ?_⟩
  unfold zbn.l3 zbn.l3.step
  have hd := yln v 0
  have e1 : yaQ .i64 ((0 : Nat) : Int) 16 = ((0 / 16 : Nat) : Int) := ydM 0 16 (by omega) (by omega)
  have e2 : ybv .i64 ((0 : Nat) : Int) 16 = ((0 % 16 : Nat) : Int) := yer .i64 0 16
  have e3 : cvI .u64 (ya0 .i64 4 ((0 % 16 : Nat) : Int)) = ((4 * (0 % 16) : Nat) : Int) := by
   rw [ydF (by omega) (by omega), ybk (by omega) (by omega)]; omega
  have hdv := ynV v 0
  rw [Nat.pow_zero, Nat.div_one] at hdv
  have hln : (hx (v / 16 ^ (0 + 1))).length ≤ 100 := by
   rw [ylL]; exact Nat.lt_of_le_of_lt (Nat.div_le_self _ _) (Nat.lt_of_lt_of_le hv (Nat.pow_le_pow_right (by omega) (by omega)))
  rw [yaE (yaM (by omega)), e1, e2, e3, Int.toNat_natCast, nib, yaK (by rfl), yaK (by rfl)]
  have go : hx (v / 16 ^ (0 + 1)) ++ [ykp (dg 4 v 0)] = tw v → zbp (dg 4 v 0 : Nat) fun y0 => gd (leI (↑(hx (v / 16 ^ (0 + 1))).length + ↑y0.length) 9223372036854775807) (zbn.l3 k0 1 (hx (v / 16 ^ (0 + 1)) ++ y0) (yae .i64 ((0 : Nat) : Int) 1) (W v)) := by
   intro ht
   refine yfW _ hd _ ?_
   rw [yaK (yaM (by simp only [List.length_cons, List.length_nil]; omega)), ht]
   exact tail
  rw [ykJ]
  by_cases hz : hx (v / 16 ^ (0 + 1)) = []
  ·have hz0 : v / 16 ^ (0 + 1) = 0 := by
    apply Classical.byContradiction; intro hh
    rw [yc2 hh] at hz; simp at hz
   have hv' : v = dg 4 v 0 := by omega
   have ht : hx (v / 16 ^ (0 + 1)) ++ [ykp (dg 4 v 0)] = tw v := by
    rw [hz0, yb8, List.nil_append, ← hv']
    unfold tw
    by_cases h0 : v = 0
    ·rw [if_pos h0, h0]; rfl
    ·rw [if_neg h0, yc2 h0, show v / 16 = 0 from by omega, yb8, show v % 16 = v from by omega]; rfl
   rw [yav (by rw [decide_eq_true hz]; rfl)]
   by_cases hd0 : dg 4 v 0 = 0
   ·rw [yav (by rw [ypM (by omega)]; rfl), yaE (ypM (by omega))]
    exact go ht
   ·rw [yaE (by rw [yls (by omega)]; rfl)]
    exact go ht
  ·have hv0 : v ≠ 0 := by
    intro hh; apply hz; rw [hh]; rw [Nat.zero_div, yb8]
   rw [yaE (by rw [decide_eq_false hz]; rfl)]
   refine go ?_
   have := ypV v 0 (by rw [Nat.pow_zero, Nat.div_one]; exact hv0)
   rw [Nat.pow_zero, Nat.div_one] at this
   unfold tw
   rw [if_neg hv0, this]
 | succ i ih =>
  intro hi hv
  obtain ⟨n, hn⟩ := ih (by omega) hv
  refine ⟨n + 1, ?_⟩
  unfold zbn.l3 zbn.l3.step
  have hd := yln v (i + 1)
  have e1 : yaQ .i64 ((i + 1 : Nat) : Int) 16 = (((i + 1) / 16 : Nat) : Int) := ydM _ 16 (by omega) (by omega)
  have e2 : ybv .i64 ((i + 1 : Nat) : Int) 16 = (((i + 1) % 16 : Nat) : Int) := yer .i64 _ 16
  have e3 : cvI .u64 (ya0 .i64 4 (((i + 1) % 16 : Nat) : Int)) = ((4 * ((i + 1) % 16) : Nat) : Int) := by
   rw [ydF (by omega) (by omega), ybk (by omega) (by omega)]; omega
  have e4 : yae .i64 ((i + 1 : Nat) : Int) 1 = (i : Int) := by rw [yaW (by omega) (by omega)]; omega
  have hln : (hx (v / 16 ^ (i + 1 + 1))).length ≤ 100 := by
   rw [ylL]; exact Nat.lt_of_le_of_lt (Nat.div_le_self _ _) (Nat.lt_of_lt_of_le hv (Nat.pow_le_pow_right (by omega) (by omega)))
  have hdv := ynV v (i + 1)
  rw [yaE (yaM (by omega)), e1, e2, e3, e4, Int.toNat_natCast, nib, yaK (by simp only [Bool.and_eq_true]; exact ⟨yaM (by omega), ybz (by omega)⟩), yaK (by rw [ycd (by omega)]; rfl)]
  have go : v / 16 ^ (i + 1) ≠ 0 → zbp (dg 4 v (i + 1) : Nat) fun y0 => gd (leI (↑(hx (v / 16 ^ (i + 1 + 1))).length + ↑y0.length) 9223372036854775807) (zbn.l3 k0 n (hx (v / 16 ^ (i + 1 + 1)) ++ y0) (i : Int) (W v)) := by
   intro h0
   refine yfW _ hd _ ?_
   rw [yaK (yaM (by simp only [List.length_cons, List.length_nil]; omega)), ← ypV v (i + 1) h0]
   exact hn
  rw [ykJ]
  by_cases hz : hx (v / 16 ^ (i + 1 + 1)) = []
  ·have hz0 : v / 16 ^ (i + 1 + 1) = 0 := by
    apply Classical.byContradiction; intro hh
    rw [yc2 hh] at hz; simp at hz
   rw [yav (by rw [decide_eq_true hz]; rfl)]
   by_cases hd0 : dg 4 v (i + 1) = 0
   ·rw [yav (by rw [ypM (by omega)]; rfl), yav (yls (by omega))]
    have : v / 16 ^ (i + 1) = v / 16 ^ (i + 1 + 1) := by omega
    rw [this] at hn; exact hn
   ·rw [yaE (by rw [yls (by omega)]; rfl)]
    exact go (by omega)
  ·rw [yaE (by rw [decide_eq_false hz]; rfl)]
   refine go fun hh => hz ?_
   have : v / 16 ^ (i + 1 + 1) = 0 := by omega
   rw [this, yb8]
theorem ygL (v : Nat) (hv : v < Q6) (K : List UInt8 → Prop) (hK : K (tw v)) : zbn (W v) K := by
 rw [zbn.is]; unfold zbn.d
 obtain ⟨N, hN⟩ : ∃ N, N = 96 := ⟨_, rfl⟩
 have hv := ypF hN hv
 have := yi2 v hN K hK 95 (by omega) hv
 rw [show (95 + 1 : Nat) = N from hN.symm, Nat.div_eq_of_lt hv, yb8] at this
 exact this
end Go.Ev.S

/- Natural numbers as rows of words: moved to the left and to the right; how long they are. -/
set_option linter.unusedVariables false
set_option linter.unusedSimpArgs false
set_option maxRecDepth 8000
namespace Go.Ev.S
open Go Go.Ev
theorem yqF {d m r : Nat} (hd : d < 2 ^ r) (hm : m % 2 ^ r = 0) : d ||| m = d + m := by
 have h5 := Nat.div_add_mod m (2 ^ r)
 rw [hm, Nat.add_zero, Nat.mul_comm] at h5
 have := Nat.shiftLeft_add_eq_or_of_lt hd (m / 2 ^ r)
 rw [Nat.shiftLeft_eq, h5] at this
 rw [Nat.or_comm, ← this, Nat.add_comm]
end Go.Ev.S

/- Natural numbers as rows of words: divided. -/
set_option linter.unusedVariables false
set_option linter.unusedSimpArgs false
set_option maxRecDepth 8000
namespace Go.Ev.S
open Go Go.Ev
end Go.Ev.S

/- Natural numbers as rows of words: the loop of the long division. -/
set_option linter.unusedVariables false
set_option linter.unusedSimpArgs false
set_option maxRecDepth 8000
namespace Go.Ev.S
open Go Go.Ev
end Go.Ev.S

/- Natural numbers: quotients, greatest common divisors, roots. -/
set_option linter.unusedVariables false
set_option linter.unusedSimpArgs false
set_option maxRecDepth 8000
namespace Go.Ev.S
open Go Go.Ev
end Go.Ev.S

/- What the document's answer reckons with natural numbers: products. -/
set_option linter.unusedVariables false
set_option linter.unusedSimpArgs false
set_option maxRecDepth 8000
namespace Go.Ev.S
open Go Go.Ev
end Go.Ev.S

/- What the document's answer reckons with natural numbers: made, measured, moved. -/
set_option linter.unusedVariables false
set_option linter.unusedSimpArgs false
set_option maxRecDepth 8000
namespace Go.Ev.S
open Go Go.Ev
end Go.Ev.S

/- What the document's answer reckons with natural numbers: quotients, greatest common divisors, roots. -/
set_option linter.unusedVariables false
set_option linter.unusedSimpArgs false
set_option maxRecDepth 8000
namespace Go.Ev.S
open Go Go.Ev
end Go.Ev.S

/- The laws of natural numbers that need no quotient: sums, products, a ring. -/
set_option linter.unusedVariables false
set_option linter.unusedSimpArgs false
set_option maxRecDepth 8000
namespace Go.Ev.S
open Go Go.Ev
theorem yik (a : List UInt8) : eqS a a = true := by simp [eqS]
theorem yim (a : Int) : eqI a a = true := by simp [eqI]
end Go.Ev.S

/- The law of shifts. -/
set_option linter.unusedVariables false
set_option linter.unusedSimpArgs false
set_option maxRecDepth 8000
namespace Go.Ev.S
open Go Go.Ev
end Go.Ev.S

/- The formats: their numbers, and the encodings that have names. -/
set_option linter.unusedVariables false
set_option linter.unusedSimpArgs false
set_option maxRecDepth 8000
namespace Go.Ev.S
open Go Go.Ev
def fw : Nat → Nat | 0 => 32 | 1 => 64 | 2 => 16 | 3 => 128 | _ => 0
def fp : Nat → Nat | 0 => 24 | 1 => 53 | 2 => 11 | 3 => 113 | _ => 0
def fe : Nat → Nat | 0 => 127 | 1 => 1023 | 2 => 15 | 3 => 16383 | _ => 0
def sg (f : Nat) (neg : Bool) : Nat := cond neg (2 ^ (fw f - 1)) 0
def enc (f : Nat) (neg : Bool) (e t : Nat) : Nat := sg f neg + e * 2 ^ (fp f - 1) + t
theorem yea {f : Nat} (h : f ≤ 3) : f = 0 ∨ f = 1 ∨ f = 2 ∨ f = 3 := by omega
theorem ybf (f : Nat) (h : f ≤ 3) (K : Int → Prop) : zco f K = K 0 := by
 rw [zco.is]; unfold zco.d; rw [yav (ycd (by omega))]
theorem yhv (f : Nat) (h : 3 < f) (K : Int → Prop) : zco f K = K 2 := by
 rw [zco.is]; unfold zco.d; rw [yaE (ybz (by omega))]
theorem ybe (f : Nat) (h : f ≤ 3) (K : Int → Prop) : zcu f K = K (fw f) := by
 rw [zcu.is]; unfold zcu.d; rw [zcy.is]
 rcases yea h with rfl | rfl | rfl | rfl <;> kernel_rfl
theorem yas (f : Nat) (h : f ≤ 3) (K : Int → Prop) : zct f K = K (fp f) := by
 rw [zct.is]; unfold zct.d; rw [zcy.is]
 rcases yea h with rfl | rfl | rfl | rfl <;> kernel_rfl
theorem ybb (f : Nat) (h : f ≤ 3) (K : Int → Prop) : zcp f K = K (fe f) := by
 rw [zcp.is]; unfold zcp.d; rw [zcy.is]
 rcases yea h with rfl | rfl | rfl | rfl <;> kernel_rfl
theorem yce (f : Nat) (h : f ≤ 3) (K : Int → Prop) : zcq f K = K (1 - (fe f : Int)) := by
 rw [zcq.is]; unfold zcq.d; rw [ybf f h, ybb f h]
 rcases yea h with rfl | rfl | rfl | rfl <;> kernel_rfl
theorem yiO (f : Nat) (h : f ≤ 3) (K : Int → Int → Prop) : (zcu f fun y0 => zcw 1 (yae IntKind.i64 y0 1) K) = K (Hi (2 ^ (fw f - 1))) (Lo (2 ^ (fw f - 1))) := by
 rw [ybe f h, zcw.is]
 rcases yea h with rfl | rfl | rfl | rfl <;> kernel_rfl
theorem yrn (f : Nat) (h : f ≤ 3) (neg : Bool) : sg f neg < 2 ^ 128 := by
 rcases yea h with rfl | rfl | rfl | rfl <;> cases neg <;> decide
theorem yeE (f x : Nat) (h : f ≤ 3) (hx : x < 2 ^ 128) (neg : Bool) (K : Int → Int → Prop) : zcz f (Hi x) (Lo x) neg K = K (Hi (x ||| sg f neg)) (Lo (x ||| sg f neg)) := by
 rw [zcz.is]; unfold zcz.d; rw [ybf f h, yav (by decide)]
 cases neg with
 | false => rw [yav rfl]; simp [sg]
 | true =>
  rw [yaE rfl, yiO f h]
  obtain ⟨h1, h2⟩ := yqY x (2 ^ (fw f - 1)) hx (yrn f h true)
  rw [h1, h2]; rfl
theorem HiLo_zero : Hi 0 = 0 ∧ Lo 0 = 0 := ⟨rfl, rfl⟩
theorem ydh (f : Nat) (h : f ≤ 3) (neg : Bool) (K : Int → Int → Prop) : zcv f neg K = K (Hi (enc f neg 0 0)) (Lo (enc f neg 0 0)) := by
 rw [zcv.is]; unfold zcv.d
 have := yeE f 0 h (by decide) neg K
 rw [HiLo_zero.1, HiLo_zero.2, Nat.zero_or] at this
 rw [this]; simp [enc]
theorem yhE (f e : Nat) (h : f ≤ 3) (he : e = 1 ∨ e = fe f ∨ e = 2 * fe f + 1) (K : Int → Int → Prop) : zcx f e K = K (Hi (e * 2 ^ (fp f - 1))) (Lo (e * 2 ^ (fp f - 1))) := by
 rw [zcx.is]; unfold zcx.d; rw [yas f h, zcw.is]
 rcases he with rfl | rfl | rfl <;> rcases yea h with rfl | rfl | rfl | rfl <;> kernel_rfl
theorem ypE (f e : Nat) (h : f ≤ 3) (he : e = 1 ∨ e = fe f ∨ e = 2 * fe f + 1) (neg : Bool) : (e * 2 ^ (fp f - 1)) ||| sg f neg = enc f neg e 0 ∧ e * 2 ^ (fp f - 1) < 2 ^ 128 := by
 rcases he with rfl | rfl | rfl <;> rcases yea h with rfl | rfl | rfl | rfl <;> cases neg <;> decide
theorem yfG (f : Nat) (h : f ≤ 3) (neg : Bool) (K : Int → Int → Prop) : zcs f neg K = K (Hi (enc f neg (2 * fe f + 1) 0)) (Lo (enc f neg (2 * fe f + 1) 0)) := by
 rw [zcs.is]; unfold zcs.d; rw [ybf f h, yav (by decide), ybb f h]
 have e1 : yaj IntKind.i64 (ya0 IntKind.i64 2 (fe f)) 1 = ((2 * fe f + 1 : Nat) : Int) := by rcases yea h with rfl | rfl | rfl | rfl <;> decide
 obtain ⟨h1, h2⟩ := ypE f _ h (.inr (.inr rfl)) neg
 rw [e1, yhE f _ h (.inr (.inr rfl)), yeE f _ h h2 neg, h1]
theorem ybr (f x : Nat) (h : f ≤ 3) (hx : x < 2 ^ 128) (K : Bool → Prop) : zcr f (Hi x) (Lo x) K = K (decide (x < 2 ^ fw f)) := by
 rw [zcr.is]; unfold zcr.d
 have ez : eqI (Hi x) 0 = decide (x / 18446744073709551616 = 0) := by
  unfold Hi; rw [show (0 : Int) = ((0 : Nat) : Int) from rfl, yeb]
 have es : ∀ w : Nat, w < 64 → eqI (ya7 .u64 (Lo x) (w : Int)) 0 = decide (x % 18446744073709551616 < 2 ^ w) := by
  intro w hw
  unfold Lo
  rw [yel _ w hw, Nat.shiftRight_eq_div_pow, show (0 : Int) = ((0 : Nat) : Int) from rfl, yeb, decide_eq_decide, Nat.div_eq_zero_iff]
  have := Nat.two_pow_pos w
  omega
 have hx' : x < 340282366920938463463374607431768211456 := hx
 rcases yea h with rfl | rfl | rfl | rfl
 ·rw [yav (by decide), yav (by decide), yaE (by decide), yaE (by decide), ez, ybe 0 (by omega)]
  show br (decide (x / 18446744073709551616 = 0)) (gd (!ltI (cvI IntKind.u64 ((32 : Nat) : Int)) 0) (K (eqI (ya7 .u64 (Lo x) (cvI IntKind.u64 ((32 : Nat) : Int))) 0))) (K false) = K (decide (x < 2 ^ 32))
  rw [ybk (by omega) (by omega), yaK (yeo (by omega)), es 32 (by omega), show (2 : Nat) ^ 32 = 4294967296 from rfl]
  by_cases hq : x / 18446744073709551616 = 0
  ·rw [yaE (by simp [hq])]; congr 1; rw [decide_eq_decide]; omega
  ·rw [yav (by simp [hq])]; congr 1; symm; rw [decide_eq_false_iff_not]; omega
 ·rw [yav (by decide), yaE (by decide), ez]
  show K _ = K (decide (x < 2 ^ 64))
  congr 1; rw [decide_eq_decide, show (2 : Nat) ^ 64 = 18446744073709551616 from rfl]; omega
 ·rw [yav (by decide), yav (by decide), yav (by decide), yaE (by decide), ez, ybe 2 (by omega)]
  show br (decide (x / 18446744073709551616 = 0)) (gd (!ltI (cvI IntKind.u64 ((16 : Nat) : Int)) 0) (K (eqI (ya7 .u64 (Lo x) (cvI IntKind.u64 ((16 : Nat) : Int))) 0))) (K false) = K (decide (x < 2 ^ 16))
  rw [ybk (by omega) (by omega), yaK (yeo (by omega)), es 16 (by omega), show (2 : Nat) ^ 16 = 65536 from rfl]
  by_cases hq : x / 18446744073709551616 = 0
  ·rw [yaE (by simp [hq])]; congr 1; rw [decide_eq_decide]; omega
  ·rw [yav (by simp [hq])]; congr 1; symm; rw [decide_eq_false_iff_not]; omega
 ·rw [yaE (by decide)]
  congr 1; symm; rw [decide_eq_true_eq]; exact hx
theorem yeR (f : Nat) (h : 3 < f) (hi lo : Int) (K : Bool → Prop) : zcr f hi lo K = K false := by
 rw [zcr.is]; unfold zcr.d
 rw [yav (yls (by omega)), yav (yls (by omega)), yav (yls (by omega)), yav (yls (by omega))]
end Go.Ev.S

/- The document's answer on formats: an encoding of its fields, and its fields. -/
set_option linter.unusedVariables false
set_option linter.unusedSimpArgs false
set_option maxRecDepth 8000
namespace Go.Ev.S
open Go Go.Ev
theorem yb3 (f : Nat) (h : f ≤ 3) (K : Bool → Prop) : zcb f K = K true := by
 rw [zcb.is]; unfold zcb.d; rw [yaM (by omega)]
theorem yfP (f : Nat) (h : 3 < f) (K : Bool → Prop) : zcb f K = K false := by
 rw [zcb.is]; unfold zcb.d; rw [yfE (by omega)]
theorem ydO (f : Nat) (h : f ≤ 3) (K : Int → Prop) : zcc f K = K (fw f) := by
 rw [zcc.is]
 rcases yea h with rfl | rfl | rfl | rfl <;> kernel_rfl
theorem yaB (f : Nat) (h : f ≤ 3) (K : Int → Prop) : zca f K = K (fp f) := by
 rw [zca.is]
 rcases yea h with rfl | rfl | rfl | rfl <;> kernel_rfl
theorem ydo (f : Nat) (h : f ≤ 3) (K : Int → Prop) : zbu f K = K (fe f) := by
 rw [zbu.is]
 rcases yea h with rfl | rfl | rfl | rfl <;> kernel_rfl
theorem ygR (f : Nat) (h : f ≤ 3) (K : Int → Prop) : zbv f K = K (1 - (fe f : Int)) := by
 rw [zbv.is]; unfold zbv.d; rw [yb3 f h, ydo f h]
 rcases yea h with rfl | rfl | rfl | rfl <;> kernel_rfl
theorem ycz (f : Nat) (h : f ≤ 3) (K : Int → Prop) : zbz f K = K ((2 * fe f + 1 : Nat)) := by
 rw [zbz.is]; unfold zbz.d; rw [ydo f h]
 rcases yea h with rfl | rfl | rfl | rfl <;> kernel_rfl
theorem yrp (f : Nat) (h : f ≤ 3) : 2 ^ (fw f - 1) = (2 * fe f + 2) * 2 ^ (fp f - 1) := by rcases yea h with rfl | rfl | rfl | rfl <;> decide
theorem ybK (f : Nat) (h : f ≤ 3) : 1 ≤ fw f ∧ fw f ≤ 128 ∧ 2 ≤ fp f ∧ fp f ≤ 113 ∧ fp f < fw f ∧ 2 * fe f + 1 < 32768 := by rcases yea h with rfl | rfl | rfl | rfl <;> decide
theorem yfp {f e t : Nat} (h : f ≤ 3) (he : e ≤ 2 * fe f + 1) (ht : t < 2 ^ (fp f - 1)) : e * 2 ^ (fp f - 1) + t < 2 ^ (fw f - 1) := by
 rw [yrp f h]
 have : (e + 1) * 2 ^ (fp f - 1) ≤ (2 * fe f + 2) * 2 ^ (fp f - 1) := Nat.mul_le_mul_right _ (by omega)
 rw [Nat.add_mul, Nat.one_mul] at this
 omega
theorem ybJ {f e t : Nat} (h : f ≤ 3) (he : e ≤ 2 * fe f + 1) (ht : t < 2 ^ (fp f - 1)) (neg : Bool) : enc f neg e t < 2 ^ fw f := by
 have h1 := yfp h he ht
 have h2 := (ybK f h).1
 have h3 : 2 ^ fw f = 2 ^ (fw f - 1) + 2 ^ (fw f - 1) := by
  have : fw f = fw f - 1 + 1 := by omega
  conv => lhs; rw [this, Nat.pow_succ]
  omega
 unfold enc sg
 cases neg <;> simp <;> omega
theorem yqV {a : Nat} (h : a ≤ 128) {x : Nat} (hx : x < 2 ^ a) : x < 2 ^ 128 := Nat.lt_of_lt_of_le hx (Nat.pow_le_pow_right (by omega) h)
theorem ybn (f e t : Nat) (h : f ≤ 3) (he : e ≤ 2 * fe f + 1) (ht : t < 2 ^ (fp f - 1)) (neg : Bool) (K : Int → Int → Prop) (hK : K (Hi (enc f neg e t)) (Lo (enc f neg e t))) : zbt f neg e (W t) K := by
 obtain ⟨w1, w2, w3, w4, w5, w6⟩ := ybK f h
 have hb := yfp h he ht
 have hen := ybJ h he ht neg
 have hb' : e * 2 ^ (fp f - 1) + t < Q6 := ylw (by omega) hb
 have he1 : e * 2 ^ (fp f - 1) < Q6 := by omega
 have ht1 : t < Q6 := ylw (by omega) ht
 rw [zbt.is]; unfold zbt.d
 rw [yb3 f h, yav (by decide), ybk (by omega) (by omega), ygE e (by omega), yaB f h, show yae IntKind.i64 (fp f : Int) 1 = ((fp f - 1 : Nat) : Int) from by rw [yaW (by omega) (by omega)]; omega]
 refine ydi e (fp f - 1) (ylw (a := 64) (by omega) (by omega)) (by omega) _ ?_
 rw [Nat.mod_eq_of_lt he1]
 refine yfr _ _ he1 ht1 _ ?_
 rw [Nat.mod_eq_of_lt hb']
 cases neg with
 | false =>
  rw [yav rfl]
  rw [yfe _ (yqV (by omega) hb)]
  have : enc f false e t = e * 2 ^ (fp f - 1) + t := by simp [enc, sg]
  rw [this] at hK; exact hK
 | true =>
  have e1 : enc f true e t = e * 2 ^ (fp f - 1) + t + 2 ^ (fw f - 1) := by simp [enc, sg]; omega
  rw [e1] at hK hen
  have hen' : e * 2 ^ (fp f - 1) + t + 2 ^ (fw f - 1) < Q6 := ylw (by omega) hen
  rw [yaE rfl, show (1 : Int) = ((1 : Nat) : Int) from rfl, ygE 1 (by omega), ydO f h, show yae IntKind.i64 (fw f : Int) ((1 : Nat) : Int) = ((fw f - 1 : Nat) : Int) from by rw [yaW (by omega) (by omega)]; omega]
  refine ydi 1 (fw f - 1) (ylw (a := 64) (by omega) (by omega)) (by omega) _ ?_
  have h1 : 2 ^ (fw f - 1) < Q6 := yqX (by omega)
  rw [Nat.one_mul, Nat.mod_eq_of_lt h1]
  refine yfr _ _ hb' h1 _ ?_
  rw [Nat.mod_eq_of_lt hen', yfe _ (yqV (by omega) hen)]
  exact hK
theorem W0 : (fun _ => (0 : Int)) = W 0 := W_zero.symm
theorem yhU (f : Nat) (h : f ≤ 3) (neg : Bool) (K : Int → Int → Prop) (hK : K (Hi (enc f neg (2 * fe f + 1) 0)) (Lo (enc f neg (2 * fe f + 1) 0))) : zby f neg K := by
 rw [zby.is]; unfold zby.d; rw [ycz f h, W0]
 exact ybn f _ _ h (Nat.le_refl _) (Nat.two_pow_pos _) neg _ hK
theorem ygW (f : Nat) (h : f ≤ 3) (neg : Bool) (K : Int → Int → Prop) (hK : K (Hi (enc f neg 0 0)) (Lo (enc f neg 0 0))) : zcd f neg K := by
 rw [zcd.is]; unfold zcd.d; rw [W0, show (0 : Int) = ((0 : Nat) : Int) from rfl]
 exact ybn f _ _ h (by omega) (Nat.two_pow_pos _) neg _ hK
theorem ydj (f x : Nat) (h : f ≤ 3) (hx : x < 2 ^ 128) (K : Bool → Prop) (hK : K (decide (x < 2 ^ fw f))) : zbx f (Hi x) (Lo x) K := by
 rw [zbx.is]; unfold zbx.d; rw [yb3 f h, yaE (by decide), yeG x hx]
 refine ybI x (ylw (a := 128) (by omega) hx) _ ?_
 rw [ydO f h, yqR]
 have : decide (ybu x ≤ fw f) = decide (x < 2 ^ fw f) := by rw [decide_eq_decide]; exact yaY x _
 rw [this]; exact hK
theorem ykR (f : Nat) (h : 3 < f) (hi lo : Int) (K : Bool → Prop) : zbx f hi lo K = K false := by
 rw [zbx.is]; unfold zbx.d; rw [yfP f h]; rfl
end Go.Ev.S

/- The plain law of ShapeMakes, and that of ShapeNumbers. -/
set_option linter.unusedVariables false
set_option linter.unusedSimpArgs false
set_option maxRecDepth 8000
namespace Go.Ev.S
open Go Go.Ev
theorem yqL {a : Int} (w : (Lit.int .u8 a).wf = true) : ∃ n : Nat, a = n ∧ n < 256 := by
 obtain ⟨h1, h2⟩ := ypn w
 exact ⟨a.toNat, by omega, by omega⟩
theorem yob {a : Int} (w : (Lit.int .u64 a).wf = true) : ∃ n : Nat, a = n ∧ n < 18446744073709551616 := by
 obtain ⟨h1, h2⟩ := ynq w
 exact ⟨a.toNat, by omega, by omega⟩
theorem ypw {a b : Int} (w : (Lit.int .u64 a).wf = true) (w2 : (Lit.int .u64 b).wf = true) : ∃ x : Nat, x < 2 ^ 128 ∧ a = Hi x ∧ b = Lo x := by
 obtain ⟨n, rfl, h1⟩ := yob w
 obtain ⟨m, rfl, h2⟩ := yob w2
 exact ⟨two n m, yq5 h1 h2, (yq0 h2).symm, (yqU h2).symm⟩
theorem yqm {x : Nat} {p q : Prop} (h : p) : br (eqI (Hi x) (Hi x) && eqI (Lo x) (Lo x)) p q := by rw [yp3, yaE (by simp)]; exact h
end Go.Ev.S

/- Natural numbers made of words, told as words. -/
set_option linter.unusedVariables false
set_option linter.unusedSimpArgs false
set_option maxRecDepth 8000
namespace Go.Ev.S
open Go Go.Ev
theorem yiV : ∀ (n : Nat) (g : Nat → Int), eqN n g g = true
 | 0, _ => rfl
 | n + 1, g => by unfold eqN; simp [yiV n g, yim]
end Go.Ev.S

/- Exact numbers: which may be; made, told. -/
set_option linter.unusedVariables false
set_option linter.unusedSimpArgs false
set_option maxRecDepth 8000
namespace Go.Ev.S
open Go Go.Ev
def fit (x : Nat) : Prop := (nb x).length ≤ 16384
instance (x : Nat) : Decidable (fit x) := by unfold fit; infer_instance
def win (e : Int) : Prop := -1048576 ≤ e ∧ e ≤ 1048576
instance (e : Int) : Decidable (win e) := by unfold win; infer_instance
structure yrF (n : Bool) (a b : List UInt8) (e : Int) : Prop where
 ma : May a
 mb : May b
 ob : val b % 2 = 1
 we : win e
 z : a = [] → n = false ∧ b = [1] ∧ e = 0
 r : a ≠ [] → val a % 2 = 1 ∧ Nat.gcd (val a) (val b) = 1
noncomputable instance (n : Bool) (a b : List UInt8) (e : Int) : Decidable (yrF n a b e) := Classical.propDecidable _
end Go.Ev.S

/- Exact numbers added, multiplied, compared, measured: the document's. -/
set_option linter.unusedVariables false
set_option linter.unusedSimpArgs false
set_option maxRecDepth 8000
namespace Go.Ev.S
open Go Go.Ev
def lv (a bd : Nat) (ae n : Int) : Nat := a * bd * 2 ^ (ae - n).toNat
section
variable {n1 n2 : Bool} {a1 b1 a2 b2 : Nat} {e1 e2 : Int}
theorem ynG {c : Prop} [Decidable c] {p q : Prop} (h1 : c → p) (h2 : ¬ c → q) : br (decide c) p q := by
 by_cases h : c
 ·rw [yaE (by simpa using h)]; exact h1 h
 ·rw [yav (by simpa using h)]; exact h2 h
theorem yqs {c : Prop} [Decidable c] {p q : Prop} (h1 : ¬ c → p) (h2 : c → q) : br (!decide c) p q := by
 by_cases h : c
 ·rw [yav (by simpa using h)]; exact h2 h
 ·rw [yaE (by simpa using h)]; exact h1 h
end
end Go.Ev.S

/- Exact numbers scaled, measured, cut: the document's. -/
set_option linter.unusedVariables false
set_option linter.unusedSimpArgs false
set_option maxRecDepth 8000
namespace Go.Ev.S
open Go Go.Ev
def tp (a b : Nat) : Int :=
 if ybu b ≤ ybu a then (if b * 2 ^ (ybu a - ybu b) ≤ a then ((ybu a - ybu b : Nat) : Int) else ((ybu a - ybu b : Nat) : Int) - 1)
 else (if b ≤ a * 2 ^ (ybu b - ybu a) then -((ybu b - ybu a : Nat) : Int) else -((ybu b - ybu a : Nat) : Int) - 1)
end Go.Ev.S

/- Exact numbers added, multiplied, compared, measured: the abacus. -/
set_option linter.unusedVariables false
set_option linter.unusedSimpArgs false
set_option maxRecDepth 8000
namespace Go.Ev.S
open Go Go.Ev
section
variable {n1 n2 : Bool} {a1 b1 a2 b2 : Nat} {e1 e2 : Int}
end
end Go.Ev.S

/- Exact numbers as rational ones. -/
set_option linter.unusedVariables false
set_option linter.unusedSimpArgs false
set_option maxRecDepth 8000
namespace Go.Ev.S
open Go Go.Ev
def p2 (e : Int) : Rat := (2 : Rat) ^ e
def sR (n : Bool) : Rat := if n then -1 else 1
def V (n : Bool) (a b : Nat) (e : Int) : Rat := sR n * ((a : Rat) / (b : Rat)) * p2 e
end Go.Ev.S

/- Encodings, their fields and their signs: the abacus and the document's answer. -/
set_option linter.unusedVariables false
set_option linter.unusedSimpArgs false
set_option maxRecDepth 8000
namespace Go.Ev.S
open Go Go.Ev
def ng (f x : Nat) : Bool := x.testBit (fw f - 1)
def ex (f x : Nat) : Nat := x / 2 ^ (fp f - 1) % (2 * fe f + 2)
def fr (f x : Nat) : Nat := x % 2 ^ (fp f - 1)
def ymi (f x : Nat) : Nat := x ^^^ 2 ^ (fw f - 1)
theorem yk5 (f x : Nat) : ex f x ≤ 2 * fe f + 1 := by unfold ex; have := Nat.mod_lt (x / 2 ^ (fp f - 1)) (show 0 < 2 * fe f + 2 by omega); omega
theorem ygv (f x : Nat) : fr f x < 2 ^ (fp f - 1) := Nat.mod_lt _ (Nat.two_pow_pos _)
theorem yol (f : Nat) (h : f ≤ 3) : 2 * fe f + 2 = 2 ^ (fw f - fp f) := by rcases yea h with rfl | rfl | rfl | rfl <;> decide
theorem yiH (f : Nat) (h : f ≤ 3) : fw f - 1 = (fp f - 1) + (fw f - fp f) ∧ fw f = fw f - 1 + 1 := by rcases yea h with rfl | rfl | rfl | rfl <;> decide
theorem ynn (f x : Nat) (h : f ≤ 3) (hx : x < 2 ^ fw f) : enc f (ng f x) (ex f x) (fr f x) = x := by
 have h1 : x = x / 2 ^ (fp f - 1) * 2 ^ (fp f - 1) + fr f x := by
  unfold fr; have := Nat.div_add_mod x (2 ^ (fp f - 1)); rw [Nat.mul_comm]; omega
 have h2 : x % 2 ^ (fw f - 1) = ex f x * 2 ^ (fp f - 1) + fr f x := by
  unfold ex fr
  rw [yol f h, (yiH f h).1, Nat.pow_add, Nat.mod_mul]
  rw [Nat.mul_comm]; omega
 have h3 := ycG x (fw f - 1)
 rw [← (yiH f h).2, Nat.mod_eq_of_lt hx] at h3
 unfold enc sg
 unfold ng
 cases hb : x.testBit (fw f - 1) with
 | false => rw [hb] at h3; simp at h3; simp only [cond_false]; omega
 | true => rw [hb] at h3; simp at h3; simp only [cond_true]; omega
theorem you (b k : Nat) (h : b < 2 ^ k) : b ^^^ 2 ^ k = b + 2 ^ k := by
 rw [← ygq b k h]
 apply Nat.eq_of_testBit_eq; intro j
 rw [Nat.testBit_xor, Nat.testBit_or, Nat.testBit_two_pow]
 by_cases hj : k = j
 ·subst hj
  rw [Nat.testBit_lt_two_pow h]; simp
 ·simp [hj]
theorem ynO (f x : Nat) : ymi f (ymi f x) = x := by unfold ymi; rw [Nat.xor_assoc, Nat.xor_self, Nat.xor_zero]
theorem yox (f x : Nat) (h : f ≤ 3) (hx : x < 2 ^ fw f) : ymi f x < 2 ^ fw f :=
 Nat.xor_lt_two_pow hx (Nat.pow_lt_pow_right (by omega) (by have := (yiH f h).2; omega))
theorem ylY (f x : Nat) (h : f ≤ 3) (hx : x < 2 ^ fw f) : enc f (!ng f x) (ex f x) (fr f x) = ymi f x := by
 have hb := yfp h (yk5 f x) (ygv f x)
 have e := ynn f x h hx
 unfold enc sg at e ⊢
 cases hn : ng f x with
 | false =>
  rw [hn] at e
  simp only [cond_false] at e
  simp only [Bool.not_false, cond_true]
  unfold ymi
  rw [you x _ (by omega)]; omega
 | true =>
  rw [hn] at e
  simp only [cond_true] at e
  simp only [Bool.not_true, cond_false]
  have e2 : x = ymi f (ex f x * 2 ^ (fp f - 1) + fr f x) := by
   unfold ymi; rw [you _ _ (by omega)]; omega
  rw [e2, ynO, ← e2]; omega
theorem yn0 {f x : Nat} (h : f ≤ 3) (hx : x < 2 ^ fw f) : x < 2 ^ 128 := yqV (ybK f h).2.1 hx
theorem xQ6 {f x : Nat} (h : f ≤ 3) (hx : x < 2 ^ fw f) : x < Q6 := ylw (by have := (ybK f h).2.1; omega) hx
theorem yqa (a b : Nat) (ha : a < 9223372036854775808) (hb : b < 9223372036854775808) : yfL .i64 a b = ((a &&& b : Nat) : Int) := by
 have h1 : (BitVec.ofInt 64 (a : Int)) = BitVec.ofNat 64 a := by simp
 have h2 : (BitVec.ofInt 64 (b : Int)) = BitVec.ofNat 64 b := by simp
 have h3 : a &&& b < 9223372036854775808 := Nat.lt_of_le_of_lt Nat.and_le_left ha
 show IntKind.wrap .i64 (((BitVec.ofInt 64 (a : Int) &&& BitVec.ofInt 64 (b : Int) : BitVec 64).toNat : Nat) : Int) = _
 rw [h1, h2]
 rw [BitVec.toNat_and, BitVec.toNat_ofNat, BitVec.toNat_ofNat, Nat.mod_eq_of_lt (by omega), Nat.mod_eq_of_lt (by omega)]
 exact yhc (by omega) (by omega)
theorem yos (f : Nat) (h : f ≤ 3) : yae .i64 (fw f : Int) 1 = ((fw f - 1 : Nat) : Int) := by rcases yea h with rfl | rfl | rfl | rfl <;> decide
theorem yfY (f : Nat) (h : f ≤ 3) : yae .i64 (fp f : Int) 1 = ((fp f - 1 : Nat) : Int) := by rcases yea h with rfl | rfl | rfl | rfl <;> decide
theorem yqQ (f : Nat) (h : f ≤ 3) : yae .i64 (fp f : Int) 2 = ((fp f - 2 : Nat) : Int) := by rcases yea h with rfl | rfl | rfl | rfl <;> decide
theorem yqE (x : Nat) (h : x < 18446744073709551616) : W x 0 = (x : Int) := by
 rw [yaX]; unfold wd; rw [Nat.mul_zero, Nat.pow_zero, Nat.div_one, Nat.mod_eq_of_lt h]
theorem yoB (f x : Nat) (h : f ≤ 3) (hx : x < 2 ^ fw f) : yfL .i64 (cvI .i64 (W (x / 2 ^ (fp f - 1)) 0)) ((2 * fe f + 1 : Nat) : Int) = (ex f x : Int) := by
 have h1 : x / 2 ^ (fp f - 1) < 131072 := by
  rw [Nat.div_lt_iff_lt_mul (Nat.two_pow_pos _)]
  have h3 : 2 ^ fw f ≤ 131072 * 2 ^ (fp f - 1) := by rcases yea h with rfl | rfl | rfl | rfl <;> decide
  omega
 have h2 := (ybK f h).2.2.2.2.2
 unfold ex
 generalize x / 2 ^ (fp f - 1) = v at *
 rw [yqE _ (by omega), ynA (by omega) (by omega), yqa _ _ (by omega) (by omega), show 2 * fe f + 1 = 2 ^ (fw f - fp f) - 1 from by rw [← yol f h]; omega, Nat.and_two_pow_sub_one_eq_mod, ← yol f h]
theorem ycg (f x : Nat) (h : f ≤ 3) (hx : x < 2 ^ fw f) (K : Bool → Int → (Nat → Int) → Prop) (hK : K (ng f x) (ex f x) (W (fr f x))) : zbw f (Hi x) (Lo x) K := by
 have hw := ybK f h
 rw [zbw.is]; unfold zbw.d
 rw [yeG x (yn0 h hx), ydO f h, yos f h, yd2 x _ (by omega), yaB f h, yfY f h]
 refine ygF _ (by omega) _ ?_
 refine yh8 _ _ (xQ6 h hx) _ ?_
 rw [yaB f h, yfY f h]
 refine yj9 _ _ (xQ6 h hx) (by omega) _ ?_
 rw [ycz f h, yoB f x h hx, Nat.and_two_pow_sub_one_eq_mod]
 exact hK
theorem ycK (f x : Nat) (h : f ≤ 3) (hx : x < 2 ^ fw f) (K : Bool → Int → (Nat → Int) → Prop) (hK : K (ng f x) (ex f x) (W (fr f x))) : zat f (Hi x) (Lo x) K := by
 have hw := ybK f h
 rw [zat.is]; unfold zat.d
 rw [yee x (yn0 h hx), yas f h, ybe f h, yfY f h, yos f h]
 refine ydC _ (by omega) _ ?_
 refine yeq _ _ (xQ6 h hx) _ ?_
 refine yhz _ _ (xQ6 h hx) (by omega) _ fun b => ?_
 rw [yc8 x _ (by omega)]
 have e1 : yae IntKind.i64 (ybR IntKind.i64 1 (cvI IntKind.u64 (yae IntKind.i64 (fw f : Int) (fp f : Int)))) 1 = ((2 * fe f + 1 : Nat) : Int) := by rcases yea h with rfl | rfl | rfl | rfl <;> decide
 have e2 : (!ltI (cvI IntKind.u64 (yae IntKind.i64 (fw f : Int) (fp f : Int))) 0) = true := by rcases yea h with rfl | rfl | rfl | rfl <;> decide
 rw [yaK e2, e1, yoB f x h hx, Nat.and_two_pow_sub_one_eq_mod]
 exact hK
theorem yki (f x : Nat) (h : f ≤ 3) (hx : x < 2 ^ fw f) (K : Bool → Prop) : zao f (Hi x) (Lo x) K = K (ng f x) := by
 rw [zao.is]; unfold zao.d
 have hw := ybK f h
 rw [ybr f x h (yn0 h hx), yaE (by simpa using hx), yee x (yn0 h hx), ybe f h, yos f h, yc8 x _ (by omega)]
 rfl
theorem yfN (f x : Nat) (h : f ≤ 3) (hx : x < 2 ^ fw f) (K : Int → Int → Prop) : zal f (Hi x) (Lo x) K = K (Hi (ymi f x)) (Lo (ymi f x)) := by
 rw [zal.is]; unfold zal.d
 have e : enc f true 0 0 = 2 ^ (fw f - 1) := by simp [enc, sg]
 have hp : 2 ^ (fw f - 1) < 2 ^ 128 := Nat.pow_lt_pow_right (by omega) (by have := ybK f h; omega)
 rw [ybr f x h (yn0 h hx), yav (by simpa using hx), ydh f h, e]
 obtain ⟨h1, h2⟩ := yp2 x (2 ^ (fw f - 1)) (yn0 h hx) hp
 rw [h1, h2]; rfl
theorem ykO (f x : Nat) (h : f ≤ 3) (hx : x < 2 ^ fw f) (K : Bool → Prop) (hK : K (ng f x)) : zci f (Hi x) (Lo x) K := by
 rw [zci.is]; unfold zci.d
 refine ydj f x h (yn0 h hx) _ ?_
 rw [yav (by simpa using hx)]
 exact ycg f x h hx _ hK
theorem ygp (f x : Nat) (h : f ≤ 3) (hx : x < 2 ^ fw f) (K : Int → Int → Prop) (hK : K (Hi (ymi f x)) (Lo (ymi f x))) : zcf f (Hi x) (Lo x) K := by
 rw [zcf.is]; unfold zcf.d
 refine ydj f x h (yn0 h hx) _ ?_
 rw [yav (by simpa using hx)]
 refine ycg f x h hx _ ?_
 refine ybn f _ _ h (yk5 f x) (ygv f x) _ _ ?_
 rw [ylY f x h hx]; exact hK
def cls (f x : Nat) : Int :=
 if ex f x = 2 * fe f + 1 then (if fr f x ≠ 0 then cond ((fr f x).testBit (fp f - 2)) 9 8 else cond (ng f x) 0 7)
 else if ex f x ≠ 0 then cond (ng f x) 1 6 else if fr f x ≠ 0 then cond (ng f x) 2 5 else cond (ng f x) 3 4
theorem ynv (f x : Nat) : 0 ≤ cls f x ∧ cls f x ≤ 9 := by
 unfold cls
 cases ng f x <;> cases (fr f x).testBit (fp f - 2) <;> simp only [cond_true, cond_false] <;> (repeat' split) <;> omega
theorem ylK (x : Nat) (hx : x < Q6) : eqN 6 (W x) (fun _ => 0) = decide (x = 0) := by
 rw [Bool.eq_iff_iff, ynL, decide_eq_true_iff]
 constructor
 ·intro h
  obtain ⟨n, hn⟩ : ∃ n : Nat, n = 6 := ⟨6, rfl⟩
  refine yps (n := n) (by rw [ycM (by omega)]; exact hx) (Nat.two_pow_pos _) fun i hi => ?_
  rw [hn] at hi
  have := h i hi
  rw [yaX] at this
  rw [yb9 0 i (Nat.two_pow_pos _)]; omega
 ·intro h i hi; subst h; rw [W_zero]
theorem ycw (b : Bool) (K : Int → Prop) (x y : Int) : br b (K x) (K y) = K (cond b x y) := by cases b <;> rfl
theorem yn6 (f : Nat) (h : f ≤ 3) : yaj .i64 (ya0 .i64 2 (fe f : Int)) 1 = ((2 * fe f + 1 : Nat) : Int) := by rcases yea h with rfl | rfl | rfl | rfl <;> decide
theorem yql (f x : Nat) (h : f ≤ 3) : fr f x < Q6 := ylw (by have := ybK f h; omega) (ygv f x)
theorem yjL (f x : Nat) (h : f ≤ 3) (hx : x < 2 ^ fw f) (K : Int → Prop) (hK : K (cls f x)) : zce f (Hi x) (Lo x) K := by
 have hw := ybK f h
 rw [zce.is]; unfold zce.d
 refine ycg f x h hx _ ?_
 rw [ycz f h, yeb, ylK _ (yql f x h), show (0 : Int) = ((0 : Nat) : Int) from rfl, yeb]
 unfold cls at hK
 by_cases h1 : ex f x = 2 * fe f + 1
 ·rw [if_pos h1] at hK
  rw [yaE (by simpa using h1)]
  by_cases h2 : fr f x = 0
  ·rw [if_neg (by simpa using h2)] at hK
   rw [yav (by simpa using h2), ycw]; exact hK
  ·rw [if_pos h2] at hK
   rw [yaE (by simpa using h2), yaB f h, yqQ f h, yd2 _ _ (by omega), ycw]; exact hK
 ·rw [if_neg h1] at hK
  rw [yav (by simpa using h1)]
  by_cases h3 : ex f x = 0
  ·rw [if_neg (by simpa using h3)] at hK
   rw [yav (by simpa using h3)]
   by_cases h2 : fr f x = 0
   ·rw [if_neg (by simpa using h2)] at hK
    rw [yav (by simpa using h2), ycw]; exact hK
   ·rw [if_pos h2] at hK
    rw [yaE (by simpa using h2), ycw]; exact hK
  ·rw [if_pos h3] at hK
   rw [yaE (by simpa using h3), ycw]; exact hK
theorem ydp (f x : Nat) (h : f ≤ 3) (hx : x < 2 ^ fw f) (K : Int → Prop) (hK : K (cls f x)) : zas f (Hi x) (Lo x) K := by
 have hw := ybK f h
 rw [zas.is]; unfold zas.d
 refine ycK f x h hx _ ?_
 rw [ybb f h, ybb f h, yn6 f h, yeb, ylK _ (yql f x h), show (0 : Int) = ((0 : Nat) : Int) from rfl, yeb, yas f h, yqQ f h, yc8 _ _ (by omega)]
 unfold cls at hK
 by_cases h1 : ex f x = 2 * fe f + 1
 ·rw [if_pos h1] at hK
  rw [yaE (by simpa using h1)]
  by_cases h2 : fr f x = 0
  ·rw [if_neg (by simpa using h2)] at hK
   have h3 : ex f x ≠ 0 := by omega
   rw [yav (by simpa using h2), yaE (by simpa using h3), yaE (by simpa using h2), yaE (by simpa using h1), ycw]; exact hK
  ·rw [if_pos h2] at hK
   rw [yaE (by simpa using h2), ycw]; exact hK
 ·rw [if_neg h1] at hK
  rw [yav (by simpa using h1)]
  by_cases h3 : ex f x = 0
  ·rw [if_neg (by simpa using h3)] at hK
   rw [yav (by simpa using h3), yav (by simpa using h3)]
   by_cases h2 : fr f x = 0
   ·rw [if_neg (by simpa using h2)] at hK
    rw [yav (by simpa using h2), ycw]; exact hK
   ·rw [if_pos h2] at hK
    rw [yaE (by simpa using h2), ycw]; exact hK
  ·rw [if_pos h3] at hK
   rw [yaE (by simpa using h3)]
   by_cases h2 : fr f x = 0
   ·rw [yaE (by simpa using h2), yav (by simpa using h1), yaE (by simpa using h3), ycw]; exact hK
   ·rw [yav (by simpa using h2), yaE (by simpa using h3), ycw]; exact hK
theorem yis (f x : Nat) (h : f ≤ 3) (hx : x < 2 ^ fw f) (K : Int → Int → Prop) (hK : K (cls f x) 0) : zak f (Hi x) (Lo x) K := by
 rw [zak.is]; unfold zak.d
 rw [ybr f x h (yn0 h hx), yav (by simpa using hx)]
 exact ydp f x h hx _ hK
end Go.Ev.S

/- Differences: of words, bit by bit; of numbers of six words. -/
set_option linter.unusedVariables false
set_option linter.unusedSimpArgs false
set_option maxRecDepth 8000
namespace Go.Ev.S
open Go Go.Ev
end Go.Ev.S

/- Quiet and next encodings: the abacus and the document's answer; the law KindSigns. -/
set_option linter.unusedVariables false
set_option linter.unusedSimpArgs false
set_option maxRecDepth 8000
namespace Go.Ev.S
open Go Go.Ev
def yrx (f : Nat) : Nat := enc f false (2 * fe f + 1) (2 ^ (fp f - 2))
def quiet (f x : Nat) : Nat := if 8 ≤ cls f x then x ||| yrx f else x
theorem ymQ (K : Int → (Nat → Int) → Int → (Nat → Int) → Int → Prop) (hK : K 6 (upd (fun _ => 0) 0 1024) (-10) (fun _ => 0) 0) : zaq (2 : Int) 0 15360 K := by
 have e1 : zaq (2 : Int) 0 15360 = zaq ((2 : Nat) : Int) (Hi 15360) (Lo 15360) := rfl
 rw [e1, zaq.is]; unfold zaq.d
 rw [ybr 2 15360 (by omega) (by decide), yav (by decide), yas 2 (by omega)]
 refine ycK 2 15360 (by omega) (by decide) _ ?_
 refine ydp 2 15360 (by omega) (by decide) _ ?_
 have e2 : cls 2 15360 = 6 := by decide
 have e3 : ex 2 15360 = 15 := by decide
 have e4 : fr 2 15360 = 0 := by decide
 rw [e2, e3, e4, W_zero, yav (by decide), yav (by decide), yav (by decide), yaE (by decide), yaK (by decide), yaK (by decide), yaK (by decide), yce 2 (by omega)]
 exact hK
theorem yho (K : Bool → Prop) (hK : K true) : zaw K := by
 rw [zaw.is]; unfold zaw.d
 have e1 : zak (2 : Int) 0 32768 = zak ((2 : Nat) : Int) (Hi 32768) (Lo 32768) := rfl
 rw [e1]
 refine yis 2 32768 (by omega) (by decide) _ ?_
 refine ymQ _ ?_
 have e2 : zak (4 : Int) 0 0 = zak ((4 : Nat) : Int) 0 0 := rfl
 rw [e2, zak.is]; unfold zak.d
 rw [yeR 4 (by omega), yaE (by decide)]
 have e3 : cls 2 32768 = 3 := by decide
 rw [e3]
 exact hK
theorem ymN (f x : Nat) : (f ≤ 3 ∧ x < 2 ^ fw f) ∨ (f ≤ 3 ∧ 2 ^ fw f ≤ x) ∨ 3 < f := by omega
theorem yj5 (f x : Nat) (hx : x < 2 ^ 128) (hb : (f ≤ 3 ∧ 2 ^ fw f ≤ x) ∨ 3 < f) (K : Bool → Prop) (hK : K false) : zbx f (Hi x) (Lo x) K := by
 rcases hb with ⟨h, h2⟩ | h
 ·refine ydj f x h hx _ ?_
  have : decide (x < 2 ^ fw f) = false := by simpa using h2
  rw [this]; exact hK
 ·rw [ykR f h]; exact hK
theorem ykd (f x : Nat) (h : f ≤ 3) (hx : x < 2 ^ fw f) (K : Bool → Prop) (hK : K true) : zbx f (Hi x) (Lo x) K := by
 refine ydj f x h (yn0 h hx) _ ?_
 have : decide (x < 2 ^ fw f) = true := by simpa using hx
 rw [this]; exact hK
end Go.Ev.S

/- The parts of an encoding: the abacus and the document's answer. -/
set_option linter.unusedVariables false
set_option linter.unusedSimpArgs false
set_option maxRecDepth 8000
namespace Go.Ev.S
open Go Go.Ev
def isN (c : Int) : Bool := eqI c 1 || eqI c 6
def isS (c : Int) : Bool := eqI c 2 || eqI c 5
def isQ (c : Int) : Bool := eqI c 8 || eqI c 9
def yb5 (f x : Nat) : Nat := cond (isN (cls f x)) (fr f x + 2 ^ (fp f - 1)) (cond (isS (cls f x)) (fr f x) 0)
def ycA (f x : Nat) : Int := cond (isN (cls f x)) ((ex f x : Int) + 1 - fe f - fp f) (cond (isS (cls f x)) (2 - (fe f : Int) - fp f) 0)
def ufr (f x : Nat) : Nat := cond (isQ (cls f x)) (fr f x) 0
theorem yft (f x : Nat) : cls f x = 0 ∨ cls f x = 1 ∨ cls f x = 2 ∨ cls f x = 3 ∨ cls f x = 4 ∨ cls f x = 5 ∨ cls f x = 6 ∨ cls f x = 7 ∨ cls f x = 8 ∨ cls f x = 9 := by
 have := ynv f x; omega
theorem yqp (f x : Nat) (h : isS (cls f x) = true) : ex f x = 0 := by
 unfold isS at h
 apply Classical.byContradiction
 intro he
 unfold cls at h
 rw [if_pos he] at h
 revert h
 cases ng f x <;> cases (fr f x).testBit (fp f - 2) <;> simp only [cond_true, cond_false] <;> (repeat' split) <;> simp [eqI]
theorem yed (f x : Nat) (h : f ≤ 3) (hx : x < 2 ^ fw f) (K : Int → (Nat → Int) → Int → (Nat → Int) → Int → Prop) (hK : K (cls f x) (W (yb5 f x)) (ycA f x) (W (ufr f x)) 0) : zaq f (Hi x) (Lo x) K := by
 have hw := ybK f h
 have hz : (fun _ : Nat => (0 : Int)) = W 0 := W_zero.symm
 have hex := yk5 f x
 rw [zaq.is]; unfold zaq.d
 rw [ybr f x h (yn0 h hx), yav (by simpa using hx), yas f h]
 refine ycK f x h hx _ ?_
 refine ydp f x h hx _ ?_
 have q1 : yaQ IntKind.i64 (yae IntKind.i64 (fp f : Int) 1) 64 = (((fp f - 1) / 64 : Nat) : Int) := by rw [yfY f h, yiy _ (by omega)]
 have q2 : cvI IntKind.u64 (ybv IntKind.i64 (yae IntKind.i64 (fp f : Int) 1) 64) = (((fp f - 1) % 64 : Nat) : Int) := by rw [yfY f h, yiI, ybk (by omega) (by omega)]
 have g1 : (leI 0 (((fp f - 1) / 64 : Nat) : Int) && ltI (((fp f - 1) / 64 : Nat) : Int) 6) = true := ya5 (by omega) (by omega)
 have g2 : (!ltI (((fp f - 1) % 64 : Nat) : Int) 0) = true := yeo (by omega)
 have e1 : yaj IntKind.i64 (yae IntKind.i64 (yaj IntKind.i64 (yae IntKind.i64 (ex f x : Int) 1) (1 - (fe f : Int))) (fp f : Int)) 1 = (ex f x : Int) + 1 - fe f - fp f := by
  have s1 : yae .i64 (ex f x : Int) 1 = (ex f x : Int) - 1 := yaW (by omega) (by omega)
  have s2 : yaj .i64 ((ex f x : Int) - 1) (1 - (fe f : Int)) = (ex f x : Int) - 1 + (1 - (fe f : Int)) := yat (by omega) (by omega)
  have s3 : yae .i64 ((ex f x : Int) - 1 + (1 - (fe f : Int))) (fp f : Int) = (ex f x : Int) - 1 + (1 - (fe f : Int)) - fp f := yaW (by omega) (by omega)
  have s4 : yaj .i64 ((ex f x : Int) - 1 + (1 - (fe f : Int)) - fp f) 1 = (ex f x : Int) - 1 + (1 - (fe f : Int)) - fp f + 1 := yat (by omega) (by omega)
  rw [s1, s2, s3, s4]; omega
 have e2 : isS (cls f x) = true → yaj IntKind.i64 (yae IntKind.i64 (yaj IntKind.i64 (ex f x : Int) (1 - (fe f : Int))) (fp f : Int)) 1 = 2 - (fe f : Int) - fp f := by
  intro hs
  have := yqp f x hs
  have s2 : yaj .i64 (ex f x : Int) (1 - (fe f : Int)) = (ex f x : Int) + (1 - (fe f : Int)) := yat (by omega) (by omega)
  have s3 : yae .i64 ((ex f x : Int) + (1 - (fe f : Int))) (fp f : Int) = (ex f x : Int) + (1 - (fe f : Int)) - fp f := yaW (by omega) (by omega)
  have s4 : yaj .i64 ((ex f x : Int) + (1 - (fe f : Int)) - fp f) 1 = (ex f x : Int) + (1 - (fe f : Int)) - fp f + 1 := yat (by omega) (by omega)
  rw [s2, s3, s4]; omega
 have hsig : upd (W (fr f x)) ((fp f - 1) / 64) (orI .u64 (W (fr f x) ((fp f - 1) / 64)) (ybR .u64 1 (((fp f - 1) % 64 : Nat) : Int))) = W (fr f x + 2 ^ (fp f - 1)) := by
  rw [yeO, ygq _ _ (ygv f x)]
 rw [q1, q2, yaK g1, yaK g2, yaK g1, Int.toNat_natCast, hsig, yce f h, yce f h, e1, hz]
 unfold yb5 ycA ufr at hK
 rcases yft f x with c | c | c | c | c | c | c | c | c | c <;> rw [c] at hK ⊢ <;> rw [c] at e2 <;> first
  | exact hK
  | (rw [e2 rfl]; exact hK)
theorem ye6 (f x : Nat) (h : f ≤ 3) (hx : x < 2 ^ fw f) (K : Int → (Nat → Int) → Int → (Nat → Int) → Prop) (hK : K (cls f x) (W (yb5 f x)) (ycA f x) (W (ufr f x))) : zck f (Hi x) (Lo x) K := by
 have hw := ybK f h
 have hz : (fun _ : Nat => (0 : Int)) = W 0 := W_zero.symm
 have hex := yk5 f x
 have hpq : 2 ^ (fp f - 1) < Q6 := yqX (by omega)
 have hsq : fr f x + 2 ^ (fp f - 1) < Q6 := by
  have h1 := ygv f x
  have h2 : 2 ^ (fp f - 1 + 1) ≤ Q6 := ygs (by omega)
  rw [Nat.pow_succ] at h2; omega
 have e1 : yaj IntKind.i64 (yae IntKind.i64 (yae IntKind.i64 (ex f x : Int) (fe f : Int)) (fp f : Int)) 1 = (ex f x : Int) + 1 - fe f - fp f := by
  have s2 : yae .i64 (ex f x : Int) (fe f : Int) = (ex f x : Int) - fe f := yaW (by omega) (by omega)
  have s3 : yae .i64 ((ex f x : Int) - fe f) (fp f : Int) = (ex f x : Int) - fe f - fp f := yaW (by omega) (by omega)
  have s4 : yaj .i64 ((ex f x : Int) - fe f - fp f) 1 = (ex f x : Int) - fe f - fp f + 1 := yat (by omega) (by omega)
  rw [s2, s3, s4]; omega
 have e2 : yaj IntKind.i64 (yae IntKind.i64 (1 - (fe f : Int)) (fp f : Int)) 1 = 2 - (fe f : Int) - fp f := by
  have s3 : yae .i64 (1 - (fe f : Int)) (fp f : Int) = 1 - (fe f : Int) - fp f := yaW (by omega) (by omega)
  have s4 : yaj .i64 (1 - (fe f : Int) - fp f) 1 = 1 - (fe f : Int) - fp f + 1 := yat (by omega) (by omega)
  rw [s3, s4]; omega
 have hN : ∀ c : Int, K c (W (fr f x + 2 ^ (fp f - 1))) ((ex f x : Int) + 1 - fe f - fp f) (W 0) → (zbj 1 fun y0_3 => zbg y0_3 (yae IntKind.i64 (fp f : Int) 1) fun y0_4 y1_1 => zbb y0_4 (W (fr f x)) fun y0_5 y1_2 => zbu f fun y0_6 => K c y0_5 (yaj IntKind.i64 (yae IntKind.i64 (yae IntKind.i64 (ex f x : Int) y0_6) (fp f : Int)) 1) fun x => 0) := by
  intro c hc
  rw [show (1 : Int) = ((1 : Nat) : Int) from rfl, ygE 1 (by omega), show yae .i64 (fp f : Int) ((1 : Nat) : Int) = ((fp f - 1 : Nat) : Int) from yfY f h]
  refine ydi 1 (fp f - 1) (ylw (a := 64) (by omega) (by omega)) (by omega) _ ?_
  rw [Nat.one_mul, Nat.mod_eq_of_lt hpq]
  refine yfr _ _ hpq (yql f x h) _ ?_
  rw [ydo f h, show ((1 : Nat) : Int) = 1 from rfl, e1, hz, Nat.add_comm, Nat.mod_eq_of_lt hsq]
  exact hc
 have hS : ∀ c : Int, K c (W (fr f x)) (2 - (fe f : Int) - fp f) (W 0) → (zbv f fun y0_3 => K c (W (fr f x)) (yaj IntKind.i64 (yae IntKind.i64 y0_3 (fp f : Int)) 1) fun x => 0) := by
  intro c hc
  rw [ygR f h, e2, hz]; exact hc
 have hO : ∀ c : Int, K c (W 0) 0 (W 0) → K c (fun _ => 0) 0 (fun _ => 0) := fun c hc => by rw [hz]; exact hc
 have hQ : ∀ c : Int, K c (W 0) 0 (W (fr f x)) → K c (fun _ => 0) 0 (W (fr f x)) := fun c hc => by rw [hz]; exact hc
 rw [zck.is]; unfold zck.d
 refine yjL f x h hx _ ?_
 refine ycg f x h hx _ ?_
 rw [yaB f h]
 unfold yb5 ycA ufr at hK
 rcases yft f x with c | c | c | c | c | c | c | c | c | c <;> rw [c] at hK ⊢
 ·exact hO 0 hK
 ·exact hN 1 hK
 ·exact hS 2 hK
 ·exact hO 3 hK
 ·exact hO 4 hK
 ·exact hS 5 hK
 ·exact hN 6 hK
 ·exact hO 7 hK
 ·exact hQ 8 hK
 ·exact hQ 9 hK
end Go.Ev.S

/- Signs put together, words and classes: the abacus and the document's answer; the laws of signs. -/
set_option linter.unusedVariables false
set_option linter.unusedSimpArgs false
set_option maxRecDepth 8000
namespace Go.Ev.S
open Go Go.Ev
end Go.Ev.S

/- The plain laws of SignWords and SignBack. -/
set_option linter.unusedVariables false
set_option linter.unusedSimpArgs false
set_option maxRecDepth 8000
namespace Go.Ev.S
open Go Go.Ev
def ext (w x : Nat) : Nat := cond (x.testBit (w - 1)) (x % 2 ^ w + (18446744073709551616 - 2 ^ w)) (x % 2 ^ w)
end Go.Ev.S

/- Encodings compared: what the functions come to. -/
set_option linter.unusedVariables false
set_option linter.unusedSimpArgs false
set_option maxRecDepth 8000
namespace Go.Ev.S
open Go Go.Ev
end Go.Ev.S

/- The order of all encodings; the lesser and the greater one. -/
set_option linter.unusedVariables false
set_option linter.unusedSimpArgs false
set_option maxRecDepth 8000
namespace Go.Ev.S
open Go Go.Ev
end Go.Ev.S

/- What encodings say: their exact values, in order. -/
set_option linter.unusedVariables false
set_option linter.unusedSimpArgs false
set_option maxRecDepth 8000
namespace Go.Ev.S
open Go Go.Ev
theorem yqW (q t P : Nat) (h : t < P) : (q * P + t) / P = q ∧ (q * P + t) % P = t := by
 constructor
 ·rw [Nat.mul_comm, Nat.mul_add_div (by omega), Nat.div_eq_of_lt h, Nat.add_zero]
 ·rw [Nat.mul_comm, Nat.mul_add_mod, Nat.mod_eq_of_lt h]
def mg (f x : Nat) : Nat := ex f x * 2 ^ (fp f - 1) + fr f x
theorem yrG (f x : Nat) (h : f ≤ 3) (hx : x < 2 ^ fw f) : x = sg f (ng f x) + mg f x := by
 have := ynn f x h hx
 unfold enc at this
 unfold mg; omega
def fin (f x : Nat) : Prop := ex f x ≠ 2 * fe f + 1
end Go.Ev.S

/- Exact numbers compared, as rational ones; encodings compared by their values. -/
set_option linter.unusedVariables false
set_option linter.unusedSimpArgs false
set_option maxRecDepth 8000
namespace Go.Ev.S
open Go Go.Ev
section
variable {n1 n2 : Bool} {a1 b1 a2 b2 : Nat} {e1 e2 : Int}
end
theorem yqH (f x : Nat) (h : f ≤ 3) : yb5 f x < 2 ^ fp f := by
 have h1 := ygv f x
 have h2 : 2 ^ fp f = 2 ^ (fp f - 1) + 2 ^ (fp f - 1) := by
  rcases yea h with rfl | rfl | rfl | rfl <;> decide
 have hp := Nat.two_pow_pos (fp f - 1)
 unfold yb5
 cases isN (cls f x) <;> cases isS (cls f x) <;> simp only [cond_true, cond_false] <;> omega
theorem yfq (f x : Nat) (h : f ≤ 3) : yb5 f x < Q6 := ylw (by have := ybK f h; omega) (yqH f x h)
theorem ydY (f x : Nat) (h : f ≤ 3) : -16495 ≤ ycA f x ∧ ycA f x ≤ 16272 := by
 have h1 := yk5 f x
 unfold ycA
 rcases yea h with rfl | rfl | rfl | rfl <;> simp only [fe, fp] at * <;> cases isN (cls _ x) <;> cases isS (cls _ x) <;> simp only [cond_true, cond_false] <;> omega
end Go.Ev.S

/- Exact numbers: made, signs, products, places, sums. -/
set_option linter.unusedVariables false
set_option linter.unusedSimpArgs false
set_option maxRecDepth 8000
namespace Go.Ev.S
open Go Go.Ev
end Go.Ev.S

/- Exact numbers as rational ones: bounds, sums, products, whole parts. -/
set_option linter.unusedVariables false
set_option linter.unusedSimpArgs false
set_option maxRecDepth 8000
namespace Go.Ev.S
open Go Go.Ev
section
variable {n1 n2 : Bool} {a1 b1 a2 b2 : Nat} {e1 e2 : Int} {P1 E1 P2 E2 : Nat}
end
end Go.Ev.S

/- A field's laws; a whole part and the next. -/
set_option linter.unusedVariables false
set_option linter.unusedSimpArgs false
set_option maxRecDepth 8000
namespace Go.Ev.S
open Go Go.Ev
end Go.Ev.S

/- Decimal digits. -/
set_option linter.unusedVariables false
set_option linter.unusedSimpArgs false
set_option maxRecDepth 8000
namespace Go.Ev.S
open Go Go.Ev
open Go.Lib (decDigits nDigits)
theorem yeV : ∀ x : Nat, x < 10 → ybw [48, 49, 50, 51, 52, 53, 54, 55, 56, 57] x (x + 1) = [UInt8.ofNat (48 + x)] := by decide
theorem yco (k : Nat) : ∀ u, u < 10 ^ (k + 1) → nDigits u ≤ k + 1 := by
 induction k with
 | zero => intro u h; rw [Go.Lib.nDigits_small (by simpa using h)]; omega
 | succ k ih =>
  intro u h
  by_cases h1 : u < 10
  ·rw [Go.Lib.nDigits_small h1]; omega
  ·rw [Go.Lib.nDigits_big h1]
   have := ih (u / 10) (by rw [Nat.pow_succ] at h; omega)
   omega
theorem ynl {a : Int} (h : -9223372036854775808 < a) (h2 : a ≤ 9223372036854775807) : ykq .i64 a = -a := by
 show IntKind.wrap .i64 (0 - a) = -a
 rw [Int.zero_sub]; exact yhc (by omega) (by omega)
theorem yfg (k0 : Int → List UInt8 → Prop) : ∀ (x : Nat) (s : List UInt8), x < 9223372036854775808 → s.length + nDigits x ≤ 1000 →
  (∀ (d : Nat) (t : List UInt8), d < 10 → [UInt8.ofNat (48 + d)] ++ t = decDigits x ++ s → t.length ≤ 1000 → k0 d t) → ∃ n, zbs.l4 k0 n (x : Int) s := by
 intro x
 induction x using Nat.strongRecOn with
 | _ x ih =>
  intro s hx hl hk
  have hd := Go.Lib.nDigits_pos x
  by_cases h : x < 10
  ·refine ⟨1, ?_⟩
   unfold zbs.l4 zbs.l4.step
   rw [yav (ycd (by omega))]
   exact hk x s h (by rw [Go.Lib.decDigits_one h]) (by omega)
  ·have h10 : decDigits x = decDigits (x / 10) ++ [UInt8.ofNat (48 + x % 10)] := by rw [decDigits, dif_neg h]
   rw [Go.Lib.nDigits_big h] at hl
   obtain ⟨n, hn⟩ := ih (x / 10) (by omega) ([UInt8.ofNat (48 + x % 10)] ++ s) (by omega) (by simp only [List.length_append, List.length_cons, List.length_nil]; omega) (fun d t hd ht hlt => hk d t hd (by rw [ht, h10]; simp) hlt)
   refine ⟨n + 1, ?_⟩
   unfold zbs.l4 zbs.l4.step
   have e1 : ybv .i64 (x : Int) 10 = ((x % 10 : Nat) : Int) := yer .i64 x 10
   have e2 : yaQ .i64 (x : Int) 10 = ((x / 10 : Nat) : Int) := ydM x 10 hx (by omega)
   rw [yaE (ybz (by omega)), e1, e2, yat (by omega) (by omega), show ((x % 10 : Nat) : Int) + 1 = ((x % 10 + 1 : Nat) : Int) from by omega, Int.toNat_natCast, Int.toNat_natCast, yeV _ (Nat.mod_lt _ (by omega))]
   rw [yaK (by simp only [Bool.and_eq_true]; exact ⟨yaM (by omega), yaM (by omega), yaM (by omega)⟩), yaK (yaM (by simp only [List.length_cons, List.length_nil]; omega))]
   exact hn
theorem ygX (k0 : Int → List UInt8 → Prop) : ∀ (x : Nat) (s : List UInt8), x < 9223372036854775808 → s.length + nDigits x ≤ 1000 →
  (∀ (d : Nat) (t : List UInt8), d < 10 → [UInt8.ofNat (48 + d)] ++ t = decDigits x ++ s → t.length ≤ 1000 → k0 d t) → ∃ n, zbr.l4 k0 n (x : Int) s := by
 intro x
 induction x using Nat.strongRecOn with
 | _ x ih =>
  intro s hx hl hk
  have hd := Go.Lib.nDigits_pos x
  by_cases h : x < 10
  ·refine ⟨1, ?_⟩
   unfold zbr.l4 zbr.l4.step
   rw [yav (ycd (by omega))]
   exact hk x s h (by rw [Go.Lib.decDigits_one h]) (by omega)
  ·have h10 : decDigits x = decDigits (x / 10) ++ [UInt8.ofNat (48 + x % 10)] := by rw [decDigits, dif_neg h]
   rw [Go.Lib.nDigits_big h] at hl
   obtain ⟨n, hn⟩ := ih (x / 10) (by omega) ([UInt8.ofNat (48 + x % 10)] ++ s) (by omega) (by simp only [List.length_append, List.length_cons, List.length_nil]; omega) (fun d t hd ht hlt => hk d t hd (by rw [ht, h10]; simp) hlt)
   refine ⟨n + 1, ?_⟩
   unfold zbr.l4 zbr.l4.step
   have e1 : ybv .i64 (x : Int) 10 = ((x % 10 : Nat) : Int) := yer .i64 x 10
   have e2 : yaQ .i64 (x : Int) 10 = ((x / 10 : Nat) : Int) := ydM x 10 hx (by omega)
   rw [yaE (ybz (by omega)), e1, e2, yat (by omega) (by omega), show ((x % 10 : Nat) : Int) + 1 = ((x % 10 + 1 : Nat) : Int) from by omega, Int.toNat_natCast, Int.toNat_natCast, yeV _ (Nat.mod_lt _ (by omega))]
   rw [yaK (by simp only [Bool.and_eq_true]; exact ⟨yaM (by omega), yaM (by omega), yaM (by omega)⟩), yaK (yaM (by simp only [List.length_cons, List.length_nil]; omega))]
   exact hn
theorem ygY {x : Nat} (hx : x < 9223372036854775808) (K : List UInt8 → Prop) (h : K (decDigits x)) : zbs (x : Int) K := by
 have hp := yco 19 x (by omega)
 rw [zbs.is]; unfold zbs.d
 rw [yav (ycd (by omega))]
 refine yfg _ x [] hx (by simp only [List.length_nil]; omega) fun d t hd ht hl => ?_
 rw [yat (by omega) (by omega), show (d : Int) + 1 = ((d + 1 : Nat) : Int) from by omega, Int.toNat_natCast, Int.toNat_natCast, yeV d hd]
 rw [yaK (by simp only [Bool.and_eq_true]; exact ⟨yaM (by omega), yaM (by omega), yaM (by omega)⟩), yaK (yaM (by simp only [List.length_cons, List.length_nil]; omega)), ht, List.append_nil]
 exact h
theorem ygh {n : Int} (h1 : -9223372036854775808 ≤ n) (h2 : n ≤ 9223372036854775807) : (Go.Lib.itoa n).length ≤ 21 := by
 unfold Go.Lib.itoa
 split
 ·have := yco 19 n.natAbs (by omega)
  rw [List.length_cons, Go.Lib.decDigits_length]; omega
 ·have := yco 19 n.toNat (by omega)
  rw [Go.Lib.decDigits_length]; omega
theorem yih {n : Int} (h1 : -9223372036854775808 < n) (h2 : n ≤ 9223372036854775807) (K : List UInt8 → Prop) (h : K (Go.Lib.itoa n)) : zbr n K := by
 rw [zbr.is]; unfold zbr.d
 by_cases hn : n < 0
 ·rw [yaE (ybz hn), ynl h1 h2]
  obtain ⟨x, hx⟩ : ∃ x : Nat, n = -(x : Int) := ⟨n.natAbs, by omega⟩
  subst hx
  have hp := yco 19 x (by omega)
  rw [Int.neg_neg]
  refine ygY (by omega) _ ?_
  rw [yaK (yaM (by rw [Go.Lib.decDigits_length]; omega))]
  have e : Go.Lib.itoa (-(x : Int)) = 45 :: decDigits x := by unfold Go.Lib.itoa; rw [if_pos hn, show (-(x : Int)).natAbs = x from by omega]
  rw [e] at h; exact h
 ·rw [yav (ycd (by omega))]
  obtain ⟨x, hx⟩ : ∃ x : Nat, n = (x : Int) := ⟨n.toNat, by omega⟩
  subst hx
  have hp := yco 19 x (by omega)
  have e : Go.Lib.itoa (x : Int) = decDigits x := by unfold Go.Lib.itoa; rw [if_neg hn, Int.toNat_natCast]
  rw [e] at h
  refine ygX _ x [] (by omega) (by simp only [List.length_nil]; omega) fun d t hd ht hl => ?_
  rw [yat (by omega) (by omega), show (d : Int) + 1 = ((d + 1 : Nat) : Int) from by omega, Int.toNat_natCast, Int.toNat_natCast, yeV d hd]
  rw [yaK (by simp only [Bool.and_eq_true]; exact ⟨yaM (by omega), yaM (by omega), yaM (by omega)⟩), yaK (yaM (by simp only [List.length_cons, List.length_nil]; omega)), ht, List.append_nil]
  exact h
end Go.Ev.S

/- Texts of numbers, read back. -/
set_option linter.unusedVariables false
set_option linter.unusedSimpArgs false
set_option maxRecDepth 8000
namespace Go.Ev.S
open Go Go.Ev
open Go.Lib (decDigits nDigits indexByte parseUint10 parseMag atoiAll)
theorem ylT (d k i : Nat) (hd : d < 16) : wd (d * 2 ^ (4 * k)) i = if i = k / 16 then d * 2 ^ (4 * (k % 16)) else 0 := by
 have hk : 4 * k = 64 * (k / 16) + 4 * (k % 16) := by omega
 have hs : 4 * (k % 16) + 4 ≤ 64 := by omega
 have hb : d * 2 ^ (4 * (k % 16)) < 18446744073709551616 := by
  have h1 : d * 2 ^ (4 * (k % 16)) < 16 * 2 ^ (4 * (k % 16)) := Nat.mul_lt_mul_of_pos_right hd (Nat.two_pow_pos _)
  have h2 : 16 * 2 ^ (4 * (k % 16)) = 2 ^ (4 * (k % 16) + 4) := by rw [Nat.pow_add, Nat.mul_comm]
  have h3 : 2 ^ (4 * (k % 16) + 4) ≤ 2 ^ 64 := Nat.pow_le_pow_right (by omega) hs
  have h4 : (2 : Nat) ^ 64 = 18446744073709551616 := rfl
  omega
 have e : d * 2 ^ (4 * k) = d * 2 ^ (4 * (k % 16)) * 2 ^ (64 * (k / 16)) := by rw [Nat.mul_assoc, ← Nat.pow_add]; congr 2; omega
 rw [e]
 generalize d * 2 ^ (4 * (k % 16)) = w at hb ⊢
 generalize k / 16 = j
 unfold wd
 by_cases h : i = j
 ·subst h; rw [if_pos rfl, Nat.mul_div_cancel _ (Nat.two_pow_pos _), Nat.mod_eq_of_lt hb]
 ·rw [if_neg h]
  rcases Nat.lt_or_gt_of_ne h with g | g
  ·have e2 : 2 ^ (64 * j) = 2 ^ (64 * (j - i - 1)) * 18446744073709551616 * 2 ^ (64 * i) := by
    rw [show (18446744073709551616 : Nat) = 2 ^ 64 from rfl, ← Nat.pow_add, ← Nat.pow_add]; congr 1; omega
   rw [e2, ← Nat.mul_assoc, ← Nat.mul_assoc, Nat.mul_div_cancel _ (Nat.two_pow_pos _), Nat.mul_mod_left]
  ·rw [Nat.div_eq_of_lt, Nat.zero_mod]
   have e2 : 2 ^ (64 * i) = 2 ^ (64 * (i - j)) * 2 ^ (64 * j) := by rw [← Nat.pow_add]; congr 1; omega
   rw [e2]
   refine Nat.mul_lt_mul_of_pos_right (Nat.lt_of_lt_of_le hb ?_) (Nat.two_pow_pos _)
   rw [show (18446744073709551616 : Nat) = 2 ^ 64 from rfl]
   exact Nat.pow_le_pow_right (by omega) (by omega)
theorem yoy (x d k : Nat) (hm : x % 2 ^ (4 * (k + 1)) = 0) (hd : d < 16) : upd (W x) (k / 16) (orI .u64 (W x (k / 16)) (ybR .u64 (d : Int) ((4 * (k % 16) : Nat) : Int))) = W (x + d * 16 ^ k) := by
 have hs : 4 * (k % 16) + 4 ≤ 64 := by omega
 have hsm := ylT d k (k / 16) hd
 rw [if_pos rfl] at hsm
 have hb : d * 2 ^ (4 * (k % 16)) < 18446744073709551616 := by rw [← hsm]; exact ycb _ _
 have e1 : ybR .u64 (d : Int) ((4 * (k % 16) : Nat) : Int) = ((d * 2 ^ (4 * (k % 16)) : Nat) : Int) := by
  rw [yrk rfl _ _ (by show 4 * (k % 16) ≤ 64; omega), Nat.mod_eq_of_lt (by exact hb)]
 have e2 : x + d * 16 ^ k = d * 2 ^ (4 * k) ||| x := by
  rw [yqF (r := 4 * (k + 1)) ?_ hm, p16]; omega
  rw [show 4 * (k + 1) = 4 * k + 4 from by omega, Nat.pow_add, Nat.mul_comm (2 ^ (4 * k))]
  exact Nat.mul_lt_mul_of_pos_right hd (Nat.two_pow_pos _)
 rw [e1, yaX, yrH rfl _ _ (ycb _ _) hb, e2]
 funext i
 rw [yaX, yrg, ylT d k i hd]
 by_cases h : i = k / 16
 ·subst h; rw [ycf, if_pos rfl, Nat.or_comm]
 ·rw [ydw _ _ _ _ h, if_neg h, Nat.zero_or]; rfl
def ygN (c : UInt8) : Option Nat := if 48 ≤ c.toNat ∧ c.toNat ≤ 57 then some (c.toNat - 48) else if 97 ≤ c.toNat ∧ c.toNat ≤ 102 then some (c.toNat - 87) else none
def ycZ : List UInt8 → Nat → Option Nat
 | [], v => some v
 | c :: l, v => match ygN c with
  | some d => ycZ l (v * 16 + d)
  | none => none
theorem ykr {c : UInt8} {d : Nat} (h : ygN c = some d) : d < 16 := by
 unfold ygN at h
 split at h
 ·cases h; omega
 ·split at h
  ·cases h; omega
  ·cases h
theorem yjm : ∀ (l r : List UInt8) (v w : Nat), ycZ l v = some w → ycZ (l ++ r) v = ycZ r w
 | [], r, v, w, h => by cases h; rfl
 | c :: l, r, v, w, h => by
  simp only [ycZ, List.cons_append] at h ⊢
  cases hc : ygN c with
  | none => rw [hc] at h; cases h
  | some d => rw [hc] at h; exact yjm l r _ _ h
theorem yiW : ∀ (l : List UInt8) (v w n : Nat), v < 16 ^ n → ycZ l v = some w → w < 16 ^ (n + l.length)
 | [], v, w, n, hv, h => by cases h; exact hv
 | c :: l, v, w, n, hv, h => by
  simp only [ycZ] at h
  cases hc : ygN c with
  | none => rw [hc] at h; cases h
  | some d =>
   rw [hc] at h
   have hd := ykr hc
   have := yiW l (v * 16 + d) w (n + 1) (by rw [Nat.pow_succ]; omega) h
   rw [List.length_cons, show n + (l.length + 1) = n + 1 + l.length from by omega]; exact this
def rdW (s : List UInt8) : Option Nat := if s.length < 1 ∨ 96 < s.length ∨ (1 < s.length ∧ (s[0]?).getD 0 = 48) then none else ycZ s 0
theorem yd6 {s : List UInt8} {i : Nat} (h : i < s.length) : yar s i = (((s[i]).toNat : Nat) : Int) := by
 unfold yar; rw [List.getElem?_eq_getElem h]; rfl
theorem yhC (s : List UInt8) (hs : s.length ≤ 96) (k0 : Int → (Nat → Int) → Prop) (k1 : (Nat → Int) → (Nat → Int) → Prop) (z : Nat → Int) :
  ∀ (j i V : Nat), i + j = s.length → (∀ v, ycZ (s.drop i) V = some v → k1 z (W v)) → (ycZ (s.drop i) V = none → k0 20 (fun _ => 0)) → ∃ m, zdn.l5 k0 k1 m s (i : Int) z (W (V * 16 ^ (s.length - i))) := by
 intro j
 induction j with
 | zero =>
  intro i V hi h1 h2
  refine ⟨1, ?_⟩
  unfold zdn.l5 zdn.l5.step
  rw [yav (ycd (by omega))]
  have hd : s.drop i = [] := List.drop_eq_nil_of_le (by omega)
  rw [show s.length - i = 0 from by omega, Nat.pow_zero, Nat.mul_one]
  exact h1 V (by rw [hd]; rfl)
 | succ j ih =>
  intro i V hi h1 h2
  have hlt : i < s.length := by omega
  have hdr : s.drop i = s[i] :: s.drop (i + 1) := List.drop_eq_getElem_cons hlt
  rw [hdr] at h1 h2
  generalize hc : s[i] = c at h1 h2
  have hb : yar s i = ((c.toNat : Nat) : Int) := by rw [yd6 hlt, hc]
  have hcl := c.toNat_lt
  have ek : yae .i64 (yae .i64 (↑s.length) 1) (i : Int) = ((s.length - 1 - i : Nat) : Int) := by
   rw [yaW (a := (s.length : Int)) (by omega) (by omega), yaW (by omega) (by omega)]; omega
  have e1 : yaQ .i64 ((s.length - 1 - i : Nat) : Int) 16 = (((s.length - 1 - i) / 16 : Nat) : Int) := ydM _ 16 (by omega) (by omega)
  have e2 : ybv .i64 ((s.length - 1 - i : Nat) : Int) 16 = (((s.length - 1 - i) % 16 : Nat) : Int) := yer .i64 _ 16
  have e3 : cvI .u64 (ya0 .i64 4 (((s.length - 1 - i) % 16 : Nat) : Int)) = ((4 * ((s.length - 1 - i) % 16) : Nat) : Int) := by
   rw [ydF (by omega) (by omega), ybk (by omega) (by omega)]; omega
  have ei : yaj .i64 (i : Int) 1 = ((i + 1 : Nat) : Int) := by rw [yat (by omega) (by omega)]; omega
  have g1 : (leI 0 (((s.length - 1 - i) / 16 : Nat) : Int) && ltI (((s.length - 1 - i) / 16 : Nat) : Int) 6) = true := by
   simp only [Bool.and_eq_true]; exact ⟨yaM (by omega), ybz (by omega)⟩
  have g2 : (!ltI ((4 * ((s.length - 1 - i) % 16) : Nat) : Int) 0) = true := by rw [ycd (by omega)]; rfl
  have go : ∀ d : Nat, ygN c = some d → ∃ m, zdn.l5 k0 k1 m s ((i + 1 : Nat) : Int) z (upd (W (V * 16 ^ (s.length - i))) ((s.length - 1 - i) / 16) (orI .u64 (W (V * 16 ^ (s.length - i)) ((s.length - 1 - i) / 16)) (ybR .u64 (d : Int) ((4 * ((s.length - 1 - i) % 16) : Nat) : Int)))) := by
   intro d hd
   have hd16 := ykr hd
   simp only [ycZ, hd] at h1 h2
   have hp : s.length - i = s.length - 1 - i + 1 := by omega
   rw [yoy _ d _ (by rw [hp, ← p16]; exact Nat.mul_mod_left _ _) hd16]
   have e : V * 16 ^ (s.length - i) + d * 16 ^ (s.length - 1 - i) = (V * 16 + d) * 16 ^ (s.length - (i + 1)) := by
    rw [hp, Nat.pow_succ, show s.length - (i + 1) = s.length - 1 - i from by omega, Nat.add_mul]
    rw [Nat.mul_comm (16 ^ (s.length - 1 - i)) 16, ← Nat.mul_assoc]
   rw [e]
   exact ih (i + 1) (V * 16 + d) (by omega) h1 h2
  have fail : ygN c = none → k0 20 (fun _ => 0) := fun hn => h2 (by simp only [ycZ, hn])
  by_cases c1 : 48 ≤ c.toNat ∧ c.toNat ≤ 57
  ·obtain ⟨m, hm⟩ := go (c.toNat - 48) (by unfold ygN; rw [if_pos c1])
   refine ⟨m + 1, ?_⟩
   unfold zdn.l5 zdn.l5.step
   rw [yaE (ybz (by omega)), yaK (by simp only [Bool.and_eq_true]; exact ⟨yaM (by omega), ybz (by omega)⟩), Int.toNat_natCast, hb, yaE (yaM (by omega)), yaE (yaM (by omega)), ek, e1, e2, e3, yaK g1, yaK g2, yaK g1, Int.toNat_natCast, ei]
   have ed : cvI .u64 (yae .u8 ((c.toNat : Nat) : Int) 48) = ((c.toNat - 48 : Nat) : Int) := by
    have : yae .u8 ((c.toNat : Nat) : Int) 48 = ((c.toNat - 48 : Nat) : Int) := by
     show IntKind.wrap .u8 (((c.toNat : Nat) : Int) - 48) = _
     have := ym3 (c.toNat - 48) (by omega)
     rw [show ((c.toNat : Nat) : Int) - 48 = ((c.toNat - 48 : Nat) : Int) from by omega]; exact this
    rw [this, ybk (by omega) (by omega)]
   rw [ed]; exact hm
  by_cases c2 : 97 ≤ c.toNat ∧ c.toNat ≤ 102
  ·obtain ⟨m, hm⟩ := go (c.toNat - 87) (by unfold ygN; rw [if_neg c1, if_pos c2])
   refine ⟨m + 1, ?_⟩
   unfold zdn.l5 zdn.l5.step
   rw [yaE (ybz (by omega)), yaK (by simp only [Bool.and_eq_true]; exact ⟨yaM (by omega), ybz (by omega)⟩), Int.toNat_natCast, hb, yaE (yaM (by omega)), yav (yfE (by omega)), yaE (yaM (by omega)), yaE (yaM (by omega)), ek, e1, e2, e3, yaK g1, yaK g2, yaK g1, Int.toNat_natCast, ei]
   have ed : yaj .u64 (cvI .u64 (yae .u8 ((c.toNat : Nat) : Int) 97)) 10 = ((c.toNat - 87 : Nat) : Int) := by
    have : yae .u8 ((c.toNat : Nat) : Int) 97 = ((c.toNat - 97 : Nat) : Int) := by
     show IntKind.wrap .u8 (((c.toNat : Nat) : Int) - 97) = _
     have := ym3 (c.toNat - 97) (by omega)
     rw [show ((c.toNat : Nat) : Int) - 97 = ((c.toNat - 97 : Nat) : Int) from by omega]; exact this
    rw [this, ybk (by omega) (by omega), ykQ (by omega) (by omega)]; omega
   rw [ed]; exact hm
  ·have hf := fail (by unfold ygN; rw [if_neg c1, if_neg c2])
   refine ⟨1, ?_⟩
   unfold zdn.l5 zdn.l5.step
   rw [yaE (ybz (by omega)), yaK (by simp only [Bool.and_eq_true]; exact ⟨yaM (by omega), ybz (by omega)⟩), Int.toNat_natCast, hb]
   by_cases q1 : 48 ≤ c.toNat
   ·rw [yaE (yaM (by omega)), yav (yfE (by omega))]
    by_cases q2 : 97 ≤ c.toNat
    ·rw [yaE (yaM (by omega)), yav (yfE (by omega))]; exact hf
    ·rw [yav (yfE (by omega))]; exact hf
   ·rw [yav (yfE (by omega)), yav (yfE (by omega))]; exact hf
theorem yfR (s : List UInt8) (K : (Nat → Int) → Int → Prop) (h1 : ∀ v, rdW s = some v → v < Q6 → K (W v) 0) (h2 : rdW s = none → K (W 0) 20) : zdn s K := by
 rw [zdn.is]; unfold zdn.d
 rw [W_zero] at h2
 by_cases l1 : s.length < 1
 ·rw [yaE (ybz (by omega))]; exact h2 (by unfold rdW; rw [if_pos (.inl l1)])
 rw [yav (ycd (by omega))]
 by_cases l2 : 96 < s.length
 ·rw [yaE (ybz (by omega))]; exact h2 (by unfold rdW; rw [if_pos (.inr (.inl l2))])
 rw [yav (ycd (by omega))]
 have hb0 : yar s 0 = ((((s[0]?).getD 0).toNat : Nat) : Int) := rfl
 have run : ¬ (1 < s.length ∧ (s[0]?).getD 0 = 48) → ∃ n, zdn.l5 (fun y0 y1 => K y1 y0) (fun y0 y1 => K y1 0) n s 0 (fun x => 0) fun x => 0 := by
  intro hn
  have hr : rdW s = ycZ s 0 := by
   unfold rdW; rw [if_neg]
   rintro (a | a | a)
   ·omega
   ·omega
   ·exact hn a
  have := yhC s (by omega) (fun y0 y1 => K y1 y0) (fun y0 y1 => K y1 0) (fun x => 0) s.length 0 0 (by omega) (fun v hv => h1 v (by rw [hr]; exact hv) ?_) fun hv => h2 (by rw [hr]; exact hv)
  ·rw [Nat.zero_mul, W_zero] at this; exact this
  ·have hl := yiW s 0 v 0 (by omega) hv
   rw [Nat.zero_add] at hl
   have hle : (16 : Nat) ^ s.length ≤ Q6 := by
    rw [p16]; exact ygs (by omega)
   exact Nat.lt_of_lt_of_le hl hle
 by_cases l3 : 1 < s.length
 ·rw [yaE (ybz (by omega)), yaK (ybz (by omega))]
  by_cases l4 : (s[0]?).getD 0 = 48
  ·rw [yaE (ypM (by rw [hb0, l4]; rfl))]; exact h2 (by unfold rdW; rw [if_pos (.inr (.inr ⟨l3, l4⟩))])
  ·rw [yav (yls (by
    rw [hb0]; intro hh
    apply l4
    have : ((s[0]?).getD 0).toNat = 48 := by omega
    exact UInt8.toNat.inj this))]
   exact run fun hh => l4 hh.2
 ·rw [yav (ycd (by omega))]; exact run fun hh => l3 hh.1
theorem ykf : ∀ d : Nat, d < 16 → ygN (ykp d) = some d := by decide
theorem yoN (v : Nat) : ycZ (hx v) 0 = some v := by
 induction v using Nat.strongRecOn with
 | _ v ih =>
  by_cases h : v = 0
  ·subst h; rw [yb8]; rfl
  ·rw [yc2 h, yjm _ _ _ _ (ih (v / 16) (by omega))]
   simp only [ycZ, ykf (v % 16) (Nat.mod_lt _ (by omega))]
   congr 1; omega
theorem ypT {v N : Nat} (hN : N = 96) (hv : v < 16 ^ N) : rdW (tw v) = some v := by
 unfold tw
 by_cases h : v = 0
 ·rw [if_pos h, h]; rfl
 ·rw [if_neg h]
  have hl : (hx v).length ≤ 96 := by rw [ylL, ← hN]; exact hv
  have hl0 : (hx v).length ≠ 0 := by
   rw [yc2 h]; simp
  have hh := yp8 v h
  unfold rdW
  rw [if_neg]
  ·exact yoN v
  ·rintro (a | a | a)
   ·omega
   ·omega
   ·exact hh (by rw [a.2])
end Go.Ev.S

/- Pieces of texts; decimal texts read back. -/
set_option linter.unusedVariables false
set_option linter.unusedSimpArgs false
set_option maxRecDepth 8000
namespace Go.Ev.S
open Go Go.Ev
open Go.Lib (decDigits nDigits indexByte parseUint10 parseMag atoiAll)
theorem ykh : ∀ (l r : List UInt8) (c : UInt8), c ∉ l → indexByte (l ++ c :: r) c = (l.length : Int)
 | [], r, c, h => by simp [indexByte]
 | b :: l, r, c, h => by
  have hb : (b == c) = false := by rw [beq_eq_false_iff_ne]; intro hh; exact h (by rw [hh]; exact List.mem_cons_self)
  have ih := ykh l r c fun hh => h (List.mem_cons_of_mem _ hh)
  show (if b == c then 0 else if indexByte (l ++ c :: r) c == -1 then -1 else indexByte (l ++ c :: r) c + 1) = _
  rw [hb, ih, if_neg Bool.false_ne_true, if_neg (by simp only [beq_iff_eq]; omega), List.length_cons]; omega
theorem yh5 : ∀ (l : List UInt8) (c : UInt8), c ∉ l → indexByte l c = -1
 | [], c, h => rfl
 | b :: l, c, h => by
  have hb : (b == c) = false := by rw [beq_eq_false_iff_ne]; intro hh; exact h (by rw [hh]; exact List.mem_cons_self)
  have ih := yh5 l c fun hh => h (List.mem_cons_of_mem _ hh)
  show (if b == c then 0 else if indexByte l c == -1 then -1 else indexByte l c + 1) = _
  rw [hb, ih]; rfl
theorem ypG (s : List UInt8) (c : UInt8) : c ∉ s ∨ ∃ l r, s = l ++ c :: r ∧ c ∉ l := by
 induction s with
 | nil => left; simp
 | cons b s ih =>
  by_cases hb : c = b
  ·right; exact ⟨[], s, by rw [hb]; rfl, by simp⟩
  ·rcases ih with h | ⟨l, r, h1, h2⟩
   ·left; simp only [List.mem_cons, not_or]; exact ⟨hb, h⟩
   ·right; exact ⟨b :: l, r, by rw [h1]; rfl, by simp only [List.mem_cons, not_or]; exact ⟨hb, h2⟩⟩
theorem ycL (s : List UInt8) (hs : s.length ≤ 9223372036854775806) (c : UInt8) (K : List UInt8 → List UInt8 → Bool → Prop) (h1 : ∀ l r, s = l ++ c :: r → c ∉ l → K l r true) (h2 : c ∉ s → K s [] false) : zdc s [c] K := by
 rw [zdc.is]; unfold zdc.d
 rw [zaf.is]; unfold zaf.d
 have done : ∀ i : Int, i = indexByte s c → br (leI 0 i) (gd (leI 0 i && leI i ↑s.length) (gd (leI 0 (yaj .i64 i ↑([c] : List UInt8).length) && (leI (yaj .i64 i ↑([c] : List UInt8).length) ↑s.length && leI ↑s.length ↑s.length)) (K (ybw s 0 i.toNat) (ybw s (yaj .i64 i ↑([c] : List UInt8).length).toNat (Int.toNat ↑s.length)) true))) (K s [] false) := by
  rintro i rfl
  rcases ypG s c with h | ⟨l, r, hlr, hl⟩
  ·rw [yh5 s c h, yav (yfE (by omega))]; exact h2 h
  ·have hi : indexByte s c = (l.length : Int) := by rw [hlr]; exact ykh l r c hl
   have hlen : s.length = l.length + 1 + r.length := by rw [hlr, List.length_append, List.length_cons]; omega
   have e1 : yaj .i64 (l.length : Int) ↑([c] : List UInt8).length = ((l.length + 1 : Nat) : Int) := by
    rw [List.length_cons, List.length_nil, yat (by omega) (by omega)]; omega
   rw [hi, yaE (yaM (by omega)), e1, yaK (by rw [yaM (by omega), yaM (by omega)]; rfl), yaK (by rw [yaM (by omega), yaM (by omega), yaM (by omega)]; rfl), Int.toNat_natCast, Int.toNat_natCast, Int.toNat_natCast]
   have s1 : ybw s 0 l.length = l := by unfold ybw; rw [hlr, List.drop_zero, List.take_left']; rfl
   have s2 : ybw s (l.length + 1) s.length = r := by
    unfold ybw; rw [List.take_length, hlr]
    rw [show l ++ c :: r = (l ++ [c]) ++ r by simp]
    exact List.drop_left' (by simp)
   rw [s1, s2]; exact h1 l r hlr hl
 rw [zai.is]; unfold zai.d
 rw [yav (show eqI (↑([c] : List UInt8).length) 0 = false from rfl)]
 by_cases he : [c] = s
 ·rw [show eqS [c] s = true by rw [ycO]; exact decide_eq_true he, yaE rfl]
  exact done 0 (by rw [← he]; simp [indexByte])
 ·rw [show eqS [c] s = false by rw [ycO]; exact decide_eq_false he, yav rfl, yaE (show eqI (↑([c] : List UInt8).length) 1 = true from rfl), yaK (by rfl), zaj.is]
  unfold zaj.d
  refine done _ ?_
  congr 1
  show UInt8.ofNat ((c.toNat : Int).toNat) = c
  rw [Int.toNat_natCast]; exact UInt8.ofNat_toNat
theorem yby (s : List UInt8) (c : UInt8) (K : List UInt8 → Bool → Prop) (h1 : ∀ r, s = c :: r → K r true) (h2 : (s[0]?) ≠ some c → K s false) : zdd s [c] K := by
 rw [zdd.is]; unfold zdd.d
 rw [zag.is]; unfold zag.d
 rw [zah.is]; unfold zah.d
 cases s with
 | nil => exact h2 (by simp)
 | cons b r =>
  have hl : ((b :: r).length : Int) = (r.length : Int) + 1 := by rw [List.length_cons]; omega
  have hone : (([c] : List UInt8).length : Int) = 1 := rfl
  rw [hone, hl, yaE (yaM (by omega)), yaK (by rw [yaM (by omega), yaM (by omega)]; rfl)]
  have hsub : ybw (b :: r) 0 (Int.toNat 1) = [b] := rfl
  rw [hsub]
  by_cases hb : b = c
  ·subst hb
   rw [show eqS [b] [b] = true by rw [ycO]; exact decide_eq_true rfl]
   show br (!true) _ _
   rw [yav (show (!true) = false from rfl), yaK (by rw [yaM (by omega), yaM (by omega), yaM (by omega)]; rfl)]
   have : ybw (b :: r) (Int.toNat 1) ((r.length : Int) + 1).toNat = r := by
    rw [show ((r.length : Int) + 1).toNat = (b :: r).length from by rw [List.length_cons]; omega]
    unfold ybw; rw [List.take_length]; rfl
   rw [this]; exact h1 r rfl
  ·rw [show eqS [b] [c] = false by rw [ycO]; exact decide_eq_false (by simpa using hb)]
   exact h2 (by simpa using hb)
theorem yqZ (v : Nat) : ∀ c ∈ hx v, ygN c ≠ none := by
 induction v using Nat.strongRecOn with
 | _ v ih =>
  by_cases h : v = 0
  ·subst h; rw [yb8]; simp
  ·rw [yc2 h]
   intro c hc
   rcases List.mem_append.1 hc with g | g
   ·exact ih _ (by omega) c g
   ·rw [List.mem_singleton.1 g, ykf _ (Nat.mod_lt _ (by omega))]; simp
theorem ynu (v : Nat) : ∀ c ∈ tw v, ygN c ≠ none := by
 unfold tw
 by_cases h : v = 0
 ·rw [if_pos h]; decide
 ·rw [if_neg h]; exact yqZ v
theorem yrr (v : Nat) : tw v ≠ [] := by
 unfold tw
 by_cases h : v = 0
 ·rw [if_pos h]; simp
 ·rw [if_neg h, yc2 h]; simp
theorem yfX {v : Nat} (h : v < Q6) : (tw v).length ≤ 96 := by
 unfold tw
 by_cases h0 : v = 0
 ·rw [if_pos h0]; simp
 ·rw [if_neg h0]
  obtain ⟨N, hN⟩ : ∃ N, N = 96 := ⟨_, rfl⟩
  rw [← hN, ylL]; exact ypF hN h
theorem yif (u : Nat) : ∀ c ∈ decDigits u, 48 ≤ c.toNat ∧ c.toNat ≤ 57 := by
 have one : ∀ d, d < 10 → 48 ≤ (UInt8.ofNat (48 + d)).toNat ∧ (UInt8.ofNat (48 + d)).toNat ≤ 57 := by decide
 induction u using Nat.strongRecOn with
 | _ u ih =>
  by_cases h : u < 10
  ·rw [Go.Lib.decDigits_one h]
   intro c hc; rw [List.mem_singleton.1 hc]; exact one u h
  ·rw [decDigits, dif_neg h]
   intro c hc
   rcases List.mem_append.1 hc with g | g
   ·exact ih _ (by omega) c g
   ·rw [List.mem_singleton.1 g]; exact one _ (Nat.mod_lt _ (by omega))
theorem yjz : ∀ (l r : List UInt8) (a b : Nat), parseUint10 a l = .ok b → parseUint10 a (l ++ r) = parseUint10 b r
 | [], r, a, b, h => by
  simp only [parseUint10] at h
  injection h with h; subst h; rfl
 | c :: l, r, a, b, h => by
  simp only [parseUint10, List.cons_append] at h ⊢
  split at h
  ·rename_i hc
   rw [if_pos hc]
   split at h
   ·cases h
   ·rename_i h1
    rw [if_neg h1]
    split at h
    ·cases h
    ·rename_i h2
     rw [if_neg h2]; exact yjz l r _ _ h
  ·cases h
theorem yjN (u : Nat) (hu : u < 1000000000000000000) : parseUint10 0 (decDigits u) = .ok u := by
 have one : ∀ d, d < 10 → (UInt8.ofNat (48 + d)).toNat = 48 + d := by decide
 induction u using Nat.strongRecOn with
 | _ u ih =>
  by_cases h : u < 10
  ·rw [Go.Lib.decDigits_one h]
   simp only [parseUint10, one u h]
   rw [if_pos (by omega), if_neg (by omega), if_neg (by omega)]; congr 1; omega
  ·rw [decDigits, dif_neg h, yjz _ _ _ _ (ih (u / 10) (by omega) (by omega))]
   simp only [parseUint10, one (u % 10) (Nat.mod_lt _ (by omega))]
   rw [if_pos (by omega), if_neg (by omega), if_neg (by omega)]; congr 1; omega
theorem ylI (u : Nat) : decDigits u ≠ [] := by
 intro h
 have := Go.Lib.decDigits_length u
 have h2 := Go.Lib.nDigits_pos u
 rw [h] at this; simp at this; omega
theorem yna {n : Int} (h1 : -1000000000000000000 < n) (h2 : n < 1000000000000000000) : atoiAll (Go.Lib.itoa n) = .ok n := by
 unfold Go.Lib.itoa
 by_cases hn : n < 0
 ·rw [if_pos hn]
  have hp : parseMag (decDigits n.natAbs) = .ok n.natAbs := by
   unfold parseMag; rw [if_neg (ylI _)]; exact yjN _ (by omega)
  unfold atoiAll
  have e45 : ((45 : UInt8).toNat) = 45 := rfl
  simp only [e45, or_true, if_true, hp]
  rw [if_neg (by simp), if_neg (by omega)]
  congr 1; omega
 ·rw [if_neg hn]
  have hp : parseMag (decDigits n.toNat) = .ok n.toNat := by
   unfold parseMag; rw [if_neg (ylI _)]; exact yjN _ (by omega)
  have hm := yif n.toNat
  cases hd : decDigits n.toNat with
  | nil => exact absurd hd (ylI _)
  | cons c r =>
   rw [hd] at hp hm
   have hc := hm c List.mem_cons_self
   unfold atoiAll
   simp only
   rw [if_neg (by omega), hp]
   simp only
   rw [if_neg (by omega), if_neg (by omega), if_neg (by omega)]
   congr 1; omega
end Go.Ev.S

/- Encodings of exact numbers. -/
set_option linter.unusedVariables false
set_option linter.unusedSimpArgs false
set_option maxRecDepth 8000
namespace Go.Ev.S
open Go Go.Ev
theorem yru (e k t : Nat) (ht : t < 2 ^ k) : (e * 2 ^ k) ||| t = e * 2 ^ k + t := by
 rw [Nat.mul_comm]; exact (Nat.two_pow_add_eq_or_of_lt ht e).symm
theorem ycn (f e t : Nat) (h : f ≤ 3) (he : e ≤ 2 * fe f + 1) (ht : t < 2 ^ (fp f - 1)) (neg : Bool) (K : Int → Int → Prop) (hK : K (Hi (enc f neg e t)) (Lo (enc f neg e t))) : zar f neg e (W t) K := by
 obtain ⟨w1, w2, w3, w4, w5, w6⟩ := ybK f h
 have hb := yfp h he ht
 have hen := ybJ h he ht neg
 have hb' : e * 2 ^ (fp f - 1) + t < Q6 := ylw (by omega) hb
 have he1 : e * 2 ^ (fp f - 1) < Q6 := by omega
 have ht1 : t < Q6 := ylw (by omega) ht
 rw [zar.is]; unfold zar.d
 rw [ybk (by omega) (by omega), ylZ e (by omega), yas f h, yfY f h]
 refine yiF e (fp f - 1) (ylw (a := 64) (by omega) (by omega)) (by omega) _ fun bb => ?_
 rw [Nat.mod_eq_of_lt he1]
 refine ymh _ _ he1 ht1 _ ?_
 rw [yru _ _ _ ht]
 cases neg with
 | false =>
  rw [yav rfl]
  rw [yef _ (yqV (by omega) hb)]
  have : enc f false e t = e * 2 ^ (fp f - 1) + t := by simp [enc, sg]
  rw [this] at hK; exact hK
 | true =>
  have e1 : enc f true e t = e * 2 ^ (fp f - 1) + t + 2 ^ (fw f - 1) := by simp [enc, sg]; omega
  rw [e1] at hK hen
  have q1 : yaQ IntKind.i64 (yae IntKind.i64 (fw f : Int) 1) 64 = (((fw f - 1) / 64 : Nat) : Int) := by rw [yos f h, yiy _ (by omega)]
  have q2 : cvI IntKind.u64 (ybv IntKind.i64 (yae IntKind.i64 (fw f : Int) 1) 64) = (((fw f - 1) % 64 : Nat) : Int) := by rw [yos f h, yiI, ybk (by omega) (by omega)]
  have g1 : (leI 0 (((fw f - 1) / 64 : Nat) : Int) && ltI (((fw f - 1) / 64 : Nat) : Int) 6) = true := ya5 (by omega) (by omega)
  have g2 : (!ltI (((fw f - 1) % 64 : Nat) : Int) 0) = true := yeo (by omega)
  rw [yaE rfl, ybe f h, q1, q2, yaK g1, yaK g2, yaK g1, Int.toNat_natCast, yeO, ygq _ _ hb, yef _ (yqV (by omega) hen)]
  exact hK
theorem yp4 {w p : Nat} (hp : 1 ≤ p) (hw : w < 2 ^ p) : w.testBit (p - 1) = decide (2 ^ (p - 1) ≤ w) := by
 have e2 : 2 ^ p = 2 ^ (p - 1) + 2 ^ (p - 1) := by obtain ⟨q, rfl⟩ : ∃ q, p = q + 1 := ⟨p - 1, by omega⟩; rw [Nat.pow_succ, Nat.add_sub_cancel]; omega
 by_cases h : 2 ^ (p - 1) ≤ w
 ·rw [decide_eq_true h, show w = 2 ^ (p - 1) + (w - 2 ^ (p - 1)) from by omega, Nat.testBit_two_pow_add_eq, Nat.testBit_lt_two_pow (by omega)]; rfl
 ·rw [decide_eq_false h, Nat.testBit_lt_two_pow (by omega)]
section
variable {n : Bool} {a b : Nat} {e : Int}
end
end Go.Ev.S

/- Values of encodings and back; the next encoding is next. -/
set_option linter.unusedVariables false
set_option linter.unusedSimpArgs false
set_option maxRecDepth 8000
namespace Go.Ev.S
open Go Go.Ev
theorem yrt (f x : Nat) (h : f ≤ 3) : mg f x < 2 ^ (fw f - 1) := yfp h (yk5 f x) (ygv f x)
theorem yrw {f : Nat} (h : f ≤ 3) (n : Bool) {m : Nat} (hm : m < 2 ^ (fw f - 1)) : sg f n + m < 2 ^ fw f := by
 have e : 2 ^ fw f = 2 ^ (fw f - 1) + 2 ^ (fw f - 1) := by rcases yea h with rfl | rfl | rfl | rfl <;> decide
 cases n
 ·have : sg f false = 0 := rfl
  omega
 ·have : sg f true = 2 ^ (fw f - 1) := rfl
  omega
theorem ypk {f : Nat} (h : f ≤ 3) (n : Bool) {m : Nat} (hm : m < 2 ^ (fw f - 1)) : ng f (sg f n + m) = n ∧ mg f (sg f n + m) = m := by
 have e := yrG f _ h (yrw h n hm)
 have h2 := yrt f (sg f n + m) h
 have s1 : sg f true = 2 ^ (fw f - 1) := rfl
 have s0 : sg f false = 0 := rfl
 generalize ng f (sg f n + m) = k at e
 generalize mg f (sg f n + m) = q at e h2
 cases n <;> cases k <;> simp only [s0, s1] at e <;> refine ⟨?_, ?_⟩ <;> first | rfl | omega
def sm (f x : Nat) : Int := cond (ng f x) (-(mg f x : Int)) (mg f x)
end Go.Ev.S

/- The next encoding is next. -/
set_option linter.unusedVariables false
set_option linter.unusedSimpArgs false
set_option maxRecDepth 8000
namespace Go.Ev.S
open Go Go.Ev
end Go.Ev.S

/- Parts packed: the same on both sides. -/
set_option linter.unusedVariables false
set_option linter.unusedSimpArgs false
set_option maxRecDepth 8000
namespace Go.Ev.S
open Go Go.Ev
def tst (f : Nat) (c : Int) (s : Nat → Int) (x : Int) (r : Nat → Int) (b : Nat) (K : Int → Int → Int → Prop) : Prop :=
 br (!(eqI (cls f b) c && (eqN 6 (W (yb5 f b)) s && (eqI (ycA f b) x && eqN 6 (W (ufr f b)) r)))) (K 0 0 80) (K (Hi b) (Lo b) 0)
section
variable {f : Nat} {s r : Nat → Int} {x : Int} {K : Int → Int → Int → Prop}
theorem yqS (h : f ≤ 3) (c : Int) {b : Nat} (hb : b < 2 ^ fw f) (hK : tst f c s x r b K) : zaq f (Hi b) (Lo b) fun y0_1 y1_1 y2 y3 y4 => br (!(eqI y0_1 c && (eqN 6 y1_1 s && (eqI y2 x && eqN 6 y3 r)))) (K 0 0 80) (K (Hi b) (Lo b) 0) :=
 yed f b h hb _ hK
theorem yqM (h : f ≤ 3) (c : Int) {b : Nat} (hb : b < 2 ^ fw f) (hK : tst f c s x r b K) : zck f (Hi b) (Lo b) fun y0_1 y1_1 y2 y3 => br (!(eqI y0_1 c && (eqN 6 y1_1 s && (eqI y2 x && eqN 6 y3 r)))) (K 0 0 80) (K (Hi b) (Lo b) 0) :=
 ye6 f b h hb _ hK
theorem ymO (h : f ≤ 3) (hx : -9223372036854775808 ≤ x ∧ x < 9223372036854775808) :
  (yaj .i64 (yae .i64 x (1 - (fe f : Int))) (fp f : Int) < 1 ∨ 2 * (fe f : Int) < yaj .i64 (yae .i64 x (1 - (fe f : Int))) (fp f : Int)) ∧ (x - 1 + fe f + fp f < 1 ∨ 2 * (fe f : Int) < x - 1 + fe f + fp f)
  ∨ yaj .i64 (yae .i64 x (1 - (fe f : Int))) (fp f : Int) = x - 1 + fe f + fp f := by
 have w := ybK f h
 have h1 : 1 ≤ fe f := by rcases yea h with rfl | rfl | rfl | rfl <;> decide
 by_cases hb : x ≤ 9223372036854700000
 ·right
  by_cases hl : -9223372036854775808 ≤ x - (1 - (fe f : Int))
  ·rw [yaW (by omega) (by omega), yat (by omega) (by omega)]; omega
  ·omega
 ·left
  refine ⟨?_, by omega⟩
  by_cases c1 : x - (1 - (fe f : Int)) < 9223372036854775808
  ·rw [yaW (by omega) (by omega)]
   by_cases c2 : x - (1 - (fe f : Int)) + fp f < 9223372036854775808
   ·rw [yat (by omega) (by omega)]; omega
   ·left
    show IntKind.wrap .i64 _ < 1
    rw [yf6]; omega
  ·left
   have : yae .i64 x (1 - (fe f : Int)) = x - (1 - (fe f : Int)) - 18446744073709551616 := by
    show IntKind.wrap .i64 _ = _
    rw [yf6]; omega
   rw [this, yat (by omega) (by omega)]; omega
theorem ym2 (h : f ≤ 3) : ya0 .i64 2 (fe f : Int) = 2 * fe f := by rcases yea h with rfl | rfl | rfl | rfl <;> decide
theorem ynD (h : f ≤ 3) (c : Int) (hc : c = 2 ∨ c = 5 ∨ c = 1 ∨ c = 6) {t : Nat} (ht : t < Q6) (hx : -9223372036854775808 ≤ x ∧ x < 9223372036854775808)
  (h1 : (2 ^ fp f ≤ t ∨ x - 1 + fe f + fp f < 1 ∨ 2 * (fe f : Int) < x - 1 + fe f + fp f) → K 0 0 80)
  (h2 : t < 2 ^ (fp f - 1) → tst f c (W t) x r (enc f (ltI c 4) 0 t) K)
  (h3 : ∀ E : Nat, (E : Int) = x - 1 + fe f + fp f → 1 ≤ E → E ≤ 2 * fe f → 2 ^ (fp f - 1) ≤ t → t < 2 ^ fp f → tst f c (W t) x r (enc f (ltI c 4) E (t % 2 ^ (fp f - 1))) K) : zam f c (W t) x r K := by
 have w := ybK f h
 have hm := ymO (x := x) h hx
 have key : zco f fun y0 => br (!eqI y0 0) (K 0 0 2) (zct f fun y0 => zcq f fun y0_1 => zdh (W t) fun y0_2 => br (ltI y0 y0_2) (K 0 0 80) (br (ltI (yaj .i64 (yae .i64 x y0_1) y0) 1) (K 0 0 80) (zcp f fun y0_3 => br (ltI (ya0 .i64 2 y0_3) (yaj .i64 (yae .i64 x y0_1) y0)) (K 0 0 80) (zdf (W t) (yae .i64 y0 1) fun y0_4 => br (!y0_4) (zdj (yae .i64 y0 1) fun y0 => zde (W t) y0 fun y0 => zar f (ltI c 4) 0 y0 fun y0 y1 => zaq f y0 y1 fun y0_5 y1_1 y2 y3 y4 => br (!(eqI y0_5 c && (eqN 6 y1_1 (W t) && (eqI y2 x && eqN 6 y3 r)))) (K 0 0 80) (K y0 y1 0)) (zdj (yae .i64 y0 1) fun y0_5 => zde (W t) y0_5 fun y0_6 => zar f (ltI c 4) (yaj .i64 (yae .i64 x y0_1) y0) y0_6 fun y0 y1 => zaq f y0 y1 fun y0_7 y1_1 y2 y3 y4 => br (!(eqI y0_7 c && (eqN 6 y1_1 (W t) && (eqI y2 x && eqN 6 y3 r)))) (K 0 0 80) (K y0 y1 0)))))) := by
  rw [ybf f h, yav (by rfl), yas f h, yce f h]
  refine ybp t ht _ ?_
  have hb := yaY t (fp f)
  by_cases hl : t < 2 ^ fp f
  rotate_left
  ·rw [yaE (ybz (by omega))]; exact h1 (.inl (by omega))
  rw [yav (ycd (by omega))]
  generalize yaj .i64 (yae .i64 x (1 - (fe f : Int))) (fp f : Int) = E at hm ⊢
  by_cases e1 : E < 1
  ·rw [yaE (ybz e1)]; exact h1 (by omega)
  rw [yav (ycd (by omega)), ybb f h, ym2 h]
  by_cases e2 : 2 * (fe f : Int) < E
  ·rw [yaE (ybz e2)]; exact h1 (by omega)
  rw [yav (ycd (by omega)), yfY f h, yc8 t (fp f - 1) (by omega), yp4 (by omega) hl]
  refine yqs (fun hs => ?_) fun hs => ?_
  ·refine ydC _ (by omega) _ ?_
   refine yeq _ _ ht _ ?_
   rw [Nat.and_two_pow_sub_one_eq_mod, Nat.mod_eq_of_lt (by omega)]
   exact ycn f 0 t h (by omega) (by omega) _ _ (yqS h c (ybJ h (by omega) (by omega) _) (h2 (by omega)))
  ·refine ydC _ (by omega) _ ?_
   refine yeq _ _ ht _ ?_
   rw [Nat.and_two_pow_sub_one_eq_mod]
   obtain ⟨e, he⟩ : ∃ e : Nat, (e : Int) = E := ⟨E.toNat, by omega⟩
   rw [← he]
   have hlt := Nat.mod_lt t (Nat.two_pow_pos (fp f - 1))
   exact ycn f e _ h (by omega) hlt _ _ (yqS h c (ybJ h (by omega) hlt _) (h3 e (by omega) (by omega) (by omega) hs hl))
 rw [zam.is]; unfold zam.d
 rcases hc with rfl | rfl | rfl | rfl <;> exact key
theorem ypP (h : f ≤ 3) (c : Int) (hc : c = 2 ∨ c = 5) {t : Nat} (ht : t < Q6) (h1 : 2 ^ (fp f - 1) ≤ t → K 0 0 80) (h2 : t < 2 ^ (fp f - 1) → tst f c (W t) x r (enc f (ltI c 4) 0 t) K) : zcg f c (W t) x r K := by
 have w := ybK f h
 have key : zca f fun y0 => zbh (W t) fun y0_1 => br (ltI (yae IntKind.i64 y0 1) y0_1) (K 0 0 80) (zbt f (eqI c 2) 0 (W t) fun y0 y1 => zck f y0 y1 fun y0_2 y1_1 y2 y3 => br (!(eqI y0_2 c && (eqN 6 y1_1 (W t) && (eqI y2 x && eqN 6 y3 r)))) (K 0 0 80) (K y0 y1 0)) := by
  have en : eqI c 2 = ltI c 4 := by rcases hc with rfl | rfl <;> rfl
  rw [yaB f h, en]
  refine ybI t ht _ ?_
  have hb := yaY t (fp f - 1)
  rw [yfY f h]
  by_cases hl : t < 2 ^ (fp f - 1)
  ·rw [yav (ycd (by omega))]
   exact ybn f 0 t h (by omega) hl _ _ (yqM h c (ybJ h (by omega) hl _) (h2 hl))
  ·rw [yaE (ybz (by omega))]; exact h1 (by omega)
 rw [zcg.is]; unfold zcg.d
 rcases hc with rfl | rfl <;> exact key
theorem ynT (h : f ≤ 3) (c : Int) (hc : c = 1 ∨ c = 6) {t : Nat} (ht : t < Q6) (hx : -9223372036854775808 ≤ x ∧ x < 9223372036854775808)
  (h1 : (t < 2 ^ (fp f - 1) ∨ 2 ^ fp f ≤ t ∨ x - 1 + fe f + fp f < 1 ∨ 2 * (fe f : Int) < x - 1 + fe f + fp f) → K 0 0 80)
  (h3 : ∀ E : Nat, (E : Int) = x - 1 + fe f + fp f → 1 ≤ E → E ≤ 2 * fe f → 2 ^ (fp f - 1) ≤ t → t < 2 ^ fp f → tst f c (W t) x r (enc f (ltI c 4) E (t % 2 ^ (fp f - 1))) K) : zcg f c (W t) x r K := by
 have w := ybK f h
 have key : zca f fun y0 => zbv f fun y0_1 => zbh (W t) fun y0_2 => br (!eqI y0_2 y0) (K 0 0 80) (br (ltI x (yaj IntKind.i64 (yae IntKind.i64 y0_1 y0) 1)) (K 0 0 80) (zbu f fun y0_3 => br (ltI (yaj IntKind.i64 (yae IntKind.i64 y0_3 y0) 1) x) (K 0 0 80) (zbi (yae IntKind.i64 y0 1) fun y0_4 => zbc (W t) y0_4 fun y0_5 => zbt f (eqI c 1) (yaj IntKind.i64 (yae IntKind.i64 x (yaj IntKind.i64 (yae IntKind.i64 y0_1 y0) 1)) 1) y0_5 fun y0 y1 => zck f y0 y1 fun y0_6 y1_1 y2 y3 => br (!(eqI y0_6 c && (eqN 6 y1_1 (W t) && (eqI y2 x && eqN 6 y3 r)))) (K 0 0 80) (K y0 y1 0)))) := by
  have en : eqI c 1 = ltI c 4 := by rcases hc with rfl | rfl <;> rfl
  rw [yaB f h, en, ygR f h]
  refine ybI t ht _ ?_
  have hb := yaY t (fp f)
  have hb2 := yaY t (fp f - 1)
  by_cases hl : ybu t = fp f
  rotate_left
  ·rw [yaE (by rw [yls (show (ybu t : Int) ≠ fp f by omega)]; rfl)]; exact h1 (by omega)
  rw [yav (by rw [ypM (show (ybu t : Int) = fp f by omega)]; rfl)]
  have e0 : yaj .i64 (yae .i64 (1 - (fe f : Int)) (fp f : Int)) 1 = 2 - fe f - fp f := by
   rw [yaW (by omega) (by omega), yat (by omega) (by omega)]; omega
  have e0' : yaj .i64 (yae .i64 (fe f : Int) (fp f : Int)) 1 = fe f - fp f + 1 := by
   rw [yaW (by omega) (by omega), yat (by omega) (by omega)]
  rw [e0]
  by_cases e1 : x < 2 - fe f - fp f
  ·rw [yaE (ybz e1)]; exact h1 (by omega)
  rw [yav (ycd (by omega)), ydo f h, e0']
  by_cases e2 : (fe f : Int) - fp f + 1 < x
  ·rw [yaE (ybz e2)]; exact h1 (by omega)
  rw [yav (ycd (by omega)), yfY f h]
  refine ygF _ (by omega) _ ?_
  refine yh8 _ _ ht _ ?_
  rw [Nat.and_two_pow_sub_one_eq_mod]
  obtain ⟨e, he⟩ : ∃ e : Nat, (e : Int) = x - 1 + fe f + fp f := ⟨(x - 1 + fe f + fp f).toNat, by omega⟩
  have e3 : yaj .i64 (yae .i64 x (2 - fe f - fp f)) 1 = (e : Int) := by
   rw [yaW (by omega) (by omega), yat (by omega) (by omega)]; omega
  rw [e3]
  have hlt := Nat.mod_lt t (Nat.two_pow_pos (fp f - 1))
  exact ybn f e _ h (by omega) hlt _ _ (yqM h c (ybJ h (by omega) hlt _) (h3 e he (by omega) (by omega) (by omega) (by omega)))
 rw [zcg.is]; unfold zcg.d
 rcases hc with rfl | rfl <;> exact key
end
end Go.Ev.S

/- Parts: apart and together. -/
set_option linter.unusedVariables false
set_option linter.unusedSimpArgs false
set_option maxRecDepth 8000
namespace Go.Ev.S
open Go Go.Ev
theorem yc4 {f : Nat} (h : f ≤ 3) (n : Bool) {E t : Nat} (he : E ≤ 2 * fe f + 1) (ht : t < 2 ^ (fp f - 1)) : ng f (enc f n E t) = n ∧ ex f (enc f n E t) = E ∧ fr f (enc f n E t) = t := by
 have hb := yfp h he ht
 have p := ypk h n hb
 have e1 : enc f n E t = sg f n + (E * 2 ^ (fp f - 1) + t) := by unfold enc; omega
 rw [← e1] at p
 have h2 := p.2
 unfold mg at h2
 have d1 := yqW (ex f (enc f n E t)) (fr f (enc f n E t)) (2 ^ (fp f - 1)) (ygv _ _)
 have d2 := yqW E t (2 ^ (fp f - 1)) ht
 rw [h2] at d1
 exact ⟨p.1, by rw [← d1.1, d2.1], by rw [← d1.2, d2.2]⟩
theorem ylz {f : Nat} (h : f ≤ 3) (n : Bool) {E t : Nat} (h1 : 1 ≤ E) (he : E ≤ 2 * fe f) (ht : t < 2 ^ (fp f - 1)) : cls f (enc f n E t) = cond n 1 6 := by
 obtain ⟨p1, p2, p3⟩ := yc4 h n (show E ≤ 2 * fe f + 1 by omega) ht
 unfold cls; rw [p1, p2, if_neg (by omega), if_pos (by omega)]
end Go.Ev.S

/- The text of an encoding, and what is read of it. -/
set_option linter.unusedVariables false
set_option linter.unusedSimpArgs false
set_option maxRecDepth 8000
namespace Go.Ev.S
open Go Go.Ev
open Go.Lib (decDigits nDigits indexByte parseUint10 parseMag atoiAll)
def body (f x : Nat) : List UInt8 :=
  if cls f x = 9 then [110, 97, 110, 58] ++ tw (ufr f x) else if cls f x = 8 then [115, 110, 97, 110, 58] ++ tw (ufr f x) else
  if cls f x = 0 ∨ cls f x = 7 then [105, 110, 102] else if cls f x = 3 ∨ cls f x = 4 then [48] else tw (yb5 f x) ++ [112] ++ Go.Lib.itoa (ycA f x)
def txt (f x : Nat) : List UInt8 := cond (ng f x) [45] [] ++ body f x
theorem yhJ (f x : Nat) (h : f ≤ 3) : ufr f x < Q6 := by
  have w := ybK f h
  have hf := ygv f x
  have : ufr f x ≤ fr f x := by unfold ufr; cases isQ (cls f x) <;> simp
  exact ylw (a := fp f - 1) (by omega) (by omega)
theorem ydy (f x : Nat) (h : f ≤ 3) (hx : x < 2 ^ fw f) (K : List UInt8 → Int → Prop) (hK : K (txt f x) 0) : zap f (Hi x) (Lo x) K := by
  have lq := yfX (yhJ f x h)
  have ls := yfX (yfq f x h)
  have he := ydY f x h
  have li := ygh (n := ycA f x) (by omega) (by omega)
  have hI : ∀ Q : List UInt8 → Prop, Q (Go.Lib.itoa (ycA f x)) → zdb (ycA f x) Q := fun Q hQ => by
    rw [zdb.is]; exact ⟨by omega, hQ⟩
  have hT : ∀ Q : List UInt8 → Prop, Q (tw (ufr f x)) → zdp (W (ufr f x)) Q := fun Q hQ => yfS _ (yhJ f x h) Q hQ
  have hS : ∀ Q : List UInt8 → Prop, Q (tw (yb5 f x)) → zdp (W (yb5 f x)) Q := fun Q hQ => yfS _ (yfq f x h) Q hQ
  rw [zap.is]; unfold zap.d
  refine yed f x h hx _ ?_
  rw [yav (show (!eqI 0 0) = false from rfl), yki f x h hx]
  unfold txt body at hK
  cases hn : ng f x <;> rw [hn] at hK
  · rw [yav rfl]
    rcases yft f x with c | c | c | c | c | c | c | c | c | c <;> rw [c] at hK ⊢
    all_goals first
      | exact hK
      | (refine hT _ ?_; rw [yaK (yaM (by omega))]; exact hK)
      | (refine hS _ ?_
         rw [yaK (yaM (by omega)), yaK (yaM (by simp only [List.length_append, List.length_cons, List.length_nil]; omega))]
         refine hI _ ?_
         rw [yaK (yaM (by simp only [List.length_append, List.length_cons, List.length_nil]; omega))]
         exact hK)
  · rw [yaE rfl]
    rcases yft f x with c | c | c | c | c | c | c | c | c | c <;> rw [c] at hK ⊢
    all_goals first
      | exact hK
      | (refine hT _ ?_; rw [yaK (yaM (by omega))]; exact hK)
      | (refine hS _ ?_
         rw [yaK (yaM (by omega)), yaK (yaM (by simp only [List.length_append, List.length_cons, List.length_nil]; omega))]
         refine hI _ ?_
         rw [yaK (yaM (by simp only [List.length_append, List.length_cons, List.length_nil]; omega))]
         exact hK)
end Go.Ev.S

/- What is read of a text: the encoding back. -/
set_option linter.unusedVariables false
set_option linter.unusedSimpArgs false
set_option maxRecDepth 8000
namespace Go.Ev.S
open Go Go.Ev
open Go.Lib (decDigits nDigits indexByte parseUint10 parseMag atoiAll)
theorem ten (f x : Nat) (h : f ≤ 3) (hx : x < 2 ^ fw f) :
  (cls f x = cond (ng f x) 0 7 ∧ x = enc f (ng f x) (2 * fe f + 1) 0) ∨
  (cls f x = cond (ng f x) 3 4 ∧ x = enc f (ng f x) 0 0) ∨
  (cls f x = cond (ng f x) 2 5 ∧ x = enc f (ng f x) 0 (fr f x) ∧ fr f x ≠ 0 ∧ yb5 f x = fr f x ∧ ycA f x = 2 - (fe f : Int) - fp f ∧ ufr f x = 0) ∨
  (cls f x = cond (ng f x) 1 6 ∧ x = enc f (ng f x) (ex f x) (fr f x) ∧ 1 ≤ ex f x ∧ ex f x ≤ 2 * fe f ∧ yb5 f x = fr f x + 2 ^ (fp f - 1) ∧ ycA f x = (ex f x : Int) + 1 - fe f - fp f ∧ ufr f x = 0) ∨
  ((cls f x = 8 ∨ cls f x = 9) ∧ x = enc f (ng f x) (2 * fe f + 1) (fr f x) ∧ fr f x ≠ 0 ∧ ufr f x = fr f x ∧ yb5 f x = 0 ∧ ycA f x = 0) := by
 have he := ynn f x h hx
 have hl := yk5 f x
 unfold yb5 ycA ufr
 by_cases e1 : ex f x = 2 * fe f + 1
 ·by_cases f0 : fr f x = 0
  ·left
   rw [e1, f0] at he
   refine ⟨?_, he.symm⟩
   unfold cls; rw [if_pos e1, if_neg (by simpa using f0)]
  ·right; right; right; right
   rw [e1] at he
   have c : cls f x = 8 ∨ cls f x = 9 := by
    unfold cls; rw [if_pos e1, if_pos f0]; cases (fr f x).testBit (fp f - 2) <;> simp
   refine ⟨c, he.symm, f0, ?_⟩
   rcases c with c | c <;> rw [c] <;> exact ⟨rfl, rfl, rfl⟩
 ·by_cases e0 : ex f x = 0
  ·rw [e0] at he
   by_cases f0 : fr f x = 0
   ·right; left
    rw [f0] at he
    refine ⟨?_, he.symm⟩
    unfold cls; rw [if_neg e1, if_neg (by simpa using e0), if_neg (by simpa using f0)]
   ·right; right; left
    have c : cls f x = cond (ng f x) 2 5 := by
     unfold cls; rw [if_neg e1, if_neg (by simpa using e0), if_pos f0]
    refine ⟨c, he.symm, f0, ?_⟩
    rw [c]
    cases ng f x <;> exact ⟨rfl, rfl, rfl⟩
  ·right; right; right; left
   have c : cls f x = cond (ng f x) 1 6 := by
    unfold cls; rw [if_neg e1, if_pos e0]
   refine ⟨c, he.symm, by omega, by omega, ?_⟩
   rw [c]
   cases ng f x <;> exact ⟨rfl, rfl, rfl⟩
theorem ygg {f b : Nat} {c : Int} {t : Nat} {x : Int} {r : Nat → Int} {K : Int → Int → Int → Prop} (h1 : cls f b = c) (h2 : yb5 f b = t) (h3 : ycA f b = x) (h4 : W (ufr f b) = r) (hK : K (Hi b) (Lo b) 0) : tst f c (W t) x r b K := by
 subst h1 h2 h3 h4
 unfold tst
 rw [yim, yim, yiV, yiV, yav (by rfl)]; exact hK
theorem yfm (c : UInt8) : ∀ (l l' r r' : List UInt8), l ++ c :: r = l' ++ c :: r' → c ∉ l → c ∉ l' → l = l' ∧ r = r'
 | [], [], r, r', e, _, _ => ⟨rfl, by injection e⟩
 | [], b :: l', r, r', e, _, h2 => by
  injection e with e1 e2
  exact absurd (by rw [← e1]; exact List.mem_cons_self) h2
 | a :: l, [], r, r', e, h1, _ => by
  injection e with e1 e2
  exact absurd (by rw [e1]; exact List.mem_cons_self) h1
 | a :: l, b :: l', r, r', e, h1, h2 => by
  injection e with e1 e2
  have := yfm c l l' r r' e2 (fun m => h1 (List.mem_cons_of_mem _ m)) (fun m => h2 (List.mem_cons_of_mem _ m))
  exact ⟨by rw [e1, this.1], this.2⟩
theorem yoj (l r : List UInt8) (c : UInt8) (hl : (l ++ c :: r).length ≤ 9223372036854775806) (hc : c ∉ l) (K : List UInt8 → List UInt8 → Bool → Prop) (hK : K l r true) : zdc (l ++ c :: r) [c] K := by
 refine ycL _ hl c K (fun l' r' e hc' => ?_) (fun hn => absurd (List.mem_append_right _ List.mem_cons_self) hn)
 obtain ⟨rfl, rfl⟩ := yfm c l l' r r' e hc hc'
 exact hK
theorem yrf (s : List UInt8) (c : UInt8) (hl : s.length ≤ 9223372036854775806) (hc : c ∉ s) (K : List UInt8 → List UInt8 → Bool → Prop) (hK : K s [] false) : zdc s [c] K := by
 refine ycL _ hl c K (fun l' r' e hc' => ?_) (fun _ => hK)
 exact absurd (by rw [e]; exact List.mem_append_right _ List.mem_cons_self) hc
theorem yfB {v : Nat} (hv : v < Q6) (K : (Nat → Int) → Int → Prop) (hK : K (W v) 0) : zdn (tw v) K := by
 have e := ypT (v := v) (N := 96) rfl (ypF rfl hv)
 refine yfR _ K (fun w hw _ => ?_) (fun hn => ?_)
 ·rw [e] at hw; injection hw with hw; rw [← hw]; exact hK
 ·rw [e] at hn; exact absurd hn (by simp)
theorem yk3 (v : Nat) (l : List UInt8) : ∃ c r, tw v ++ l = c :: r ∧ ygN c ≠ none ∧ c ∈ tw v := by
 have h1 := yrr v
 have h2 := ynu v
 generalize tw v = t at *
 cases t with
 | nil => exact absurd rfl h1
 | cons a r => exact ⟨a, r ++ l, rfl, h2 a List.mem_cons_self, List.mem_cons_self⟩
theorem yoS (n : Int) : ∀ c ∈ Go.Lib.itoa n, c = 45 ∨ (48 ≤ c.toNat ∧ c.toNat ≤ 57) := by
 intro c hc
 unfold Go.Lib.itoa at hc
 split at hc
 ·rcases List.mem_cons.1 hc with rfl | hc
  ·exact .inl rfl
  ·exact .inr (yif _ c hc)
 ·exact .inr (yif _ c hc)
theorem ypR (v : Nat) (n : Int) (c : UInt8) (h1 : ygN c = none) (h2 : c ≠ 112) (h3 : c ≠ 45) : c ∉ tw v ++ 112 :: Go.Lib.itoa n := by
 intro hc
 rcases List.mem_append.1 hc with hc | hc
 ·exact ynu v c hc h1
 ·rcases List.mem_cons.1 hc with hc | hc
  ·exact h2 hc
  ·rcases yoS n c hc with hc | ⟨ha, hb⟩
   ·exact h3 hc
   ·unfold ygN at h1; rw [if_pos ⟨ha, hb⟩] at h1; exact absurd h1 (by simp)
theorem yi8 (f x : Nat) : (body f x)[0]? ≠ some 45 := by
 unfold body
 split
 ·simp
 split
 ·simp
 split
 ·simp
 split
 ·simp
 obtain ⟨c, r, e, hc, _⟩ := yk3 (yb5 f x) ([112] ++ Go.Lib.itoa (ycA f x))
 rw [List.append_assoc, e]
 intro hh
 have : c = 45 := by simpa using hh
 exact hc (by rw [this]; decide)
theorem ypA (f x : Nat) (K : List UInt8 → Bool → Prop) (hK : K (body f x) (ng f x)) : zdd (txt f x) [45] K := by
 unfold txt
 cases hn : ng f x <;> rw [hn] at hK
 ·show zdd (body f x) [45] K
  refine yby _ 45 K (fun r e => ?_) (fun _ => hK)
  exact absurd (by rw [e]; rfl) (yi8 f x)
 ·show zdd (45 :: body f x) [45] K
  refine yby _ 45 K (fun r e => ?_) (fun hn => absurd rfl hn)
  injection e with _ e
  rw [← e]; exact hK
theorem z0 : W 0 = (fun _ => 0) := W_zero
theorem ypg {f t : Nat} (h : f ≤ 3) (ht : t < 2 ^ (fp f - 1)) (h0 : t ≠ 0) (K : Int → Int → Int → Prop) (hK : K (Hi (enc f false 0 t)) (Lo (enc f false 0 t)) 0) : zam f 5 (W t) (2 - (fe f : Int) - fp f) (fun _ => 0) K := by
 have w := ybK f h
 have hQ : t < Q6 := Nat.lt_of_lt_of_le ht (ygs (by omega))
 have p := yc4 h false (show 0 ≤ 2 * fe f + 1 by omega) ht
 have c : cls f (enc f false 0 t) = 5 := by
  unfold cls; rw [p.2.1, p.2.2, p.1, if_neg (by omega), if_neg (by omega), if_pos h0]; rfl
 refine ynD h 5 (by omega) hQ (by omega) (fun hh => ?_) (fun _ => ?_) (fun E hE k1 k2 k3 k4 => by omega)
 ·exfalso
  have := Nat.pow_le_pow_right (n := 2) (by omega) (show fp f - 1 ≤ fp f by omega)
  have : 1 ≤ fe f := by rcases yea h with rfl | rfl | rfl | rfl <;> decide
  omega
 ·rw [show ltI 5 4 = false from rfl]
  refine ygg c ?_ ?_ ?_ hK
  ·unfold yb5; rw [c]; exact p.2.2
  ·unfold ycA; rw [c]; rfl
  ·unfold ufr; rw [c]; exact z0
theorem yoC {f t E : Nat} (h : f ≤ 3) (ht : t < 2 ^ (fp f - 1)) (h1 : 1 ≤ E) (h2 : E ≤ 2 * fe f) (K : Int → Int → Int → Prop) (hK : K (Hi (enc f false E t)) (Lo (enc f false E t)) 0) : zam f 6 (W (t + 2 ^ (fp f - 1))) ((E : Int) + 1 - fe f - fp f) (fun _ => 0) K := by
 have w := ybK f h
 have hp : 2 ^ fp f = 2 * 2 ^ (fp f - 1) := by rw [← Nat.pow_succ']; congr 1; omega
 have hQ : t + 2 ^ (fp f - 1) < Q6 := Nat.lt_of_lt_of_le (show _ < 2 ^ fp f by omega) (ygs (by omega))
 have p := yc4 h false (show E ≤ 2 * fe f + 1 by omega) ht
 have c : cls f (enc f false E t) = 6 := ylz h false h1 h2 ht
 refine ynD h 6 (by omega) hQ (by omega) (fun hh => ?_) (fun _ => ?_) (fun E' hE k1 k2 k3 k4 => ?_)
 ·exfalso; omega
 ·exfalso; omega
 ·have : E' = E := by omega
  subst this
  rw [Nat.add_mod_right, Nat.mod_eq_of_lt ht, show ltI 6 4 = false from rfl]
  refine ygg c ?_ ?_ ?_ hK
  ·unfold yb5; rw [c]; show fr f _ + _ = _; rw [p.2.2]
  ·unfold ycA; rw [c]; show (ex f _ : Int) + 1 - fe f - fp f = _; rw [p.2.1]
  ·unfold ufr; rw [c]; exact z0
theorem yp1 (v : Nat) (c : UInt8) (h : ygN c = none) : c ∉ tw v := fun hc => ynu v c hc h
theorem ylU {v : Nat} {n : Int} (hv : v < Q6) (hn : -16495 ≤ n ∧ n ≤ 16272) (A B : Prop) (C : List UInt8 → List UInt8 → Prop) (F : Int → Int → Bool → Prop) (T : (Nat → Int) → Int → Prop)
  (hT : T (W v) n) :
  br (eqS (tw v ++ 112 :: Go.Lib.itoa n) [105, 110, 102]) A (br (eqS (tw v ++ 112 :: Go.Lib.itoa n) [48]) B (zdc (tw v ++ 112 :: Go.Lib.itoa n) [58] fun y0_1 y1_1 y2 => br y2 (C y0_1 y1_1) (zdc (tw v ++ 112 :: Go.Lib.itoa n) [112] fun y0 y1_2 y2 => zdn y0 fun y0 y1_3 => zda y1_2 (fun y0_2 => br (!y2) (F 0 0 false) (br (!eqI y1_3 0) (F 0 0 false) (T y0 y0_2))) fun y0 => br (!y2) (F 0 0 false) (br (!eqI y1_3 0) (F 0 0 false) (F 0 0 false))))) := by
 have l1 := yfX hv
 have l2 := ygh (n := n) (by omega) (by omega)
 have hlen : (tw v ++ 112 :: Go.Lib.itoa n).length ≤ 9223372036854775806 := by
  rw [List.length_append, List.length_cons]; omega
 have n1 : eqS (tw v ++ 112 :: Go.Lib.itoa n) [105, 110, 102] = false := by
  obtain ⟨c, r, e, hc, _⟩ := yk3 v (112 :: Go.Lib.itoa n)
  rw [e, ycO]
  refine decide_eq_false fun hh => ?_
  injection hh with hh _
  exact hc (by rw [hh]; decide)
 have n2 : eqS (tw v ++ 112 :: Go.Lib.itoa n) [48] = false := by
  rw [ycO]
  refine decide_eq_false fun hh => ?_
  have : (112 : UInt8) ∈ [(48 : UInt8)] := by rw [← hh]; exact List.mem_append_right _ List.mem_cons_self
  revert this; decide
 rw [yav n1, yav n2]
 refine yrf _ 58 hlen (ypR v n 58 (by decide) (by decide) (by decide)) _ ?_
 rw [yav (by rfl)]
 refine yoj _ _ 112 hlen (yp1 v 112 (by decide)) _ ?_
 refine yfB hv _ ?_
 rw [zda.is]; unfold zda.d
 rw [yna (by omega) (by omega)]
 refine ⟨by omega, ?_⟩
 show br (!true) _ (br (!eqI 0 0) _ _)
 rw [yav (by rfl), yav (by rfl)]
 exact hT
theorem yj3 {f E t : Nat} (h : f ≤ 3) (he : E ≤ 2 * fe f + 1) (ht : t < 2 ^ (fp f - 1)) : ymi f (enc f false E t) = enc f true E t := by
 have p := yc4 h false he ht
 have := ylY f (enc f false E t) h (ybJ h he ht false)
 rw [p.1, p.2.1, p.2.2] at this
 exact this.symm
theorem yn1 {f E t : Nat} (h : f ≤ 3) (he : E ≤ 2 * fe f + 1) (ht : t < 2 ^ (fp f - 1)) (n : Bool) (F : Int → Int → Bool → Prop) (hF : F (Hi (enc f n E t)) (Lo (enc f n E t)) true) :
  br n (zal f (Hi (enc f false E t)) (Lo (enc f false E t)) fun y0 y1 => F y0 y1 (eqI 0 0)) (F (Hi (enc f false E t)) (Lo (enc f false E t)) (eqI 0 0)) := by
 cases n
 ·exact hF
 ·show zal f _ _ _
  rw [yfN f _ h (ybJ h he ht false), yj3 h he ht]; exact hF
theorem yii (f x : Nat) (h : f ≤ 3) (hx : x < 2 ^ fw f) (K : Int → Int → Bool → Prop) (hK : K (Hi x) (Lo x) true) : zau f (txt f x) K := by
 have w := ybK f h
 have hu := yhJ f x h
 have hs := yfq f x h
 have he := ydY f x h
 have hfr := ygv f x
 have hp : 2 ^ fp f = 2 * 2 ^ (fp f - 1) := by rw [← Nat.pow_succ']; congr 1; omega
 rw [zau.is]; unfold zau.d
 refine ypA f x _ ?_
 rcases ten f x h hx with ⟨c, e⟩ | ⟨c, e⟩ | ⟨c, e, f0, e1, e2, e3⟩ | ⟨c, e, l1, l2, e1, e2, e3⟩ | ⟨c, e, f0, e1, e2, e3⟩
 ·have hb : body f x = [105, 110, 102] := by
   unfold body; rw [c]; cases ng f x <;> rfl
  rw [hb, yaE (by rfl), yfG f h, ← e]; exact hK
 ·have hb : body f x = [48] := by
   unfold body; rw [c]; cases ng f x <;> rfl
  rw [hb, yav (by rfl), yaE (by rfl), ydh f h, ← e]; exact hK
 ·have hb : body f x = tw (yb5 f x) ++ 112 :: Go.Lib.itoa (ycA f x) := by
   unfold body; rw [c]; cases ng f x <;> exact List.append_assoc _ _ _
  rw [hb]
  refine ylU hs he _ _ _ K _ ?_
  refine ybp _ hs _ ?_
  rw [yas f h]
  have hbl := yaY (yb5 f x) (fp f - 1)
  rw [yav (yls (by omega)), e1, e2]
  refine ypg h hfr f0 _ ?_
  refine yn1 h (by omega) hfr _ K ?_
  rw [← e]; exact hK
 ·have hb : body f x = tw (yb5 f x) ++ 112 :: Go.Lib.itoa (ycA f x) := by
   unfold body; rw [c]; cases ng f x <;> exact List.append_assoc _ _ _
  rw [hb]
  refine ylU hs he _ _ _ K _ ?_
  refine ybp _ hs _ ?_
  rw [yas f h]
  have hbl := yaY (yb5 f x) (fp f - 1)
  have hbl2 := yaY (yb5 f x) (fp f)
  rw [yaE (ypM (by omega)), e1, e2]
  refine yoC h hfr l1 l2 _ ?_
  refine yn1 h (by omega) hfr _ K ?_
  rw [← e]; exact hK
 ·have hQ : fr f x < Q6 := by rw [← e1]; exact hu
  have hl := yfX hQ
  have key : ∀ (A B C : Prop), zdn (tw (fr f x)) fun y0 y1_2 => br (!eqI y1_2 0) (K 0 0 false) (zdh y0 fun y0_2 => zct f fun y0_3 => br (leI y0_3 y0_2) (K 0 0 false) (zcp f fun y0_4 => zar f (ng f x) (yaj IntKind.i64 (ya0 IntKind.i64 2 y0_4) 1) y0 fun y0 y1 => K y0 y1 true)) := fun A B C => by
   refine yfB hQ _ ?_
   rw [yav (by rfl)]
   refine ybp _ hQ _ ?_
   have hbl := yaY (fr f x) (fp f - 1)
   rw [yas f h, yav (yfE (by omega)), ybb f h, yn6 f h]
   refine ycn f _ _ h (Nat.le_refl _) hfr _ _ ?_
   rw [← e]; exact hK
  rcases c with c | c
  ·have hb : body f x = [115, 110, 97, 110] ++ 58 :: tw (fr f x) := by
    unfold body; rw [e1, c]; rfl
   rw [hb, yav (by rfl), yav (by rfl)]
   refine yoj _ _ 58 (by rw [List.length_append, List.length_cons]; simp only [List.length_cons, List.length_nil]; omega) (by decide) _ ?_
   exact key True True True
  ·have hb : body f x = [110, 97, 110] ++ 58 :: tw (fr f x) := by
    unfold body; rw [e1, c]; rfl
   rw [hb, yav (by rfl), yav (by rfl)]
   refine yoj _ _ 58 (by rw [List.length_append, List.length_cons]; simp only [List.length_cons, List.length_nil]; omega) (by decide) _ ?_
   exact key True True True
theorem yiJ (f x : Nat) (h : f ≤ 3) (hx : x < 2 ^ fw f) (K : Int → Int → Int → Prop) (hK : K (Hi x) (Lo x) 0) : zan f (txt f x) K := by
 rw [zan.is]; unfold zan.d
 rw [ybf f h, yav (by rfl)]
 refine yii f x h hx _ ?_
 refine ydy f x h hx _ ?_
 rw [yav (by rfl), yav (by rfl), yav (by rw [yik]; rfl)]
 exact hK
end Go.Ev.S

/- The document's own reading of texts. -/
set_option linter.unusedVariables false
set_option linter.unusedSimpArgs false
set_option maxRecDepth 8000
namespace Go.Ev.S
open Go Go.Ev
open Go.Lib (decDigits nDigits indexByte parseUint10 parseMag atoiAll)
theorem yqv (c : UInt8) (h : 48 ≤ c.toNat ∧ c.toNat ≤ 57) : cvI .u64 (yae .u8 ((c.toNat : Nat) : Int) 48) = ((c.toNat - 48 : Nat) : Int) := by
 have hcl := c.toNat_lt
 have : yae .u8 ((c.toNat : Nat) : Int) 48 = ((c.toNat - 48 : Nat) : Int) := by
  show IntKind.wrap .u8 (((c.toNat : Nat) : Int) - 48) = _
  have := ym3 (c.toNat - 48) (by omega)
  rw [show ((c.toNat : Nat) : Int) - 48 = ((c.toNat - 48 : Nat) : Int) from by omega]; exact this
 rw [this, ybk (by omega) (by omega)]
theorem yqy (c : UInt8) (h : 97 ≤ c.toNat ∧ c.toNat ≤ 102) : yaj .u64 (cvI .u64 (yae .u8 ((c.toNat : Nat) : Int) 97)) 10 = ((c.toNat - 87 : Nat) : Int) := by
 have : yae .u8 ((c.toNat : Nat) : Int) 97 = ((c.toNat - 97 : Nat) : Int) := by
  show IntKind.wrap .u8 (((c.toNat : Nat) : Int) - 97) = _
  have := ym3 (c.toNat - 97) (by omega)
  rw [show ((c.toNat : Nat) : Int) - 97 = ((c.toNat - 97 : Nat) : Int) from by omega]; exact this
 rw [this, ybk (by omega) (by omega), ykQ (by omega) (by omega)]; omega
theorem yec (c : UInt8) (K : Int → Bool → Prop) (h1 : ∀ d : Nat, ygN c = some d → K d true) (h2 : ygN c = none → K 0 false) : zbf ((c.toNat : Nat) : Int) K := by
 have hcl := c.toNat_lt
 rw [zbf.is]; unfold zbf.d
 by_cases c1 : 48 ≤ c.toNat ∧ c.toNat ≤ 57
 ·rw [yaE (yaM (by omega)), yaE (yaM (by omega)), yqv c c1]
  exact h1 _ (by unfold ygN; rw [if_pos c1])
 by_cases c2 : 97 ≤ c.toNat ∧ c.toNat ≤ 102
 ·have hr := h1 (c.toNat - 87) (by unfold ygN; rw [if_neg c1, if_pos c2])
  rw [yaE (yaM (by omega)), yav (yfE (by omega)), yaE (yaM (by omega)), yaE (yaM (by omega)), yqy c c2]
  exact hr
 ·have hf := h2 (by unfold ygN; rw [if_neg c1, if_neg c2])
  by_cases q1 : 48 ≤ c.toNat
  ·rw [yaE (yaM (by omega)), yav (yfE (by omega))]
   by_cases q2 : 97 ≤ c.toNat
   ·rw [yaE (yaM (by omega)), yav (yfE (by omega))]; exact hf
   ·rw [yav (yfE (by omega))]; exact hf
  ·rw [yav (yfE (by omega)), yav (yfE (by omega))]; exact hf
theorem ymK : ∀ d : Nat, d < 16 → ybR .u64 (d : Int) 0 = (d : Int) := by decide
theorem yqB (v d : Nat) (hd : d < 16) : upd (W (v * 16)) 0 (orI .u64 (W (v * 16) 0) (d : Int)) = W (v * 16 + d) := by
 have h := yoy (v * 16) d 0 (by show v * 16 % 16 = 0; exact Nat.mul_mod_left _ _) hd
 have e : ybR .u64 (d : Int) ((4 * (0 % 16) : Nat) : Int) = (d : Int) := ymK d hd
 rw [e, Nat.pow_zero, Nat.mul_one] at h
 exact h
theorem yiR (s : List UInt8) (hs : s.length ≤ 96) (k0 : Int → (Nat → Int) → Prop) (k1 : (Nat → Int) → (Nat → Int) → Prop) (z : Nat → Int) :
  ∀ (j i V : Nat), i + j = s.length → V < 16 ^ i → (∀ v, ycZ (s.drop i) V = some v → k1 z (W v)) → (ycZ (s.drop i) V = none → k0 20 (fun _ => 0)) → ∃ m, zbl.l5 k0 k1 m s (i : Int) z (W V) := by
 intro j
 induction j with
 | zero =>
  intro i V hi hV h1 h2
  refine ⟨1, ?_⟩
  unfold zbl.l5 zbl.l5.step
  rw [yav (ycd (by omega))]
  have hd : s.drop i = [] := List.drop_eq_nil_of_le (by omega)
  exact h1 V (by rw [hd]; rfl)
 | succ j ih =>
  intro i V hi hV h1 h2
  have hlt : i < s.length := by omega
  have hdr : s.drop i = s[i] :: s.drop (i + 1) := List.drop_eq_getElem_cons hlt
  rw [hdr] at h1 h2
  generalize hc : s[i] = c at h1 h2
  have hb : yar s i = ((c.toNat : Nat) : Int) := by rw [yd6 hlt, hc]
  have ei : yaj .i64 (i : Int) 1 = ((i + 1 : Nat) : Int) := by rw [yat (by omega) (by omega)]; omega
  have hVQ : V * 16 < Q6 := by
   have l1 : V * 16 < 16 ^ (i + 1) := by rw [Nat.pow_succ]; omega
   have l2 : (16 : Nat) ^ (i + 1) ≤ Q6 := by rw [p16]; exact ygs (by omega)
   omega
  cases hr : ygN c with
  | none =>
   have hf := h2 (by simp only [ycZ, hr])
   refine ⟨1, ?_⟩
   unfold zbl.l5 zbl.l5.step
   rw [yaE (ybz (by omega)), yaK (by simp only [Bool.and_eq_true]; exact ⟨yaM (by omega), ybz (by omega)⟩), Int.toNat_natCast, hb]
   exact yec c _ (fun d hd => by rw [hr] at hd; cases hd) (fun _ => hf)
  | some d =>
   have hd16 := ykr hr
   simp only [ycZ, hr] at h1 h2
   obtain ⟨m, hm⟩ := ih (i + 1) (V * 16 + d) (by omega) (by rw [Nat.pow_succ]; omega) h1 h2
   refine ⟨m + 1, ?_⟩
   unfold zbl.l5 zbl.l5.step
   rw [yaE (ybz (by omega)), yaK (by simp only [Bool.and_eq_true]; exact ⟨yaM (by omega), ybz (by omega)⟩), Int.toNat_natCast, hb]
   refine yec c _ (fun d' hd' => ?_) (fun hn => by rw [hr] at hn; cases hn)
   rw [hr] at hd'; injection hd' with hd'; subst hd'
   rw [yav (by rfl)]
   refine ydi V 4 (by omega) (by omega) _ ?_
   rw [show V * 2 ^ 4 = V * 16 from rfl, Nat.mod_eq_of_lt hVQ, yqB V d hd16, ei]
   exact hm
theorem ygH (s : List UInt8) (K : (Nat → Int) → Int → Prop) (h1 : ∀ v, rdW s = some v → v < Q6 → K (W v) 0) (h2 : rdW s = none → K (W 0) 20) : zbl s K := by
 rw [zbl.is]; unfold zbl.d
 rw [W_zero] at h2
 by_cases l1 : s.length < 1
 ·rw [yaE (ybz (by omega))]; exact h2 (by unfold rdW; rw [if_pos (.inl l1)])
 rw [yav (ycd (by omega))]
 by_cases l2 : 96 < s.length
 ·rw [yaE (ybz (by omega))]; exact h2 (by unfold rdW; rw [if_pos (.inr (.inl l2))])
 rw [yav (ycd (by omega))]
 have hb0 : yar s 0 = ((((s[0]?).getD 0).toNat : Nat) : Int) := rfl
 have run : ¬ (1 < s.length ∧ (s[0]?).getD 0 = 48) → ∃ n, zbl.l5 (fun y0 y1 => K y1 y0) (fun y0 y1 => K y1 0) n s 0 (fun x => 0) fun x => 0 := by
  intro hn
  have hr : rdW s = ycZ s 0 := by
   unfold rdW; rw [if_neg]
   rintro (a | a | a)
   ·omega
   ·omega
   ·exact hn a
  have := yiR s (by omega) (fun y0 y1 => K y1 y0) (fun y0 y1 => K y1 0) (fun x => 0) s.length 0 0 (by omega) (by decide) (fun v hv => h1 v (by rw [hr]; exact hv) ?_) fun hv => h2 (by rw [hr]; exact hv)
  ·rw [W_zero] at this; exact this
  ·have hl := yiW s 0 v 0 (by omega) hv
   rw [Nat.zero_add] at hl
   have hle : (16 : Nat) ^ s.length ≤ Q6 := by
    rw [p16]; exact ygs (by omega)
   exact Nat.lt_of_lt_of_le hl hle
 rw [yaK (ybz (by omega))]
 by_cases l4 : (s[0]?).getD 0 = 48
 ·rw [yaE (ypM (by rw [hb0, l4]; rfl))]
  by_cases l3 : 1 < s.length
  ·rw [yaE (ybz (by omega))]; exact h2 (by unfold rdW; rw [if_pos (.inr (.inr ⟨l3, l4⟩))])
  ·rw [yav (ycd (by omega))]; exact run fun hh => l3 hh.1
 ·rw [yav (yls (by
   rw [hb0]; intro hh
   apply l4
   have : ((s[0]?).getD 0).toNat = 48 := by omega
   exact UInt8.toNat.inj this))]
  exact run fun hh => l4 hh.2
theorem ygo {v : Nat} (hv : v < Q6) (K : (Nat → Int) → Int → Prop) (hK : K (W v) 0) : zbl (tw v) K := by
 have e := ypT (v := v) (N := 96) rfl (ypF rfl hv)
 refine ygH _ K (fun w hw _ => ?_) (fun hn => ?_)
 ·rw [e] at hw; injection hw with hw; rw [← hw]; exact hK
 ·rw [e] at hn; exact absurd hn (by simp)
theorem yi1 (s : List UInt8) (hs : s.length ≤ 9223372036854775806) (c : UInt8) (k0 : Int → Prop) (k1 : Prop) :
  ∀ (j i : Nat), i + j = s.length → c ∉ s.take i → (∀ l r, s = l ++ c :: r → c ∉ l → k0 (l.length : Int)) → (c ∉ s → k1) → ∃ m, zcl.l2 k0 k1 m s ((c.toNat : Nat) : Int) (i : Int) := by
 intro j
 induction j with
 | zero =>
  intro i hi hn h1 h2
  refine ⟨1, ?_⟩
  unfold zcl.l2 zcl.l2.step
  rw [yav (ycd (by omega))]
  rw [List.take_of_length_le (by omega)] at hn
  exact h2 hn
 | succ j ih =>
  intro i hi hn h1 h2
  have hlt : i < s.length := by omega
  have hb : yar s i = (((s[i]).toNat : Nat) : Int) := yd6 hlt
  have ei : yaj .i64 (i : Int) 1 = ((i + 1 : Nat) : Int) := by rw [yat (by omega) (by omega)]; omega
  by_cases hc : s[i] = c
  ·refine ⟨1, ?_⟩
   unfold zcl.l2 zcl.l2.step
   rw [yaE (ybz (by omega)), yaK (by simp only [Bool.and_eq_true]; exact ⟨yaM (by omega), ybz (by omega)⟩), Int.toNat_natCast, hb, yaE (ypM (by rw [hc]))]
   have hsplit : s = s.take i ++ c :: s.drop (i + 1) := by
    rw [← hc, ← List.drop_eq_getElem_cons hlt, List.take_append_drop]
   have := h1 _ _ hsplit hn
   rw [List.length_take, Nat.min_eq_left (by omega)] at this
   exact this
  ·obtain ⟨m, hm⟩ := ih (i + 1) (by omega) (by
    rw [List.take_succ_eq_append_getElem hlt]
    intro hh
    rcases List.mem_append.1 hh with hh | hh
    ·exact hn hh
    ·exact hc (List.mem_singleton.1 hh).symm) h1 h2
   refine ⟨m + 1, ?_⟩
   unfold zcl.l2 zcl.l2.step
   rw [yaE (ybz (by omega)), yaK (by simp only [Bool.and_eq_true]; exact ⟨yaM (by omega), ybz (by omega)⟩), Int.toNat_natCast, hb, yav (yls (fun hh => hc (UInt8.toNat.inj (by omega)))), ei]
   exact hm
theorem yde (s : List UInt8) (hs : s.length ≤ 9223372036854775806) (c : UInt8) (a : Int) (ha : a = ((c.toNat : Nat) : Int)) (K : Int → Prop) (h1 : ∀ l r, s = l ++ c :: r → c ∉ l → K (l.length : Int)) (h2 : c ∉ s → K (-1)) : zcl s a K := by
 subst ha
 rw [zcl.is]; unfold zcl.d
 exact yi1 s hs c _ _ s.length 0 (by omega) (by simp) h1 h2
theorem yeN (s : List UInt8) (l : Nat) : ybw s l (Int.toNat ((s.length : Nat) : Int)) = s.drop l := by
 unfold ybw; rw [Int.toNat_natCast, List.take_length]
theorem yoT (s : List UInt8) (h : Nat) : ybw s 0 h = s.take h := rfl
def yd9 : List UInt8 → Nat → Option Nat
 | [], v => some v
 | c :: l, v => if 48 ≤ c.toNat ∧ c.toNat ≤ 57 then yd9 l (v * 10 + (c.toNat - 48)) else none
theorem ylS : ∀ (l : List UInt8) (v w n : Nat), v < 10 ^ n → yd9 l v = some w → w < 10 ^ (n + l.length)
 | [], v, w, n, hv, h => by cases h; exact hv
 | c :: l, v, w, n, hv, h => by
  simp only [yd9] at h
  split at h
  ·have := ylS l _ w (n + 1) (by rw [Nat.pow_succ]; omega) h
   rw [List.length_cons, show n + (l.length + 1) = n + 1 + l.length from by omega]; exact this
  ·cases h
theorem yjh : ∀ (l r : List UInt8) (v w : Nat), yd9 l v = some w → yd9 (l ++ r) v = yd9 r w
 | [], r, v, w, h => by cases h; rfl
 | c :: l, r, v, w, h => by
  simp only [yd9, List.cons_append] at h ⊢
  split at h
  ·rename_i hc; rw [if_pos hc]; exact yjh l r _ _ h
  ·cases h
theorem lt6 {v i : Nat} (h : v < 10 ^ i) (hi : i ≤ 6) : v < 1000000 := by
 have := Nat.pow_le_pow_right (show 0 < 10 by omega) hi
 have e : 10 ^ 6 = 1000000 := by decide
 omega
theorem ymp (s : List UInt8) (hs : s.length ≤ 6) (neg : Bool) (k0 : Int → Bool → Prop) (k1 : Bool → Int → Prop) :
  ∀ (j i V : Nat), i + j = s.length → V < 10 ^ i → (∀ v, yd9 (s.drop i) V = some v → k1 neg (v : Int)) → (yd9 (s.drop i) V = none → k0 0 false) → ∃ m, zcn.l8 k0 k1 m s neg (V : Int) (i : Int) := by
 intro j
 induction j with
 | zero =>
  intro i V hi hV h1 h2
  refine ⟨1, ?_⟩
  unfold zcn.l8 zcn.l8.step
  rw [yav (ycd (by omega))]
  have hd : s.drop i = [] := List.drop_eq_nil_of_le (by omega)
  exact h1 V (by rw [hd]; rfl)
 | succ j ih =>
  intro i V hi hV h1 h2
  have hlt : i < s.length := by omega
  have hdr : s.drop i = s[i] :: s.drop (i + 1) := List.drop_eq_getElem_cons hlt
  rw [hdr] at h1 h2
  generalize hc : s[i] = c at h1 h2
  have hb : yar s i = ((c.toNat : Nat) : Int) := by rw [yd6 hlt, hc]
  have hcl := c.toNat_lt
  have ei : yaj .i64 (i : Int) 1 = ((i + 1 : Nat) : Int) := by rw [yat (by omega) (by omega)]; omega
  have g : (leI 0 (i : Int) && ltI (i : Int) (s.length : Int)) = true := by simp only [Bool.and_eq_true]; exact ⟨yaM (by omega), ybz (by omega)⟩
  have hV6 : V < 1000000 := lt6 hV (by omega)
  by_cases c1 : 48 ≤ c.toNat ∧ c.toNat ≤ 57
  ·simp only [yd9, if_pos c1] at h1 h2
   obtain ⟨m, hm⟩ := ih (i + 1) (V * 10 + (c.toNat - 48)) (by omega) (by rw [Nat.pow_succ]; omega) h1 h2
   refine ⟨m + 1, ?_⟩
   unfold zcn.l8 zcn.l8.step
   have e1 : cvI .i64 (yae .u8 ((c.toNat : Nat) : Int) 48) = ((c.toNat - 48 : Nat) : Int) := by
    have : yae .u8 ((c.toNat : Nat) : Int) 48 = ((c.toNat - 48 : Nat) : Int) := by
     show IntKind.wrap .u8 (((c.toNat : Nat) : Int) - 48) = _
     have := ym3 (c.toNat - 48) (by omega)
     rw [show ((c.toNat : Nat) : Int) - 48 = ((c.toNat - 48 : Nat) : Int) from by omega]; exact this
    rw [this, ynA (by omega) (by omega)]
   have e2 : yaj .i64 (ya0 .i64 10 (V : Int)) ((c.toNat - 48 : Nat) : Int) = ((V * 10 + (c.toNat - 48) : Nat) : Int) := by
    rw [ydF (by omega) (by omega), yat (by omega) (by omega)]; omega
   rw [yaE (ybz (by omega)), yaK g, Int.toNat_natCast, hb, yav (ycd (by omega)), yaK g, yav (ycd (by omega)), yaK g, e1, e2, ei]
   exact hm
  ·have hf := h2 (by simp only [yd9, if_neg c1])
   refine ⟨1, ?_⟩
   unfold zcn.l8 zcn.l8.step
   rw [yaE (ybz (by omega)), yaK g, Int.toNat_natCast, hb]
   by_cases q1 : (c.toNat : Int) < 48
   ·rw [yaE (ybz q1)]; exact hf
   ·rw [yav (ycd (by omega)), yaK g, yaE (ybz (by omega))]; exact hf
theorem ygz (s : List UInt8) (neg : Bool) (K : Int → Bool → Prop) (h1 : ∀ v : Nat, s ≠ [] → s.length ≤ 6 → yd9 s 0 = some v → v < 1000000 → K (cond neg (-(v : Int)) v) true) (h2 : (s = [] ∨ 6 < s.length ∨ yd9 s 0 = none) → K 0 false) :
  br (eqS s []) (K 0 false) (br (ltI 6 ↑(List.length s)) (K 0 false) (∃ n, zcn.l8 (fun y0 y1 => K y0 y1) (fun y0 y1 => br y0 (K (ykq IntKind.i64 y1) true) (K y1 true)) n s neg 0 0)) := by
 rw [ykJ]
 refine ynG (fun h0 => h2 (.inl h0)) fun h0 => ?_
 by_cases h6 : 6 < s.length
 ·rw [yaE (ybz (by omega))]; exact h2 (.inr (.inl h6))
 rw [yav (ycd (by omega))]
 refine ymp s (by omega) neg _ _ s.length 0 0 (by omega) (by decide) (fun v hv => ?_) (fun hv => h2 (.inr (.inr hv)))
 have hl := ylS s 0 v 0 (by decide) hv
 rw [Nat.zero_add] at hl
 have hv6 : v < 1000000 := lt6 hl (by omega)
 have := h1 v h0 (by omega) hv hv6
 cases neg
 ·exact this
 ·show K (ykq .i64 (v : Int)) true
  have e : ykq .i64 (v : Int) = -(v : Int) := by
   show IntKind.wrap .i64 _ = _
   rw [yf6]; omega
  rw [e]; exact this
end Go.Ev.S

/- The document's own reading: a text's encoding, and what comes of any text. -/
set_option linter.unusedVariables false
set_option linter.unusedSimpArgs false
set_option maxRecDepth 8000
namespace Go.Ev.S
open Go Go.Ev
open Go.Lib (decDigits nDigits indexByte parseUint10 parseMag atoiAll)
def yiN (f : Int) (s : List UInt8) (neg : Bool) (K : Int → Int → Prop) : Prop :=
 br (eqS s [105, 110, 102]) (zby f neg fun y0 y1 => K y0 y1) (br (eqS s [48]) (zcd f neg fun y0 y1 => K y0 y1) (zcl s 58 fun y0 => br (leI 0 y0) (gd (leI 0 (yaj IntKind.i64 y0 1) && (leI (yaj IntKind.i64 y0 1) ↑(List.length s) && leI ↑(List.length s) ↑(List.length s))) (zbl (ybw s (Int.toNat (yaj IntKind.i64 y0 1)) (Int.toNat ↑(List.length s))) fun y0 y1 => zbh y0 fun y0_1 => zca f fun y0_2 => br (ltI (yae IntKind.i64 y0_2 1) y0_1) (K 0 0) (zbz f fun y0_3 => zbt f neg y0_3 y0 fun y0 y1 => K y0 y1))) (zcl s 112 fun y0 => br (ltI y0 0) (K 0 0) (gd (leI 0 y0 && leI y0 ↑(List.length s)) (zbl (ybw s 0 (Int.toNat y0)) fun y0_1 y1 => gd (leI 0 (yaj IntKind.i64 y0 1) && (leI (yaj IntKind.i64 y0 1) ↑(List.length s) && leI ↑(List.length s) ↑(List.length s))) (zcn (ybw s (Int.toNat (yaj IntKind.i64 y0 1)) (Int.toNat ↑(List.length s))) fun y0 y1 => br (!y1) (K 0 0) (zbh y0_1 fun y0_2 => zca f fun y0_3 => br (ltI y0_2 y0_3) (zcg f 5 y0_1 y0 (fun x => 0) fun y0 y1 y2 => br neg (zcf f y0 y1 fun y0 y1 => K y0 y1) (K y0 y1)) (zcg f 6 y0_1 y0 (fun x => 0) fun y0 y1 y2 => br neg (zcf f y0 y1 fun y0 y1 => K y0 y1) (K y0 y1)))))))))
theorem ylt (s : List UInt8) : eqI (yar s 0) 45 = decide (s[0]? = some 45) := by
 cases s with
 | nil => rfl
 | cons c r =>
  have e : yar (c :: r) 0 = ((c.toNat : Nat) : Int) := rfl
  rw [e, List.getElem?_cons_zero]
  by_cases h : c = 45
  ·subst h; rfl
  ·rw [yls (fun hh => h (UInt8.toNat.inj (show c.toNat = (45 : UInt8).toNat from by have e : (45 : UInt8).toNat = 45 := rfl; omega))), decide_eq_false (fun hh => h (Option.some.inj hh))]
theorem yem (f : Int) (s : List UInt8) (K : Int → Int → Prop) (h1 : ∀ r, s = 45 :: r → yiN f r true K) (h2 : s[0]? ≠ some 45 → yiN f s false K) : zcm f s K := by
 have hd : zcm.d f s K = br (!eqS s []) (gd (ltI 0 ↑(List.length s)) (br (eqI (yar s 0) 45) (gd (leI 1 ↑(List.length s) && leI ↑(List.length s) ↑(List.length s)) (yiN f (ybw s 1 (Int.toNat ↑(List.length s))) (eqI (yar s 0) 45) K)) (yiN f s (eqI (yar s 0) 45) K))) (yiN f s false K) := rfl
 rw [zcm.is, hd, ylt]
 cases s with
 | nil => exact h2 (by simp)
 | cons c r =>
  rw [yaE (show (!eqS (c :: r) []) = true from rfl), yaK (ybz (by rw [List.length_cons]; omega))]
  refine ynG (fun hc => ?_) fun hc => ?_
  ·have : c = 45 := by simpa using hc
   subst this
   rw [yaK (by simp only [Bool.and_eq_true]; rw [List.length_cons]; exact ⟨yaM (by omega), yaM (by omega)⟩), decide_eq_true hc]
   have := yeN (45 :: r) 1
   rw [this]
   exact h1 r rfl
  ·rw [decide_eq_false hc]; exact h2 hc
theorem ylp (s : List UInt8) (K : (Nat → Int) → Int → Prop) (h : ∀ v e, v < Q6 → K (W v) e) : zbl s K :=
 ygH s K (fun v _ hv => h v 0 hv) (fun _ => h 0 20 (Nat.lt_of_lt_of_le (Nat.two_pow_pos 0) (ygs (by omega))))
theorem yjK (s : List UInt8) (K : (Nat → Int) → Int → Prop) (h : ∀ v e, v < Q6 → K (W v) e) : zdn s K :=
 yfR s K (fun v _ hv => h v 0 hv) (fun _ => h 0 20 (Nat.lt_of_lt_of_le (Nat.two_pow_pos 0) (ygs (by omega))))
theorem yet (s : List UInt8) (K : Int → Bool → Prop)
  (h1 : ∀ r, s = 45 :: r → br (eqS r []) (K 0 false) (br (ltI 6 ↑(List.length r)) (K 0 false) (∃ n, zcn.l8 (fun y0 y1 => K y0 y1) (fun y0 y1 => br y0 (K (ykq IntKind.i64 y1) true) (K y1 true)) n r true 0 0)))
  (h2 : s[0]? ≠ some 45 → br (eqS s []) (K 0 false) (br (ltI 6 ↑(List.length s)) (K 0 false) (∃ n, zcn.l8 (fun y0 y1 => K y0 y1) (fun y0 y1 => br y0 (K (ykq IntKind.i64 y1) true) (K y1 true)) n s false 0 0))) : zcn s K := by
 rw [zcn.is]; unfold zcn.d
 rw [ylt]
 cases s with
 | nil => exact h2 (by simp)
 | cons c r =>
  rw [yaE (show (!eqS (c :: r) []) = true from rfl), yaK (ybz (by rw [List.length_cons]; omega))]
  refine ynG (fun hc => ?_) fun hc => ?_
  ·have : c = 45 := by simpa using hc
   subst this
   rw [yaK (by simp only [Bool.and_eq_true]; rw [List.length_cons]; exact ⟨yaM (by omega), yaM (by omega)⟩), decide_eq_true hc]
   have := yeN (45 :: r) 1
   rw [this]
   exact h1 r rfl
  ·rw [decide_eq_false hc]; exact h2 hc
theorem yok (s : List UInt8) (K : Int → Bool → Prop) (h : ∀ z b, -1000000 < z → z < 1000000 → K z b) : zcn s K :=
 yet s K (fun r _ => ygz r true K (fun v _ _ _ hv => h _ _ (by show -1000000 < -(v : Int); omega) (by show -(v : Int) < 1000000; omega)) (fun _ => h 0 false (by omega) (by omega)))
  (fun _ => ygz s false K (fun v _ _ _ hv => h _ _ (by show -1000000 < (v : Int); omega) (by show (v : Int) < 1000000; omega)) (fun _ => h 0 false (by omega) (by omega)))
theorem yj0 (u : Nat) : yd9 (decDigits u) 0 = some u := by
 have one : ∀ d, d < 10 → (UInt8.ofNat (48 + d)).toNat = 48 + d := by decide
 induction u using Nat.strongRecOn with
 | _ u ih =>
  by_cases h : u < 10
  ·rw [Go.Lib.decDigits_one h]
   simp only [yd9, one u h]
   rw [if_pos (by omega)]; congr 1; omega
  ·rw [decDigits, dif_neg h, yjh _ _ _ _ (ih (u / 10) (by omega))]
   simp only [yd9, one (u % 10) (Nat.mod_lt _ (by omega))]
   rw [if_pos (by omega)]; congr 1; omega
theorem yoR (u : Nat) : (decDigits u)[0]? ≠ some 45 := by
 intro h
 have hm := List.mem_of_getElem? h
 have := yif u _ hm
 exact absurd this.1 (by decide)
theorem yoV {u : Nat} (h : u < 1000000) : (decDigits u).length ≤ 6 := by
 rw [Go.Lib.decDigits_length]
 have e : 10 ^ (5 + 1) = 1000000 := by decide
 exact yco 5 u (by omega)
theorem yl6 {n : Int} (h1 : -1000000 < n) (h2 : n < 1000000) (K : Int → Bool → Prop) (hK : K n true) : zcn (Go.Lib.itoa n) K := by
 have key : ∀ (u : Nat) (neg : Bool), u < 1000000 → K (cond neg (-(u : Int)) u) true → br (eqS (decDigits u) []) (K 0 false) (br (ltI 6 ↑(List.length (decDigits u))) (K 0 false) (∃ n, zcn.l8 (fun y0 y1 => K y0 y1) (fun y0 y1 => br y0 (K (ykq IntKind.i64 y1) true) (K y1 true)) n (decDigits u) neg 0 0)) := by
  intro u neg hu hk
  refine ygz _ neg K (fun v _ _ hv _ => ?_) fun hh => ?_
  ·rw [yj0] at hv; injection hv with hv; rw [← hv]; exact hk
  ·rcases hh with hh | hh | hh
   ·exact absurd hh (ylI u)
   ·have := yoV hu; omega
   ·rw [yj0] at hh; cases hh
 by_cases hn : n < 0
 ·have e : Go.Lib.itoa n = 45 :: decDigits n.natAbs := by unfold Go.Lib.itoa; rw [if_pos hn]
  refine yet _ K (fun r hr => ?_) fun hh => ?_
  ·rw [e] at hr; injection hr with _ hr; subst hr
   refine key _ true (by omega) ?_
   rw [show cond true (-((n.natAbs : Nat) : Int)) ((n.natAbs : Nat) : Int) = n from by show -((n.natAbs : Nat) : Int) = n; omega]; exact hK
  ·exact absurd (by rw [e]; rfl) hh
 ·have e : Go.Lib.itoa n = decDigits n.toNat := by unfold Go.Lib.itoa; rw [if_neg hn]
  refine yet _ K (fun r hr => ?_) fun hh => ?_
  ·exact absurd (by rw [← e, hr]; rfl) (yoR n.toNat)
  ·rw [e]
   refine key _ false (by omega) ?_
   rw [show cond false (-((n.toNat : Nat) : Int)) ((n.toNat : Nat) : Int) = n from by show ((n.toNat : Nat) : Int) = n; omega]; exact hK
section
variable {f : Nat} {K : Int → Int → Int → Prop}
theorem yiE {c : Int} {s r : Nat → Int} {x : Int} {b : Nat} (h1 : K 0 0 80) (h2 : K (Hi b) (Lo b) 0) : tst f c s x r b K := by
 unfold tst
 cases (!(eqI (cls f b) c && (eqN 6 (W (yb5 f b)) s && (eqI (ycA f b) x && eqN 6 (W (ufr f b)) r))))
 ·exact h2
 ·exact h1
theorem ykk (h : f ≤ 3) (c : Int) (hc : c = 5 ∨ c = 6) {t : Nat} (ht : t < Q6) {x : Int} (hx : -9223372036854775808 ≤ x ∧ x < 9223372036854775808) (r : Nat → Int) (h1 : K 0 0 80) (h2 : ∀ b, b < 2 ^ fw f → K (Hi b) (Lo b) 0) : zcg f c (W t) x r K := by
 rcases hc with rfl | rfl
 ·exact ypP h 5 (by omega) ht (fun _ => h1) fun hl => yiE h1 (h2 _ (ybJ h (by omega) hl _))
 ·exact ynT h 6 (by omega) ht hx (fun _ => h1) fun E _ _ hE _ _ => yiE h1 (h2 _ (ybJ h (by omega) (Nat.mod_lt _ (Nat.two_pow_pos _)) _))
theorem yj4 (h : f ≤ 3) (c : Int) (hc : c = 5 ∨ c = 6) {t : Nat} (ht : t < Q6) {x : Int} (hx : -9223372036854775808 ≤ x ∧ x < 9223372036854775808) (r : Nat → Int) (h1 : K 0 0 80) (h2 : ∀ b, b < 2 ^ fw f → K (Hi b) (Lo b) 0) : zam f c (W t) x r K :=
 ynD h c (by omega) ht hx (fun _ => h1) (fun hl => yiE h1 (h2 _ (ybJ h (by omega) hl _))) fun E _ _ hE _ _ => yiE h1 (h2 _ (ybJ h (by omega) (Nat.mod_lt _ (Nat.two_pow_pos _)) _))
end
theorem yqD (l r : List UInt8) (c : UInt8) : ybw (l ++ c :: r) 0 l.length = l := by rw [yoT, List.take_left']; rfl
theorem yov (l r : List UInt8) (c : UInt8) : (l ++ c :: r).drop (l.length + 1) = r := by
 rw [← List.drop_drop, List.drop_left']
 ·rfl
 ·rfl
theorem yka {f : Nat} (h : f ≤ 3) (s : List UInt8) (hs : s.length ≤ 9223372036854775806) (neg : Bool) (K : Int → Int → Prop) (hK : ∀ b, b < 2 ^ fw f → K (Hi b) (Lo b)) : yiN f s neg K := by
 have w := ybK f h
 have h0 : K 0 0 := hK 0 (Nat.two_pow_pos _)
 unfold yiN
 cases eqS s [105, 110, 102]
 rotate_left
 ·exact yhU f h neg _ (hK _ (ybJ h (Nat.le_refl _) (Nat.two_pow_pos _) _))
 rw [yav (by rfl)]
 cases eqS s [48]
 rotate_left
 ·exact ygW f h neg _ (hK _ (ybJ h (by omega) (Nat.two_pow_pos _) _))
 rw [yav (by rfl)]
 refine yde s hs 58 58 rfl _ (fun l r e hc => ?_) fun hn => ?_
 ·have hl : l.length + 1 ≤ s.length := by rw [e, List.length_append, List.length_cons]; omega
  rw [yaE (yaM (by omega)), yat (by omega) (by omega), show (l.length : Int) + 1 = ((l.length + 1 : Nat) : Int) from by omega]
  rw [yaK (by simp only [Bool.and_eq_true]; exact ⟨yaM (by omega), yaM (by omega), yaM (by omega)⟩), Int.toNat_natCast, yeN]
  refine ylp _ _ fun v e hv => ?_
  refine ybI v hv _ ?_
  rw [yaB f h, yfY f h]
  have hb := yaY v (fp f - 1)
  by_cases hl2 : v < 2 ^ (fp f - 1)
  ·rw [yav (ycd (by omega)), ycz f h]
   exact ybn f _ v h (Nat.le_refl _) hl2 neg _ (hK _ (ybJ h (Nat.le_refl _) hl2 _))
  ·rw [yaE (ybz (by omega))]; exact h0
 ·rw [yav (by rfl)]
  refine yde s hs 112 112 rfl _ (fun l r e hc => ?_) fun hn => ?_
  ·have hl : l.length + 1 ≤ s.length := by rw [e, List.length_append, List.length_cons]; omega
   rw [yav (ycd (by omega)), yaK (by simp only [Bool.and_eq_true]; exact ⟨yaM (by omega), yaM (by omega)⟩)]
   refine ylp _ _ fun v e hv => ?_
   rw [yat (by omega) (by omega), show (l.length : Int) + 1 = ((l.length + 1 : Nat) : Int) from by omega]
   rw [yaK (by simp only [Bool.and_eq_true]; exact ⟨yaM (by omega), yaM (by omega), yaM (by omega)⟩)]
   refine yok _ _ fun z b z1 z2 => ?_
   cases b
   ·exact h0
   rw [yav (by rfl)]
   refine ybI v hv _ ?_
   rw [yaB f h]
   have tl : ∀ b, b < 2 ^ fw f → br neg (zcf f (Hi b) (Lo b) fun y0 y1 => K y0 y1) (K (Hi b) (Lo b)) := fun b hb => by
    cases neg
    ·exact hK b hb
    ·exact ygp f b h hb _ (hK _ (yox f b h hb))
   have t0 := tl 0 (Nat.two_pow_pos _)
   cases ltI (ybu v : Int) (fp f : Int)
   ·exact ykk h 6 (by omega) hv (by omega) _ t0 tl
   ·exact ykk h 5 (by omega) hv (by omega) _ t0 tl
  ·exact h0
theorem ynE {f : Nat} (h : f ≤ 3) (s : List UInt8) (hs : s.length ≤ 9223372036854775806) (K : Int → Int → Prop) (hK : ∀ b, b < 2 ^ fw f → K (Hi b) (Lo b)) : zcm f s K :=
 yem f s K (fun r hr => yka h r (by rw [hr, List.length_cons] at hs; omega) true K hK) (fun _ => yka h s hs false K hK)
end Go.Ev.S
