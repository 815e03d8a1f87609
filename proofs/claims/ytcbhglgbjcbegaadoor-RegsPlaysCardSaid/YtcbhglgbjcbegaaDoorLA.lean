/- Functions of Go's library by contracts that are proved elsewhere: that they fit the evaluator. -/
import Derived.Test.YtcbhglgbjcbegaaDoorEvD
import Derived.Below
import Derived.Sort.Grow
import Derived.Deep.Draws
import Derived.Lib.LaidTab
import Derived.Stop.LaidErr
import Derived.Test.YtcbhglgbjcbegaaDoorDA
import Derived.Shelf.Strconv.Itoa4
import Derived.Shelf.Strconv.AtoiAll
import Derived.Shelf.Strings.Search1
import Derived.KernelRfl
import Derived.Test.YtcbhglgbjcbegaaDoorEvE
set_option linter.unusedVariables false
set_option linter.unusedSimpArgs false
namespace Go.Ev.S
open Go Go.Ev Go.RowKit Go.Sort
theorem ext_below {ρ : Ren} {H : Heap} {w w' : World} (hS : Sim ρ H w) (h : Below w.heap.size w w') : Ext ρ w ρ w' ∧ Sim ρ H w' := by
  have hx : Ext ρ w ρ w' := ⟨h.os, h.tape, h.output, h.size, fun b hb _ => h.block b hb, fun _ _ hh => hh, fun _ _ hh => hh, fun _ _ hh => .inl hh, fun b cs e fz hh =>
    ⟨cs, e, fz, (h.block b (by rw [Array.getElem?_eq_some_iff] at hh; exact hh.1)).trans hh, rfl⟩⟩
  refine ⟨hx, hS.len, fun b hb => Nat.lt_of_lt_of_le (hS.fl b hb) h.size, fun b r hb => Nat.lt_of_lt_of_le (hS.lt b r hb) h.size, hS.sep, hS.nodup, fun b v hb => ?_⟩
  obtain ⟨r, h1, h2, cs, e, fz, x, h3, h4, h5, h6, h7⟩ := hS.live b v hb
  have hbl := h.block r.mb (hS.lt b r h1)
  exact ⟨r, h1, h2, cs, e, fz, x, hbl.trans h3, h4, Rel.ext hx _ _ h5, h6, h7.keep hbl⟩
theorem mbs_lt {ρ : Ren} {H : Heap} {w : World} (hS : Sim ρ H w) : ∀ b, b ∈ ρ.mbs → b < w.heap.size := by
  intro b hb
  rcases List.mem_append.1 hb with h | h
  · exact hS.fl b h
  · obtain ⟨c, r, hr, rfl⟩ := own_mem h
    exact hS.lt c r hr
theorem SoundE.shelf {P : Program} {gl : Nat → Option EV} {f : FuncId} {en : Entry} (hk : ∃ fn, P.funcs[f]? = some fn ∧ fn.body.isNone = false ∧ (fn.name == "runtime.NumGoroutine") = false)
    (hd : ∀ args H, Det2 (en.spec args H))
    (hs : ∀ (ρ : Ren) (H : Heap) (w : World) (args : List EV) (xs : List Value) (K : EV → Heap → Prop), en.spec args H K → RelL ρ w args xs → GOk gl ρ w → (∀ b, b ∈ ρ.mbs → b < w.heap.size) →
      Calls P f xs.toArray w fun e w' => (∃ v x, e = .returned x ∧ K v H ∧ Rel ρ w' v x) ∧ Below w.heap.size w w') : SoundE P gl f en := by
  refine ⟨?_, hd, hk⟩
  intro ρ H w args xs K h hr hS hG
  refine (hs ρ H w args xs K h hr hG (mbs_lt hS)).mono ?_
  rintro e w' ⟨⟨v, x, he, hK, hv⟩, hb⟩
  obtain ⟨h1, h2⟩ := ext_below hS hb
  exact ⟨v, x, H, ρ, he, hK, hv, h2, h1, rfl⟩
theorem below_grow (w : World) (k : Nat) (os : Array Obj) : Below w.heap.size w (grow (w.drewN k) os) := by
  refine ⟨rfl, rfl, rfl, ?_, fun b hb => ?_⟩
  · show _ ≤ (w.heap ++ os).size; rw [Array.size_append]; omega
  · show (w.heap ++ os)[b]? = _; rw [Array.getElem?_append_left hb]
theorem tabIs_of {P : Program} {gl : Nat → Option EV} {ρ : Ren} {w : World} {nm : String} {g n : Nat} {k : IntKind} {zs : List Int} {T : Nat → Int} (hG : GOk gl ρ w) (hg : P.globalNamed nm = some g) (hv : gl g = some (.arr k n T)) (hT : T = fun i => zs.getD i 0) (hn : zs.length = n) :
    Go.Lib.TabIs P w nm k zs := by
  obtain ⟨_, h1, h2⟩ := hG g _ hv
  obtain ⟨cs, t, fz, h3, h4⟩ := h2 k n T rfl
  obtain ⟨b, o, y, e, hy, hb, hm, hc⟩ := h1
  cases e
  have hy' : y = .agg (ints k n T).toArray := hy
  subst hy'
  unfold Go.Lib.TabIs World.var?
  rw [hg]
  show (match w.heap[g]? with | some (.cells cs _ _) => some cs | _ => none) = _
  rw [h3]
  show some cs = _
  congr 1
  apply Array.ext_getElem?
  intro i
  by_cases hi : i < n
  · have h5 := hc i (by simpa [Value.cells, ints_length] using hi)
    rw [Nat.zero_add] at h5
    have h6 : w.cell? ⟨g, i, none⟩ = cs[i]? := by
      simp only [World.cell?, h3]; rfl
    rw [h6] at h5
    rw [h5]
    simp only [Value.cells, List.getElem?_toArray]
    rw [ints_get _ _ _ _ hi, hT]
    simp [List.getD, List.getElem?_eq_getElem (show i < zs.length by omega)]
  · rw [Array.getElem?_eq_none (by omega), Array.getElem?_eq_none (by simp; omega)]
noncomputable def tab_pow10 : Nat → Int := Classical.choose (⟨fun i => Go.Lib.pow10Tab.getD i 0, rfl⟩ : ∃ f, f = fun i => Go.Lib.pow10Tab.getD i 0)
theorem tab_pow10_is : tab_pow10 = fun i => Go.Lib.pow10Tab.getD i 0 := Classical.choose_spec (⟨fun i => Go.Lib.pow10Tab.getD i 0, rfl⟩ : ∃ f, f = fun i => Go.Lib.pow10Tab.getD i 0)
noncomputable def e_strconv_Itoa : Entry := ⟨[none], false, fun args H K => match args, H with
  | [.int .i64 a0], [] => strconv_Itoa a0 (fun y0 => K (EV.str y0) [])
  | _, _ => False⟩
theorem itoa_ok {P : Program} {r : Go.Shelf.Ren} (L : Go.Proofs.LaysM.n171 P r) {gl : Nat → Option EV} {f g : Nat} (hf : r.f 171 = f) (hg : P.globalNamed "internal/strconv.uint64pow10" = some g) (hv : gl g = some (.arr .u64 20 tab_pow10))
    (hk : ∃ fn, P.funcs[f]? = some fn ∧ fn.body.isNone = false ∧ (fn.name == "runtime.NumGoroutine") = false) : SoundE P gl f e_strconv_Itoa := by
  subst hf
  refine SoundE.shelf hk (fun args H K h => ?_) ?_
  · simp only [e_strconv_Itoa] at h ⊢
    split at h
    · rw [strconv_Itoa.is] at h ⊢
      obtain ⟨h1, h2⟩ := h
      exact ⟨_, _, h2, fun K' hk => ⟨h1, hk⟩⟩
    · exact h.elim
  · intro ρ H w args xs K h hr hG hm
    simp only [e_strconv_Itoa] at h
    split at h
    · rename_i a0
      rw [strconv_Itoa.is] at h
      obtain ⟨⟨h1, h2⟩, h3⟩ := h
      obtain ⟨x, ys, rfl, hx, hys⟩ := hr
      obtain rfl : ys = [] := hys
      obtain rfl : x = .int .i64 a0 := hx
      refine (Go.Proofs.Any.strconv_Itoa L a0 h1 h2 w (tabIs_of hG hg hv tab_pow10_is (by rw [Go.Lib.pow10Tab_length]))).mono ?_
      rintro e w' ⟨rfl, k, os, rfl⟩
      exact ⟨⟨_, _, rfl, h3, rfl⟩, below_grow _ _ _⟩
    · exact h.elim
noncomputable def e_strconv_Atoi' (T : Nat) : Entry := ⟨[none], false, fun args H K => match args, H with
  | [.str a0], [] => strconv_Atoi a0 (fun y0 => K (EV.tuple [EV.int IntKind.i64 y0, EV.nilIface]) []) (fun y0 => K (EV.tuple [EV.int IntKind.i64 y0, EV.iface T (EV.rref (EV.str [65, 116, 111, 105]))]) [])
  | _, _ => False⟩
theorem below_bytes (w : World) (t : Nat) (s : ByteArray) : Below w.heap.size w (Go.Lib.bytesWorld w t s) := by
  unfold Go.Lib.bytesWorld
  refine ⟨rfl, rfl, rfl, ?_, fun b hb => ?_⟩
  · show w.heap.size ≤ (Array.modify (w.heap.push _) _ _).size
    rw [Array.size_modify, Array.size_push]; omega
  · show (Array.modify (w.heap.push _) w.heap.size _)[b]? = w.heap[b]?
    rw [Array.getElem?_modify, if_neg (by omega), Array.getElem?_push, if_neg (by omega)]
theorem atoi_ok {P : Program} {r : Go.Shelf.Ren} (L : Go.Proofs.LaysC.n172 P r) {gl : Nat → Option EV} {f T : Nat} (hf : r.f 172 = f) (hT : r.t 168 = T) {t1 t2 : Nat} {v1 v2 : EV} (hg : gl (r.g 15) = some (.iface t1 v1)) (hh : gl (r.g 16) = some (.iface t2 v2))
    (hk : ∃ fn, P.funcs[f]? = some fn ∧ fn.body.isNone = false ∧ (fn.name == "runtime.NumGoroutine") = false) : SoundE P gl f (e_strconv_Atoi' T) := by
  subst hf hT
  refine SoundE.shelf hk (fun args H K h => ?_) ?_
  · simp only [e_strconv_Atoi'] at h ⊢
    split at h
    · rw [strconv_Atoi.is] at h ⊢
      unfold strconv_Atoi.d at h ⊢
      obtain ⟨h1, h2⟩ := h
      split at h2
      · exact ⟨_, _, h2, fun K' hk => ⟨h1, hk⟩⟩
      · exact ⟨_, _, h2, fun K' hk => ⟨h1, hk⟩⟩
      · exact ⟨_, _, h2, fun K' hk => ⟨h1, hk⟩⟩
    · exact h.elim
  · intro ρ H w args xs K h hr hG hm
    have cellOf : ∀ {g t v}, gl g = some (.iface t v) → ∃ ev, w.cell? ⟨g, 0, none⟩ = some ev ∧ (ev = .nilIface ∨ ∃ te pe, ev = .iface te pe) := by
      intro g t v hv
      obtain ⟨_, ⟨b, o, y, e, hy, _, _, hc⟩, _⟩ := hG g _ hv
      cases e
      obtain ⟨z, rfl, _⟩ := hy
      exact ⟨.iface t z, (hc 0 (by simp [Value.cells])).trans rfl, .inr ⟨t, z, rfl⟩⟩
    have err : ∀ {s : ByteArray} {ev : Value} {N : Nat} {w' : World}, w.heap.size ≤ N → w'.heap[N]? = some (.cells #[.string ⟨#[65, 116, 111, 105]⟩, .string s, ev] (r.t 210) (0, 0)) → Below w.heap.size w w' →
        Rel ρ w' (.iface (r.t 168) (.rref (.str [65, 116, 111, 105]))) (.iface (r.t 168) (.pointer (some ⟨N, 0, none⟩))) := by
      intro s ev N w' h1 h2 h3
      refine ⟨_, rfl, N, 0, .string ⟨#[65, 116, 111, 105]⟩, rfl, rfl, ?_, fun hh => ?_, ?_⟩
      · rw [Array.getElem?_eq_some_iff] at h2; exact h2.1
      · have := hm _ hh; omega
      · intro i hi
        have hi0 : i = 0 := by simpa [Value.cells] using hi
        subst hi0
        simp only [World.cell?, h2]; rfl
    simp only [e_strconv_Atoi'] at h
    split at h
    · rename_i a0
      rw [strconv_Atoi.is] at h
      unfold strconv_Atoi.d at h
      obtain ⟨h1, h3⟩ := h
      obtain ⟨x, ys, rfl, hx, hys⟩ := hr
      obtain rfl : ys = [] := hys
      obtain rfl : x = .string ⟨a0.toArray⟩ := hx
      have hsz : (⟨a0.toArray⟩ : ByteArray).size = a0.length := by simp [ByteArray.size]
      have hl : (⟨a0.toArray⟩ : ByteArray).data.toList = a0 := by simp
      cases hA : Go.Lib.atoiAll a0 with
      | ok v =>
        rw [hA] at h3
        refine (Go.Proofs.Any.strconv_Atoi_ok L _ (by rw [hsz]; omega) v (by rw [hl]; exact hA) w).mono ?_
        rintro e w' ⟨rfl, hw⟩
        refine ⟨⟨_, _, rfl, h3, _, rfl, _, _, rfl, rfl, _, _, rfl, rfl, rfl⟩, ?_⟩
        rcases hw with rfl | ⟨t, rfl⟩
        · exact Below.refl _ _
        · exact below_bytes _ _ _
      | range =>
        rw [hA] at h3
        obtain ⟨ev, hv, hev⟩ := cellOf hh
        refine (Go.Proofs.Any.strconv_Atoi_range L _ (by rw [hsz]; exact h1) (by rw [hl]; exact hA) ev w hv hev).mono ?_
        rintro e w' ⟨N, rfl, k1, k2, k3⟩
        rw [hl] at *
        exact ⟨⟨_, _, rfl, h3, _, rfl, _, _, rfl, rfl, _, _, rfl, err k1 k2 k3, rfl⟩, k3⟩
      | _ =>
        rw [hA] at h3
        obtain ⟨ev, hv, hev⟩ := cellOf hg
        refine (Go.Proofs.Any.strconv_Atoi_syntax L _ (by rw [hsz]; exact h1) (by rw [hl]; exact hA) ev w hv hev).mono ?_
        rintro e w' ⟨N, rfl, k1, k2, k3⟩
        exact ⟨⟨_, _, rfl, h3, _, rfl, _, _, rfl, rfl, _, _, rfl, err k1 k2 k3, rfl⟩, k3⟩
    · exact h.elim
theorem err_ok {P : Program} {n nm : String} {text : List UInt8} {r : List (String × DataW Unit)} {W : World} {g : Nat} {ti tp te ts : TypeId} {ms : Array (String × TypeId)} {f : Field}
    (h : laidMet P ((n, .iface nm (.ptr (.agg [.lit (.string text)]))) :: r) W)
    (hg : P.globalNamed n = some g) (ht : (P.globals[g]?).map (·.type) = some ti) (hi : P.underlying ti = some (.interface ms)) (hrow : ∀ u, P.typeName? 3 u = some nm → u = tp)
    (hp : P.underlying tp = some (.pointer te)) (he : P.underlying te = some (.struct #[f])) (hft : f.type = ts) (hfo : f.offset = 0) (hs : P.underlying ts = some .string) (hc : P.cellsOf te = 1) (hcs : P.cellsOf ts = 1) :
    Rel ⟨[], []⟩ W (.rref (.iface tp (.rref (.str text)))) (.pointer (some ⟨g, 0, none⟩)) ∧ ∀ k' n' f', EV.iface tp (.rref (.str text)) = .arr k' n' f' → ∃ cs t fz, W.heap[g]? = some (.cells cs t fz) ∧ cs.size = n' := by
  obtain ⟨a, s, hv, hcl, hst, _⟩ := laid_sentinel h hg ht hi hrow hp he hft hfo hs hc hcs
  refine ⟨?_, fun _ _ _ hh => by cases hh⟩
  obtain ⟨b, o, sp⟩ := a
  have hb : b < W.heap.size ∧ sp = none := by
    unfold World.cell? at hcl
    cases hw : W.heap[b]? with
    | none => rw [hw] at hcl; cases hcl
    | some c =>
      refine ⟨(Array.getElem?_eq_some_iff.1 hw).1, ?_⟩
      rw [hw] at hcl
      cases sp with
      | none => rfl
      | some q => cases c <;> simp at hcl
  obtain ⟨hb, rfl⟩ := hb
  have hgs : g < W.heap.size := by
    unfold World.var? at hv
    simp only [hg, Option.bind_some] at hv
    cases hw : W.heap[g]? with
    | none => rw [hw] at hv; cases hv
    | some c => exact (Array.getElem?_eq_some_iff.1 hw).1
  have hse : s = ⟨text.toArray⟩ := by
    obtain ⟨d⟩ := s
    have : d.toList = text := hst
    rw [← this]
  subst hse
  refine ⟨g, 0, .iface tp (.pointer (some ⟨b, o, none⟩)), rfl, ⟨_, rfl, b, o, .string ⟨text.toArray⟩, rfl, rfl, hb, by simp [Ren.mbs, Ren.own], ?_⟩, hgs, by simp [Ren.mbs, Ren.own], ?_⟩
  · intro i hi0
    have h0 : i = 0 := by simpa [Value.cells] using hi0
    subst h0
    exact hcl.trans rfl
  · intro i hi0
    have h0 : i = 0 := by simpa [Value.cells] using hi0
    subst h0
    rw [World.var?_cell hg hv]; rfl
end Go.Ev.S

/- Numbers of several words as natural ones; bits set one by one. -/
set_option linter.unusedVariables false
set_option linter.unusedSimpArgs false
namespace Go.Ev.S
open Go Go.Ev
theorem sh_ok {i : Int} (h : 0 ≤ i) : (!ltI i 0) = true := by rw [lt_f h]; rfl
theorem one_shl (i : Nat) (hi : i < 64) : shlI .u64 1 (i : Int) = ((2 ^ i : Nat) : Int) := by
  have := shl_nat 1 i hi
  rw [show (1 : Int) = ((1 : Nat) : Int) from rfl, this, Nat.shiftLeft_eq, Nat.one_mul]
  have h : 2 ^ i < 2 ^ 64 := Nat.pow_lt_pow_right (by omega) hi
  rw [Nat.mod_eq_of_lt h]
theorem pow_lt_64 {i : Nat} (h : i < 64) : 2 ^ i < 18446744073709551616 := Nat.pow_lt_pow_right (a := 2) (m := i) (n := 64) (by omega) h
theorem eq_nat (a b : Nat) : eqI (a : Int) (b : Int) = decide (a = b) := by
  by_cases h : a = b
  · subst h; simp [eqI]
  · rw [eq_f (by omega)]; simp [h]
def wd (x i : Nat) : Nat := x / 2 ^ (64 * i) % 18446744073709551616
def W (x : Nat) : Nat → Int := fun i => ((wd x i : Nat) : Int)
def Hi (x : Nat) : Int := ((x / 18446744073709551616 : Nat) : Int)
def Lo (x : Nat) : Int := ((x % 18446744073709551616 : Nat) : Int)
def two (hi lo : Nat) : Nat := hi * 18446744073709551616 + lo
theorem Hi_two {hi lo : Nat} (h : lo < 18446744073709551616) : Hi (two hi lo) = hi := by unfold Hi two; congr 1; omega
theorem Lo_two {hi lo : Nat} (h : lo < 18446744073709551616) : Lo (two hi lo) = lo := by unfold Lo two; congr 1; omega
theorem two_lt {hi lo : Nat} (h : hi < 18446744073709551616) (h2 : lo < 18446744073709551616) : two hi lo < 2 ^ 128 := by
  unfold two; rw [show (2 : Nat) ^ 128 = 340282366920938463463374607431768211456 from rfl]; omega
theorem hi_lt {x : Nat} (h : x < 2 ^ 128) : x / 18446744073709551616 < 18446744073709551616 := by
  rw [show (2 : Nat) ^ 128 = 340282366920938463463374607431768211456 from rfl] at h; omega
theorem lo_lt (x : Nat) : x % 18446744073709551616 < 18446744073709551616 := Nat.mod_lt _ (by omega)
theorem hi_bit (x j : Nat) : (x / 18446744073709551616).testBit j = x.testBit (64 + j) := by
  rw [show (18446744073709551616 : Nat) = 2 ^ 64 from rfl, Nat.testBit_div_two_pow, Nat.add_comm]
theorem lo_bit (x j : Nat) : (x % 18446744073709551616).testBit j = (decide (j < 64) && x.testBit j) := by
  rw [show (18446744073709551616 : Nat) = 2 ^ 64 from rfl, Nat.testBit_mod_two_pow]
theorem pair_eq (x y : Nat) : (eqI (Hi x) (Hi y) && eqI (Lo x) (Lo y)) = decide (x = y) := by
  unfold Hi Lo
  rw [eq_nat, eq_nat]
  by_cases h : x = y
  · subst h; simp
  · have : ¬ (x / 18446744073709551616 = y / 18446744073709551616 ∧ x % 18446744073709551616 = y % 18446744073709551616) := by omega
    rw [← Bool.decide_and]
    simp [h, this]
theorem op_two (f : Bool → Bool → Bool) (op : Nat → Nat → Nat) (hop : ∀ a b j, (op a b).testBit j = f (a.testBit j) (b.testBit j)) (hf : f false false = false) (x y : Nat) :
    op x y / 18446744073709551616 = op (x / 18446744073709551616) (y / 18446744073709551616) ∧ op x y % 18446744073709551616 = op (x % 18446744073709551616) (y % 18446744073709551616) := by
  constructor
  · apply Nat.eq_of_testBit_eq; intro j; rw [hi_bit, hop, hop, hi_bit, hi_bit]
  · apply Nat.eq_of_testBit_eq; intro j; rw [lo_bit, hop, hop, lo_bit, lo_bit]
    by_cases hj : j < 64
    · simp [hj]
    · simp [hj, hf]
theorem and_two (x y : Nat) (hx : x < 2 ^ 128) (hy : y < 2 ^ 128) : andI .u64 (Hi x) (Hi y) = Hi (x &&& y) ∧ andI .u64 (Lo x) (Lo y) = Lo (x &&& y) := by
  obtain ⟨h1, h2⟩ := op_two (· && ·) (· &&& ·) (fun a b j => Nat.testBit_and a b j) rfl x y
  unfold Hi Lo
  exact ⟨by rw [and_nat _ _ (hi_lt hx) (hi_lt hy)]; exact congrArg _ h1.symm, by rw [and_nat _ _ (lo_lt x) (lo_lt y)]; exact congrArg _ h2.symm⟩
theorem or_two (x y : Nat) (hx : x < 2 ^ 128) (hy : y < 2 ^ 128) : orI .u64 (Hi x) (Hi y) = Hi (x ||| y) ∧ orI .u64 (Lo x) (Lo y) = Lo (x ||| y) := by
  obtain ⟨h1, h2⟩ := op_two (· || ·) (· ||| ·) (fun a b j => Nat.testBit_or a b j) rfl x y
  unfold Hi Lo
  exact ⟨by rw [or_nat _ _ (hi_lt hx) (hi_lt hy)]; exact congrArg _ h1.symm, by rw [or_nat _ _ (lo_lt x) (lo_lt y)]; exact congrArg _ h2.symm⟩
end Go.Ev.S

/- Digits of natural numbers, as rows have them; texts of bytes as numbers. -/
set_option linter.unusedVariables false
set_option linter.unusedSimpArgs false
namespace Go.Ev.S
open Go Go.Ev
def dg (k x i : Nat) : Nat := x / 2 ^ (k * i) % 2 ^ k
def G (k x : Nat) : Nat → Int := fun i => ((dg k x i : Nat) : Int)
def val (a : List UInt8) : Nat := a.foldl (fun v b => v * 256 + b.toNat) 0
def nb (x : Nat) : List UInt8 := if h : x = 0 then [] else nb (x / 256) ++ [UInt8.ofNat (x % 256)]
decreasing_by omega
def lead (a : List UInt8) : Bool := match a with | [] => true | b :: _ => !(b.toNat == 0)
end Go.Ev.S

/- Rows of digits: a digit set, carried, cut; bytes the highest first. Whole numbers of the machine, plainly. -/
set_option linter.unusedVariables false
set_option linter.unusedSimpArgs false
namespace Go.Ev.S
open Go Go.Ev
end Go.Ev.S

/- Natural numbers as rows of words: made of texts, told as texts, cut, held against each other. -/
set_option linter.unusedVariables false
set_option linter.unusedSimpArgs false
set_option maxRecDepth 8000
namespace Go.Ev.S
open Go Go.Ev
def May (a : List UInt8) : Prop := a.length ≤ 16384 ∧ lead a = true
instance (a : List UInt8) : Decidable (May a) := inferInstanceAs (Decidable (_ ∧ _))
end Go.Ev.S

/- Natural numbers as rows of words: sums, differences, products. -/
set_option linter.unusedVariables false
set_option linter.unusedSimpArgs false
set_option maxRecDepth 8000
namespace Go.Ev.S
open Go Go.Ev
end Go.Ev.S

/- The functions of natural numbers: held against each other, added, subtracted, multiplied; their texts. -/
set_option linter.unusedVariables false
set_option linter.unusedSimpArgs false
set_option maxRecDepth 8000
namespace Go.Ev.S
open Go Go.Ev
def tell (K : List UInt8 → Int → Prop) (x : Nat) : Prop := if 16384 < (nb x).length then K [] 4 else K (nb x) 0
theorem eqS_dec (a b : List UInt8) : eqS a b = decide (a = b) := by
  unfold eqS
  by_cases h : a = b <;> simp [h]
def hexd (n : Nat) : UInt8 := UInt8.ofNat (if n < 10 then 48 + n else 87 + n)
def hx (x : Nat) : List UInt8 := if h : x = 0 then [] else hx (x / 16) ++ [hexd (x % 16)]
decreasing_by omega
end Go.Ev.S

/- What the document's answer reckons with words, bit by bit. -/
set_option linter.unusedVariables false
set_option linter.unusedSimpArgs false
namespace Go.Ev.S
open Go Go.Ev
theorem mod_succ (a i : Nat) : a % 2 ^ (i + 1) = a % 2 ^ i + (a.testBit i).toNat * 2 ^ i := by
  have h : (a.testBit i).toNat = a / 2 ^ i % 2 := by
    rw [Nat.testBit_eq_decide_div_mod_eq]
    rcases Nat.mod_two_eq_zero_or_one (a / 2 ^ i) with h | h <;> rw [h] <;> rfl
  rw [h, Nat.mod_pow_succ, Nat.mul_comm]
theorem or_pow (s i : Nat) (h : s < 2 ^ i) : s ||| 2 ^ i = s + 2 ^ i := by
  have := Nat.two_pow_add_eq_or_of_lt h 1
  rw [Nat.mul_one] at this
  rw [Nat.or_comm, ← this, Nat.add_comm]
def blen (a : Nat) : Nat := if a = 0 then 0 else a.log2 + 1
end Go.Ev.S

/- What the document's answer reckons with numbers of six words. -/
set_option linter.unusedVariables false
set_option linter.unusedSimpArgs false
set_option maxRecDepth 8000
namespace Go.Ev.S
open Go Go.Ev
end Go.Ev.S

/- What the abacus reckons with words and with numbers of six words. -/
set_option linter.unusedVariables false
set_option linter.unusedSimpArgs false
set_option maxRecDepth 8000
namespace Go.Ev.S
open Go Go.Ev
end Go.Ev.S

/- The lowest bit: of a word (the table of math/bits), of six words; a shift to the right with what fell off. -/
set_option linter.unusedVariables false
set_option linter.unusedSimpArgs false
set_option maxRecDepth 8000
namespace Go.Ev.S
open Go Go.Ev
end Go.Ev.S

/- Lengths, sums and the like: the abacus' words and six words. -/
set_option linter.unusedVariables false
set_option linter.unusedSimpArgs false
set_option maxRecDepth 8000
namespace Go.Ev.S
open Go Go.Ev
def part (z i : Nat) : Nat → Int := fun j => cond (Nat.ble i j) (W z j) 0
end Go.Ev.S

/- Natural numbers as rows of words: moved to the left and to the right; how long they are. -/
set_option linter.unusedVariables false
set_option linter.unusedSimpArgs false
set_option maxRecDepth 8000
namespace Go.Ev.S
open Go Go.Ev
end Go.Ev.S

/- Natural numbers as rows of words: divided. -/
set_option linter.unusedVariables false
set_option linter.unusedSimpArgs false
set_option maxRecDepth 8000
namespace Go.Ev.S
open Go Go.Ev
end Go.Ev.S

/- Natural numbers as rows of words: the loop of the long division. -/
set_option linter.unusedVariables false
set_option linter.unusedSimpArgs false
set_option maxRecDepth 8000
namespace Go.Ev.S
open Go Go.Ev
end Go.Ev.S

/- Natural numbers: quotients, greatest common divisors, roots. -/
set_option linter.unusedVariables false
set_option linter.unusedSimpArgs false
set_option maxRecDepth 8000
namespace Go.Ev.S
open Go Go.Ev
end Go.Ev.S

/- What the document's answer reckons with natural numbers, byte by byte. -/
set_option linter.unusedVariables false
set_option linter.unusedSimpArgs false
set_option maxRecDepth 8000
namespace Go.Ev.S
open Go Go.Ev
end Go.Ev.S

/- What the document's answer reckons with natural numbers: products. -/
set_option linter.unusedVariables false
set_option linter.unusedSimpArgs false
set_option maxRecDepth 8000
namespace Go.Ev.S
open Go Go.Ev
end Go.Ev.S

/- What the document's answer reckons with natural numbers: made, measured, moved. -/
set_option linter.unusedVariables false
set_option linter.unusedSimpArgs false
set_option maxRecDepth 8000
namespace Go.Ev.S
open Go Go.Ev
end Go.Ev.S

/- What the document's answer reckons with natural numbers: quotients, greatest common divisors, roots. -/
set_option linter.unusedVariables false
set_option linter.unusedSimpArgs false
set_option maxRecDepth 8000
namespace Go.Ev.S
open Go Go.Ev
end Go.Ev.S

/- The laws of natural numbers that need no quotient: sums, products, a ring. -/
set_option linter.unusedVariables false
set_option linter.unusedSimpArgs false
set_option maxRecDepth 8000
namespace Go.Ev.S
open Go Go.Ev
end Go.Ev.S

/- The law of shifts. -/
set_option linter.unusedVariables false
set_option linter.unusedSimpArgs false
set_option maxRecDepth 8000
namespace Go.Ev.S
open Go Go.Ev
end Go.Ev.S

/- The formats: their numbers, and the encodings that have names. -/
set_option linter.unusedVariables false
set_option linter.unusedSimpArgs false
set_option maxRecDepth 8000
namespace Go.Ev.S
open Go Go.Ev
def fw : Nat → Nat | 0 => 32 | 1 => 64 | 2 => 16 | 3 => 128 | _ => 0
def fp : Nat → Nat | 0 => 24 | 1 => 53 | 2 => 11 | 3 => 113 | _ => 0
def fe : Nat → Nat | 0 => 127 | 1 => 1023 | 2 => 15 | 3 => 16383 | _ => 0
def sg (f : Nat) (neg : Bool) : Nat := cond neg (2 ^ (fw f - 1)) 0
def enc (f : Nat) (neg : Bool) (e t : Nat) : Nat := sg f neg + e * 2 ^ (fp f - 1) + t
theorem four {f : Nat} (h : f ≤ 3) : f = 0 ∨ f = 1 ∨ f = 2 ∨ f = 3 := by omega
theorem shape_Check_ok (f : Nat) (h : f ≤ 3) (K : Int → Prop) : shape_Check f K = K 0 := by
  rw [shape_Check.is]; unfold shape_Check.d; rw [br_f (lt_f (by omega))]
theorem shape_Check_no (f : Nat) (h : 3 < f) (K : Int → Prop) : shape_Check f K = K 2 := by
  rw [shape_Check.is]; unfold shape_Check.d; rw [br_t (lt_t (by omega))]
theorem shape_Width_ok (f : Nat) (h : f ≤ 3) (K : Int → Prop) : shape_Width f K = K (fw f) := by
  rw [shape_Width.is]; unfold shape_Width.d; rw [shape_numbers.is]
  rcases four h with rfl | rfl | rfl | rfl <;> kernel_rfl
theorem shape_NaN_ok (f : Nat) (h : f ≤ 3) (K : Int → Int → Prop) : shape_NaN f K = K (Hi (enc f false (2 * fe f + 1) (2 ^ (fp f - 2)))) (Lo (enc f false (2 * fe f + 1) (2 ^ (fp f - 2)))) := by
  rw [shape_NaN.is]; unfold shape_NaN.d; rw [shape_Check.is, shape_Emax.is, shape_Precision.is, shape_at.is]; unfold shape_Emax.d shape_Precision.d; rw [shape_numbers.is]
  rcases four h with rfl | rfl | rfl | rfl <;> kernel_rfl
theorem shape_Fits_ok (f x : Nat) (h : f ≤ 3) (hx : x < 2 ^ 128) (K : Bool → Prop) : shape_Fits f (Hi x) (Lo x) K = K (decide (x < 2 ^ fw f)) := by
  rw [shape_Fits.is]; unfold shape_Fits.d
  have ez : eqI (Hi x) 0 = decide (x / 18446744073709551616 = 0) := by
    unfold Hi; rw [show (0 : Int) = ((0 : Nat) : Int) from rfl, eq_nat]
  have es : ∀ w : Nat, w < 64 → eqI (shrI .u64 (Lo x) (w : Int)) 0 = decide (x % 18446744073709551616 < 2 ^ w) := by
    intro w hw
    unfold Lo
    rw [shr_nat _ w hw, Nat.shiftRight_eq_div_pow, show (0 : Int) = ((0 : Nat) : Int) from rfl, eq_nat, decide_eq_decide, Nat.div_eq_zero_iff]
    have := Nat.two_pow_pos w
    omega
  have hx' : x < 340282366920938463463374607431768211456 := hx
  rcases four h with rfl | rfl | rfl | rfl
  · rw [br_f (by decide), br_f (by decide), br_t (by decide), br_t (by decide), ez, shape_Width_ok 0 (by omega)]
    show br (decide (x / 18446744073709551616 = 0)) (gd (!ltI (cvI IntKind.u64 ((32 : Nat) : Int)) 0) (K (eqI (shrI .u64 (Lo x) (cvI IntKind.u64 ((32 : Nat) : Int))) 0))) (K false) = K (decide (x < 2 ^ 32))
    rw [cv_u64 (by omega) (by omega), gd_t (sh_ok (by omega)), es 32 (by omega), show (2 : Nat) ^ 32 = 4294967296 from rfl]
    by_cases hq : x / 18446744073709551616 = 0
    · rw [br_t (by simp [hq])]; congr 1; rw [decide_eq_decide]; omega
    · rw [br_f (by simp [hq])]; congr 1; symm; rw [decide_eq_false_iff_not]; omega
  · rw [br_f (by decide), br_t (by decide), ez]
    show K _ = K (decide (x < 2 ^ 64))
    congr 1; rw [decide_eq_decide, show (2 : Nat) ^ 64 = 18446744073709551616 from rfl]; omega
  · rw [br_f (by decide), br_f (by decide), br_f (by decide), br_t (by decide), ez, shape_Width_ok 2 (by omega)]
    show br (decide (x / 18446744073709551616 = 0)) (gd (!ltI (cvI IntKind.u64 ((16 : Nat) : Int)) 0) (K (eqI (shrI .u64 (Lo x) (cvI IntKind.u64 ((16 : Nat) : Int))) 0))) (K false) = K (decide (x < 2 ^ 16))
    rw [cv_u64 (by omega) (by omega), gd_t (sh_ok (by omega)), es 16 (by omega), show (2 : Nat) ^ 16 = 65536 from rfl]
    by_cases hq : x / 18446744073709551616 = 0
    · rw [br_t (by simp [hq])]; congr 1; rw [decide_eq_decide]; omega
    · rw [br_f (by simp [hq])]; congr 1; symm; rw [decide_eq_false_iff_not]; omega
  · rw [br_t (by decide)]
    congr 1; symm; rw [decide_eq_true_eq]; exact hx
theorem shape_Fits_no (f : Nat) (h : 3 < f) (hi lo : Int) (K : Bool → Prop) : shape_Fits f hi lo K = K false := by
  rw [shape_Fits.is]; unfold shape_Fits.d
  rw [br_f (eq_f (by omega)), br_f (eq_f (by omega)), br_f (eq_f (by omega)), br_f (eq_f (by omega))]
end Go.Ev.S

/- The document's answer on formats: an encoding of its fields, and its fields. -/
set_option linter.unusedVariables false
set_option linter.unusedSimpArgs false
set_option maxRecDepth 8000
namespace Go.Ev.S
open Go Go.Ev
end Go.Ev.S

/- The plain law of ShapeMakes, and that of ShapeNumbers. -/
set_option linter.unusedVariables false
set_option linter.unusedSimpArgs false
set_option maxRecDepth 8000
namespace Go.Ev.S
open Go Go.Ev
end Go.Ev.S

/- Natural numbers made of words, told as words. -/
set_option linter.unusedVariables false
set_option linter.unusedSimpArgs false
set_option maxRecDepth 8000
namespace Go.Ev.S
open Go Go.Ev
end Go.Ev.S

/- Exact numbers: which may be; made, told. -/
set_option linter.unusedVariables false
set_option linter.unusedSimpArgs false
set_option maxRecDepth 8000
namespace Go.Ev.S
open Go Go.Ev
def fit (x : Nat) : Prop := (nb x).length ≤ 16384
instance (x : Nat) : Decidable (fit x) := by unfold fit; infer_instance
def win (e : Int) : Prop := -1048576 ≤ e ∧ e ≤ 1048576
instance (e : Int) : Decidable (win e) := by unfold win; infer_instance
structure MayE (n : Bool) (a b : List UInt8) (e : Int) : Prop where
  ma : May a
  mb : May b
  ob : val b % 2 = 1
  we : win e
  z : a = [] → n = false ∧ b = [1] ∧ e = 0
  r : a ≠ [] → val a % 2 = 1 ∧ Nat.gcd (val a) (val b) = 1
noncomputable instance (n : Bool) (a b : List UInt8) (e : Int) : Decidable (MayE n a b e) := Classical.propDecidable _
end Go.Ev.S

/- Exact numbers added, multiplied, compared, measured: the document's. -/
set_option linter.unusedVariables false
set_option linter.unusedSimpArgs false
set_option maxRecDepth 8000
namespace Go.Ev.S
open Go Go.Ev
def lv (a bd : Nat) (ae n : Int) : Nat := a * bd * 2 ^ (ae - n).toNat
section
variable {n1 n2 : Bool} {a1 b1 a2 b2 : Nat} {e1 e2 : Int}
end
end Go.Ev.S

/- Exact numbers scaled, measured, cut: the document's. -/
set_option linter.unusedVariables false
set_option linter.unusedSimpArgs false
set_option maxRecDepth 8000
namespace Go.Ev.S
open Go Go.Ev
def tp (a b : Nat) : Int :=
  if blen b ≤ blen a then (if b * 2 ^ (blen a - blen b) ≤ a then ((blen a - blen b : Nat) : Int) else ((blen a - blen b : Nat) : Int) - 1)
  else (if b ≤ a * 2 ^ (blen b - blen a) then -((blen b - blen a : Nat) : Int) else -((blen b - blen a : Nat) : Int) - 1)
end Go.Ev.S

/- Exact numbers added, multiplied, compared, measured: the abacus. -/
set_option linter.unusedVariables false
set_option linter.unusedSimpArgs false
set_option maxRecDepth 8000
namespace Go.Ev.S
open Go Go.Ev
section
variable {n1 n2 : Bool} {a1 b1 a2 b2 : Nat} {e1 e2 : Int}
end
end Go.Ev.S

/- Exact numbers as rational ones. -/
set_option linter.unusedVariables false
set_option linter.unusedSimpArgs false
set_option maxRecDepth 8000
namespace Go.Ev.S
open Go Go.Ev
def p2 (e : Int) : Rat := (2 : Rat) ^ e
end Go.Ev.S

/- Encodings, their fields and their signs: the abacus and the document's answer. -/
set_option linter.unusedVariables false
set_option linter.unusedSimpArgs false
set_option maxRecDepth 8000
namespace Go.Ev.S
open Go Go.Ev
def ng (f x : Nat) : Bool := x.testBit (fw f - 1)
def ex (f x : Nat) : Nat := x / 2 ^ (fp f - 1) % (2 * fe f + 2)
def fr (f x : Nat) : Nat := x % 2 ^ (fp f - 1)
def cls (f x : Nat) : Int :=
  if ex f x = 2 * fe f + 1 then (if fr f x ≠ 0 then cond ((fr f x).testBit (fp f - 2)) 9 8 else cond (ng f x) 0 7)
  else if ex f x ≠ 0 then cond (ng f x) 1 6 else if fr f x ≠ 0 then cond (ng f x) 2 5 else cond (ng f x) 3 4
end Go.Ev.S

/- Differences: of words, bit by bit; of numbers of six words. -/
set_option linter.unusedVariables false
set_option linter.unusedSimpArgs false
set_option maxRecDepth 8000
namespace Go.Ev.S
open Go Go.Ev
end Go.Ev.S

/- Quiet and next encodings: the abacus and the document's answer; the law KindSigns. -/
set_option linter.unusedVariables false
set_option linter.unusedSimpArgs false
set_option maxRecDepth 8000
namespace Go.Ev.S
open Go Go.Ev
def nanOf (f : Nat) : Nat := enc f false (2 * fe f + 1) (2 ^ (fp f - 2))
def quiet (f x : Nat) : Nat := if 8 ≤ cls f x then x ||| nanOf f else x
end Go.Ev.S

/- The parts of an encoding: the abacus and the document's answer. -/
set_option linter.unusedVariables false
set_option linter.unusedSimpArgs false
set_option maxRecDepth 8000
namespace Go.Ev.S
open Go Go.Ev
end Go.Ev.S

/- Signs put together, words and classes: the abacus and the document's answer; the laws of signs. -/
set_option linter.unusedVariables false
set_option linter.unusedSimpArgs false
set_option maxRecDepth 8000
namespace Go.Ev.S
open Go Go.Ev
end Go.Ev.S

/- The plain laws of SignWords and SignBack. -/
set_option linter.unusedVariables false
set_option linter.unusedSimpArgs false
set_option maxRecDepth 8000
namespace Go.Ev.S
open Go Go.Ev
def ext (w x : Nat) : Nat := cond (x.testBit (w - 1)) (x % 2 ^ w + (18446744073709551616 - 2 ^ w)) (x % 2 ^ w)
end Go.Ev.S

/- Encodings compared: what the functions come to. -/
set_option linter.unusedVariables false
set_option linter.unusedSimpArgs false
set_option maxRecDepth 8000
namespace Go.Ev.S
open Go Go.Ev
end Go.Ev.S

/- The order of all encodings; the lesser and the greater one. -/
set_option linter.unusedVariables false
set_option linter.unusedSimpArgs false
set_option maxRecDepth 8000
namespace Go.Ev.S
open Go Go.Ev
end Go.Ev.S

/- What encodings say: their exact values, in order. -/
set_option linter.unusedVariables false
set_option linter.unusedSimpArgs false
set_option maxRecDepth 8000
namespace Go.Ev.S
open Go Go.Ev
def fin (f x : Nat) : Prop := ex f x ≠ 2 * fe f + 1
end Go.Ev.S

/- Exact numbers compared, as rational ones; encodings compared by their values. -/
set_option linter.unusedVariables false
set_option linter.unusedSimpArgs false
set_option maxRecDepth 8000
namespace Go.Ev.S
open Go Go.Ev
section
variable {n1 n2 : Bool} {a1 b1 a2 b2 : Nat} {e1 e2 : Int}
end
end Go.Ev.S

/- Exact numbers: made, signs, products, places, sums. -/
set_option linter.unusedVariables false
set_option linter.unusedSimpArgs false
set_option maxRecDepth 8000
namespace Go.Ev.S
open Go Go.Ev
end Go.Ev.S

/- Exact numbers as rational ones: bounds, sums, products, whole parts. -/
set_option linter.unusedVariables false
set_option linter.unusedSimpArgs false
set_option maxRecDepth 8000
namespace Go.Ev.S
open Go Go.Ev
section
variable {n1 n2 : Bool} {a1 b1 a2 b2 : Nat} {e1 e2 : Int} {P1 E1 P2 E2 : Nat}
end
end Go.Ev.S

/- A field's laws; a whole part and the next. -/
set_option linter.unusedVariables false
set_option linter.unusedSimpArgs false
set_option maxRecDepth 8000
namespace Go.Ev.S
open Go Go.Ev
end Go.Ev.S

/- Decimal digits. -/
set_option linter.unusedVariables false
set_option linter.unusedSimpArgs false
set_option maxRecDepth 8000
namespace Go.Ev.S
open Go Go.Ev
open Go.Lib (decDigits nDigits)
end Go.Ev.S

/- Narrow values in wide registers: the program's answers and the document's, as numbers of 128 bits. -/
set_option linter.unusedVariables false
set_option linter.unusedSimpArgs false
set_option maxRecDepth 8000
namespace Go.Ev.S
open Go Go.Ev
def ab (f : Nat) : Nat := 2 ^ 128 - 2 ^ fw f
theorem fw_le2 (f : Nat) (h : f ≤ 3) : 1 ≤ fw f ∧ fw f ≤ 128 := by rcases four h with rfl | rfl | rfl | rfl <;> decide
theorem ab_lt (f : Nat) : ab f < 2 ^ 128 := by
  unfold ab
  have h1 := Nat.two_pow_pos 128
  have h2 := Nat.two_pow_pos (fw f)
  omega
theorem ab_add (f : Nat) (h : f ≤ 3) : ab f + 2 ^ fw f = 2 ^ 128 := by
  unfold ab
  have : 2 ^ fw f ≤ 2 ^ 128 := Nat.pow_le_pow_right (by omega) (fw_le2 f h).2
  omega
theorem and_high (x w n : Nat) (hx : x < 2 ^ (w + n)) : x &&& (2 ^ (w + n) - 2 ^ w) = x - x % 2 ^ w := by
  have e1 : 2 ^ (w + n) - 2 ^ w = (2 ^ n - 1) <<< w := by
    rw [Nat.shiftLeft_eq, Nat.sub_mul, Nat.one_mul, ← Nat.pow_add, Nat.add_comm n w]
  have e2 : x - x % 2 ^ w = (x / 2 ^ w) <<< w := by
    rw [Nat.shiftLeft_eq]
    have := Nat.div_add_mod x (2 ^ w)
    rw [Nat.mul_comm] at this; omega
  have hd : x / 2 ^ w < 2 ^ n := by
    rw [Nat.div_lt_iff_lt_mul (Nat.two_pow_pos w), ← Nat.pow_add, Nat.add_comm n w]; exact hx
  rw [e1, e2]
  apply Nat.eq_of_testBit_eq
  intro j
  rw [Nat.testBit_and, Nat.testBit_shiftLeft, Nat.testBit_shiftLeft, Nat.testBit_two_pow_sub_one, Nat.testBit_div_two_pow]
  by_cases hj : w ≤ j
  · have e3 : j - w + w = j := by omega
    rw [e3]
    by_cases hn : j - w < n
    · simp [hj, hn]
    · have : x.testBit j = false := Nat.testBit_lt_two_pow (Nat.lt_of_lt_of_le hx (Nat.pow_le_pow_right (by omega) (by omega)))
      simp [this]
  · simp [hj]
theorem and_ab (f x : Nat) (h : f ≤ 3) (hx : x < 2 ^ 128) : x &&& ab f = x - x % 2 ^ fw f := by
  obtain ⟨_, h2⟩ := fw_le2 f h
  have := and_high x (fw f) (128 - fw f)
  rw [show fw f + (128 - fw f) = 128 from by omega] at this
  exact this hx
theorem ab_mod (f x : Nat) (h : f ≤ 3) (hx : x < 2 ^ 128) : (x &&& ab f = ab f) ↔ ab f ≤ x := by
  rw [and_ab f x h hx]
  have h1 := ab_add f h
  have h2 : x % 2 ^ fw f < 2 ^ fw f := Nat.mod_lt _ (Nat.two_pow_pos _)
  have h3 := Nat.mod_le x (2 ^ fw f)
  constructor
  · intro e; omega
  · intro e
    -- x lies in the last piece
    have h4 : 2 ^ fw f ∣ ab f := by
      unfold ab
      exact Nat.dvd_sub (Nat.pow_dvd_pow 2 (fw_le2 f h).2) (Nat.dvd_refl _)
    obtain ⟨c, hc⟩ := h4
    have h5 : x = ab f + (x - ab f) := by omega
    have h6 : x % 2 ^ fw f = x - ab f := by
      conv => lhs; rw [h5, hc, Nat.mul_add_mod]
      rw [← hc]
      exact Nat.mod_eq_of_lt (by omega)
    omega
theorem or_ab (f x : Nat) (h : f ≤ 3) (hx : x < 2 ^ fw f) : x ||| ab f = x + ab f := by
  have h4 : 2 ^ fw f ∣ ab f := by
    unfold ab
    exact Nat.dvd_sub (Nat.pow_dvd_pow 2 (fw_le2 f h).2) (Nat.dvd_refl _)
  obtain ⟨c, hc⟩ := h4
  rw [hc, Nat.or_comm, ← Nat.two_pow_add_eq_or_of_lt hx, Nat.add_comm]
theorem andnot_nat (a b : Nat) (ha : a < 18446744073709551616) (hb : b < 18446744073709551616) : andNotI .u64 a b = ((a ^^^ (a &&& b) : Nat) : Int) := by
  have h1 : (BitVec.ofInt 64 (a : Int)) = BitVec.ofNat 64 a := by simp
  have h2 : (BitVec.ofInt 64 (b : Int)) = BitVec.ofNat 64 b := by simp
  have h3 : a &&& b < 2 ^ 64 := Nat.lt_of_le_of_lt Nat.and_le_left ha
  have h4 : a ^^^ (a &&& b) < 18446744073709551616 := Nat.xor_lt_two_pow (n := 64) ha h3
  show IntKind.wrap .u64 (((BitVec.ofInt 64 (a : Int) &&& ~~~BitVec.ofInt 64 (b : Int) : BitVec 64).toNat : Nat) : Int) = _
  rw [h1, h2]
  have h5 : (BitVec.ofNat 64 a &&& ~~~BitVec.ofNat 64 b) = (BitVec.ofNat 64 a ^^^ (BitVec.ofNat 64 a &&& BitVec.ofNat 64 b)) := by
    ext i hi
    simp only [BitVec.getElem_and, BitVec.getElem_not, BitVec.getElem_xor]
    cases (BitVec.ofNat 64 a)[i] <;> cases (BitVec.ofNat 64 b)[i] <;> rfl
  rw [h5, BitVec.toNat_xor, BitVec.toNat_and, BitVec.toNat_ofNat, BitVec.toNat_ofNat, Nat.mod_eq_of_lt ha, Nat.mod_eq_of_lt hb]
  exact u64_id (by omega) (by omega)
theorem andnot_two (x y : Nat) (hx : x < 2 ^ 128) (hy : y < 2 ^ 128) : andNotI .u64 (Hi x) (Hi y) = Hi (x ^^^ (x &&& y)) ∧ andNotI .u64 (Lo x) (Lo y) = Lo (x ^^^ (x &&& y)) := by
  obtain ⟨h1, h2⟩ := op_two (fun a b => a ^^ (a && b)) (fun a b => a ^^^ (a &&& b)) (fun a b j => by rw [Nat.testBit_xor, Nat.testBit_and]) rfl x y
  unfold Hi Lo
  exact ⟨by rw [andnot_nat _ _ (hi_lt hx) (hi_lt hy)]; exact congrArg _ h1.symm, by rw [andnot_nat _ _ (lo_lt x) (lo_lt y)]; exact congrArg _ h2.symm⟩
theorem low_ab (f x : Nat) (h : f ≤ 3) (hx : x < 2 ^ 128) : x ^^^ (x &&& ab f) = x % 2 ^ fw f := by
  apply Nat.eq_of_testBit_eq
  intro j
  have h1 : (x &&& ab f).testBit j = (decide (fw f ≤ j) && x.testBit j) := by
    rw [and_ab f x h hx]
    have e2 : x - x % 2 ^ fw f = (x / 2 ^ fw f) <<< fw f := by
      rw [Nat.shiftLeft_eq]
      have := Nat.div_add_mod x (2 ^ fw f)
      rw [Nat.mul_comm] at this; omega
    rw [e2, Nat.testBit_shiftLeft, Nat.testBit_div_two_pow]
    by_cases hj : fw f ≤ j
    · rw [show j - fw f + fw f = j from by omega]
    · simp [hj]
  rw [Nat.testBit_xor, h1, Nat.testBit_mod_two_pow]
  by_cases hj : fw f ≤ j
  · have : ¬ j < fw f := by omega
    simp [hj, this]
  · have : j < fw f := by omega
    simp [hj, this]
def nanf (f : Nat) : Nat := enc f false (2 * fe f + 1) (2 ^ (fp f - 2))
theorem nanf_eq (f : Nat) (h : f ≤ 3) : nanf f = 2 ^ (fw f - 1) - 2 ^ (fp f - 2) ∧ nanf f < 2 ^ fw f ∧ fp f - 2 ≤ fw f - 1 := by
  rcases four h with rfl | rfl | rfl | rfl <;> decide
def boxed (f x : Nat) : Bool := decide (ab f ≤ x)
def unbox (f x : Nat) : Nat := cond (boxed f x) (x % 2 ^ fw f) (nanf f)
theorem box_above_ok (f : Nat) (h : f ≤ 3) (K : Int → Int → Prop) : box_above f K = K (Hi (ab f)) (Lo (ab f)) := by
  rw [box_above.is]
  rcases four h with rfl | rfl | rfl | rfl <;> kernel_rfl
theorem box_Above_ok (f : Nat) (h : f ≤ 3) (K : Int → Int → Int → Prop) : box_Above f K = K (Hi (ab f)) (Lo (ab f)) 0 := by
  rw [box_Above.is]; unfold box_Above.d; rw [shape_Check_ok f h, br_f (by decide), box_above_ok f h]
theorem box_Above_no (f : Nat) (h : 3 < f) (K : Int → Int → Int → Prop) : box_Above f K = K 0 0 2 := by
  rw [box_Above.is]; unfold box_Above.d; rw [shape_Check_no f h]; rfl
theorem box_IsBoxed_ok (f x : Nat) (h : f ≤ 3) (hx : x < 2 ^ 128) (K : Bool → Prop) : box_IsBoxed f (Hi x) (Lo x) K = K (boxed f x) := by
  rw [box_IsBoxed.is]; unfold box_IsBoxed.d
  obtain ⟨h1, h2⟩ := and_two x (ab f) hx (ab_lt f)
  rw [box_Above_ok f h, br_t (by decide), h1, h2, pair_eq]
  have : decide (x &&& ab f = ab f) = boxed f x := by unfold boxed; rw [decide_eq_decide]; exact ab_mod f x h hx
  rw [this]
theorem box_Low_ok (f x : Nat) (h : f ≤ 3) (hx : x < 2 ^ 128) (K : Int → Int → Int → Prop) : box_Low f (Hi x) (Lo x) K = K (Hi (x % 2 ^ fw f)) (Lo (x % 2 ^ fw f)) 0 := by
  rw [box_Low.is]; unfold box_Low.d
  obtain ⟨h1, h2⟩ := andnot_two x (ab f) hx (ab_lt f)
  rw [box_Above_ok f h, br_f (by decide), h1, h2, low_ab f x h hx]
theorem box_Low_no (f : Nat) (h : 3 < f) (hi lo : Int) (K : Int → Int → Int → Prop) : box_Low f hi lo K = K 0 0 2 := by
  rw [box_Low.is]; unfold box_Low.d; rw [box_Above_no f h]; rfl
theorem box_Unbox_ok (f x : Nat) (h : f ≤ 3) (hx : x < 2 ^ 128) (K : Int → Int → Int → Prop) : box_Unbox f (Hi x) (Lo x) K = K (Hi (unbox f x)) (Lo (unbox f x)) 0 := by
  rw [box_Unbox.is]; unfold box_Unbox.d
  rw [box_Low_ok f x h hx, br_f (by decide), box_IsBoxed_ok f x h hx, shape_NaN_ok f h]
  unfold unbox nanf
  cases boxed f x <;> rfl
theorem box_Unbox_no (f : Nat) (h : 3 < f) (hi lo : Int) (K : Int → Int → Int → Prop) : box_Unbox f hi lo K = K 0 0 2 := by
  rw [box_Unbox.is]; unfold box_Unbox.d; rw [box_Low_no f h]; rfl
theorem box_Box_ok (f x : Nat) (h : f ≤ 3) (hx : x < 2 ^ 128) (K : Int → Int → Int → Prop) : box_Box f (Hi x) (Lo x) K = br (decide (x < 2 ^ fw f)) (K (Hi (x + ab f)) (Lo (x + ab f)) 0) (K 0 0 2) := by
  rw [box_Box.is]; unfold box_Box.d
  rw [shape_Fits_ok f x h hx]
  by_cases hf : x < 2 ^ fw f
  · obtain ⟨h1, h2⟩ := or_two x (ab f) hx (ab_lt f)
    rw [br_f (by simp [hf]), br_t (by simp [hf]), box_above_ok f h, h1, h2, or_ab f x h hf]
  · rw [br_t (by simp [hf]), br_f (by simp [hf])]
theorem box_Box_no (f : Nat) (h : 3 < f) (hi lo : Int) (K : Int → Int → Int → Prop) : box_Box f hi lo K = K 0 0 2 := by
  rw [box_Box.is]; unfold box_Box.d; rw [shape_Fits_no f h]; rfl
theorem box_lt {f x : Nat} (h : f ≤ 3) (hx : x < 2 ^ fw f) : x + ab f < 2 ^ 128 := by have := ab_add f h; omega
theorem r22_Width_ok (f : Nat) (h : f ≤ 3) (K : Int → Prop) : r22_Width f K = K (fw f) := by
  rw [r22_Width.is]
  rcases four h with rfl | rfl | rfl | rfl <;> kernel_rfl
theorem r22_Width_no (f : Nat) (h : 3 < f) (K : Int → Prop) : r22_Width f K = K 0 := by
  rw [r22_Width.is]; unfold r22_Width.d
  rw [br_f (eq_f (by omega)), br_f (eq_f (by omega)), br_f (eq_f (by omega)), br_f (eq_f (by omega))]
theorem pair_bit (x k : Nat) (hx : x < 2 ^ 128) (hk : k < 128) (K : Bool → Prop) : (br (ltI k 64) (gd (!ltI k 0) (K (eqI (andI IntKind.u64 (shrI IntKind.u64 (Lo x) k) 1) 1))) (gd (!ltI (subI IntKind.i64 k 64) 0) (K (eqI (andI IntKind.u64 (shrI IntKind.u64 (Hi x) (subI IntKind.i64 k 64)) 1) 1)))) = K (x.testBit k) := by
  by_cases h : k < 64
  · rw [br_t (lt_t (by omega)), gd_t (sh_ok (by omega))]
    unfold Lo
    rw [test_nat _ k (lo_lt x) h, lo_bit]
    simp [h]
  · rw [br_f (lt_f (by omega)), show subI IntKind.i64 (k : Int) 64 = ((k - 64 : Nat) : Int) from by rw [sub_i64 (by omega) (by omega)]; omega, gd_t (sh_ok (by omega))]
    unfold Hi
    rw [test_nat _ (k - 64) (hi_lt hx) (by omega), hi_bit, show 64 + (k - 64) = k from by omega]
theorem r22_Bit_ok (x k : Nat) (hx : x < 2 ^ 128) (hk : k < 128) (K : Bool → Prop) : r22_Bit (Hi x) (Lo x) k K = K (x.testBit k) := by
  rw [r22_Bit.is]; exact pair_bit x k hx hk K
theorem r22_with_ok (x k : Nat) (hx : x < 2 ^ 128) (hk : k < 128) (K : Int → Int → Prop) : r22_with (Hi x) (Lo x) k K = K (Hi (x ||| 2 ^ k)) (Lo (x ||| 2 ^ k)) := by
  rw [r22_with.is]; unfold r22_with.d
  obtain ⟨e1, e2⟩ := op_two (· || ·) (· ||| ·) (fun a b j => Nat.testBit_or a b j) rfl x (2 ^ k)
  by_cases h : k < 64
  · have h1 : 2 ^ k / 18446744073709551616 = 0 := Nat.div_eq_of_lt (pow_lt_64 h)
    have h2 : 2 ^ k % 18446744073709551616 = 2 ^ k := Nat.mod_eq_of_lt (pow_lt_64 h)
    rw [br_t (lt_t (by omega)), gd_t (sh_ok (by omega)), one_shl k h]
    unfold Hi Lo
    rw [e1, e2, h1, h2, Nat.or_zero, or_nat _ _ (lo_lt x) (pow_lt_64 h)]
  · have hp : 2 ^ k = 2 ^ (k - 64) * 18446744073709551616 := by
      rw [show (18446744073709551616 : Nat) = 2 ^ 64 from rfl, ← Nat.pow_add]; congr 1; omega
    have h1 : 2 ^ k / 18446744073709551616 = 2 ^ (k - 64) := by rw [hp, Nat.mul_div_cancel _ (by omega)]
    have h2 : 2 ^ k % 18446744073709551616 = 0 := by rw [hp, Nat.mul_mod_left]
    rw [br_f (lt_f (by omega)), show subI IntKind.i64 (k : Int) 64 = ((k - 64 : Nat) : Int) from by rw [sub_i64 (by omega) (by omega)]; omega, gd_t (sh_ok (by omega)), one_shl (k - 64) (by omega)]
    unfold Hi Lo
    rw [e1, e2, h1, h2, Nat.or_zero, or_nat _ _ (hi_lt hx) (pow_lt_64 (by omega))]
theorem r22_Box_loop (w b : Nat) (hw : w ≤ 128) (hb : b < 2 ^ w) (k0 : Int → Int → Int → Int → Prop) (u v : Int) (h : k0 (Hi (b + (2 ^ 128 - 2 ^ w))) (Lo (b + (2 ^ 128 - 2 ^ w))) u v) :
    ∀ (j i : Nat), w ≤ i → i + j = 128 → r22_Box.l2 k0 (j + 1) i (Hi (b + (2 ^ i - 2 ^ w))) (Lo (b + (2 ^ i - 2 ^ w))) u v := by
  intro j
  induction j with
  | zero =>
    intro i hwi hij
    have : i = 128 := by omega
    subst this
    unfold r22_Box.l2 r22_Box.l2.step
    rw [br_f (by decide)]
    exact h
  | succ j ih =>
    intro i hwi hij
    have hp := Nat.two_pow_pos w
    have hle : 2 ^ w ≤ 2 ^ i := Nat.pow_le_pow_right (by omega) hwi
    have hlt : 2 ^ i < 2 ^ 128 := Nat.pow_lt_pow_right (by omega) (by omega)
    have ih := ih (i + 1) (by omega) (by omega)
    have e : ((i + 1 : Nat) : Int) = (i : Int) + 1 := by omega
    rw [e] at ih
    unfold r22_Box.l2 r22_Box.l2.step
    rw [br_t (lt_t (by omega)), r22_with_ok _ i (by omega) (by omega), or_pow _ _ (by omega), add_i64 (by omega) (by omega)]
    rw [show b + (2 ^ (i + 1) - 2 ^ w) = b + (2 ^ i - 2 ^ w) + 2 ^ i from by rw [Nat.pow_succ]; omega] at ih
    exact ih
theorem r22_Box_ok (f b : Nat) (h : f ≤ 3) (hb : b < 2 ^ fw f) (K : Int → Int → Prop) (hK : K (Hi (b + ab f)) (Lo (b + ab f))) : r22_Box f (Hi b) (Lo b) K := by
  obtain ⟨h1, h2⟩ := fw_le2 f h
  rw [r22_Box.is]; unfold r22_Box.d; rw [r22_Width_ok f h]
  refine ⟨128 - fw f + 1, ?_⟩
  have := r22_Box_loop (fw f) b h2 hb (fun y0 y1 y2 y3 => K y0 y1) 0 0 hK (128 - fw f) (fw f) (Nat.le_refl _) (by omega)
  rw [Nat.sub_self, Nat.add_zero] at this
  exact this
theorem lt_of_bits {x w n : Nat} (hx : x < 2 ^ n) (h : ∀ i, w ≤ i → i < n → x.testBit i = false) : x < 2 ^ w := by
  apply Nat.lt_pow_two_of_testBit
  intro i hi
  by_cases hin : i < n
  · exact h i hi hin
  · exact Nat.testBit_lt_two_pow (Nat.lt_of_lt_of_le hx (Nat.pow_le_pow_right (by omega) (by omega)))
theorem r22_Fits_loop (x w : Nat) (a : Int) (hx : x < 2 ^ 128) (k0 : Bool → Prop) (k1 : Int → Prop) (h0 : ¬ x < 2 ^ w → k0 false) (h1 : x < 2 ^ w → k1 a) :
    ∀ (j i : Nat), w ≤ i → i + j = 128 → (∀ k, w ≤ k → k < i → x.testBit k = false) → r22_Fits.l2 k0 k1 (j + 1) a i (Hi x) (Lo x) := by
  intro j
  induction j with
  | zero =>
    intro i hwi hij hb
    have : i = 128 := by omega
    subst this
    unfold r22_Fits.l2 r22_Fits.l2.step
    rw [br_f (by decide)]
    exact h1 (lt_of_bits hx hb)
  | succ j ih =>
    intro i hwi hij hb
    have ih := ih (i + 1) (by omega) (by omega)
    have e : ((i + 1 : Nat) : Int) = (i : Int) + 1 := by omega
    rw [e] at ih
    unfold r22_Fits.l2 r22_Fits.l2.step
    rw [br_t (lt_t (by omega)), r22_Bit_ok x i hx (by omega), add_i64 (by omega) (by omega)]
    cases ht : x.testBit i with
    | true =>
      rw [br_t rfl]
      refine h0 fun hlt => ?_
      rw [Nat.testBit_lt_two_pow (Nat.lt_of_lt_of_le hlt (Nat.pow_le_pow_right (by omega) hwi))] at ht
      cases ht
    | false =>
      rw [br_f rfl]
      refine ih fun k hk hki => ?_
      by_cases he : k = i
      · subst he; exact ht
      · exact hb k hk (by omega)
theorem r22_Fits_ok (f x : Nat) (h : f ≤ 3) (hx : x < 2 ^ 128) (K : Bool → Prop) (hK : K (decide (x < 2 ^ fw f))) : r22_Fits f (Hi x) (Lo x) K := by
  obtain ⟨h1, h2⟩ := fw_le2 f h
  rw [r22_Fits.is]; unfold r22_Fits.d; rw [r22_Width_ok f h]
  refine ⟨128 - fw f + 1, r22_Fits_loop x (fw f) f hx _ _ (fun hn => ?_) (fun hy => ?_) (128 - fw f) (fw f) (Nat.le_refl _) (by omega) (by intro k h3 h4; omega)⟩
  · rw [show decide (x < 2 ^ fw f) = false from by simp [hn]] at hK; exact hK
  · rw [r22_Width_ok f h, lt_t (by omega)]
    rw [show decide (x < 2 ^ fw f) = true from by simp [hy]] at hK; exact hK
theorem ab_bits (f x : Nat) (h : f ≤ 3) (hx : x < 2 ^ 128) : ab f ≤ x ↔ ∀ i, fw f ≤ i → i < 128 → x.testBit i = true := by
  rw [← ab_mod f x h hx]
  have hb : ∀ i, (ab f).testBit i = (decide (fw f ≤ i) && decide (i < 128)) := by
    intro i
    have e1 : ab f = (2 ^ (128 - fw f) - 1) <<< fw f := by
      unfold ab
      rw [Nat.shiftLeft_eq, Nat.sub_mul, Nat.one_mul, ← Nat.pow_add, show 128 - fw f + fw f = 128 from by have := (fw_le2 f h).2; omega]
    rw [e1, Nat.testBit_shiftLeft, Nat.testBit_two_pow_sub_one]
    by_cases hi : fw f ≤ i
    · have : decide (i - fw f < 128 - fw f) = decide (i < 128) := by rw [decide_eq_decide]; omega
      simp [hi, this]
    · simp [hi]
  constructor
  · intro he i h1 h2
    have := congrArg (fun z => Nat.testBit z i) he
    simp only [Nat.testBit_and, hb, h1, h2, decide_true, Bool.and_true] at this
    exact this
  · intro he
    apply Nat.eq_of_testBit_eq
    intro i
    rw [Nat.testBit_and, hb]
    by_cases h1 : fw f ≤ i
    · by_cases h2 : i < 128
      · simp [h1, h2, he i h1 h2]
      · simp [h2]
    · simp [h1]
theorem r22_IsBoxed_loop (f x : Nat) (h : f ≤ 3) (hx : x < 2 ^ 128) (k0 : Bool → Prop) (k1 : Int → Prop) (h0 : ¬ ab f ≤ x → k0 false) (h1 : ab f ≤ x → k1 f) :
    ∀ (j i : Nat), fw f ≤ i → i + j = 128 → (∀ k, fw f ≤ k → k < i → x.testBit k = true) → r22_IsBoxed.l2 k0 k1 (j + 1) f i (Hi x) (Lo x) := by
  intro j
  induction j with
  | zero =>
    intro i hwi hij hb
    have : i = 128 := by omega
    subst this
    unfold r22_IsBoxed.l2 r22_IsBoxed.l2.step
    rw [br_f (by decide)]
    exact h1 ((ab_bits f x h hx).2 hb)
  | succ j ih =>
    intro i hwi hij hb
    have ih := ih (i + 1) (by omega) (by omega)
    have e : ((i + 1 : Nat) : Int) = (i : Int) + 1 := by omega
    rw [e] at ih
    unfold r22_IsBoxed.l2 r22_IsBoxed.l2.step
    rw [br_t (lt_t (by omega)), r22_Bit_ok x i hx (by omega), add_i64 (by omega) (by omega)]
    cases ht : x.testBit i with
    | false =>
      rw [br_t (by decide)]
      refine h0 fun hle => ?_
      rw [(ab_bits f x h hx).1 hle i hwi (by omega)] at ht
      cases ht
    | true =>
      rw [br_f (by decide)]
      refine ih fun k hk hki => ?_
      by_cases he : k = i
      · subst he; exact ht
      · exact hb k hk (by omega)
theorem r22_IsBoxed_ok (f x : Nat) (h : f ≤ 3) (hx : x < 2 ^ 128) (K : Bool → Prop) (hK : K (boxed f x)) : r22_IsBoxed f (Hi x) (Lo x) K := by
  obtain ⟨h1, h2⟩ := fw_le2 f h
  rw [r22_IsBoxed.is]; unfold r22_IsBoxed.d; rw [r22_Width_ok f h]
  unfold boxed at hK
  refine ⟨128 - fw f + 1, r22_IsBoxed_loop f x h hx _ _ (fun hn => ?_) (fun hy => ?_) (128 - fw f) (fw f) (Nat.le_refl _) (by omega) (by intro k h3 h4; omega)⟩
  · rw [show decide (ab f ≤ x) = false from by simp [hn]] at hK; exact hK
  · rw [r22_Width_ok f h, lt_t (by omega)]
    rw [show decide (ab f ≤ x) = true from by simp [hy]] at hK; exact hK
theorem r22_Low_loop (f x : Nat) (h : f ≤ 3) (hx : x < 2 ^ 128) (k0 : Int → Int → Int → Int → Prop) (u v : Int) (hk : k0 u v (Hi (x % 2 ^ fw f)) (Lo (x % 2 ^ fw f))) :
    ∀ (j i : Nat), i + j = fw f → r22_Low.l3 k0 (j + 1) f i (Hi x) (Lo x) u v (Hi (x % 2 ^ i)) (Lo (x % 2 ^ i)) := by
  obtain ⟨w1, w2⟩ := fw_le2 f h
  intro j
  induction j with
  | zero =>
    intro i hij
    have : i = fw f := by omega
    subst this
    unfold r22_Low.l3 r22_Low.l3.step
    rw [r22_Width_ok f h, br_f (lt_f (by omega))]
    exact hk
  | succ j ih =>
    intro i hij
    have ih := ih (i + 1) (by omega)
    have e : ((i + 1 : Nat) : Int) = (i : Int) + 1 := by omega
    rw [e] at ih
    have hlt : x % 2 ^ i < 2 ^ i := Nat.mod_lt _ (Nat.two_pow_pos _)
    have hlt2 : x % 2 ^ i < 2 ^ 128 := Nat.lt_of_lt_of_le hlt (Nat.pow_le_pow_right (by omega) (by omega))
    unfold r22_Low.l3 r22_Low.l3.step
    rw [r22_Width_ok f h, br_t (lt_t (by omega)), r22_Bit_ok x i hx (by omega), add_i64 (by omega) (by omega)]
    cases ht : x.testBit i with
    | true =>
      rw [br_t rfl, r22_with_ok _ i hlt2 (by omega), or_pow _ _ hlt]
      rw [mod_succ, ht, Bool.toNat_true, Nat.one_mul] at ih
      exact ih
    | false =>
      rw [br_f rfl]
      rw [mod_succ, ht, Bool.toNat_false, Nat.zero_mul, Nat.add_zero] at ih
      exact ih
theorem r22_Low_ok (f x : Nat) (h : f ≤ 3) (hx : x < 2 ^ 128) (K : Int → Int → Prop) (hK : K (Hi (x % 2 ^ fw f)) (Lo (x % 2 ^ fw f))) : r22_Low f (Hi x) (Lo x) K := by
  rw [r22_Low.is]
  refine ⟨fw f + 1, ?_⟩
  have := r22_Low_loop f x h hx (fun y0 y1 y2 y3 => K y2 y3) 0 0 hK (fw f) 0 (by omega)
  rw [Nat.pow_zero, Nat.mod_one] at this
  exact this
theorem r22_NaN_loop (f s : Nat) (h : f ≤ 3) (k0 : Int → Int → Int → Int → Prop) (u v : Int) (hk : k0 u v (Hi (2 ^ (fw f - 1) - 2 ^ s)) (Lo (2 ^ (fw f - 1) - 2 ^ s))) :
    ∀ (j i : Nat), s ≤ i → i + j = fw f - 1 → r22_NaN.l11 k0 (j + 1) f i u v (Hi (2 ^ i - 2 ^ s)) (Lo (2 ^ i - 2 ^ s)) := by
  obtain ⟨w1, w2⟩ := fw_le2 f h
  intro j
  induction j with
  | zero =>
    intro i hs hij
    have : i = fw f - 1 := by omega
    subst this
    unfold r22_NaN.l11 r22_NaN.l11.step
    rw [r22_Width_ok f h, sub_i64 (by omega) (by omega), br_f (lt_f (by omega))]
    exact hk
  | succ j ih =>
    intro i hs hij
    have ih := ih (i + 1) (by omega) (by omega)
    have e : ((i + 1 : Nat) : Int) = (i : Int) + 1 := by omega
    rw [e] at ih
    have hp := Nat.two_pow_pos s
    have hle : 2 ^ s ≤ 2 ^ i := Nat.pow_le_pow_right (by omega) hs
    have hlt : 2 ^ i < 2 ^ 128 := Nat.pow_lt_pow_right (by omega) (by omega)
    unfold r22_NaN.l11 r22_NaN.l11.step
    rw [r22_Width_ok f h, sub_i64 (by omega) (by omega), br_t (lt_t (by omega)), r22_with_ok _ i (by omega) (by omega), or_pow _ _ (by omega), add_i64 (by omega) (by omega)]
    rw [show 2 ^ (i + 1) - 2 ^ s = 2 ^ i - 2 ^ s + 2 ^ i from by rw [Nat.pow_succ]; omega] at ih
    exact ih
theorem r22_NaN_ok (f : Nat) (h : f ≤ 3) (K : Int → Int → Prop) (hK : K (Hi (nanf f)) (Lo (nanf f))) : r22_NaN f K := by
  obtain ⟨n1, n2, n3⟩ := nanf_eq f h
  have key : ∃ n, r22_NaN.l11 (fun y0 y1 y2 y3 => K y2 y3) n f ((fp f - 2 : Nat) : Int) 0 0 0 0 := by
    refine ⟨fw f - 1 - (fp f - 2) + 1, ?_⟩
    have := r22_NaN_loop f (fp f - 2) h (fun y0 y1 y2 y3 => K y2 y3) 0 0 (by rw [← n1]; exact hK) (fw f - 1 - (fp f - 2)) (fp f - 2) (Nat.le_refl _) (by omega)
    rw [Nat.sub_self] at this
    exact this
  rw [r22_NaN.is]; unfold r22_NaN.d
  rcases four h with rfl | rfl | rfl | rfl
  · rw [br_t (by decide)]; exact key
  · rw [br_f (by decide), br_t (by decide)]; exact key
  · rw [br_f (by decide), br_f (by decide), br_f (by decide)]; exact key
  · rw [br_f (by decide), br_f (by decide), br_t (by decide)]; exact key
theorem r22_Unbox_ok (f x : Nat) (h : f ≤ 3) (hx : x < 2 ^ 128) (K : Int → Int → Prop) (hK : K (Hi (unbox f x)) (Lo (unbox f x))) : r22_Unbox f (Hi x) (Lo x) K := by
  rw [r22_Unbox.is]; unfold r22_Unbox.d
  refine r22_IsBoxed_ok f x h hx _ ?_
  unfold unbox at hK
  cases hb : boxed f x with
  | true => rw [br_t rfl]; rw [hb] at hK; exact r22_Low_ok f x h hx _ hK
  | false => rw [br_f rfl]; rw [hb] at hK; exact r22_NaN_ok f h _ hK
end Go.Ev.S

/- The registers: what their functions come to. -/
set_option linter.unusedVariables false
set_option linter.unusedSimpArgs false
set_option maxRecDepth 20000
namespace Go.Ev.S
open Go Go.Ev
open Go.Lib (decDigits)
section
variable {g : Nat → Int} {F : Nat → Nat → Lf}
theorem none_ok (b : Bool) (K : Bool → Bool → (Nat → Int) → (Nat → Nat → Lf) → Prop) : regs_Regs_none b g F K = K (!b) b g F := by
  rw [regs_Regs_none.is]; rfl
theorem word_ok (b : Bool) (n : Int) (k0 : Bool → (Nat → Int) → (Nat → Nat → Lf) → Prop) (k1 : Nat → Bool → (Nat → Int) → (Nat → Nat → Lf) → Prop) (h0 : ¬ (0 ≤ n ∧ n < 32) → k0 b g F) (h1 : 0 ≤ n → n < 32 → k1 n.toNat b g F) : regs_Regs_word b g F n k0 k1 := by
  rw [regs_Regs_word.is]; unfold regs_Regs_word.d
  by_cases l : n < 0
  · rw [br_t (lt_t l)]; exact h0 (by omega)
  rw [br_f (lt_f (by omega))]
  by_cases u : 32 ≤ n
  · rw [br_t (le_t u)]; exact h0 (by omega)
  rw [br_f (le_f (by omega)), gd_t (by rw [le_t (by omega), lt_t (by omega)]; rfl)]
  exact h1 (by omega) (by omega)
theorem bits_ok (b : Bool) (n : Int) (k0 : Bool → (Nat → Int) → (Nat → Nat → Lf) → Prop) (k1 : Nat → Bool → (Nat → Int) → (Nat → Nat → Lf) → Prop) (h0 : ¬ (0 ≤ n ∧ n < 32) → k0 b g F) (h1 : 0 ≤ n → n < 32 → k1 n.toNat b g F) : regs_Regs_bits b g F n k0 k1 := by
  rw [regs_Regs_bits.is]; unfold regs_Regs_bits.d
  by_cases l : n < 0
  · rw [br_t (lt_t l)]; exact h0 (by omega)
  rw [br_f (lt_f (by omega))]
  by_cases u : 32 ≤ n
  · rw [br_t (le_t u)]; exact h0 (by omega)
  rw [br_f (le_f (by omega)), gd_t (by rw [le_t (by omega), lt_t (by omega)]; rfl)]
  exact h1 (by omega) (by omega)
theorem setX_ok (n v : Int) (K : Int → Bool → (Nat → Int) → (Nat → Nat → Lf) → Prop) (h0 : ¬ (0 ≤ n ∧ n < 32) → K 2 true g F) (h1 : 0 ≤ n → n < 32 → K 0 true (upd (upd g n.toNat v) 0 0) F) : regs_Regs_SetX true g F n v K := by
  rw [regs_Regs_SetX.is]; unfold regs_Regs_SetX.d
  rw [none_ok]
  show br false _ _
  rw [br_f rfl]
  exact word_ok true n _ _ h0 h1
theorem getX_ok (n : Int) (K : Int → Int → Bool → (Nat → Int) → (Nat → Nat → Lf) → Prop) (h0 : ¬ (0 ≤ n ∧ n < 32) → K 0 2 true g F) (h1 : 0 ≤ n → n < 32 → K (g n.toNat) 0 true g F) : regs_Regs_X true g F n K := by
  rw [regs_Regs_X.is]; unfold regs_Regs_X.d
  rw [none_ok]
  show br false _ _
  rw [br_f rfl]
  exact word_ok true n _ _ h0 h1
theorem setF_ok (n p q : Int) (K : Int → Bool → (Nat → Int) → (Nat → Nat → Lf) → Prop) (h0 : ¬ (0 ≤ n ∧ n < 32) → K 2 true g F) (h1 : 0 ≤ n → n < 32 → K 0 true g (upd2 (upd2 F n.toNat 0 (Lf.z p)) n.toNat 1 (Lf.z q))) : regs_Regs_SetF true g F n p q K := by
  rw [regs_Regs_SetF.is]; unfold regs_Regs_SetF.d
  rw [none_ok]
  show br false _ _
  rw [br_f rfl]
  exact bits_ok true n _ _ h0 h1
theorem getF_ok (n : Int) (K : Int → Int → Int → Bool → (Nat → Int) → (Nat → Nat → Lf) → Prop) (h0 : ¬ (0 ≤ n ∧ n < 32) → K 0 0 2 true g F) (h1 : 0 ≤ n → n < 32 → K (F n.toNat 0).toI (F n.toNat 1).toI 0 true g F) : regs_Regs_F true g F n K := by
  rw [regs_Regs_F.is]; unfold regs_Regs_F.d
  rw [none_ok]
  show br false _ _
  rw [br_f rfl]
  exact bits_ok true n _ _ h0 h1
theorem rput_ok (f x : Nat) (n : Int) (hx : x < 2 ^ 128) (K : Int → Bool → (Nat → Int) → (Nat → Nat → Lf) → Prop) (h0 : ¬ (f ≤ 3 ∧ x < 2 ^ fw f ∧ 0 ≤ n ∧ n < 32) → K 2 true g F)
    (h1 : f ≤ 3 → x < 2 ^ fw f → 0 ≤ n → n < 32 → K 0 true g (upd2 (upd2 F n.toNat 0 (Lf.z (Hi (x + ab f)))) n.toNat 1 (Lf.z (Lo (x + ab f))))) : regs_Regs_Put true g F f n (Hi x) (Lo x) K := by
  rw [regs_Regs_Put.is]; unfold regs_Regs_Put.d
  rw [none_ok]
  show br false _ _
  rw [br_f rfl]
  by_cases hf : f ≤ 3
  · rw [box_Box_ok f x hf hx]
    by_cases hw : x < 2 ^ fw f
    · rw [br_t (decide_eq_true hw), br_f (show (!eqI 0 0) = false from rfl)]
      exact setF_ok n _ _ _ (fun h => h0 fun hh => h hh.2.2) (h1 hf hw)
    · rw [br_f (decide_eq_false hw), br_t (show (!eqI 2 0) = true from rfl)]
      exact h0 fun hh => hw hh.2.1
  · rw [box_Box_no f (by omega), br_t (show (!eqI 2 0) = true from rfl)]
    exact h0 fun hh => hf hh.1
theorem rget_ok (f x : Nat) (n : Int) (hf : f ≤ 3) (hx : x < 2 ^ 128) (h0 : 0 ≤ n) (hn : n < 32) (e0 : (F n.toNat 0).toI = Hi x) (e1 : (F n.toNat 1).toI = Lo x) (K : Int → Int → Int → Bool → (Nat → Int) → (Nat → Nat → Lf) → Prop)
    (h1 : K (Hi (unbox f x)) (Lo (unbox f x)) 0 true g F) : regs_Regs_Get true g F f n K := by
  rw [regs_Regs_Get.is]; unfold regs_Regs_Get.d
  refine getF_ok n _ (fun h => absurd ⟨h0, hn⟩ h) fun _ _ => ?_
  rw [br_f (show (!eqI 0 0) = false from rfl), e0, e1, box_Unbox_ok f x hf hx]
  exact h1
theorem rlow_ok (f x : Nat) (n : Int) (hf : f ≤ 3) (hx : x < 2 ^ 128) (h0 : 0 ≤ n) (hn : n < 32) (e0 : (F n.toNat 0).toI = Hi x) (e1 : (F n.toNat 1).toI = Lo x) (K : Int → Int → Int → Bool → (Nat → Int) → (Nat → Nat → Lf) → Prop)
    (h1 : K (Hi (x % 2 ^ fw f)) (Lo (x % 2 ^ fw f)) 0 true g F) : regs_Regs_Low true g F f n K := by
  rw [regs_Regs_Low.is]; unfold regs_Regs_Low.d
  refine getF_ok n _ (fun h => absurd ⟨h0, hn⟩ h) fun _ _ => ?_
  rw [br_f (show (!eqI 0 0) = false from rfl), e0, e1, box_Low_ok f x hf hx]
  exact h1
theorem rfrom_ok (K : Bool → (Nat → Int) → (Nat → Nat → Lf) → Prop) : regs_From g F K = K true (upd g 0 0) F := by
  rw [regs_From.is]; rfl
theorem rcopy_ok (K0 : Bool → (Nat → Int) → (Nat → Nat → Lf) → Prop) (K1 : Bool → (Nat → Int) → (Nat → Nat → Lf) → Bool → (Nat → Int) → (Nat → Nat → Lf) → Prop) : regs_Regs_Copy true g F K0 K1 = K1 true g F true g F := by
  rw [regs_Regs_Copy.is]; unfold regs_Regs_Copy.d
  rw [none_ok]; rfl
theorem rtell_ok (K : (Nat → Int) → (Nat → Nat → Lf) → Bool → (Nat → Int) → (Nat → Nat → Lf) → Prop) : regs_Regs_Tell true g F K = K g F true g F := by
  rw [regs_Regs_Tell.is]; unfold regs_Regs_Tell.d
  rw [none_ok]; rfl
theorem rsame_ok (g' : Nat → Int) (F' : Nat → Nat → Lf) (K : Bool → Bool → (Nat → Int) → (Nat → Nat → Lf) → Bool → (Nat → Int) → (Nat → Nat → Lf) → Prop) :
    regs_Same true g F true g' F' K = K (eqN 32 g g' && eqTb (Sk.agg [Sk.int IntKind.u64, Sk.int IntKind.u64]) 32 F F') true g F true g' F' := by
  rw [regs_Same.is]; unfold regs_Same.d
  rw [none_ok]
  show br true _ _ = _
  rw [br_t rfl, none_ok]
  rfl
end
theorem eqF_iff (F F' : Nat → Nat → Lf) : eqTb (Sk.agg [Sk.int IntKind.u64, Sk.int IntKind.u64]) 32 F F' = true ↔ ∀ i, i < 32 → (F i 0).toI = (F' i 0).toI ∧ (F i 1).toI = (F' i 1).toI := by
  rw [eqTb_iff]
  refine forall_congr' fun i => forall_congr' fun hi => ?_
  show (eqI (F i 0).toI (F' i 0).toI && (eqI (F i 1).toI (F' i 1).toI && true)) = true ↔ _
  simp [eqI]
theorem upd2_eq (F : Nat → Nat → Lf) (i c : Nat) (v : Lf) : upd2 F i c v i c = v := by simp [upd2]
theorem upd2_ne (F : Nat → Nat → Lf) (i c : Nat) (v : Lf) (a b : Nat) (h : a ≠ i ∨ b ≠ c) : upd2 F i c v a b = F a b := by
  unfold upd2
  cases h1 : Nat.beq a i <;> cases h2 : Nat.beq b c <;> try rfl
  exfalso
  have := Nat.eq_of_beq_eq_true h1
  have := Nat.eq_of_beq_eq_true h2
  omega
theorem set2 (F : Nat → Nat → Lf) (n : Nat) (p q : Int) (i : Nat) : ((upd2 (upd2 F n 0 (Lf.z p)) n 1 (Lf.z q)) i 0).toI = (if i = n then p else (F i 0).toI) ∧ ((upd2 (upd2 F n 0 (Lf.z p)) n 1 (Lf.z q)) i 1).toI = if i = n then q else (F i 1).toI := by
  by_cases h : i = n
  · subst h
    rw [if_pos rfl, if_pos rfl, upd2_ne _ _ _ _ _ _ (.inr (by omega)), upd2_eq, upd2_eq]
    exact ⟨rfl, rfl⟩
  · rw [if_neg h, if_neg h, upd2_ne _ _ _ _ _ _ (.inl h), upd2_ne _ _ _ _ _ _ (.inl h), upd2_ne _ _ _ _ _ _ (.inl h), upd2_ne _ _ _ _ _ _ (.inl h)]
    exact ⟨rfl, rfl⟩
def t32 (n : Nat) : List UInt8 := if n < 10 then [UInt8.ofNat (48 + n)] else [UInt8.ofNat (48 + n / 10), UInt8.ofNat (48 + n % 10)]
theorem itoa_32 {n : Nat} (h : n < 32) : Go.Lib.itoa (n : Int) = t32 n := by
  have e : Go.Lib.itoa (n : Int) = decDigits n := by unfold Go.Lib.itoa; rw [if_neg (by omega), Int.toNat_natCast]
  rw [e]; unfold t32
  by_cases g : n < 10
  · rw [if_pos g, Go.Lib.decDigits_one g]
  · rw [if_neg g, Go.Lib.decDigits_two g (by omega)]
def nm (fl : Bool) (n : Nat) : List UInt8 := cond fl [102] [120] ++ t32 n
theorem nm_inj : ∀ n, n < 32 → ∀ m, m < 32 → ∀ a b : Bool, nm a n = nm b m → a = b ∧ n = m := by decide +kernel
theorem nm_len : ∀ n, n < 32 → ∀ a : Bool, 2 ≤ (nm a n).length ∧ (nm a n).length ≤ 3 := by decide +kernel
theorem nm_atoi : ∀ n, n < 32 → Go.Lib.atoiAll (t32 n) = .ok (n : Int) := by
  intro n h
  rcases (show n = 0 ∨ n = 1 ∨ n = 2 ∨ n = 3 ∨ n = 4 ∨ n = 5 ∨ n = 6 ∨ n = 7 ∨ n = 8 ∨ n = 9 ∨ n = 10 ∨ n = 11 ∨ n = 12 ∨ n = 13 ∨ n = 14 ∨ n = 15 ∨ n = 16 ∨ n = 17 ∨ n = 18 ∨ n = 19 ∨ n = 20 ∨ n = 21 ∨ n = 22 ∨ n = 23 ∨ n = 24 ∨ n = 25 ∨ n = 26 ∨ n = 27 ∨ n = 28 ∨ n = 29 ∨ n = 30 ∨ n = 31 by omega) with rfl | rfl | rfl | rfl | rfl | rfl | rfl | rfl | rfl | rfl | rfl | rfl | rfl | rfl | rfl | rfl | rfl | rfl | rfl | rfl | rfl | rfl | rfl | rfl | rfl | rfl | rfl | rfl | rfl | rfl | rfl | rfl <;> rfl
theorem regs_Name_ok (fl : Bool) (n : Nat) (h : n < 32) (K : List UInt8 → Int → Prop) (hK : K (nm fl n) 0) : regs_Name fl (n : Int) K := by
  have hl : (t32 n).length ≤ 2 := by unfold t32; split <;> simp
  have hI : ∀ Q : List UInt8 → Prop, Q (t32 n) → strconv_Itoa (n : Int) Q := fun Q hQ => by
    rw [strconv_Itoa.is]; refine ⟨by omega, ?_⟩; rw [itoa_32 h]; exact hQ
  rw [regs_Name.is]; unfold regs_Name.d
  rw [br_f (lt_f (by omega)), br_f (lt_f (by omega))]
  cases fl
  · rw [br_f rfl]; refine hI _ ?_; rw [gd_t (le_t (by omega))]; exact hK
  · rw [br_t rfl]; refine hI _ ?_; rw [gd_t (le_t (by omega))]; exact hK
theorem regs_Named_ok (s : List UInt8) (K : Bool → Int → Int → Prop) (h1 : ∀ fl n, n < 32 → s = nm fl n → K fl (n : Int) 0) (h2 : (∀ fl n, n < 32 → s ≠ nm fl n) → K false 0 230) : regs_Named s K := by
  have no : (s.length < 2 ∨ 3 < s.length) → K false 0 230 := fun hl => h2 fun fl n hn hs => by
    have := nm_len n hn fl
    rw [← hs] at this; omega
  rw [regs_Named.is]; unfold regs_Named.d
  by_cases l1 : s.length < 2
  · rw [br_t (lt_t (by omega))]; exact no (.inl l1)
  rw [br_f (lt_f (by omega))]
  by_cases l2 : 3 < s.length
  · rw [br_t (lt_t (by omega))]; exact no (.inr l2)
  rw [br_f (lt_f (by omega)), gd_t (by rw [le_t (by omega), le_t (by omega)]; rfl), Int.toNat_natCast]
  have hsub : subS s 1 s.length = s.drop 1 := by unfold subS; rw [List.take_length]
  rw [hsub, strconv_Atoi.is]; unfold strconv_Atoi.d
  refine ⟨by rw [List.length_drop]; omega, ?_⟩
  have comes : ∀ v : Int, (∃ fl n, n < 32 ∧ s = nm fl n ∧ v ≠ (n : Int)) → Go.Lib.atoiAll (s.drop 1) ≠ .ok v := by
    rintro v ⟨fl, n, hn, rfl, hv⟩ hh
    have : (nm fl n).drop 1 = t32 n := by cases fl <;> rfl
    rw [this, nm_atoi n hn] at hh
    cases hh; exact hv rfl
  have oks : ∀ fl n, n < 32 → s = nm fl n → Go.Lib.atoiAll (s.drop 1) = .ok (n : Int) := by
    rintro fl n hn rfl
    have : (nm fl n).drop 1 = t32 n := by cases fl <;> rfl
    rw [this, nm_atoi n hn]
  cases hA : Go.Lib.atoiAll (s.drop 1) with
  | ok v =>
    have fails : (¬ (0 ≤ v ∧ v < 32)) → K false 0 230 := fun hv => h2 fun fl n hn hs => by
      have := oks fl n hn hs
      rw [hA] at this; cases this; omega
    show br (ltI v 0) _ _
    by_cases v1 : v < 0
    · rw [br_t (lt_t v1)]; exact fails (by omega)
    rw [br_f (lt_f (by omega))]
    by_cases v2 : 31 < v
    · rw [br_t (lt_t v2)]; exact fails (by omega)
    rw [br_f (lt_f (by omega)), gd_t (lt_t (by omega))]
    obtain ⟨n, rfl⟩ : ∃ n : Nat, v = n := ⟨v.toNat, by omega⟩
    refine regs_Name_ok _ n (by omega) _ ?_
    by_cases hs : nm (eqI (byteAt s 0) 102) n = s
    · rw [show eqS (nm (eqI (byteAt s 0) 102) n) s = true by rw [eqS_dec]; exact decide_eq_true hs]
      exact h1 _ n (by omega) hs.symm
    · rw [show eqS (nm (eqI (byteAt s 0) 102) n) s = false by rw [eqS_dec]; exact decide_eq_false hs]
      refine h2 fun fl m hm hh => hs ?_
      have e := oks fl m hm hh
      rw [hA] at e
      have e2 : n = m := by cases e; rfl
      subst e2
      subst hh
      have : eqI (byteAt (nm fl n) 0) 102 = fl := by cases fl <;> rfl
      rw [this]
  | range => exact h2 fun fl n hn hs => by have := oks fl n hn hs; rw [hA] at this; cases this
  | _ => exact h2 fun fl n hn hs => by have := oks fl n hn hs; rw [hA] at this; cases this
theorem lives_ok (K : Bool → Prop) (hK : K true) : law23_lives K := by
  rw [law23_lives.is]; unfold law23_lives.d
  rw [regs_New.is]; unfold regs_New.d
  refine setX_ok 0 7 _ (fun h => absurd ⟨by omega, by omega⟩ h) fun _ _ => ?_
  refine getX_ok 0 _ (fun h => absurd ⟨by omega, by omega⟩ h) fun _ _ => ?_
  refine setX_ok 5 7 _ (fun h => absurd ⟨by omega, by omega⟩ h) fun _ _ => ?_
  refine getX_ok 5 _ (fun h => absurd ⟨by omega, by omega⟩ h) fun _ _ => ?_
  refine getX_ok 32 _ (fun _ => ?_) fun h1 h2 => absurd h2 (by omega)
  refine rput_ok 2 15360 3 (by decide) _ (fun h => absurd ⟨by omega, by decide, by omega, by omega⟩ h) fun _ _ _ _ => ?_
  refine getF_ok 3 _ (fun h => absurd ⟨by omega, by omega⟩ h) fun _ _ => ?_
  refine regs_Named_ok _ _ (fun fl n hn hs => ?_) fun hno => absurd rfl (hno true 31 (by omega))
  have h := nm_inj 31 (by omega) n hn true fl (by rw [← hs]; rfl)
  obtain ⟨rfl, rfl⟩ := h
  rw [(set2 _ _ _ _ _).2]
  exact hK
end Go.Ev.S

/- The registers: what is changed, and that it changes. -/
set_option linter.unusedVariables false
set_option linter.unusedSimpArgs false
set_option maxRecDepth 20000
namespace Go.Ev.S
open Go Go.Ev
def okE (r : Nat → Lf) : Prop := 0 ≤ (r 1).toI ∧ (r 1).toI < 32 ∧ (isT (r 0).toI = true → (r 2).toI = 0) ∧ (isT (r 0).toI = false → (r 3).toI = 0 ∧ (r 4).toI = 0)
def stp (r : Nat → Lf) (s : (Nat → Int) × (Nat → Nat → Lf)) : (Nat → Int) × (Nat → Nat → Lf) :=
  cond (isT (r 0).toI) (s.1, upd2 (upd2 s.2 (r 1).toI.toNat 0 (Lf.z (r 3).toI)) (r 1).toI.toNat 1 (Lf.z (r 4).toI)) (upd (upd s.1 (r 1).toI.toNat (r 2).toI) 0 0, s.2)
def run (h : Nat → Nat → Lf) : Nat → (Nat → Int) × (Nat → Nat → Lf) → (Nat → Int) × (Nat → Nat → Lf)
  | 0, s => s
  | n + 1, s => stp (h n) (run h n s)
theorem run_congr {h k : Nat → Nat → Lf} (s : (Nat → Int) × (Nat → Nat → Lf)) : ∀ n, (∀ i, i < n → h i = k i) → run h n s = run k n s
  | 0, _ => rfl
  | n + 1, e => by rw [run, run, run_congr s n fun i hi => e i (by omega), e n (by omega)]
structure Acc (s : (Nat → Int) × (Nat → Nat → Lf)) (n : Nat) (h : Nat → Nat → Lf) (t : (Nat → Int) × (Nat → Nat → Lf)) : Prop where
  ok : ∀ i, i < n → okE (h i)
  run : run h n s = t
theorem change_loop (n : Nat) (h : Nat → Nat → Lf) (hn : n < 4611686018427387904) (hok : ∀ i, i < n → okE (h i)) (k0 : Int → Bool → (Nat → Int) → (Nat → Nat → Lf) → Prop) (k1 : Bool → (Nat → Int) → (Nat → Nat → Lf) → Bool → (Nat → Int) → (Nat → Nat → Lf) → Prop)
    (g : Nat → Int) (F : Nat → Nat → Lf) (s : (Nat → Int) × (Nat → Nat → Lf)) (hk : k1 true g F true (run h n s).1 (run h n s).2) :
    ∀ (j i : Nat), i + j = n → regs_Regs_Change.l5 k0 k1 (j + 1) n h (n : Int) (i : Int) true g F true (run h i s).1 (run h i s).2 := by
  intro j
  induction j with
  | zero =>
    intro i hi
    obtain rfl : i = n := by omega
    unfold regs_Regs_Change.l5 regs_Regs_Change.l5.step
    rw [br_f (lt_f (by omega))]
    exact hk
  | succ j ih =>
    intro i hi
    have hlt : i < n := by omega
    have ih := ih (i + 1) (by omega)
    obtain ⟨o1, o2, o3, o4⟩ := hok i hlt
    rw [S.run] at ih
    unfold regs_Regs_Change.l5 regs_Regs_Change.l5.step
    rw [br_t (lt_t (by omega)), gd_t (by rw [le_t (by omega), lt_t (by omega)]; rfl), Int.toNat_natCast]
    have hadd : addI .i64 (i : Int) 1 = ((i + 1 : Nat) : Int) := by rw [add_i64 (by omega) (by omega)]; omega
    generalize run h i s = s1 at *
    cases ht : isT (h i 0).toI with
    | true =>
      have e : stp (h i) s1 = (s1.1, upd2 (upd2 s1.2 (h i 1).toI.toNat 0 (Lf.z (h i 3).toI)) (h i 1).toI.toNat 1 (Lf.z (h i 4).toI)) := by unfold stp; rw [ht]; rfl
      rw [e] at ih
      have ew : (!eqI (h i 2).toI 0) = false := by rw [eq_t (o3 ht)]; rfl
      rw [br_t rfl, ew, br_f rfl]
      show br (!true) _ _
      rw [br_f (show (!true) = false from rfl), br_t rfl]
      refine setF_ok _ _ _ _ (fun hh => absurd ⟨o1, o2⟩ hh) fun _ _ => ?_
      rw [br_f (show (!eqI 0 0) = false from rfl), hadd]
      exact ih
    | false =>
      have e : stp (h i) s1 = (upd (upd s1.1 (h i 1).toI.toNat (h i 2).toI) 0 0, s1.2) := by unfold stp; rw [ht]; rfl
      rw [e] at ih
      have ew : (!(eqI (h i 3).toI 0 && eqI (h i 4).toI 0)) = false := by rw [eq_t (o4 ht).1, eq_t (o4 ht).2]; rfl
      rw [br_f rfl]
      show br (!false) _ _
      rw [br_t (show (!false) = true from rfl), ew, br_f rfl, br_f rfl]
      refine setX_ok _ _ _ (fun hh => absurd ⟨o1, o2⟩ hh) fun _ _ => ?_
      rw [br_f (show (!eqI 0 0) = false from rfl), hadd]
      exact ih
theorem change_ok (n : Nat) (h : Nat → Nat → Lf) (hn : n < 4611686018427387904) {g : Nat → Int} {F : Nat → Nat → Lf} {t : (Nat → Int) × (Nat → Nat → Lf)} (a : Acc (g, F) n h t) (K : Int → Bool → (Nat → Int) → (Nat → Nat → Lf) → Prop)
    (hk : K 0 true t.1 t.2) : regs_Regs_Change true g F n h K := by
  rw [regs_Regs_Change.is]; unfold regs_Regs_Change.d
  rw [none_ok]
  show br false _ _
  rw [br_f rfl]
  refine ⟨n + 1, ?_⟩
  exact change_loop n h hn a.ok _ _ g F (g, F) (by rw [a.run]; exact hk) n 0 (by omega)
def rowX (x : Int) (v : Int) : Nat → Nat → Lf := upd2 (upd2 (upd2 (upd2 (upd2 z2 0 0 (Lf.z 0)) 0 1 (Lf.z x)) 0 2 (Lf.z v)) 0 3 (Lf.z 0)) 0 4 (Lf.z 0)
def rowF (x : Int) (p q : Int) : Nat → Nat → Lf := upd2 (upd2 (upd2 (upd2 (upd2 z2 0 0 (Lf.z 1)) 0 1 (Lf.z x)) 0 2 (Lf.z 0)) 0 3 (Lf.z p)) 0 4 (Lf.z q)
section changed
variable (ga gb : Nat → Int) (Fa Fb : Nat → Nat → Lf)
variable {ga gb Fa Fb}
abbrev KS := Nat → Bool → (Nat → Int) → (Nat → Nat → Lf) → Bool → (Nat → Int) → (Nat → Nat → Lf) → Nat → (Nat → Nat → Lf) → Prop
abbrev KN := Bool → (Nat → Int) → (Nat → Nat → Lf) → Bool → (Nat → Int) → (Nat → Nat → Lf) → Prop
end changed
end Go.Ev.S

/- The plain laws of BoxReads, BoxWithin and BoxBack. -/
set_option linter.unusedVariables false
set_option linter.unusedSimpArgs false
set_option maxRecDepth 8000
namespace Go.Ev.S
open Go Go.Ev
theorem u8_of {a : Int} (w : (Lit.int .u8 a).wf = true) : ∃ n : Nat, a = n ∧ n < 256 := by
  obtain ⟨h1, h2⟩ := range_u8 w
  exact ⟨a.toNat, by omega, by omega⟩
theorem pair_of {a b : Int} (w : (Lit.int .u64 a).wf = true) (w2 : (Lit.int .u64 b).wf = true) : ∃ x : Nat, x < 2 ^ 128 ∧ a = Hi x ∧ b = Lo x := by
  obtain ⟨h1, h2⟩ := range_u64 w
  obtain ⟨h3, h4⟩ := range_u64 w2
  refine ⟨two a.toNat b.toNat, two_lt (by omega) (by omega), ?_, ?_⟩
  · rw [Hi_two (by omega)]; omega
  · rw [Lo_two (by omega)]; omega
theorem bx {x : Nat} : (eqI (Hi x) (Hi x) && eqI (Lo x) (Lo x)) = true := by rw [pair_eq]; simp
theorem beq_self (b : Bool) : beqB b b = true := beqB_eq.2 rfl
theorem nbeq_self (b : Bool) : (!beqB b b) = false := by rw [beq_self]; rfl
end Go.Ev.S

/- The registers and the document's: twins. -/
set_option linter.unusedVariables false
set_option linter.unusedSimpArgs false
set_option maxRecDepth 20000
namespace Go.Ev.S
open Go Go.Ev
structure Twin (g : Nat → Int) (F : Nat → Nat → Lf) (g' : Nat → Int) (F' : Nat → Nat → Lf) : Prop where
  x : ∀ i, i < 32 → g i = g' i
  z : g 0 = 0
  f : ∀ i, i < 32 → ∃ w : Nat, w < 2 ^ 128 ∧ (F i 0).toI = Hi w ∧ (F i 1).toI = Lo w ∧ (F' i 0).toI = Hi w ∧ (F' i 1).toI = Lo w
theorem Twin.eqs {g : Nat → Int} {F : Nat → Nat → Lf} {g' : Nat → Int} {F' : Nat → Nat → Lf} (t : Twin g F g' F') : eqN 32 g g' = true ∧ eqTb (Sk.agg [Sk.int IntKind.u64, Sk.int IntKind.u64]) 32 F F' = true :=
  ⟨(eqN_iff _ _ _).2 t.x, (eqF_iff _ _).2 fun i hi => by
    obtain ⟨w, _, h1, h2, h3, h4⟩ := t.f i hi
    exact ⟨h1.trans h3.symm, h2.trans h4.symm⟩⟩
theorem Twin.setX {g : Nat → Int} {F : Nat → Nat → Lf} {g' : Nat → Int} {F' : Nat → Nat → Lf} (t : Twin g F g' F') (n : Nat) (v : Int) : Twin (upd (upd g n v) 0 0) F (if 0 < n then upd g' n v else g') F' := by
  refine ⟨fun i hi => ?_, upd_same _ _ _, t.f⟩
  by_cases h0 : i = 0
  · subst h0
    rw [upd_same]
    split
    · rw [upd_ne _ _ _ _ (by omega), ← t.x 0 (by omega), t.z]
    · rw [← t.x 0 (by omega), t.z]
  · rw [upd_ne _ _ _ _ h0]
    by_cases h1 : i = n
    · subst h1; rw [upd_same, if_pos (by omega), upd_same]
    · rw [upd_ne _ _ _ _ h1]
      split
      · rw [upd_ne _ _ _ _ h1]; exact t.x i hi
      · exact t.x i hi
theorem Twin.setF {g : Nat → Int} {F : Nat → Nat → Lf} {g' : Nat → Int} {F' : Nat → Nat → Lf} (t : Twin g F g' F') (n w : Nat) (hw : w < 2 ^ 128) :
    Twin g (upd2 (upd2 F n 0 (Lf.z (Hi w))) n 1 (Lf.z (Lo w))) g' (upd2 (upd2 F' n 0 (Lf.z (Hi w))) n 1 (Lf.z (Lo w))) := by
  refine ⟨t.x, t.z, fun i hi => ?_⟩
  rw [(set2 _ _ _ _ _).1, (set2 _ _ _ _ _).2, (set2 _ _ _ _ _).1, (set2 _ _ _ _ _).2]
  by_cases h : i = n
  · simp only [if_pos h]; exact ⟨w, hw, rfl, rfl, rfl, rfl⟩
  · simp only [if_neg h]; exact t.f i hi
section ref
variable {g : Nat → Int} {F : Nat → Nat → Lf}
theorem is_ok (n : Int) (K : Bool → Prop) : r23_is n K = K (decide (0 ≤ n ∧ n < 32)) := by
  rw [r23_is.is]; unfold r23_is.d
  by_cases h : 0 ≤ n
  · rw [br_t (le_t h)]
    by_cases h2 : n < 32
    · rw [lt_t h2, decide_eq_true ⟨h, h2⟩]
    · rw [lt_f (by omega), decide_eq_false (by omega)]
  · rw [br_f (le_f (by omega)), decide_eq_false (by omega)]
theorem dSetX_ok (n v : Int) (K : (Nat → Int) → (Nat → Nat → Lf) → Int → Prop) (h0 : ¬ (0 ≤ n ∧ n < 32) → K g F 2) (h1 : 0 ≤ n → n < 32 → K (if 0 < n.toNat then upd g n.toNat v else g) F 0) : r23_SetX g F n v K := by
  rw [r23_SetX.is]; unfold r23_SetX.d
  rw [is_ok]
  by_cases h : 0 ≤ n ∧ n < 32
  · rw [decide_eq_true h]
    show br false _ _
    rw [br_f rfl]
    have h1 := h1 h.1 h.2
    by_cases hn : 0 < n
    · rw [br_t (lt_t hn), gd_t (by rw [le_t h.1, lt_t h.2]; rfl)]
      rw [if_pos (by omega)] at h1; exact h1
    · rw [br_f (lt_f (by omega))]
      rw [if_neg (by omega)] at h1; exact h1
  · rw [decide_eq_false h]
    show br true _ _
    rw [br_t rfl]; exact h0 h
theorem dSetF_ok (n p q : Int) (K : (Nat → Int) → (Nat → Nat → Lf) → Int → Prop) (h0 : ¬ (0 ≤ n ∧ n < 32) → K g F 2) (h1 : 0 ≤ n → n < 32 → K g (upd2 (upd2 F n.toNat 0 (Lf.z p)) n.toNat 1 (Lf.z q)) 0) : r23_SetF g F n p q K := by
  rw [r23_SetF.is]; unfold r23_SetF.d
  rw [is_ok]
  by_cases h : 0 ≤ n ∧ n < 32
  · rw [decide_eq_true h]
    show br false _ _
    rw [br_f rfl, gd_t (by rw [le_t h.1, lt_t h.2]; rfl)]
    exact h1 h.1 h.2
  · rw [decide_eq_false h]
    show br true _ _
    rw [br_t rfl]; exact h0 h
theorem dX_ok (n : Int) (K : Int → Int → Prop) (h0 : ¬ (0 ≤ n ∧ n < 32) → K 0 2) (h1 : 0 ≤ n → n < 32 → K (g n.toNat) 0) : r23_X g F n K := by
  rw [r23_X.is]; unfold r23_X.d
  rw [is_ok]
  by_cases h : 0 ≤ n ∧ n < 32
  · rw [decide_eq_true h]
    show br false _ _
    rw [br_f rfl, gd_t (by rw [le_t h.1, lt_t h.2]; rfl)]
    exact h1 h.1 h.2
  · rw [decide_eq_false h]
    show br true _ _
    rw [br_t rfl]; exact h0 h
theorem dF_ok (n : Int) (K : Int → Int → Int → Prop) (h0 : ¬ (0 ≤ n ∧ n < 32) → K 0 0 2) (h1 : 0 ≤ n → n < 32 → K (F n.toNat 0).toI (F n.toNat 1).toI 0) : r23_F g F n K := by
  rw [r23_F.is]; unfold r23_F.d
  rw [is_ok]
  by_cases h : 0 ≤ n ∧ n < 32
  · rw [decide_eq_true h]
    show br false _ _
    rw [br_f rfl, gd_t (by rw [le_t h.1, lt_t h.2]; rfl)]
    exact h1 h.1 h.2
  · rw [decide_eq_false h]
    show br true _ _
    rw [br_t rfl]; exact h0 h
end ref
theorem dFits_no (f x : Nat) (h : 3 < f) (hx : x < 2 ^ 128) (K : Bool → Prop) (hK : K false) : r22_Fits f (Hi x) (Lo x) K := by
  rw [r22_Fits.is]; unfold r22_Fits.d; rw [r22_Width_no f h]
  refine ⟨128 + 1, r22_Fits_loop x 0 f hx _ _ (fun _ => hK) (fun _ => ?_) 128 0 (by omega) (by omega) fun k h1 h2 => absurd h2 (by omega)⟩
  show r22_Width f _
  rw [r22_Width_no f h, lt_f (by omega)]; exact hK
theorem dPut_ok {g : Nat → Int} {F : Nat → Nat → Lf} (f x : Nat) (n : Int) (hx : x < 2 ^ 128) (K : (Nat → Int) → (Nat → Nat → Lf) → Int → Prop) (h0 : ¬ (f ≤ 3 ∧ x < 2 ^ fw f ∧ 0 ≤ n ∧ n < 32) → K g F 2)
    (h1 : f ≤ 3 → x < 2 ^ fw f → 0 ≤ n → n < 32 → K g (upd2 (upd2 F n.toNat 0 (Lf.z (Hi (x + ab f)))) n.toNat 1 (Lf.z (Lo (x + ab f)))) 0) : r23_Put g F f n (Hi x) (Lo x) K := by
  rw [r23_Put.is]; unfold r23_Put.d
  rw [is_ok]
  by_cases h : 0 ≤ n ∧ n < 32
  · rw [decide_eq_true h]
    show br false _ _
    rw [br_f rfl]
    by_cases hf : f ≤ 3
    · refine r22_Fits_ok f x hf hx _ ?_
      by_cases hw : x < 2 ^ fw f
      · rw [decide_eq_true hw]
        show br false _ _
        rw [br_f rfl]
        refine r22_Box_ok f x hf hw _ ?_
        rw [gd_t (by rw [le_t h.1, lt_t h.2]; rfl)]
        exact h1 hf hw h.1 h.2
      · rw [decide_eq_false hw]
        show br true _ _
        rw [br_t rfl]
        exact h0 fun hh => hw hh.2.1
    · refine dFits_no f x (by omega) hx _ ?_
      show br true _ _
      rw [br_t rfl]
      exact h0 fun hh => hf hh.1
  · rw [decide_eq_false h]
    show br true _ _
    rw [br_t rfl]; exact h0 fun hh => h ⟨hh.2.2.1, hh.2.2.2⟩
theorem dGet_ok {g : Nat → Int} {F : Nat → Nat → Lf} (f : Nat) (n : Int) (K : Int → Int → Int → Prop) (h0 : ¬ (0 ≤ n ∧ n < 32 ∧ f ≤ 3) → K 0 0 2)
    (h1 : 0 ≤ n → n < 32 → f ≤ 3 → ∃ w : Nat, w < 2 ^ 128 ∧ (F n.toNat 0).toI = Hi w ∧ (F n.toNat 1).toI = Lo w ∧ K (Hi (unbox f w)) (Lo (unbox f w)) 0) : r23_Get g F f n K := by
  rw [r23_Get.is]; unfold r23_Get.d
  rw [is_ok]
  by_cases h : 0 ≤ n ∧ n < 32
  · rw [decide_eq_true h]
    show br false _ _
    rw [br_f rfl]
    by_cases hf : f ≤ 3
    · obtain ⟨w, hw, e0, e1, hK⟩ := h1 h.1 h.2 hf
      have hp := (fw_le2 f hf).1
      rw [r22_Width_ok f hf, br_f (eq_f (by omega)), gd_t (by rw [le_t h.1, lt_t h.2]; rfl), e0, e1]
      exact r22_Unbox_ok f w hf hw _ hK
    · rw [r22_Width_no f (by omega), br_t (eq_t rfl)]
      exact h0 fun hh => hf hh.2.2
  · rw [decide_eq_false h]
    show br true _ _
    rw [br_t rfl]; exact h0 fun hh => h ⟨hh.1, hh.2.1⟩
theorem dLow_ok {g : Nat → Int} {F : Nat → Nat → Lf} (f : Nat) (n : Int) (K : Int → Int → Int → Prop) (h0 : ¬ (0 ≤ n ∧ n < 32 ∧ f ≤ 3) → K 0 0 2)
    (h1 : 0 ≤ n → n < 32 → f ≤ 3 → ∃ w : Nat, w < 2 ^ 128 ∧ (F n.toNat 0).toI = Hi w ∧ (F n.toNat 1).toI = Lo w ∧ K (Hi (w % 2 ^ fw f)) (Lo (w % 2 ^ fw f)) 0) : r23_Low g F f n K := by
  rw [r23_Low.is]; unfold r23_Low.d
  rw [is_ok]
  by_cases h : 0 ≤ n ∧ n < 32
  · rw [decide_eq_true h]
    show br false _ _
    rw [br_f rfl]
    by_cases hf : f ≤ 3
    · obtain ⟨w, hw, e0, e1, hK⟩ := h1 h.1 h.2 hf
      have hp := (fw_le2 f hf).1
      rw [r22_Width_ok f hf, br_f (eq_f (by omega)), gd_t (by rw [le_t h.1, lt_t h.2]; rfl), e0, e1]
      exact r22_Low_ok f w hf hw _ hK
    · rw [r22_Width_no f (by omega), br_t (eq_t rfl)]
      exact h0 fun hh => hf hh.2.2
  · rw [decide_eq_false h]
    show br true _ _
    rw [br_t rfl]; exact h0 fun hh => h ⟨hh.1, hh.2.1⟩
theorem pGet_ok {g : Nat → Int} {F : Nat → Nat → Lf} (f : Nat) (n : Int) (K : Int → Int → Int → Bool → (Nat → Int) → (Nat → Nat → Lf) → Prop) (h0 : ¬ (0 ≤ n ∧ n < 32 ∧ f ≤ 3) → K 0 0 2 true g F)
    (h1 : 0 ≤ n → n < 32 → f ≤ 3 → ∃ w : Nat, w < 2 ^ 128 ∧ (F n.toNat 0).toI = Hi w ∧ (F n.toNat 1).toI = Lo w ∧ K (Hi (unbox f w)) (Lo (unbox f w)) 0 true g F) : regs_Regs_Get true g F f n K := by
  by_cases h : 0 ≤ n ∧ n < 32 ∧ f ≤ 3
  · obtain ⟨w, hw, e0, e1, hK⟩ := h1 h.1 h.2.1 h.2.2
    exact rget_ok f w n h.2.2 hw h.1 h.2.1 e0 e1 _ hK
  · rw [regs_Regs_Get.is]; unfold regs_Regs_Get.d
    refine getF_ok n _ (fun _ => ?_) fun k1 k2 => ?_
    · rw [br_t (show (!eqI 2 0) = true from rfl)]; exact h0 h
    · rw [br_f (show (!eqI 0 0) = false from rfl), box_Unbox_no f (by omega)]; exact h0 h
theorem pLow_ok {g : Nat → Int} {F : Nat → Nat → Lf} (f : Nat) (n : Int) (K : Int → Int → Int → Bool → (Nat → Int) → (Nat → Nat → Lf) → Prop) (h0 : ¬ (0 ≤ n ∧ n < 32 ∧ f ≤ 3) → K 0 0 2 true g F)
    (h1 : 0 ≤ n → n < 32 → f ≤ 3 → ∃ w : Nat, w < 2 ^ 128 ∧ (F n.toNat 0).toI = Hi w ∧ (F n.toNat 1).toI = Lo w ∧ K (Hi (w % 2 ^ fw f)) (Lo (w % 2 ^ fw f)) 0 true g F) : regs_Regs_Low true g F f n K := by
  by_cases h : 0 ≤ n ∧ n < 32 ∧ f ≤ 3
  · obtain ⟨w, hw, e0, e1, hK⟩ := h1 h.1 h.2.1 h.2.2
    exact rlow_ok f w n h.2.2 hw h.1 h.2.1 e0 e1 _ hK
  · rw [regs_Regs_Low.is]; unfold regs_Regs_Low.d
    refine getF_ok n _ (fun _ => ?_) fun k1 k2 => ?_
    · rw [br_t (show (!eqI 2 0) = true from rfl)]; exact h0 h
    · rw [br_f (show (!eqI 0 0) = false from rfl), box_Low_no f (by omega)]; exact h0 h
def stp' (r : Nat → Lf) (s : (Nat → Int) × (Nat → Nat → Lf)) : (Nat → Int) × (Nat → Nat → Lf) :=
  cond (isT (r 0).toI) (s.1, upd2 (upd2 s.2 (r 1).toI.toNat 0 (Lf.z (r 3).toI)) (r 1).toI.toNat 1 (Lf.z (r 4).toI)) (if 0 < (r 1).toI.toNat then upd s.1 (r 1).toI.toNat (r 2).toI else s.1, s.2)
def run' (h : Nat → Nat → Lf) : Nat → (Nat → Int) × (Nat → Nat → Lf) → (Nat → Int) × (Nat → Nat → Lf)
  | 0, s => s
  | n + 1, s => stp' (h n) (run' h n s)
def wdE (r : Nat → Lf) : Prop := ∃ w : Nat, w < 2 ^ 128 ∧ (r 3).toI = Hi w ∧ (r 4).toI = Lo w
theorem Twin.run {g : Nat → Int} {F : Nat → Nat → Lf} {g' : Nat → Int} {F' : Nat → Nat → Lf} (t : Twin g F g' F') (h : Nat → Nat → Lf) : ∀ n, (∀ i, i < n → wdE (h i)) →
    Twin (S.run h n (g, F)).1 (S.run h n (g, F)).2 (run' h n (g', F')).1 (run' h n (g', F')).2
  | 0, _ => t
  | n + 1, hw => by
    have ih := Twin.run t h n fun i hi => hw i (by omega)
    obtain ⟨w, h1, h2, h3⟩ := hw n (by omega)
    rw [S.run, run']
    unfold stp stp'
    cases isT (h n 0).toI with
    | true =>
      simp only [cond_true]
      rw [h2, h3]
      exact ih.setF _ w h1
    | false => exact ih.setX _ _
theorem dchange_loop (n : Nat) (h : Nat → Nat → Lf) (hn : n < 4611686018427387904) (k0 : Int → (Nat → Int) → (Nat → Nat → Lf) → Prop) (k1 : (Nat → Int) → (Nat → Nat → Lf) → (Nat → Int) → (Nat → Nat → Lf) → Prop)
    (s s0 : (Nat → Int) × (Nat → Nat → Lf)) (a : Nat → Int) (b : Nat → Nat → Lf) (hk0 : (∃ i, i < n ∧ ¬ okE (h i)) → k0 2 s0.1 s0.2) (hk1 : (∀ i, i < n → okE (h i)) → k1 (run' h n s).1 (run' h n s).2 a b) :
    ∀ (j i : Nat), i + j = n → (∀ k, k < i → okE (h k)) → r23_Change.l3 k0 k1 (j + 1) n h (i : Int) (run' h i s).1 (run' h i s).2 a b s0.1 s0.2 := by
  intro j
  induction j with
  | zero =>
    intro i hi hok
    obtain rfl : i = n := by omega
    unfold r23_Change.l3 r23_Change.l3.step
    rw [br_f (lt_f (by omega))]
    exact hk1 hok
  | succ j ih =>
    intro i hi hok
    have hlt : i < n := by omega
    have hadd : addI .i64 (i : Int) 1 = ((i + 1 : Nat) : Int) := by rw [add_i64 (by omega) (by omega)]; omega
    have bad : ¬ okE (h i) → k0 2 s0.1 s0.2 := fun hb => hk0 ⟨i, hlt, hb⟩
    have good : okE (h i) → r23_Change.l3 k0 k1 (j + 1) n h ((i + 1 : Nat) : Int) (stp' (h i) (run' h i s)).1 (stp' (h i) (run' h i s)).2 a b s0.1 s0.2 := fun hb => ih (i + 1) (by omega) fun k hk => by
      by_cases q : k = i
      · subst q; exact hb
      · exact hok k (by omega)
    unfold r23_Change.l3 r23_Change.l3.step
    rw [br_t (lt_t (by omega)), gd_t (by rw [le_t (by omega), lt_t (by omega)]; rfl), Int.toNat_natCast, is_ok, hadd]
    generalize run' h i s = s1 at *
    by_cases hr : 0 ≤ (h i 1).toI ∧ (h i 1).toI < 32
    · rw [decide_eq_true hr]
      show br false _ _
      rw [br_f rfl]
      cases ht : isT (h i 0).toI with
      | true =>
        have e : stp' (h i) s1 = (s1.1, upd2 (upd2 s1.2 (h i 1).toI.toNat 0 (Lf.z (h i 3).toI)) (h i 1).toI.toNat 1 (Lf.z (h i 4).toI)) := by unfold stp'; rw [ht]; rfl
        rw [e] at good
        rw [br_t rfl]
        by_cases hw : (h i 2).toI = 0
        · have hb : okE (h i) := ⟨hr.1, hr.2, fun _ => hw, fun q => by rw [ht] at q; cases q⟩
          rw [br_f (by rw [eq_t hw]; rfl)]
          show br (!true) _ _
          rw [br_f (show (!true) = false from rfl), br_t rfl]
          exact dSetF_ok _ _ _ _ (fun q => absurd hr q) fun _ _ => good hb
        · rw [br_t (by rw [eq_f hw]; rfl)]
          exact bad fun hb => hw (hb.2.2.1 ht)
      | false =>
        have e : stp' (h i) s1 = (if 0 < (h i 1).toI.toNat then upd s1.1 (h i 1).toI.toNat (h i 2).toI else s1.1, s1.2) := by unfold stp'; rw [ht]; rfl
        rw [e] at good
        rw [br_f rfl]
        show br (!false) _ _
        rw [br_t (show (!false) = true from rfl)]
        by_cases hw : (h i 3).toI = 0 ∧ (h i 4).toI = 0
        · have hb : okE (h i) := ⟨hr.1, hr.2, fun q => (by rw [ht] at q; cases q), fun _ => hw⟩
          rw [br_f (by rw [eq_t hw.1, eq_t hw.2]; rfl), br_f rfl]
          exact dSetX_ok _ _ _ (fun q => absurd hr q) fun _ _ => good hb
        · rw [br_t (by
            by_cases q : (h i 3).toI = 0
            · rw [eq_t q, eq_f fun q2 => hw ⟨q, q2⟩]; rfl
            · rw [eq_f q]; rfl)]
          exact bad fun hb => hw (hb.2.2.2 ht)
    · rw [decide_eq_false hr]
      show br true _ _
      rw [br_t rfl]
      exact bad fun hb => hr ⟨hb.1, hb.2.1⟩
theorem dchange_ok (n : Nat) (h : Nat → Nat → Lf) (hn : n < 4611686018427387904) {g : Nat → Int} {F : Nat → Nat → Lf} (K : (Nat → Int) → (Nat → Nat → Lf) → Int → Prop) (hk0 : (∃ i, i < n ∧ ¬ okE (h i)) → K g F 2)
    (hk1 : (∀ i, i < n → okE (h i)) → K (run' h n (g, F)).1 (run' h n (g, F)).2 0) : r23_Change g F n h K := by
  rw [r23_Change.is]; unfold r23_Change.d
  exact ⟨n + 1, dchange_loop n h hn _ _ (g, F) (g, F) _ _ hk0 hk1 n 0 (by omega) fun k hk => absurd hk (by omega)⟩
end Go.Ev.S

/- Calls of two files of registers, by program and document. -/
set_option linter.unusedVariables false
set_option linter.unusedSimpArgs false
set_option maxRecDepth 20000
namespace Go.Ev.S
open Go Go.Ev
theorem change_bad_loop (n : Nat) (h : Nat → Nat → Lf) (hn : n < 4611686018427387904) (k0 : Int → Bool → (Nat → Int) → (Nat → Nat → Lf) → Prop) (k1 : Bool → (Nat → Int) → (Nat → Nat → Lf) → Bool → (Nat → Int) → (Nat → Nat → Lf) → Prop)
    (g : Nat → Int) (F : Nat → Nat → Lf) (hk : k0 2 true g F) :
    ∀ (j i : Nat) (s1 : (Nat → Int) × (Nat → Nat → Lf)), i + j = n → (∃ k, i ≤ k ∧ k < n ∧ ¬ okE (h k)) → regs_Regs_Change.l5 k0 k1 (j + 1) n h (n : Int) (i : Int) true g F true s1.1 s1.2 := by
  intro j
  induction j with
  | zero => rintro i s1 hi ⟨k, h1, h2, _⟩; omega
  | succ j ih =>
    rintro i s1 hi ⟨k, hk1, hk2, hk3⟩
    have hlt : i < n := by omega
    have hadd : addI .i64 (i : Int) 1 = ((i + 1 : Nat) : Int) := by rw [add_i64 (by omega) (by omega)]; omega
    have good : okE (h i) → ∀ s2 : (Nat → Int) × (Nat → Nat → Lf), regs_Regs_Change.l5 k0 k1 (j + 1) n h (n : Int) ((i + 1 : Nat) : Int) true g F true s2.1 s2.2 := fun ho s2 => by
      refine ih (i + 1) s2 (by omega) ⟨k, ?_, hk2, hk3⟩
      by_cases q : k = i
      · subst q; exact absurd ho hk3
      · omega
    unfold regs_Regs_Change.l5 regs_Regs_Change.l5.step
    rw [br_t (lt_t (by omega)), gd_t (by rw [le_t (by omega), lt_t (by omega)]; rfl), Int.toNat_natCast, hadd]
    cases ht : isT (h i 0).toI with
    | true =>
      rw [br_t rfl]
      by_cases hw : (h i 2).toI = 0
      · rw [br_f (by rw [eq_t hw]; rfl)]
        show br (!true) _ _
        rw [br_f (show (!true) = false from rfl), br_t rfl]
        refine setF_ok _ _ _ _ (fun _ => ?_) fun q1 q2 => ?_
        · rw [br_t (show (!eqI 2 0) = true from rfl)]; exact hk
        · rw [br_f (show (!eqI 0 0) = false from rfl)]
          exact good ⟨q1, q2, fun _ => hw, fun q => by rw [ht] at q; cases q⟩ (s1.1, upd2 (upd2 s1.2 (h i 1).toI.toNat 0 (Lf.z (h i 3).toI)) (h i 1).toI.toNat 1 (Lf.z (h i 4).toI))
      · rw [br_t (by rw [eq_f hw]; rfl), br_t (by rw [eq_f hw]; rfl)]
        exact hk
    | false =>
      rw [br_f rfl]
      show br (!false) _ _
      rw [br_t (show (!false) = true from rfl)]
      by_cases hw : (h i 3).toI = 0 ∧ (h i 4).toI = 0
      · rw [br_f (by rw [eq_t hw.1, eq_t hw.2]; rfl), br_f rfl]
        refine setX_ok _ _ _ (fun _ => ?_) fun q1 q2 => ?_
        · rw [br_t (show (!eqI 2 0) = true from rfl)]; exact hk
        · rw [br_f (show (!eqI 0 0) = false from rfl)]
          exact good ⟨q1, q2, fun q => (by rw [ht] at q; cases q), fun _ => hw⟩ (upd (upd s1.1 (h i 1).toI.toNat (h i 2).toI) 0 0, s1.2)
      · rw [br_t (by
          by_cases q : (h i 3).toI = 0
          · rw [eq_t q, eq_f fun q2 => hw ⟨q, q2⟩]; rfl
          · rw [eq_f q]; rfl)]
        exact hk
theorem change_bad (n : Nat) (h : Nat → Nat → Lf) (hn : n < 4611686018427387904) {g : Nat → Int} {F : Nat → Nat → Lf} (hb : ∃ k, k < n ∧ ¬ okE (h k)) (K : Int → Bool → (Nat → Int) → (Nat → Nat → Lf) → Prop)
    (hk : K 2 true g F) : regs_Regs_Change true g F n h K := by
  rw [regs_Regs_Change.is]; unfold regs_Regs_Change.d
  rw [none_ok]
  show br false _ _
  rw [br_f rfl]
  obtain ⟨k, h1, h2⟩ := hb
  exact ⟨n + 1, change_bad_loop n h hn _ _ g F hk n 0 (g, F) (by omega) ⟨k, by omega, h1, h2⟩⟩
theorem same_rows (k0 : Bool → Bool → (Nat → Int) → (Nat → Nat → Lf) → (Nat → Int) → (Nat → Nat → Lf) → Prop)
    (k1 : Int → Nat → Int → Bool → (Nat → Int) → (Nat → Nat → Lf) → Int → Int → Int → Int → Int → Int → Int → Nat → (Nat → Nat → Lf) → (Nat → Int) → (Nat → Nat → Lf) → (Nat → Int) → (Nat → Nat → Lf) → Nat → (Nat → Nat → Lf) → Prop)
    (e e' : Int) (x4 : Bool) (x5 : Nat → Int) (x6 : Nat → Nat → Lf) (x7 x8 x9 x10 x11 x12 x13 : Int) (m : Nat) (hm : m < 4611686018427387904) (L : Nat → Nat → Lf) (x16 : Nat → Int) (x17 : Nat → Nat → Lf) (x18 : Nat → Int) (x19 : Nat → Nat → Lf) (x20 : Nat) (R : Nat → Nat → Lf)
    (hR : ∀ i, i < m → R i = L i) (hk : k1 e (m + 1) e' x4 x5 x6 x7 x8 x9 x10 x11 x12 x13 m L x16 x17 x18 x19 x20 R) :
    ∀ (j i : Nat), i + j = m → law23_both.l31 k0 k1 (j + 1) e (m + 1) e' (i : Int) x4 x5 x6 x7 x8 x9 x10 x11 x12 x13 m L x16 x17 x18 x19 x20 R := by
  intro j
  induction j with
  | zero =>
    intro i hi
    obtain rfl : i = m := by omega
    unfold law23_both.l31 law23_both.l31.step
    rw [br_f (lt_f (by omega))]
    exact hk
  | succ j ih =>
    intro i hi
    have hadd : addI .i64 (i : Int) 1 = ((i + 1 : Nat) : Int) := by rw [add_i64 (by omega) (by omega)]; omega
    unfold law23_both.l31 law23_both.l31.step
    rw [br_t (lt_t (by omega)), gd_t (by rw [le_t (by omega), lt_t (by omega)]; rfl), gd_t (by rw [le_t (by omega), lt_t (by omega)]; rfl), Int.toNat_natCast, hadd, hR i (by omega)]
    rw [br_f (by rw [beq_self, eq_t rfl, eq_t rfl, eq_t rfl, eq_t rfl]; rfl)]
    exact ih (i + 1) (by omega)
theorem pchange_both {g : Nat → Int} {F : Nat → Nat → Lf} {g' : Nat → Int} {F' : Nat → Nat → Lf} (t : Twin g F g' F') (m : Nat) (L : Nat → Nat → Lf) (hm : m < 4611686018427387904) (hL : ∀ i, i < m → wdE (L i))
    (K : (Nat → Int) → (Nat → Nat → Lf) → Int → Prop) (hK : ∀ (e : Int) (h' : Nat → Int) (G' : Nat → Nat → Lf), (∀ (R : Nat → Nat → Lf) (Q : Int → Bool → (Nat → Int) → (Nat → Nat → Lf) → Prop), (∀ i, i < m → R i = L i) → (∀ h G, Twin h G h' G' → Q e true h G) → regs_Regs_Change true g F m R Q) → K h' G' e) :
    r23_Change g' F' m L K := by
  refine dchange_ok m L hm K (fun hb => hK 2 g' F' fun R Q hR hQ => ?_) (fun ho => hK 0 _ _ fun R Q hR hQ => ?_)
  · obtain ⟨i, hi, hb⟩ := hb
    exact change_bad m R hm ⟨i, hi, by rw [hR i hi]; exact hb⟩ Q (hQ g F t)
  · have acc : Acc (g, F) m R (S.run L m (g, F)) := ⟨fun i hi => by rw [hR i hi]; exact ho i hi, run_congr _ m hR⟩
    exact change_ok m R hm acc Q (hQ _ _ (t.run L m hL))
end Go.Ev.S

/- A call of the registers, by program and document. -/
set_option linter.unusedVariables false
set_option linter.unusedSimpArgs false
set_option maxRecDepth 20000
namespace Go.Ev.S
open Go Go.Ev
theorem both_ok {g : Nat → Int} {F : Nat → Nat → Lf} {g' : Nat → Int} {F' : Nat → Nat → Lf} (t : Twin g F g' F') (how on n xv : Int) (w f m : Nat) (hw : w < 2 ^ 128) (L : Nat → Nat → Lf) (hm : (m + 1) * 40 ≤ 140737488355328) (hL : ∀ i, i < m → wdE (L i))
    (K : (Nat → Int) → (Nat → Nat → Lf) → Bool → Bool → (Nat → Int) → (Nat → Nat → Lf) → Prop) (hK : ∀ h G h' G', Twin h G h' G' → K h' G' true true h G) :
    law23_both true g F g' F' how on n xv (Hi w) (Lo w) f m L K := by
  rw [law23_both.is]; unfold law23_both.d
  by_cases h0 : how = 0
  · rw [br_t (eq_t h0)]
    refine dSetX_ok n xv _ (fun hh => setX_ok n xv _ (fun _ => hK _ _ _ _ t) fun a b => absurd ⟨a, b⟩ hh) fun a b => setX_ok n xv _ (fun hh => absurd ⟨a, b⟩ hh) fun _ _ => hK _ _ _ _ (t.setX _ _)
  rw [br_f (eq_f h0)]
  by_cases h1 : how = 1
  · rw [br_t (eq_t h1)]
    refine dSetF_ok n _ _ _ (fun hh => setF_ok n _ _ _ (fun _ => hK _ _ _ _ t) fun a b => absurd ⟨a, b⟩ hh) fun a b => setF_ok n _ _ _ (fun hh => absurd ⟨a, b⟩ hh) fun _ _ => hK _ _ _ _ (t.setF _ w hw)
  rw [br_f (eq_f h1)]
  by_cases h2 : how = 2
  · rw [br_t (eq_t h2)]
    exact dPut_ok f w n hw _ (fun hh => rput_ok f w n hw _ (fun _ => hK _ _ _ _ t) fun a b c d => absurd ⟨a, b, c, d⟩ hh) fun a b c d => rput_ok f w n hw _ (fun hh => absurd ⟨a, b, c, d⟩ hh) fun _ _ _ _ => hK _ _ _ _ (t.setF _ _ (box_lt a b))
  rw [br_f (eq_f h2)]
  by_cases h3 : how = 3
  · rw [br_t (eq_t h3)]
    refine getX_ok n _ (fun hh => dX_ok n _ (fun _ => ?_) fun a b => absurd ⟨a, b⟩ hh) fun a b => dX_ok n _ (fun hh => absurd ⟨a, b⟩ hh) fun _ _ => ?_
    · rw [br_t (eq_t rfl)]; exact hK _ _ _ _ t
    · rw [br_t (eq_t (t.x _ (by omega)))]; exact hK _ _ _ _ t
  rw [br_f (eq_f h3)]
  by_cases h4 : how = 4
  · rw [br_t (eq_t h4)]
    refine getF_ok n _ (fun hh => dF_ok n _ (fun _ => ?_) fun a b => absurd ⟨a, b⟩ hh) fun a b => dF_ok n _ (fun hh => absurd ⟨a, b⟩ hh) fun _ _ => ?_
    · rw [br_t (by rw [eq_t rfl]; rfl)]; exact hK _ _ _ _ t
    · obtain ⟨v, hv, e0, e1, e2, e3⟩ := t.f n.toNat (by omega)
      rw [e0, e1, e2, e3, br_t bx]; exact hK _ _ _ _ t
  rw [br_f (eq_f h4)]
  by_cases h5 : how = 5
  · rw [br_t (eq_t h5)]
    refine pGet_ok f n _ (fun hh => dGet_ok f n _ (fun _ => ?_) fun a b c => absurd ⟨a, b, c⟩ hh) fun a b c => ?_
    · rw [br_t (by rw [eq_t rfl]; rfl)]; exact hK _ _ _ _ t
    · obtain ⟨v, hv, e0, e1, e2, e3⟩ := t.f n.toNat (by omega)
      refine ⟨v, hv, e0, e1, dGet_ok f n _ (fun hh => absurd ⟨a, b, c⟩ hh) fun _ _ _ => ⟨v, hv, e2, e3, ?_⟩⟩
      rw [br_t bx]; exact hK _ _ _ _ t
  rw [br_f (eq_f h5)]
  by_cases h6 : how = 6
  · rw [br_t (eq_t h6)]
    refine pLow_ok f n _ (fun hh => dLow_ok f n _ (fun _ => ?_) fun a b c => absurd ⟨a, b, c⟩ hh) fun a b c => ?_
    · rw [br_t (by rw [eq_t rfl]; rfl)]; exact hK _ _ _ _ t
    · obtain ⟨v, hv, e0, e1, e2, e3⟩ := t.f n.toNat (by omega)
      refine ⟨v, hv, e0, e1, dLow_ok f n _ (fun hh => absurd ⟨a, b, c⟩ hh) fun _ _ _ => ⟨v, hv, e2, e3, ?_⟩⟩
      rw [br_t bx]; exact hK _ _ _ _ t
  rw [br_f (eq_f h6)]
  refine pchange_both t m L (by omega) hL _ fun e h' G' hc => ?_
  rw [gd_t (show leN (m * 40) 140737488355328 = true from Nat.ble_eq_true_of_le (by omega))]
  cases hz : isZ m with
  | true =>
    have hm0 : m = 0 := Nat.eq_of_beq_eq_true hz
    subst hm0
    rw [br_t rfl, gd_t (by rw [le_t (by omega), le_t (by omega)]; rfl), Int.toNat_natCast, Nat.sub_zero]
    refine hc _ _ (fun i hi => absurd hi (by omega)) fun h G tw => ?_
    refine ⟨1, same_rows _ _ e e true h G how on n xv (Hi w) (Lo w) f 0 (by omega) L _ _ h' G' 1 _ (fun i hi => absurd hi (by omega)) ?_ 0 0 rfl⟩
    rw [br_t (eq_t rfl), gd_t (by rw [le_t (by omega), lt_t (by omega)]; rfl)]
    exact hK _ _ _ _ tw
  | false =>
    rw [br_f rfl, gd_t (show leN ((m + 1) * 40) 140737488355328 = true from Nat.ble_eq_true_of_le hm), gd_t (by rw [le_t (by omega), le_t (by omega)]; rfl), Int.toNat_natCast, Nat.sub_zero]
    refine hc _ _ (fun i hi => appT_lt hi) fun h G tw => ?_
    refine ⟨m + 1, same_rows _ _ e e true h G how on n xv (Hi w) (Lo w) f m (by omega) L _ _ h' G' (m + 1) _ (fun i hi => appT_lt hi) ?_ m 0 (by omega)⟩
    rw [br_t (eq_t rfl), gd_t (by rw [le_t (by omega), lt_t (by omega)]; rfl), Int.toNat_natCast]
    show K h' G' (eqI (appT m L _ m 1).toI 77) true h G
    rw [appT_ge (n := m) (i := m) (Nat.lt_irrefl m), Nat.sub_self]
    exact hK _ _ _ _ tw
end Go.Ev.S

/- A script of calls, by program and document. -/
set_option linter.unusedVariables false
set_option linter.unusedSimpArgs false
set_option maxRecDepth 20000
namespace Go.Ev.S
open Go Go.Ev
theorem and_one (a : Int) : andI .i64 a 1 = 0 ∨ andI .i64 a 1 = 1 := by
  unfold andI
  have h : (BitVec.ofInt IntKind.i64.bits a &&& BitVec.ofInt IntKind.i64.bits 1).toNat = (BitVec.ofInt IntKind.i64.bits a).toNat % 2 := by
    rw [BitVec.toNat_and, show (BitVec.ofInt IntKind.i64.bits 1).toNat = 1 from by decide, Nat.and_one_is_mod]
  rw [h]
  rcases Nat.mod_two_eq_zero_or_one (BitVec.ofInt IntKind.i64.bits a).toNat with q | q <;> rw [q]
  · left; decide
  · right; decide
theorem twin_same {g0 g1 g0' g1' : Nat → Int} {F0 F1 F0' F1' : Nat → Nat → Lf} (t0 : Twin g0 F0 g0' F0') (t1 : Twin g1 F1 g1' F1') :
    eqN 32 g0 g1 = eqN 32 g0' g1' ∧ eqTb (Sk.agg [Sk.int IntKind.u64, Sk.int IntKind.u64]) 32 F0 F1 = eqTb (Sk.agg [Sk.int IntKind.u64, Sk.int IntKind.u64]) 32 F0' F1' := by
  constructor
  · rw [Bool.eq_iff_iff, eqN_iff, eqN_iff]
    constructor
    · intro h i hi; rw [← t0.x i hi, ← t1.x i hi]; exact h i hi
    · intro h i hi; rw [t0.x i hi, t1.x i hi]; exact h i hi
  · rw [Bool.eq_iff_iff, eqF_iff, eqF_iff]
    constructor
    · intro h i hi
      obtain ⟨w, _, a0, a1, a2, a3⟩ := t0.f i hi
      obtain ⟨v, _, b0, b1, b2, b3⟩ := t1.f i hi
      obtain ⟨h1, h2⟩ := h i hi
      exact ⟨by rw [a2, b2, ← a0, ← b0]; exact h1, by rw [a3, b3, ← a1, ← b1]; exact h2⟩
    · intro h i hi
      obtain ⟨w, _, a0, a1, a2, a3⟩ := t0.f i hi
      obtain ⟨v, _, b0, b1, b2, b3⟩ := t1.f i hi
      obtain ⟨h1, h2⟩ := h i hi
      exact ⟨by rw [a0, b0, ← a2, ← b2]; exact h1, by rw [a1, b1, ← a3, ← b3]; exact h2⟩
def okS (r : Nat → Lf) : Prop := (∃ w : Nat, w < 2 ^ 128 ∧ (r 4).toI = Hi w ∧ (r 5).toI = Lo w) ∧ (∃ f : Nat, (r 6).toI = f) ∧ ((r 7).len + 1) * 40 ≤ 140737488355328 ∧ ∀ i, i < (r 7).len → wdE ((r 7).row i)
theorem plays_loop (n : Nat) (hn : n ≤ 300) (sc : Nat → Nat → Lf) (hs : ∀ i, i < n → okS (sc i)) (k0 : Bool → Prop)
    (k1 : (Nat → Int) → (Nat → Nat → Lf) → (Nat → Int) → (Nat → Nat → Lf) → Bool → (Nat → Int) → (Nat → Nat → Lf) → Bool → (Nat → Int) → (Nat → Nat → Lf) → Prop)
    (hk : ∀ g0 F0 g1 F1 g0' F0' g1' F1', Twin g0 F0 g0' F0' → Twin g1 F1 g1' F1' → k1 g0' F0' g1' F1' true g0 F0 true g1 F1) :
    ∀ (j i : Nat) (g0 g1 g0' g1' : Nat → Int) (F0 F1 F0' F1' : Nat → Nat → Lf), i + j = n → Twin g0 F0 g0' F0' → Twin g1 F1 g1' F1' →
      law23_RegsPlays.l6 k0 k1 (j + 1) n sc (i : Int) g0' F0' g1' F1' true g0 F0 true g1 F1 := by
  intro j
  induction j with
  | zero =>
    intro i g0 g1 g0' g1' F0 F1 F0' F1' hi t0 t1
    obtain rfl : i = n := by omega
    unfold law23_RegsPlays.l6 law23_RegsPlays.l6.step
    rw [br_f (lt_f (by omega))]
    exact hk _ _ _ _ _ _ _ _ t0 t1
  | succ j ih =>
    intro i g0 g1 g0' g1' F0 F1 F0' F1' hi t0 t1
    have hlt : i < n := by omega
    have hadd : addI .i64 (i : Int) 1 = ((i + 1 : Nat) : Int) := by rw [add_i64 (by omega) (by omega)]; omega
    obtain ⟨⟨w, hw, e4, e5⟩, ⟨f, e6⟩, hlen, hrow⟩ := hs i hlt
    unfold law23_RegsPlays.l6 law23_RegsPlays.l6.step
    rw [br_t (lt_t (by omega)), gd_t (by rw [le_t (by omega), lt_t (by omega)]; rfl), gd_t (by rw [le_t (by omega), lt_t (by omega)]; rfl), gd_t (by rw [le_t (by omega), lt_t (by omega)]; rfl), Int.toNat_natCast, hadd]
    rcases and_one (sc i 1).toI with q | q
    · rw [br_t (eq_t q)]
      by_cases h8 : (sc i 0).toI = 8
      · rw [br_t (eq_t h8), rcopy_ok, rtell_ok]
        refine ⟨rfl, ?_⟩
        rw [t1.eqs.1, t1.eqs.2]
        show br (!true) _ _
        rw [br_f (show (!true) = false from rfl), rtell_ok]
        refine ⟨rfl, ?_⟩
        rw [t1.eqs.1, t1.eqs.2]
        show br (!true) _ _
        rw [br_f (show (!true) = false from rfl), rsame_ok]
        refine ⟨rfl, ?_⟩
        rw [(twin_same t1 t1).1, (twin_same t1 t1).2, nbeq_self, br_f rfl]
        exact ih (i + 1) _ _ _ _ _ _ _ _ (by omega) t1 t1
      · rw [br_f (eq_f h8), e4, e5, e6]
        refine both_ok t0 _ _ _ _ w f _ hw _ hlen hrow _ fun h G h' G' t => ?_
        show br (!true) _ _
        rw [br_f (show (!true) = false from rfl), rtell_ok]
        refine ⟨rfl, ?_⟩
        rw [t.eqs.1, t.eqs.2]
        show br (!true) _ _
        rw [br_f (show (!true) = false from rfl), rtell_ok]
        refine ⟨rfl, ?_⟩
        rw [t1.eqs.1, t1.eqs.2]
        show br (!true) _ _
        rw [br_f (show (!true) = false from rfl), rsame_ok]
        refine ⟨rfl, ?_⟩
        rw [(twin_same t t1).1, (twin_same t t1).2, nbeq_self, br_f rfl]
        exact ih (i + 1) _ _ _ _ _ _ _ _ (by omega) t t1
    · have hgd : (leI 0 (i : Int) && ltI (i : Int) (n : Int)) = true := by rw [le_t (by omega), lt_t (by omega)]; rfl
      rw [br_f (eq_f (by omega)), br_t (eq_t q), gd_t hgd]
      by_cases h8 : (sc i 0).toI = 8
      · rw [br_t (eq_t h8), rcopy_ok, rtell_ok]
        refine ⟨rfl, ?_⟩
        rw [t0.eqs.1, t0.eqs.2]
        show br (!true) _ _
        rw [br_f (show (!true) = false from rfl), rtell_ok]
        refine ⟨rfl, ?_⟩
        rw [t0.eqs.1, t0.eqs.2]
        show br (!true) _ _
        rw [br_f (show (!true) = false from rfl), rsame_ok]
        refine ⟨rfl, ?_⟩
        rw [(twin_same t0 t0).1, (twin_same t0 t0).2, nbeq_self, br_f rfl]
        exact ih (i + 1) _ _ _ _ _ _ _ _ (by omega) t0 t0
      · rw [br_f (eq_f h8), gd_t hgd, e4, e5, e6]
        refine both_ok t1 _ _ _ _ w f _ hw _ hlen hrow _ fun h G h' G' t => ?_
        show br (!true) _ _
        rw [br_f (show (!true) = false from rfl), rtell_ok]
        refine ⟨rfl, ?_⟩
        rw [t.eqs.1, t.eqs.2]
        show br (!true) _ _
        rw [br_f (show (!true) = false from rfl), rtell_ok]
        refine ⟨rfl, ?_⟩
        rw [t0.eqs.1, t0.eqs.2]
        show br (!true) _ _
        rw [br_f (show (!true) = false from rfl), rsame_ok]
        refine ⟨rfl, ?_⟩
        rw [(twin_same t0 t).1, (twin_same t0 t).2, nbeq_self, br_f rfl]
        exact ih (i + 1) _ _ _ _ _ _ _ _ (by omega) t0 t
end Go.Ev.S

/- What is another in two files of registers: the list, as program and document tell it. -/
set_option linter.unusedVariables false
set_option linter.unusedSimpArgs false
set_option maxRecDepth 20000
namespace Go.Ev.S
open Go Go.Ev
def app1 : Nat → (Nat → Nat → Lf) → (Nat → Nat → Lf) → (Nat → Nat → Lf)
  | 0, _, r => r
  | n + 1, h, r => appT (n + 1) h r
open Classical in
noncomputable def chX (ga gb : Nat → Int) : Nat → Nat × (Nat → Nat → Lf)
  | 0 => (0, z2)
  | x + 1 => if ga x = gb x then chX ga gb x else ((chX ga gb x).1 + 1, app1 (chX ga gb x).1 (chX ga gb x).2 (rowX x (gb x)))
open Classical in
noncomputable def chF (Fa Fb : Nat → Nat → Lf) (s : Nat × (Nat → Nat → Lf)) : Nat → Nat × (Nat → Nat → Lf)
  | 0 => s
  | x + 1 => if (Fa x 0).toI = (Fb x 0).toI ∧ (Fa x 1).toI = (Fb x 1).toI then chF Fa Fb s x
    else ((chF Fa Fb s x).1 + 1, app1 (chF Fa Fb s x).1 (chF Fa Fb s x).2 (rowF x (Fb x 0).toI (Fb x 1).toI))
theorem chX_le (ga gb : Nat → Int) : ∀ x, (chX ga gb x).1 ≤ x
  | 0 => Nat.le_refl _
  | x + 1 => by
    have := chX_le ga gb x
    rw [chX]; split
    · omega
    · show (chX ga gb x).1 + 1 ≤ x + 1; omega
theorem chF_le (Fa Fb : Nat → Nat → Lf) (s : Nat × (Nat → Nat → Lf)) : ∀ x, (chF Fa Fb s x).1 ≤ s.1 + x
  | 0 => Nat.le_refl _
  | x + 1 => by
    have := chF_le Fa Fb s x
    rw [chF]; split
    · omega
    · show (chF Fa Fb s x).1 + 1 ≤ _; omega
theorem chX_eq {ga gb ga' gb' : Nat → Int} (ha : ∀ i, i < 32 → ga i = ga' i) (hb : ∀ i, i < 32 → gb i = gb' i) : ∀ x, x ≤ 32 → chX ga gb x = chX ga' gb' x
  | 0, _ => rfl
  | x + 1, h => by rw [chX, chX, chX_eq ha hb x (by omega), ha x (by omega), hb x (by omega)]
theorem chF_eq {Fa Fb Fa' Fb' : Nat → Nat → Lf} (ha : ∀ i, i < 32 → (Fa i 0).toI = (Fa' i 0).toI ∧ (Fa i 1).toI = (Fa' i 1).toI) (hb : ∀ i, i < 32 → (Fb i 0).toI = (Fb' i 0).toI ∧ (Fb i 1).toI = (Fb' i 1).toI) (s : Nat × (Nat → Nat → Lf)) :
    ∀ x, x ≤ 32 → chF Fa Fb s x = chF Fa' Fb' s x
  | 0, _ => rfl
  | x + 1, h => by rw [chF, chF, chF_eq ha hb s x (by omega), (ha x (by omega)).1, (ha x (by omega)).2, (hb x (by omega)).1, (hb x (by omega)).2]
theorem app1_pos {n : Nat} (h : 1 ≤ n) (a b : Nat → Nat → Lf) : app1 n a b = appT n a b := by
  cases n with
  | zero => omega
  | succ n => rfl
section program
variable {ga gb : Nat → Int} {Fa Fb : Nat → Nat → Lf}
theorem px1 (k : KS) (hk : 1 ≤ (chX ga gb 32).1 → k (chX ga gb 32).1 true ga Fa true gb Fb (chX ga gb 32).1 (chX ga gb 32).2) :
    ∀ (j x : Nat), x + j = 32 → 1 ≤ (chX ga gb x).1 → regs_Changed.l5h1 k (j + 1) (chX ga gb x).1 gb (x : Int) true ga Fa true gb Fb (chX ga gb x).1 (chX ga gb x).2 := by
  intro j
  induction j with
  | zero =>
    intro x hx hp
    obtain rfl : x = 32 := by omega
    unfold regs_Changed.l5h1 regs_Changed.l5h1.step
    rw [br_f (lt_f (by omega))]
    exact hk hp
  | succ j ih =>
    intro x hx hp
    have hx : x < 32 := by omega
    have hadd : addI .i64 (x : Int) 1 = ((x + 1 : Nat) : Int) := by rw [add_i64 (by omega) (by omega)]; omega
    have ih := ih (x + 1) (by omega)
    have hle := chX_le ga gb x
    rw [chX] at ih
    unfold regs_Changed.l5h1 regs_Changed.l5h1.step
    rw [br_t (lt_t (by omega)), gd_t (by rw [le_t (by omega), lt_t (by omega)]; rfl), gd_t (by rw [le_t (by omega), lt_t (by omega)]; rfl), Int.toNat_natCast, hadd]
    by_cases e : ga x = gb x
    · rw [if_pos e] at ih
      rw [br_f (by rw [eq_t e]; rfl)]
      exact ih hp
    · rw [if_neg e, app1_pos hp] at ih
      rw [br_t (by rw [eq_f e]; rfl), gd_t (show leN (((chX ga gb x).1 + 1) * 40) 140737488355328 = true from Nat.ble_eq_true_of_le (by omega))]
      exact ih (by show 1 ≤ _ + 1; omega)
theorem px0 (k0 : KN) (k : KS) (hk0 : chX ga gb 32 = (0, z2) → k0 true ga Fa true gb Fb) (hk : 1 ≤ (chX ga gb 32).1 → k (chX ga gb 32).1 true ga Fa true gb Fb (chX ga gb 32).1 (chX ga gb 32).2) :
    ∀ (j x : Nat), x + j = 32 → chX ga gb x = (0, z2) → regs_Changed.l5 k0 k (j + 1) gb (x : Int) true ga Fa true gb Fb := by
  intro j
  induction j with
  | zero =>
    intro x hx hp
    obtain rfl : x = 32 := by omega
    unfold regs_Changed.l5 regs_Changed.l5.step
    rw [br_f (lt_f (by omega))]
    exact hk0 hp
  | succ j ih =>
    intro x hx hp
    have hx' : x < 32 := by omega
    have hadd : addI .i64 (x : Int) 1 = ((x + 1 : Nat) : Int) := by rw [add_i64 (by omega) (by omega)]; omega
    unfold regs_Changed.l5 regs_Changed.l5.step
    rw [br_t (lt_t (by omega)), gd_t (by rw [le_t (by omega), lt_t (by omega)]; rfl), gd_t (by rw [le_t (by omega), lt_t (by omega)]; rfl), Int.toNat_natCast, hadd]
    by_cases e : ga x = gb x
    · rw [br_f (by rw [eq_t e]; rfl)]
      exact ih (x + 1) (by omega) (by rw [chX, if_pos e]; exact hp)
    · rw [br_t (by rw [eq_f e]; rfl)]
      have e1 : chX ga gb (x + 1) = (1, rowX x (gb x)) := by rw [chX, if_neg e, hp]; rfl
      have := px1 (Fa := Fa) (Fb := Fb) k hk j (x + 1) (by omega) (by rw [e1]; exact Nat.le_refl _)
      rw [e1] at this
      exact this
theorem pf1 (s : Nat × (Nat → Nat → Lf)) (hs : s.1 ≤ 32) (k : KS) (hk : 1 ≤ (chF Fa Fb s 32).1 → k (chF Fa Fb s 32).1 true ga Fa true gb Fb (chF Fa Fb s 32).1 (chF Fa Fb s 32).2) :
    ∀ (j x : Nat), x + j = 32 → 1 ≤ (chF Fa Fb s x).1 → regs_Changed.l11h1 k (j + 1) (chF Fa Fb s x).1 Fb (x : Int) true ga Fa true gb Fb (chF Fa Fb s x).1 (chF Fa Fb s x).2 := by
  intro j
  induction j with
  | zero =>
    intro x hx hp
    obtain rfl : x = 32 := by omega
    unfold regs_Changed.l11h1 regs_Changed.l11h1.step
    rw [br_f (lt_f (by omega))]
    exact hk hp
  | succ j ih =>
    intro x hx hp
    have hx : x < 32 := by omega
    have hadd : addI .i64 (x : Int) 1 = ((x + 1 : Nat) : Int) := by rw [add_i64 (by omega) (by omega)]; omega
    have ih := ih (x + 1) (by omega)
    have hle := chF_le Fa Fb s x
    rw [chF] at ih
    unfold regs_Changed.l11h1 regs_Changed.l11h1.step
    rw [br_t (lt_t (by omega)), gd_t (by rw [le_t (by omega), lt_t (by omega)]; rfl), gd_t (by rw [le_t (by omega), lt_t (by omega)]; rfl), Int.toNat_natCast, hadd]
    by_cases e : (Fa x 0).toI = (Fb x 0).toI ∧ (Fa x 1).toI = (Fb x 1).toI
    · rw [if_pos e] at ih
      rw [br_f (by rw [eq_t e.1, eq_t e.2]; rfl)]
      exact ih hp
    · rw [if_neg e, app1_pos hp] at ih
      rw [br_t (by
        by_cases q : (Fa x 0).toI = (Fb x 0).toI
        · rw [eq_t q, eq_f fun q2 => e ⟨q, q2⟩]; rfl
        · rw [eq_f q]; rfl), gd_t (show leN (((chF Fa Fb s x).1 + 1) * 40) 140737488355328 = true from Nat.ble_eq_true_of_le (by omega))]
      exact ih (by show 1 ≤ _ + 1; omega)
theorem pf0 (k0 : KN) (k : KS) (hk0 : chF Fa Fb (0, z2) 32 = (0, z2) → k0 true ga Fa true gb Fb) (hk : 1 ≤ (chF Fa Fb (0, z2) 32).1 → k (chF Fa Fb (0, z2) 32).1 true ga Fa true gb Fb (chF Fa Fb (0, z2) 32).1 (chF Fa Fb (0, z2) 32).2) :
    ∀ (j x : Nat), x + j = 32 → chF Fa Fb (0, z2) x = (0, z2) → regs_Changed.l11 k0 k (j + 1) Fb (x : Int) true ga Fa true gb Fb := by
  intro j
  induction j with
  | zero =>
    intro x hx hp
    obtain rfl : x = 32 := by omega
    unfold regs_Changed.l11 regs_Changed.l11.step
    rw [br_f (lt_f (by omega))]
    exact hk0 hp
  | succ j ih =>
    intro x hx hp
    have hx' : x < 32 := by omega
    have hadd : addI .i64 (x : Int) 1 = ((x + 1 : Nat) : Int) := by rw [add_i64 (by omega) (by omega)]; omega
    unfold regs_Changed.l11 regs_Changed.l11.step
    rw [br_t (lt_t (by omega)), gd_t (by rw [le_t (by omega), lt_t (by omega)]; rfl), gd_t (by rw [le_t (by omega), lt_t (by omega)]; rfl), Int.toNat_natCast, hadd]
    by_cases e : (Fa x 0).toI = (Fb x 0).toI ∧ (Fa x 1).toI = (Fb x 1).toI
    · rw [br_f (by rw [eq_t e.1, eq_t e.2]; rfl)]
      exact ih (x + 1) (by omega) (by rw [chF, if_pos e]; exact hp)
    · rw [br_t (by
        by_cases q : (Fa x 0).toI = (Fb x 0).toI
        · rw [eq_t q, eq_f fun q2 => e ⟨q, q2⟩]; rfl
        · rw [eq_f q]; rfl)]
      have e1 : chF Fa Fb (0, z2) (x + 1) = (1, rowF x (Fb x 0).toI (Fb x 1).toI) := by rw [chF, if_neg e, hp]; rfl
      have := pf1 (ga := ga) (gb := gb) (0, z2) (by decide) k hk j (x + 1) (by omega) (by rw [e1]; exact Nat.le_refl _)
      rw [e1] at this
      exact this
theorem changed_is (K : Nat → (Nat → Nat → Lf) → Int → Bool → (Nat → Int) → (Nat → Nat → Lf) → Bool → (Nat → Int) → (Nat → Nat → Lf) → Prop)
    (hK : K (chF Fa Fb (chX ga gb 32) 32).1 (chF Fa Fb (chX ga gb 32) 32).2 0 true ga Fa true gb Fb) : regs_Changed true ga Fa true gb Fb K := by
  rw [regs_Changed.is]; unfold regs_Changed.d
  rw [none_ok]
  show br false _ _
  rw [br_f rfl, none_ok]
  show br false _ _
  rw [br_f rfl]
  refine ⟨33, px0 _ _ (fun hz => ⟨33, ?_⟩) (fun hp => ⟨33, pf1 (ga := ga) (gb := gb) (chX ga gb 32) (chX_le ga gb 32) _ (fun _ => hK) 32 0 (by omega) hp⟩) 32 0 (by omega) rfl⟩
  rw [hz] at hK
  refine pf0 (ga := ga) (gb := gb) _ _ (fun hf => ?_) (fun _ => hK) 32 0 (by omega) rfl
  rw [hf] at hK
  exact hK
end program
end Go.Ev.S

/- What is another in two files of registers: the list, as the document tells it. -/
set_option linter.unusedVariables false
set_option linter.unusedSimpArgs false
set_option maxRecDepth 20000
namespace Go.Ev.S
open Go Go.Ev
section document
variable {ga gb : Nat → Int} {Fa Fb : Nat → Nat → Lf}
abbrev KD := Nat → (Nat → Int) → (Nat → Nat → Lf) → (Nat → Int) → (Nat → Nat → Lf) → Nat → (Nat → Nat → Lf) → Prop
abbrev KE := (Nat → Int) → (Nat → Nat → Lf) → (Nat → Int) → (Nat → Nat → Lf) → Prop
theorem dx1 (k : KD) (hk : 1 ≤ (chX ga gb 32).1 → k (chX ga gb 32).1 ga Fa gb Fb (chX ga gb 32).1 (chX ga gb 32).2) :
    ∀ (j x : Nat), x + j = 32 → 1 ≤ (chX ga gb x).1 → r23_Changed.l3h1 k (j + 1) (chX ga gb x).1 (x : Int) ga Fa gb Fb (chX ga gb x).1 (chX ga gb x).2 := by
  intro j
  induction j with
  | zero =>
    intro x hx hp
    obtain rfl : x = 32 := by omega
    unfold r23_Changed.l3h1 r23_Changed.l3h1.step
    rw [br_f (lt_f (by omega))]
    exact hk hp
  | succ j ih =>
    intro x hx hp
    have hx : x < 32 := by omega
    have hadd : addI .i64 (x : Int) 1 = ((x + 1 : Nat) : Int) := by rw [add_i64 (by omega) (by omega)]; omega
    have ih := ih (x + 1) (by omega)
    have hle := chX_le ga gb x
    rw [chX] at ih
    unfold r23_Changed.l3h1 r23_Changed.l3h1.step
    rw [br_t (lt_t (by omega)), gd_t (by rw [le_t (by omega), lt_t (by omega)]; rfl), gd_t (by rw [le_t (by omega), lt_t (by omega)]; rfl), Int.toNat_natCast, hadd]
    by_cases e : ga x = gb x
    · rw [if_pos e] at ih
      rw [br_f (by rw [eq_t e]; rfl)]
      exact ih hp
    · rw [if_neg e, app1_pos hp] at ih
      rw [br_t (by rw [eq_f e]; rfl), gd_t (show (leI 0 (x : Int) && ltI (x : Int) 32) = true by rw [le_t (by omega), lt_t (by omega)]; rfl), gd_t (show leN (((chX ga gb x).1 + 1) * 40) 140737488355328 = true from Nat.ble_eq_true_of_le (by omega))]
      exact ih (by show 1 ≤ _ + 1; omega)
theorem dx0 (k0 : KE) (k : KD) (hk0 : chX ga gb 32 = (0, z2) → k0 ga Fa gb Fb) (hk : 1 ≤ (chX ga gb 32).1 → k (chX ga gb 32).1 ga Fa gb Fb (chX ga gb 32).1 (chX ga gb 32).2) :
    ∀ (j x : Nat), x + j = 32 → chX ga gb x = (0, z2) → r23_Changed.l3 k0 k (j + 1) (x : Int) ga Fa gb Fb := by
  intro j
  induction j with
  | zero =>
    intro x hx hp
    obtain rfl : x = 32 := by omega
    unfold r23_Changed.l3 r23_Changed.l3.step
    rw [br_f (lt_f (by omega))]
    exact hk0 hp
  | succ j ih =>
    intro x hx hp
    have hx' : x < 32 := by omega
    have hadd : addI .i64 (x : Int) 1 = ((x + 1 : Nat) : Int) := by rw [add_i64 (by omega) (by omega)]; omega
    unfold r23_Changed.l3 r23_Changed.l3.step
    rw [br_t (lt_t (by omega)), gd_t (by rw [le_t (by omega), lt_t (by omega)]; rfl), gd_t (by rw [le_t (by omega), lt_t (by omega)]; rfl), Int.toNat_natCast, hadd]
    by_cases e : ga x = gb x
    · rw [br_f (by rw [eq_t e]; rfl)]
      exact ih (x + 1) (by omega) (by rw [chX, if_pos e]; exact hp)
    · rw [br_t (by rw [eq_f e]; rfl), gd_t (show (leI 0 (x : Int) && ltI (x : Int) 32) = true by rw [le_t (by omega), lt_t (by omega)]; rfl)]
      have e1 : chX ga gb (x + 1) = (1, rowX x (gb x)) := by rw [chX, if_neg e, hp]; rfl
      have := dx1 (Fa := Fa) (Fb := Fb) k hk j (x + 1) (by omega) (by rw [e1]; exact Nat.le_refl _)
      rw [e1] at this
      exact this
theorem df1 (s : Nat × (Nat → Nat → Lf)) (hs : s.1 ≤ 32) (k : Nat → Nat → (Nat → Nat → Lf) → Prop) (hk : 1 ≤ (chF Fa Fb s 32).1 → k (chF Fa Fb s 32).1 (chF Fa Fb s 32).1 (chF Fa Fb s 32).2) :
    ∀ (j x : Nat), x + j = 32 → 1 ≤ (chF Fa Fb s x).1 → r23_Changed.l8h1 k (j + 1) (chF Fa Fb s x).1 (x : Int) ga Fa gb Fb (chF Fa Fb s x).1 (chF Fa Fb s x).2 := by
  intro j
  induction j with
  | zero =>
    intro x hx hp
    obtain rfl : x = 32 := by omega
    unfold r23_Changed.l8h1 r23_Changed.l8h1.step
    rw [br_f (lt_f (by omega))]
    exact hk hp
  | succ j ih =>
    intro x hx hp
    have hx : x < 32 := by omega
    have hadd : addI .i64 (x : Int) 1 = ((x + 1 : Nat) : Int) := by rw [add_i64 (by omega) (by omega)]; omega
    have ih := ih (x + 1) (by omega)
    have hle := chF_le Fa Fb s x
    rw [chF] at ih
    unfold r23_Changed.l8h1 r23_Changed.l8h1.step
    rw [br_t (lt_t (by omega)), gd_t (by rw [le_t (by omega), lt_t (by omega)]; rfl), gd_t (by rw [le_t (by omega), lt_t (by omega)]; rfl), Int.toNat_natCast, hadd]
    by_cases e : (Fa x 0).toI = (Fb x 0).toI ∧ (Fa x 1).toI = (Fb x 1).toI
    · rw [if_pos e] at ih
      rw [br_f (by rw [eq_t e.1, eq_t e.2]; rfl)]
      exact ih hp
    · rw [if_neg e, app1_pos hp] at ih
      rw [br_t (by
        by_cases q : (Fa x 0).toI = (Fb x 0).toI
        · rw [eq_t q, eq_f fun q2 => e ⟨q, q2⟩]; rfl
        · rw [eq_f q]; rfl), gd_t (show (leI 0 (x : Int) && ltI (x : Int) 32) = true by rw [le_t (by omega), lt_t (by omega)]; rfl), gd_t (show leN (((chF Fa Fb s x).1 + 1) * 40) 140737488355328 = true from Nat.ble_eq_true_of_le (by omega))]
      exact ih (by show 1 ≤ _ + 1; omega)
theorem df0 (k0 : Prop) (k : Nat → Nat → (Nat → Nat → Lf) → Prop) (hk0 : chF Fa Fb (0, z2) 32 = (0, z2) → k0) (hk : 1 ≤ (chF Fa Fb (0, z2) 32).1 → k (chF Fa Fb (0, z2) 32).1 (chF Fa Fb (0, z2) 32).1 (chF Fa Fb (0, z2) 32).2) :
    ∀ (j x : Nat), x + j = 32 → chF Fa Fb (0, z2) x = (0, z2) → r23_Changed.l8 k0 k (j + 1) (x : Int) ga Fa gb Fb := by
  intro j
  induction j with
  | zero =>
    intro x hx hp
    obtain rfl : x = 32 := by omega
    unfold r23_Changed.l8 r23_Changed.l8.step
    rw [br_f (lt_f (by omega))]
    exact hk0 hp
  | succ j ih =>
    intro x hx hp
    have hx' : x < 32 := by omega
    have hadd : addI .i64 (x : Int) 1 = ((x + 1 : Nat) : Int) := by rw [add_i64 (by omega) (by omega)]; omega
    unfold r23_Changed.l8 r23_Changed.l8.step
    rw [br_t (lt_t (by omega)), gd_t (by rw [le_t (by omega), lt_t (by omega)]; rfl), gd_t (by rw [le_t (by omega), lt_t (by omega)]; rfl), Int.toNat_natCast, hadd]
    by_cases e : (Fa x 0).toI = (Fb x 0).toI ∧ (Fa x 1).toI = (Fb x 1).toI
    · rw [br_f (by rw [eq_t e.1, eq_t e.2]; rfl)]
      exact ih (x + 1) (by omega) (by rw [chF, if_pos e]; exact hp)
    · rw [br_t (by
        by_cases q : (Fa x 0).toI = (Fb x 0).toI
        · rw [eq_t q, eq_f fun q2 => e ⟨q, q2⟩]; rfl
        · rw [eq_f q]; rfl), gd_t (show (leI 0 (x : Int) && ltI (x : Int) 32) = true by rw [le_t (by omega), lt_t (by omega)]; rfl)]
      have e1 : chF Fa Fb (0, z2) (x + 1) = (1, rowF x (Fb x 0).toI (Fb x 1).toI) := by rw [chF, if_neg e, hp]; rfl
      have := df1 (ga := ga) (gb := gb) (0, z2) (by decide) k hk j (x + 1) (by omega) (by rw [e1]; exact Nat.le_refl _)
      rw [e1] at this
      exact this
theorem dchanged_is (K : Nat → (Nat → Nat → Lf) → Prop) (hK : K (chF Fa Fb (chX ga gb 32) 32).1 (chF Fa Fb (chX ga gb 32) 32).2) : r23_Changed ga Fa gb Fb K := by
  rw [r23_Changed.is]; unfold r23_Changed.d
  refine ⟨33, dx0 _ _ (fun hz => ⟨33, ?_⟩) (fun hp => ⟨33, df1 (ga := ga) (gb := gb) (chX ga gb 32) (chX_le ga gb 32) _ (fun _ => hK) 32 0 (by omega) hp⟩) 32 0 (by omega) rfl⟩
  rw [hz] at hK
  refine df0 (ga := ga) (gb := gb) _ _ (fun hf => ?_) (fun _ => hK) 32 0 (by omega) rfl
  rw [hf] at hK
  exact hK
end document
end Go.Ev.S

/- The registers: RegsPlays. -/
set_option linter.unusedVariables false
set_option linter.unusedSimpArgs false
set_option maxRecDepth 20000
namespace Go.Ev.S
open Go Go.Ev
theorem list_self (n : Nat) (hn : n ≤ 64) (h : Nat → Nat → Lf) (k0 : Bool → Prop) (k1 : Prop) (hk : k1) : ∀ (j i : Nat), i + j = n → law23_RegsPlays.l21 k0 k1 (j + 1) n h n h (i : Int) := by
  intro j
  induction j with
  | zero =>
    intro i hi
    obtain rfl : i = n := by omega
    unfold law23_RegsPlays.l21 law23_RegsPlays.l21.step
    rw [br_f (lt_f (by omega))]
    exact hk
  | succ j ih =>
    intro i hi
    have hadd : addI .i64 (i : Int) 1 = ((i + 1 : Nat) : Int) := by rw [add_i64 (by omega) (by omega)]; omega
    unfold law23_RegsPlays.l21 law23_RegsPlays.l21.step
    rw [br_t (lt_t (by omega)), gd_t (by rw [le_t (by omega), lt_t (by omega)]; rfl), gd_t (by rw [le_t (by omega), lt_t (by omega)]; rfl), Int.toNat_natCast, hadd]
    rw [br_f (by rw [beq_self, eq_t rfl, eq_t rfl, eq_t rfl, eq_t rfl]; rfl)]
    exact ih (i + 1) (by omega)
theorem twin_from (g : Nat → Int) (F : Nat → Nat → Lf) (hF : ∀ i, i < 32 → ∃ w : Nat, w < 2 ^ 128 ∧ (F i 0).toI = Hi w ∧ (F i 1).toI = Lo w) : Twin (upd g 0 0) F (upd g 0 0) F :=
  ⟨fun _ _ => rfl, upd_same _ _ _, fun i hi => by obtain ⟨w, h1, h2, h3⟩ := hF i hi; exact ⟨w, h1, h2, h3, h2, h3⟩⟩
theorem Twin.toIs {g : Nat → Int} {F : Nat → Nat → Lf} {g' : Nat → Int} {F' : Nat → Nat → Lf} (t : Twin g F g' F') : ∀ i, i < 32 → (F i 0).toI = (F' i 0).toI ∧ (F i 1).toI = (F' i 1).toI := fun i hi => by
  obtain ⟨w, _, h1, h2, h3, h4⟩ := t.f i hi
  exact ⟨h1.trans h3.symm, h2.trans h4.symm⟩
theorem dfrom_ok (g : Nat → Int) (F : Nat → Nat → Lf) (K : (Nat → Int) → (Nat → Nat → Lf) → Prop) : r23_From g F K = K (upd g 0 0) F := by
  rw [r23_From.is]; rfl
theorem regsPlays_core (a0_0 : Nat → Int) (a0_1 : Nat → Nat → Lf) (a1_0 : Nat → Int) (a1_1 : Nat → Nat → Lf) (n : Nat) (sc : Nat → Nat → Lf)
    (h0 : ∀ i, i < 32 → ∃ w : Nat, w < 2 ^ 128 ∧ (a0_1 i 0).toI = Hi w ∧ (a0_1 i 1).toI = Lo w) (h1 : ∀ i, i < 32 → ∃ w : Nat, w < 2 ^ 128 ∧ (a1_1 i 0).toI = Hi w ∧ (a1_1 i 1).toI = Lo w)
    (hs : ∀ i, i < n → okS (sc i)) (K : Bool → Prop) (hK : K true) : law23_RegsPlays a0_0 a0_1 a1_0 a1_1 n sc K := by
  have hal : law23_lives fun y0 => K y0 := lives_ok _ hK
  rw [law23_RegsPlays.is]; unfold law23_RegsPlays.d
  rw [rfrom_ok, rfrom_ok, dfrom_ok, dfrom_ok]
  by_cases hn : 300 < n
  · rw [br_t (lt_t (by omega))]; exact hal
  rw [br_f (lt_f (by omega))]
  refine ⟨n + 1, plays_loop n (by omega) sc hs _ _ (fun g0 F0 g1 F1 g0' F0' g1' F1' t0 t1 => ?_) n 0 _ _ _ _ _ _ _ _ (by omega) (twin_from _ _ h0) (twin_from _ _ h1)⟩
  refine changed_is _ (dchanged_is _ ?_)
  have e : chF F0' F1' (chX g0' g1' 32) 32 = chF F0 F1 (chX g0 g1 32) 32 := by
    rw [← chX_eq t0.x t1.x 32 (Nat.le_refl _), ← chF_eq t0.toIs t1.toIs _ 32 (Nat.le_refl _)]
  rw [e, br_f (show (!eqI 0 0) = false from rfl), br_f (by rw [eq_t rfl]; rfl)]
  have h1 := chX_le g0 g1 32
  have h2 := chF_le F0 F1 (chX g0 g1 32) 32
  exact ⟨_, list_self (chF F0 F1 (chX g0 g1 32) 32).1 (by omega) (chF F0 F1 (chX g0 g1 32) 32).2 _ _ hal (chF F0 F1 (chX g0 g1 32) 32).1 0 (by omega)⟩
end Go.Ev.S

/- The registers: RegsPlays, as its row wants it. -/
set_option linter.unusedVariables false
set_option linter.unusedSimpArgs false
set_option maxRecDepth 20000
namespace Go.Ev.S
open Go Go.Ev
theorem okS_of (r : Nat → Lf) (h : Sk.has (.agg [.int .i64, .int .i64, .int .i64, .int .u64, .agg [.int .u64, .int .u64], .int .u8, .sl (.agg [.bool, .int .i64, .int .u64, .agg [.int .u64, .int .u64]])]) 0 r)
    (m : Sk.lim 40 (.agg [.int .i64, .int .i64, .int .i64, .int .u64, .agg [.int .u64, .int .u64], .int .u8, .sl (.agg [.bool, .int .i64, .int .u64, .agg [.int .u64, .int .u64]])]) 0 r) : okS r := by
  simp only [Sk.has, Sk.hasL, Sk.shape, Sk.shapeL, Shape.size, Shape.sizeL] at h
  simp only [Sk.lim, Sk.limL, Sk.shape, Sk.shapeL, Shape.size, Shape.sizeL] at m
  obtain ⟨-, -, -, -, ⟨b0, b1, -⟩, f, ⟨-, rows⟩, -⟩ := h
  obtain ⟨-, -, -, -, -, -, ⟨ml, -⟩, -⟩ := m
  refine ⟨pair_of b0 b1, ?_, ?_, fun i hi => ?_⟩
  · obtain ⟨n, hn, _⟩ := u8_of f
    exact ⟨n, hn⟩
  · have hr : reachBytes = 140737488351232 := rfl
    rw [hr] at ml
    have : (r 7).len * 40 ≤ 140737488351232 := ml
    omega
  · obtain ⟨-, -, -, ⟨c0, c1, -⟩, -⟩ := rows i hi
    exact pair_of c0 c1
theorem regsPlays (a0_0 : Nat → Int) (a0_1 : Nat → Nat → Lf) (a1_0 : Nat → Int) (a1_1 : Nat → Nat → Lf) (a2n : Nat) (a2 : Nat → Nat → Lf)
    (_ : ∀ i, i < 32 → (Lit.int .u64 (a0_0 i)).wf = true) (_ : ∀ i, 32 ≤ i → a0_0 i = 0) (h0 : ∀ i, i < 32 → Sk.has (.agg [.int .u64, .int .u64]) 0 (a0_1 i))
    (_ : ∀ i, i < 32 → (Lit.int .u64 (a1_0 i)).wf = true) (_ : ∀ i, 32 ≤ i → a1_0 i = 0) (h1 : ∀ i, i < 32 → Sk.has (.agg [.int .u64, .int .u64]) 0 (a1_1 i))
    (hl : a2n * 40 ≤ reachBytes ∧ ∀ i, i < a2n → Sk.lim 40 (.agg [.int .i64, .int .i64, .int .i64, .int .u64, .agg [.int .u64, .int .u64], .int .u8, .sl (.agg [.bool, .int .i64, .int .u64, .agg [.int .u64, .int .u64]])]) 0 (a2 i))
    (hs : ∀ i, i < a2n → Sk.has (.agg [.int .i64, .int .i64, .int .i64, .int .u64, .agg [.int .u64, .int .u64], .int .u8, .sl (.agg [.bool, .int .i64, .int .u64, .agg [.int .u64, .int .u64]])]) 0 (a2 i)) (K : Bool → Prop) (hK : K true) :
    law23_RegsPlays a0_0 a0_1 a1_0 a1_1 a2n a2 K := by
  refine regsPlays_core a0_0 a0_1 a1_0 a1_1 a2n a2 (fun i hi => ?_) (fun i hi => ?_) (fun i hi => okS_of _ (hs i hi) (hl.2 i hi)) K hK
  · have := h0 i hi
    simp only [Sk.has, Sk.hasL, Sk.shape, Shape.size] at this
    exact pair_of this.1 this.2.1
  · have := h1 i hi
    simp only [Sk.has, Sk.hasL, Sk.shape, Shape.size] at this
    exact pair_of this.1 this.2.1
end Go.Ev.S
