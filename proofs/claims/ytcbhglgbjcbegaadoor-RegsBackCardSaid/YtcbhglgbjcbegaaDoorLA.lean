/- Functions of Go's library by contracts that are proved elsewhere: that they fit the evaluator. -/
import Derived.Test.YtcbhglgbjcbegaaDoorEvD
import Derived.Below
import Derived.Sort.Grow
import Derived.Deep.Draws
import Derived.Lib.LaidTab
import Derived.Stop.LaidErr
import Derived.Test.YtcbhglgbjcbegaaDoorDA
import Derived.Shelf.Strconv.Itoa4
import Derived.Shelf.Strconv.AtoiAll
import Derived.Shelf.Strings.Search1
import Derived.KernelRfl
set_option linter.unusedVariables false
set_option linter.unusedSimpArgs false
namespace Go.Ev.S
open Go Go.Ev Go.RowKit Go.Sort
theorem ext_below {ρ : Ren} {H : Heap} {w w' : World} (hS : Sim ρ H w) (h : Below w.heap.size w w') : Ext ρ w ρ w' ∧ Sim ρ H w' := by
  have hx : Ext ρ w ρ w' := ⟨h.os, h.tape, h.output, h.size, fun b hb _ => h.block b hb, fun _ _ hh => hh, fun _ _ hh => hh, fun _ _ hh => .inl hh, fun b cs e fz hh =>
    ⟨cs, e, fz, (h.block b (by rw [Array.getElem?_eq_some_iff] at hh; exact hh.1)).trans hh, rfl⟩⟩
  refine ⟨hx, hS.len, fun b hb => Nat.lt_of_lt_of_le (hS.fl b hb) h.size, fun b r hb => Nat.lt_of_lt_of_le (hS.lt b r hb) h.size, hS.sep, hS.nodup, fun b v hb => ?_⟩
  obtain ⟨r, h1, h2, cs, e, fz, x, h3, h4, h5, h6, h7⟩ := hS.live b v hb
  have hbl := h.block r.mb (hS.lt b r h1)
  exact ⟨r, h1, h2, cs, e, fz, x, hbl.trans h3, h4, Rel.ext hx _ _ h5, h6, h7.keep hbl⟩
theorem mbs_lt {ρ : Ren} {H : Heap} {w : World} (hS : Sim ρ H w) : ∀ b, b ∈ ρ.mbs → b < w.heap.size := by
  intro b hb
  rcases List.mem_append.1 hb with h | h
  · exact hS.fl b h
  · obtain ⟨c, r, hr, rfl⟩ := own_mem h
    exact hS.lt c r hr
theorem SoundE.shelf {P : Program} {gl : Nat → Option EV} {f : FuncId} {en : Entry} (hk : ∃ fn, P.funcs[f]? = some fn ∧ fn.body.isNone = false ∧ (fn.name == "runtime.NumGoroutine") = false)
    (hd : ∀ args H, Det2 (en.spec args H))
    (hs : ∀ (ρ : Ren) (H : Heap) (w : World) (args : List EV) (xs : List Value) (K : EV → Heap → Prop), en.spec args H K → RelL ρ w args xs → GOk gl ρ w → (∀ b, b ∈ ρ.mbs → b < w.heap.size) →
      Calls P f xs.toArray w fun e w' => (∃ v x, e = .returned x ∧ K v H ∧ Rel ρ w' v x) ∧ Below w.heap.size w w') : SoundE P gl f en := by
  refine ⟨?_, hd, hk⟩
  intro ρ H w args xs K h hr hS hG
  refine (hs ρ H w args xs K h hr hG (mbs_lt hS)).mono ?_
  rintro e w' ⟨⟨v, x, he, hK, hv⟩, hb⟩
  obtain ⟨h1, h2⟩ := ext_below hS hb
  exact ⟨v, x, H, ρ, he, hK, hv, h2, h1, rfl⟩
theorem below_grow (w : World) (k : Nat) (os : Array Obj) : Below w.heap.size w (grow (w.drewN k) os) := by
  refine ⟨rfl, rfl, rfl, ?_, fun b hb => ?_⟩
  · show _ ≤ (w.heap ++ os).size; rw [Array.size_append]; omega
  · show (w.heap ++ os)[b]? = _; rw [Array.getElem?_append_left hb]
theorem tabIs_of {P : Program} {gl : Nat → Option EV} {ρ : Ren} {w : World} {nm : String} {g n : Nat} {k : IntKind} {zs : List Int} {T : Nat → Int} (hG : GOk gl ρ w) (hg : P.globalNamed nm = some g) (hv : gl g = some (.arr k n T)) (hT : T = fun i => zs.getD i 0) (hn : zs.length = n) :
    Go.Lib.TabIs P w nm k zs := by
  obtain ⟨_, h1, h2⟩ := hG g _ hv
  obtain ⟨cs, t, fz, h3, h4⟩ := h2 k n T rfl
  obtain ⟨b, o, y, e, hy, hb, hm, hc⟩ := h1
  cases e
  have hy' : y = .agg (ints k n T).toArray := hy
  subst hy'
  unfold Go.Lib.TabIs World.var?
  rw [hg]
  show (match w.heap[g]? with | some (.cells cs _ _) => some cs | _ => none) = _
  rw [h3]
  show some cs = _
  congr 1
  apply Array.ext_getElem?
  intro i
  by_cases hi : i < n
  · have h5 := hc i (by simpa [Value.cells, ints_length] using hi)
    rw [Nat.zero_add] at h5
    have h6 : w.cell? ⟨g, i, none⟩ = cs[i]? := by
      simp only [World.cell?, h3]; rfl
    rw [h6] at h5
    rw [h5]
    simp only [Value.cells, List.getElem?_toArray]
    rw [ints_get _ _ _ _ hi, hT]
    simp [List.getD, List.getElem?_eq_getElem (show i < zs.length by omega)]
  · rw [Array.getElem?_eq_none (by omega), Array.getElem?_eq_none (by simp; omega)]
noncomputable def tab_pow10 : Nat → Int := Classical.choose (⟨fun i => Go.Lib.pow10Tab.getD i 0, rfl⟩ : ∃ f, f = fun i => Go.Lib.pow10Tab.getD i 0)
theorem tab_pow10_is : tab_pow10 = fun i => Go.Lib.pow10Tab.getD i 0 := Classical.choose_spec (⟨fun i => Go.Lib.pow10Tab.getD i 0, rfl⟩ : ∃ f, f = fun i => Go.Lib.pow10Tab.getD i 0)
noncomputable def e_strconv_Itoa : Entry := ⟨[none], false, fun args H K => match args, H with
  | [.int .i64 a0], [] => strconv_Itoa a0 (fun y0 => K (EV.str y0) [])
  | _, _ => False⟩
theorem itoa_ok {P : Program} {r : Go.Shelf.Ren} (L : Go.Proofs.LaysM.n171 P r) {gl : Nat → Option EV} {f g : Nat} (hf : r.f 171 = f) (hg : P.globalNamed "internal/strconv.uint64pow10" = some g) (hv : gl g = some (.arr .u64 20 tab_pow10))
    (hk : ∃ fn, P.funcs[f]? = some fn ∧ fn.body.isNone = false ∧ (fn.name == "runtime.NumGoroutine") = false) : SoundE P gl f e_strconv_Itoa := by
  subst hf
  refine SoundE.shelf hk (fun args H K h => ?_) ?_
  · simp only [e_strconv_Itoa] at h ⊢
    split at h
    · rw [strconv_Itoa.is] at h ⊢
      obtain ⟨h1, h2⟩ := h
      exact ⟨_, _, h2, fun K' hk => ⟨h1, hk⟩⟩
    · exact h.elim
  · intro ρ H w args xs K h hr hG hm
    simp only [e_strconv_Itoa] at h
    split at h
    · rename_i a0
      rw [strconv_Itoa.is] at h
      obtain ⟨⟨h1, h2⟩, h3⟩ := h
      obtain ⟨x, ys, rfl, hx, hys⟩ := hr
      obtain rfl : ys = [] := hys
      obtain rfl : x = .int .i64 a0 := hx
      refine (Go.Proofs.Any.strconv_Itoa L a0 h1 h2 w (tabIs_of hG hg hv tab_pow10_is (by rw [Go.Lib.pow10Tab_length]))).mono ?_
      rintro e w' ⟨rfl, k, os, rfl⟩
      exact ⟨⟨_, _, rfl, h3, rfl⟩, below_grow _ _ _⟩
    · exact h.elim
noncomputable def e_strconv_Atoi' (T : Nat) : Entry := ⟨[none], false, fun args H K => match args, H with
  | [.str a0], [] => strconv_Atoi a0 (fun y0 => K (EV.tuple [EV.int IntKind.i64 y0, EV.nilIface]) []) (fun y0 => K (EV.tuple [EV.int IntKind.i64 y0, EV.iface T (EV.rref (EV.str [65, 116, 111, 105]))]) [])
  | _, _ => False⟩
theorem below_bytes (w : World) (t : Nat) (s : ByteArray) : Below w.heap.size w (Go.Lib.bytesWorld w t s) := by
  unfold Go.Lib.bytesWorld
  refine ⟨rfl, rfl, rfl, ?_, fun b hb => ?_⟩
  · show w.heap.size ≤ (Array.modify (w.heap.push _) _ _).size
    rw [Array.size_modify, Array.size_push]; omega
  · show (Array.modify (w.heap.push _) w.heap.size _)[b]? = w.heap[b]?
    rw [Array.getElem?_modify, if_neg (by omega), Array.getElem?_push, if_neg (by omega)]
theorem atoi_ok {P : Program} {r : Go.Shelf.Ren} (L : Go.Proofs.LaysC.n172 P r) {gl : Nat → Option EV} {f T : Nat} (hf : r.f 172 = f) (hT : r.t 168 = T) {t1 t2 : Nat} {v1 v2 : EV} (hg : gl (r.g 15) = some (.iface t1 v1)) (hh : gl (r.g 16) = some (.iface t2 v2))
    (hk : ∃ fn, P.funcs[f]? = some fn ∧ fn.body.isNone = false ∧ (fn.name == "runtime.NumGoroutine") = false) : SoundE P gl f (e_strconv_Atoi' T) := by
  subst hf hT
  refine SoundE.shelf hk (fun args H K h => ?_) ?_
  · simp only [e_strconv_Atoi'] at h ⊢
    split at h
    · rw [strconv_Atoi.is] at h ⊢
      unfold strconv_Atoi.d at h ⊢
      obtain ⟨h1, h2⟩ := h
      split at h2
      · exact ⟨_, _, h2, fun K' hk => ⟨h1, hk⟩⟩
      · exact ⟨_, _, h2, fun K' hk => ⟨h1, hk⟩⟩
      · exact ⟨_, _, h2, fun K' hk => ⟨h1, hk⟩⟩
    · exact h.elim
  · intro ρ H w args xs K h hr hG hm
    have cellOf : ∀ {g t v}, gl g = some (.iface t v) → ∃ ev, w.cell? ⟨g, 0, none⟩ = some ev ∧ (ev = .nilIface ∨ ∃ te pe, ev = .iface te pe) := by
      intro g t v hv
      obtain ⟨_, ⟨b, o, y, e, hy, _, _, hc⟩, _⟩ := hG g _ hv
      cases e
      obtain ⟨z, rfl, _⟩ := hy
      exact ⟨.iface t z, (hc 0 (by simp [Value.cells])).trans rfl, .inr ⟨t, z, rfl⟩⟩
    have err : ∀ {s : ByteArray} {ev : Value} {N : Nat} {w' : World}, w.heap.size ≤ N → w'.heap[N]? = some (.cells #[.string ⟨#[65, 116, 111, 105]⟩, .string s, ev] (r.t 210) (0, 0)) → Below w.heap.size w w' →
        Rel ρ w' (.iface (r.t 168) (.rref (.str [65, 116, 111, 105]))) (.iface (r.t 168) (.pointer (some ⟨N, 0, none⟩))) := by
      intro s ev N w' h1 h2 h3
      refine ⟨_, rfl, N, 0, .string ⟨#[65, 116, 111, 105]⟩, rfl, rfl, ?_, fun hh => ?_, ?_⟩
      · rw [Array.getElem?_eq_some_iff] at h2; exact h2.1
      · have := hm _ hh; omega
      · intro i hi
        have hi0 : i = 0 := by simpa [Value.cells] using hi
        subst hi0
        simp only [World.cell?, h2]; rfl
    simp only [e_strconv_Atoi'] at h
    split at h
    · rename_i a0
      rw [strconv_Atoi.is] at h
      unfold strconv_Atoi.d at h
      obtain ⟨h1, h3⟩ := h
      obtain ⟨x, ys, rfl, hx, hys⟩ := hr
      obtain rfl : ys = [] := hys
      obtain rfl : x = .string ⟨a0.toArray⟩ := hx
      have hsz : (⟨a0.toArray⟩ : ByteArray).size = a0.length := by simp [ByteArray.size]
      have hl : (⟨a0.toArray⟩ : ByteArray).data.toList = a0 := by simp
      cases hA : Go.Lib.atoiAll a0 with
      | ok v =>
        rw [hA] at h3
        refine (Go.Proofs.Any.strconv_Atoi_ok L _ (by rw [hsz]; omega) v (by rw [hl]; exact hA) w).mono ?_
        rintro e w' ⟨rfl, hw⟩
        refine ⟨⟨_, _, rfl, h3, _, rfl, _, _, rfl, rfl, _, _, rfl, rfl, rfl⟩, ?_⟩
        rcases hw with rfl | ⟨t, rfl⟩
        · exact Below.refl _ _
        · exact below_bytes _ _ _
      | range =>
        rw [hA] at h3
        obtain ⟨ev, hv, hev⟩ := cellOf hh
        refine (Go.Proofs.Any.strconv_Atoi_range L _ (by rw [hsz]; exact h1) (by rw [hl]; exact hA) ev w hv hev).mono ?_
        rintro e w' ⟨N, rfl, k1, k2, k3⟩
        rw [hl] at *
        exact ⟨⟨_, _, rfl, h3, _, rfl, _, _, rfl, rfl, _, _, rfl, err k1 k2 k3, rfl⟩, k3⟩
      | _ =>
        rw [hA] at h3
        obtain ⟨ev, hv, hev⟩ := cellOf hg
        refine (Go.Proofs.Any.strconv_Atoi_syntax L _ (by rw [hsz]; exact h1) (by rw [hl]; exact hA) ev w hv hev).mono ?_
        rintro e w' ⟨N, rfl, k1, k2, k3⟩
        exact ⟨⟨_, _, rfl, h3, _, rfl, _, _, rfl, rfl, _, _, rfl, err k1 k2 k3, rfl⟩, k3⟩
    · exact h.elim
theorem err_ok {P : Program} {n nm : String} {text : List UInt8} {r : List (String × DataW Unit)} {W : World} {g : Nat} {ti tp te ts : TypeId} {ms : Array (String × TypeId)} {f : Field}
    (h : laidMet P ((n, .iface nm (.ptr (.agg [.lit (.string text)]))) :: r) W)
    (hg : P.globalNamed n = some g) (ht : (P.globals[g]?).map (·.type) = some ti) (hi : P.underlying ti = some (.interface ms)) (hrow : ∀ u, P.typeName? 3 u = some nm → u = tp)
    (hp : P.underlying tp = some (.pointer te)) (he : P.underlying te = some (.struct #[f])) (hft : f.type = ts) (hfo : f.offset = 0) (hs : P.underlying ts = some .string) (hc : P.cellsOf te = 1) (hcs : P.cellsOf ts = 1) :
    Rel ⟨[], []⟩ W (.rref (.iface tp (.rref (.str text)))) (.pointer (some ⟨g, 0, none⟩)) ∧ ∀ k' n' f', EV.iface tp (.rref (.str text)) = .arr k' n' f' → ∃ cs t fz, W.heap[g]? = some (.cells cs t fz) ∧ cs.size = n' := by
  obtain ⟨a, s, hv, hcl, hst, _⟩ := laid_sentinel h hg ht hi hrow hp he hft hfo hs hc hcs
  refine ⟨?_, fun _ _ _ hh => by cases hh⟩
  obtain ⟨b, o, sp⟩ := a
  have hb : b < W.heap.size ∧ sp = none := by
    unfold World.cell? at hcl
    cases hw : W.heap[b]? with
    | none => rw [hw] at hcl; cases hcl
    | some c =>
      refine ⟨(Array.getElem?_eq_some_iff.1 hw).1, ?_⟩
      rw [hw] at hcl
      cases sp with
      | none => rfl
      | some q => cases c <;> simp at hcl
  obtain ⟨hb, rfl⟩ := hb
  have hgs : g < W.heap.size := by
    unfold World.var? at hv
    simp only [hg, Option.bind_some] at hv
    cases hw : W.heap[g]? with
    | none => rw [hw] at hv; cases hv
    | some c => exact (Array.getElem?_eq_some_iff.1 hw).1
  have hse : s = ⟨text.toArray⟩ := by
    obtain ⟨d⟩ := s
    have : d.toList = text := hst
    rw [← this]
  subst hse
  refine ⟨g, 0, .iface tp (.pointer (some ⟨b, o, none⟩)), rfl, ⟨_, rfl, b, o, .string ⟨text.toArray⟩, rfl, rfl, hb, by simp [Ren.mbs, Ren.own], ?_⟩, hgs, by simp [Ren.mbs, Ren.own], ?_⟩
  · intro i hi0
    have h0 : i = 0 := by simpa [Value.cells] using hi0
    subst h0
    exact hcl.trans rfl
  · intro i hi0
    have h0 : i = 0 := by simpa [Value.cells] using hi0
    subst h0
    rw [World.var?_cell hg hv]; rfl
end Go.Ev.S

/- Numbers of several words as natural ones; bits set one by one. -/
set_option linter.unusedVariables false
set_option linter.unusedSimpArgs false
namespace Go.Ev.S
open Go Go.Ev
theorem sh_ok {i : Int} (h : 0 ≤ i) : (!ltI i 0) = true := by rw [lt_f h]; rfl
theorem eq_nat (a b : Nat) : eqI (a : Int) (b : Int) = decide (a = b) := by
  by_cases h : a = b
  · subst h; simp [eqI]
  · rw [eq_f (by omega)]; simp [h]
def wd (x i : Nat) : Nat := x / 2 ^ (64 * i) % 18446744073709551616
def W (x : Nat) : Nat → Int := fun i => ((wd x i : Nat) : Int)
def Hi (x : Nat) : Int := ((x / 18446744073709551616 : Nat) : Int)
def Lo (x : Nat) : Int := ((x % 18446744073709551616 : Nat) : Int)
def two (hi lo : Nat) : Nat := hi * 18446744073709551616 + lo
theorem Hi_two {hi lo : Nat} (h : lo < 18446744073709551616) : Hi (two hi lo) = hi := by unfold Hi two; congr 1; omega
theorem Lo_two {hi lo : Nat} (h : lo < 18446744073709551616) : Lo (two hi lo) = lo := by unfold Lo two; congr 1; omega
theorem two_lt {hi lo : Nat} (h : hi < 18446744073709551616) (h2 : lo < 18446744073709551616) : two hi lo < 2 ^ 128 := by
  unfold two; rw [show (2 : Nat) ^ 128 = 340282366920938463463374607431768211456 from rfl]; omega
theorem hi_lt {x : Nat} (h : x < 2 ^ 128) : x / 18446744073709551616 < 18446744073709551616 := by
  rw [show (2 : Nat) ^ 128 = 340282366920938463463374607431768211456 from rfl] at h; omega
theorem lo_lt (x : Nat) : x % 18446744073709551616 < 18446744073709551616 := Nat.mod_lt _ (by omega)
theorem hi_bit (x j : Nat) : (x / 18446744073709551616).testBit j = x.testBit (64 + j) := by
  rw [show (18446744073709551616 : Nat) = 2 ^ 64 from rfl, Nat.testBit_div_two_pow, Nat.add_comm]
theorem lo_bit (x j : Nat) : (x % 18446744073709551616).testBit j = (decide (j < 64) && x.testBit j) := by
  rw [show (18446744073709551616 : Nat) = 2 ^ 64 from rfl, Nat.testBit_mod_two_pow]
theorem pair_eq (x y : Nat) : (eqI (Hi x) (Hi y) && eqI (Lo x) (Lo y)) = decide (x = y) := by
  unfold Hi Lo
  rw [eq_nat, eq_nat]
  by_cases h : x = y
  · subst h; simp
  · have : ¬ (x / 18446744073709551616 = y / 18446744073709551616 ∧ x % 18446744073709551616 = y % 18446744073709551616) := by omega
    rw [← Bool.decide_and]
    simp [h, this]
theorem op_two (f : Bool → Bool → Bool) (op : Nat → Nat → Nat) (hop : ∀ a b j, (op a b).testBit j = f (a.testBit j) (b.testBit j)) (hf : f false false = false) (x y : Nat) :
    op x y / 18446744073709551616 = op (x / 18446744073709551616) (y / 18446744073709551616) ∧ op x y % 18446744073709551616 = op (x % 18446744073709551616) (y % 18446744073709551616) := by
  constructor
  · apply Nat.eq_of_testBit_eq; intro j; rw [hi_bit, hop, hop, hi_bit, hi_bit]
  · apply Nat.eq_of_testBit_eq; intro j; rw [lo_bit, hop, hop, lo_bit, lo_bit]
    by_cases hj : j < 64
    · simp [hj]
    · simp [hj, hf]
theorem and_two (x y : Nat) (hx : x < 2 ^ 128) (hy : y < 2 ^ 128) : andI .u64 (Hi x) (Hi y) = Hi (x &&& y) ∧ andI .u64 (Lo x) (Lo y) = Lo (x &&& y) := by
  obtain ⟨h1, h2⟩ := op_two (· && ·) (· &&& ·) (fun a b j => Nat.testBit_and a b j) rfl x y
  unfold Hi Lo
  exact ⟨by rw [and_nat _ _ (hi_lt hx) (hi_lt hy)]; exact congrArg _ h1.symm, by rw [and_nat _ _ (lo_lt x) (lo_lt y)]; exact congrArg _ h2.symm⟩
theorem or_two (x y : Nat) (hx : x < 2 ^ 128) (hy : y < 2 ^ 128) : orI .u64 (Hi x) (Hi y) = Hi (x ||| y) ∧ orI .u64 (Lo x) (Lo y) = Lo (x ||| y) := by
  obtain ⟨h1, h2⟩ := op_two (· || ·) (· ||| ·) (fun a b j => Nat.testBit_or a b j) rfl x y
  unfold Hi Lo
  exact ⟨by rw [or_nat _ _ (hi_lt hx) (hi_lt hy)]; exact congrArg _ h1.symm, by rw [or_nat _ _ (lo_lt x) (lo_lt y)]; exact congrArg _ h2.symm⟩
end Go.Ev.S

/- Digits of natural numbers, as rows have them; texts of bytes as numbers. -/
set_option linter.unusedVariables false
set_option linter.unusedSimpArgs false
namespace Go.Ev.S
open Go Go.Ev
def dg (k x i : Nat) : Nat := x / 2 ^ (k * i) % 2 ^ k
def G (k x : Nat) : Nat → Int := fun i => ((dg k x i : Nat) : Int)
def val (a : List UInt8) : Nat := a.foldl (fun v b => v * 256 + b.toNat) 0
def nb (x : Nat) : List UInt8 := if h : x = 0 then [] else nb (x / 256) ++ [UInt8.ofNat (x % 256)]
decreasing_by omega
def lead (a : List UInt8) : Bool := match a with | [] => true | b :: _ => !(b.toNat == 0)
end Go.Ev.S

/- Rows of digits: a digit set, carried, cut; bytes the highest first. Whole numbers of the machine, plainly. -/
set_option linter.unusedVariables false
set_option linter.unusedSimpArgs false
namespace Go.Ev.S
open Go Go.Ev
end Go.Ev.S

/- Natural numbers as rows of words: made of texts, told as texts, cut, held against each other. -/
set_option linter.unusedVariables false
set_option linter.unusedSimpArgs false
set_option maxRecDepth 8000
namespace Go.Ev.S
open Go Go.Ev
def May (a : List UInt8) : Prop := a.length ≤ 16384 ∧ lead a = true
instance (a : List UInt8) : Decidable (May a) := inferInstanceAs (Decidable (_ ∧ _))
end Go.Ev.S

/- Natural numbers as rows of words: sums, differences, products. -/
set_option linter.unusedVariables false
set_option linter.unusedSimpArgs false
set_option maxRecDepth 8000
namespace Go.Ev.S
open Go Go.Ev
end Go.Ev.S

/- The functions of natural numbers: held against each other, added, subtracted, multiplied; their texts. -/
set_option linter.unusedVariables false
set_option linter.unusedSimpArgs false
set_option maxRecDepth 8000
namespace Go.Ev.S
open Go Go.Ev
theorem eqS_dec (a b : List UInt8) : eqS a b = decide (a = b) := by
  unfold eqS
  by_cases h : a = b <;> simp [h]
def hexd (n : Nat) : UInt8 := UInt8.ofNat (if n < 10 then 48 + n else 87 + n)
def hx (x : Nat) : List UInt8 := if h : x = 0 then [] else hx (x / 16) ++ [hexd (x % 16)]
decreasing_by omega
end Go.Ev.S

/- What the document's answer reckons with words, bit by bit. -/
set_option linter.unusedVariables false
set_option linter.unusedSimpArgs false
namespace Go.Ev.S
open Go Go.Ev
def blen (a : Nat) : Nat := if a = 0 then 0 else a.log2 + 1
end Go.Ev.S

/- What the document's answer reckons with numbers of six words. -/
set_option linter.unusedVariables false
set_option linter.unusedSimpArgs false
set_option maxRecDepth 8000
namespace Go.Ev.S
open Go Go.Ev
end Go.Ev.S

/- What the abacus reckons with words and with numbers of six words. -/
set_option linter.unusedVariables false
set_option linter.unusedSimpArgs false
set_option maxRecDepth 8000
namespace Go.Ev.S
open Go Go.Ev
end Go.Ev.S

/- The lowest bit: of a word (the table of math/bits), of six words; a shift to the right with what fell off. -/
set_option linter.unusedVariables false
set_option linter.unusedSimpArgs false
set_option maxRecDepth 8000
namespace Go.Ev.S
open Go Go.Ev
end Go.Ev.S

/- Lengths, sums and the like: the abacus' words and six words. -/
set_option linter.unusedVariables false
set_option linter.unusedSimpArgs false
set_option maxRecDepth 8000
namespace Go.Ev.S
open Go Go.Ev
def part (z i : Nat) : Nat → Int := fun j => cond (Nat.ble i j) (W z j) 0
end Go.Ev.S

/- Natural numbers as rows of words: moved to the left and to the right; how long they are. -/
set_option linter.unusedVariables false
set_option linter.unusedSimpArgs false
set_option maxRecDepth 8000
namespace Go.Ev.S
open Go Go.Ev
end Go.Ev.S

/- Natural numbers as rows of words: divided. -/
set_option linter.unusedVariables false
set_option linter.unusedSimpArgs false
set_option maxRecDepth 8000
namespace Go.Ev.S
open Go Go.Ev
end Go.Ev.S

/- Natural numbers as rows of words: the loop of the long division. -/
set_option linter.unusedVariables false
set_option linter.unusedSimpArgs false
set_option maxRecDepth 8000
namespace Go.Ev.S
open Go Go.Ev
end Go.Ev.S

/- Natural numbers: quotients, greatest common divisors, roots. -/
set_option linter.unusedVariables false
set_option linter.unusedSimpArgs false
set_option maxRecDepth 8000
namespace Go.Ev.S
open Go Go.Ev
end Go.Ev.S

/- What the document's answer reckons with natural numbers, byte by byte. -/
set_option linter.unusedVariables false
set_option linter.unusedSimpArgs false
set_option maxRecDepth 8000
namespace Go.Ev.S
open Go Go.Ev
end Go.Ev.S

/- What the document's answer reckons with natural numbers: products. -/
set_option linter.unusedVariables false
set_option linter.unusedSimpArgs false
set_option maxRecDepth 8000
namespace Go.Ev.S
open Go Go.Ev
end Go.Ev.S

/- What the document's answer reckons with natural numbers: made, measured, moved. -/
set_option linter.unusedVariables false
set_option linter.unusedSimpArgs false
set_option maxRecDepth 8000
namespace Go.Ev.S
open Go Go.Ev
end Go.Ev.S

/- What the document's answer reckons with natural numbers: quotients, greatest common divisors, roots. -/
set_option linter.unusedVariables false
set_option linter.unusedSimpArgs false
set_option maxRecDepth 8000
namespace Go.Ev.S
open Go Go.Ev
end Go.Ev.S

/- The laws of natural numbers that need no quotient: sums, products, a ring. -/
set_option linter.unusedVariables false
set_option linter.unusedSimpArgs false
set_option maxRecDepth 8000
namespace Go.Ev.S
open Go Go.Ev
end Go.Ev.S

/- The law of shifts. -/
set_option linter.unusedVariables false
set_option linter.unusedSimpArgs false
set_option maxRecDepth 8000
namespace Go.Ev.S
open Go Go.Ev
end Go.Ev.S

/- The formats: their numbers, and the encodings that have names. -/
set_option linter.unusedVariables false
set_option linter.unusedSimpArgs false
set_option maxRecDepth 8000
namespace Go.Ev.S
open Go Go.Ev
def fw : Nat → Nat | 0 => 32 | 1 => 64 | 2 => 16 | 3 => 128 | _ => 0
def fp : Nat → Nat | 0 => 24 | 1 => 53 | 2 => 11 | 3 => 113 | _ => 0
def fe : Nat → Nat | 0 => 127 | 1 => 1023 | 2 => 15 | 3 => 16383 | _ => 0
def sg (f : Nat) (neg : Bool) : Nat := cond neg (2 ^ (fw f - 1)) 0
def enc (f : Nat) (neg : Bool) (e t : Nat) : Nat := sg f neg + e * 2 ^ (fp f - 1) + t
theorem four {f : Nat} (h : f ≤ 3) : f = 0 ∨ f = 1 ∨ f = 2 ∨ f = 3 := by omega
theorem shape_Check_ok (f : Nat) (h : f ≤ 3) (K : Int → Prop) : shape_Check f K = K 0 := by
  rw [shape_Check.is]; unfold shape_Check.d; rw [br_f (lt_f (by omega))]
theorem shape_Width_ok (f : Nat) (h : f ≤ 3) (K : Int → Prop) : shape_Width f K = K (fw f) := by
  rw [shape_Width.is]; unfold shape_Width.d; rw [shape_numbers.is]
  rcases four h with rfl | rfl | rfl | rfl <;> kernel_rfl
theorem shape_NaN_ok (f : Nat) (h : f ≤ 3) (K : Int → Int → Prop) : shape_NaN f K = K (Hi (enc f false (2 * fe f + 1) (2 ^ (fp f - 2)))) (Lo (enc f false (2 * fe f + 1) (2 ^ (fp f - 2)))) := by
  rw [shape_NaN.is]; unfold shape_NaN.d; rw [shape_Check.is, shape_Emax.is, shape_Precision.is, shape_at.is]; unfold shape_Emax.d shape_Precision.d; rw [shape_numbers.is]
  rcases four h with rfl | rfl | rfl | rfl <;> kernel_rfl
theorem shape_Fits_ok (f x : Nat) (h : f ≤ 3) (hx : x < 2 ^ 128) (K : Bool → Prop) : shape_Fits f (Hi x) (Lo x) K = K (decide (x < 2 ^ fw f)) := by
  rw [shape_Fits.is]; unfold shape_Fits.d
  have ez : eqI (Hi x) 0 = decide (x / 18446744073709551616 = 0) := by
    unfold Hi; rw [show (0 : Int) = ((0 : Nat) : Int) from rfl, eq_nat]
  have es : ∀ w : Nat, w < 64 → eqI (shrI .u64 (Lo x) (w : Int)) 0 = decide (x % 18446744073709551616 < 2 ^ w) := by
    intro w hw
    unfold Lo
    rw [shr_nat _ w hw, Nat.shiftRight_eq_div_pow, show (0 : Int) = ((0 : Nat) : Int) from rfl, eq_nat, decide_eq_decide, Nat.div_eq_zero_iff]
    have := Nat.two_pow_pos w
    omega
  have hx' : x < 340282366920938463463374607431768211456 := hx
  rcases four h with rfl | rfl | rfl | rfl
  · rw [br_f (by decide), br_f (by decide), br_t (by decide), br_t (by decide), ez, shape_Width_ok 0 (by omega)]
    show br (decide (x / 18446744073709551616 = 0)) (gd (!ltI (cvI IntKind.u64 ((32 : Nat) : Int)) 0) (K (eqI (shrI .u64 (Lo x) (cvI IntKind.u64 ((32 : Nat) : Int))) 0))) (K false) = K (decide (x < 2 ^ 32))
    rw [cv_u64 (by omega) (by omega), gd_t (sh_ok (by omega)), es 32 (by omega), show (2 : Nat) ^ 32 = 4294967296 from rfl]
    by_cases hq : x / 18446744073709551616 = 0
    · rw [br_t (by simp [hq])]; congr 1; rw [decide_eq_decide]; omega
    · rw [br_f (by simp [hq])]; congr 1; symm; rw [decide_eq_false_iff_not]; omega
  · rw [br_f (by decide), br_t (by decide), ez]
    show K _ = K (decide (x < 2 ^ 64))
    congr 1; rw [decide_eq_decide, show (2 : Nat) ^ 64 = 18446744073709551616 from rfl]; omega
  · rw [br_f (by decide), br_f (by decide), br_f (by decide), br_t (by decide), ez, shape_Width_ok 2 (by omega)]
    show br (decide (x / 18446744073709551616 = 0)) (gd (!ltI (cvI IntKind.u64 ((16 : Nat) : Int)) 0) (K (eqI (shrI .u64 (Lo x) (cvI IntKind.u64 ((16 : Nat) : Int))) 0))) (K false) = K (decide (x < 2 ^ 16))
    rw [cv_u64 (by omega) (by omega), gd_t (sh_ok (by omega)), es 16 (by omega), show (2 : Nat) ^ 16 = 65536 from rfl]
    by_cases hq : x / 18446744073709551616 = 0
    · rw [br_t (by simp [hq])]; congr 1; rw [decide_eq_decide]; omega
    · rw [br_f (by simp [hq])]; congr 1; symm; rw [decide_eq_false_iff_not]; omega
  · rw [br_t (by decide)]
    congr 1; symm; rw [decide_eq_true_eq]; exact hx
theorem shape_Fits_no (f : Nat) (h : 3 < f) (hi lo : Int) (K : Bool → Prop) : shape_Fits f hi lo K = K false := by
  rw [shape_Fits.is]; unfold shape_Fits.d
  rw [br_f (eq_f (by omega)), br_f (eq_f (by omega)), br_f (eq_f (by omega)), br_f (eq_f (by omega))]
end Go.Ev.S

/- The document's answer on formats: an encoding of its fields, and its fields. -/
set_option linter.unusedVariables false
set_option linter.unusedSimpArgs false
set_option maxRecDepth 8000
namespace Go.Ev.S
open Go Go.Ev
end Go.Ev.S

/- The plain law of ShapeMakes, and that of ShapeNumbers. -/
set_option linter.unusedVariables false
set_option linter.unusedSimpArgs false
set_option maxRecDepth 8000
namespace Go.Ev.S
open Go Go.Ev
end Go.Ev.S

/- Natural numbers made of words, told as words. -/
set_option linter.unusedVariables false
set_option linter.unusedSimpArgs false
set_option maxRecDepth 8000
namespace Go.Ev.S
open Go Go.Ev
end Go.Ev.S

/- Exact numbers: which may be; made, told. -/
set_option linter.unusedVariables false
set_option linter.unusedSimpArgs false
set_option maxRecDepth 8000
namespace Go.Ev.S
open Go Go.Ev
def fit (x : Nat) : Prop := (nb x).length ≤ 16384
instance (x : Nat) : Decidable (fit x) := by unfold fit; infer_instance
def win (e : Int) : Prop := -1048576 ≤ e ∧ e ≤ 1048576
instance (e : Int) : Decidable (win e) := by unfold win; infer_instance
structure MayE (n : Bool) (a b : List UInt8) (e : Int) : Prop where
  ma : May a
  mb : May b
  ob : val b % 2 = 1
  we : win e
  z : a = [] → n = false ∧ b = [1] ∧ e = 0
  r : a ≠ [] → val a % 2 = 1 ∧ Nat.gcd (val a) (val b) = 1
noncomputable instance (n : Bool) (a b : List UInt8) (e : Int) : Decidable (MayE n a b e) := Classical.propDecidable _
end Go.Ev.S

/- Exact numbers added, multiplied, compared, measured: the document's. -/
set_option linter.unusedVariables false
set_option linter.unusedSimpArgs false
set_option maxRecDepth 8000
namespace Go.Ev.S
open Go Go.Ev
def lv (a bd : Nat) (ae n : Int) : Nat := a * bd * 2 ^ (ae - n).toNat
section
variable {n1 n2 : Bool} {a1 b1 a2 b2 : Nat} {e1 e2 : Int}
end
end Go.Ev.S

/- Exact numbers scaled, measured, cut: the document's. -/
set_option linter.unusedVariables false
set_option linter.unusedSimpArgs false
set_option maxRecDepth 8000
namespace Go.Ev.S
open Go Go.Ev
def tp (a b : Nat) : Int :=
  if blen b ≤ blen a then (if b * 2 ^ (blen a - blen b) ≤ a then ((blen a - blen b : Nat) : Int) else ((blen a - blen b : Nat) : Int) - 1)
  else (if b ≤ a * 2 ^ (blen b - blen a) then -((blen b - blen a : Nat) : Int) else -((blen b - blen a : Nat) : Int) - 1)
end Go.Ev.S

/- Exact numbers added, multiplied, compared, measured: the abacus. -/
set_option linter.unusedVariables false
set_option linter.unusedSimpArgs false
set_option maxRecDepth 8000
namespace Go.Ev.S
open Go Go.Ev
section
variable {n1 n2 : Bool} {a1 b1 a2 b2 : Nat} {e1 e2 : Int}
end
end Go.Ev.S

/- Exact numbers as rational ones. -/
set_option linter.unusedVariables false
set_option linter.unusedSimpArgs false
set_option maxRecDepth 8000
namespace Go.Ev.S
open Go Go.Ev
def p2 (e : Int) : Rat := (2 : Rat) ^ e
end Go.Ev.S

/- Encodings, their fields and their signs: the abacus and the document's answer. -/
set_option linter.unusedVariables false
set_option linter.unusedSimpArgs false
set_option maxRecDepth 8000
namespace Go.Ev.S
open Go Go.Ev
def ng (f x : Nat) : Bool := x.testBit (fw f - 1)
def ex (f x : Nat) : Nat := x / 2 ^ (fp f - 1) % (2 * fe f + 2)
def fr (f x : Nat) : Nat := x % 2 ^ (fp f - 1)
def cls (f x : Nat) : Int :=
  if ex f x = 2 * fe f + 1 then (if fr f x ≠ 0 then cond ((fr f x).testBit (fp f - 2)) 9 8 else cond (ng f x) 0 7)
  else if ex f x ≠ 0 then cond (ng f x) 1 6 else if fr f x ≠ 0 then cond (ng f x) 2 5 else cond (ng f x) 3 4
end Go.Ev.S

/- Differences: of words, bit by bit; of numbers of six words. -/
set_option linter.unusedVariables false
set_option linter.unusedSimpArgs false
set_option maxRecDepth 8000
namespace Go.Ev.S
open Go Go.Ev
end Go.Ev.S

/- Quiet and next encodings: the abacus and the document's answer; the law KindSigns. -/
set_option linter.unusedVariables false
set_option linter.unusedSimpArgs false
set_option maxRecDepth 8000
namespace Go.Ev.S
open Go Go.Ev
def nanOf (f : Nat) : Nat := enc f false (2 * fe f + 1) (2 ^ (fp f - 2))
def quiet (f x : Nat) : Nat := if 8 ≤ cls f x then x ||| nanOf f else x
end Go.Ev.S

/- The parts of an encoding: the abacus and the document's answer. -/
set_option linter.unusedVariables false
set_option linter.unusedSimpArgs false
set_option maxRecDepth 8000
namespace Go.Ev.S
open Go Go.Ev
end Go.Ev.S

/- Signs put together, words and classes: the abacus and the document's answer; the laws of signs. -/
set_option linter.unusedVariables false
set_option linter.unusedSimpArgs false
set_option maxRecDepth 8000
namespace Go.Ev.S
open Go Go.Ev
end Go.Ev.S

/- The plain laws of SignWords and SignBack. -/
set_option linter.unusedVariables false
set_option linter.unusedSimpArgs false
set_option maxRecDepth 8000
namespace Go.Ev.S
open Go Go.Ev
def ext (w x : Nat) : Nat := cond (x.testBit (w - 1)) (x % 2 ^ w + (18446744073709551616 - 2 ^ w)) (x % 2 ^ w)
end Go.Ev.S

/- Encodings compared: what the functions come to. -/
set_option linter.unusedVariables false
set_option linter.unusedSimpArgs false
set_option maxRecDepth 8000
namespace Go.Ev.S
open Go Go.Ev
end Go.Ev.S

/- The order of all encodings; the lesser and the greater one. -/
set_option linter.unusedVariables false
set_option linter.unusedSimpArgs false
set_option maxRecDepth 8000
namespace Go.Ev.S
open Go Go.Ev
end Go.Ev.S

/- What encodings say: their exact values, in order. -/
set_option linter.unusedVariables false
set_option linter.unusedSimpArgs false
set_option maxRecDepth 8000
namespace Go.Ev.S
open Go Go.Ev
def fin (f x : Nat) : Prop := ex f x ≠ 2 * fe f + 1
end Go.Ev.S

/- Exact numbers compared, as rational ones; encodings compared by their values. -/
set_option linter.unusedVariables false
set_option linter.unusedSimpArgs false
set_option maxRecDepth 8000
namespace Go.Ev.S
open Go Go.Ev
section
variable {n1 n2 : Bool} {a1 b1 a2 b2 : Nat} {e1 e2 : Int}
end
end Go.Ev.S

/- Exact numbers: made, signs, products, places, sums. -/
set_option linter.unusedVariables false
set_option linter.unusedSimpArgs false
set_option maxRecDepth 8000
namespace Go.Ev.S
open Go Go.Ev
end Go.Ev.S

/- Exact numbers as rational ones: bounds, sums, products, whole parts. -/
set_option linter.unusedVariables false
set_option linter.unusedSimpArgs false
set_option maxRecDepth 8000
namespace Go.Ev.S
open Go Go.Ev
section
variable {n1 n2 : Bool} {a1 b1 a2 b2 : Nat} {e1 e2 : Int} {P1 E1 P2 E2 : Nat}
end
end Go.Ev.S

/- A field's laws; a whole part and the next. -/
set_option linter.unusedVariables false
set_option linter.unusedSimpArgs false
set_option maxRecDepth 8000
namespace Go.Ev.S
open Go Go.Ev
end Go.Ev.S

/- Decimal digits. -/
set_option linter.unusedVariables false
set_option linter.unusedSimpArgs false
set_option maxRecDepth 8000
namespace Go.Ev.S
open Go Go.Ev
open Go.Lib (decDigits nDigits)
end Go.Ev.S

/- Narrow values in wide registers: the program's answers and the document's, as numbers of 128 bits. -/
set_option linter.unusedVariables false
set_option linter.unusedSimpArgs false
set_option maxRecDepth 8000
namespace Go.Ev.S
open Go Go.Ev
def ab (f : Nat) : Nat := 2 ^ 128 - 2 ^ fw f
theorem fw_le2 (f : Nat) (h : f ≤ 3) : 1 ≤ fw f ∧ fw f ≤ 128 := by rcases four h with rfl | rfl | rfl | rfl <;> decide
theorem ab_lt (f : Nat) : ab f < 2 ^ 128 := by
  unfold ab
  have h1 := Nat.two_pow_pos 128
  have h2 := Nat.two_pow_pos (fw f)
  omega
theorem ab_add (f : Nat) (h : f ≤ 3) : ab f + 2 ^ fw f = 2 ^ 128 := by
  unfold ab
  have : 2 ^ fw f ≤ 2 ^ 128 := Nat.pow_le_pow_right (by omega) (fw_le2 f h).2
  omega
theorem and_high (x w n : Nat) (hx : x < 2 ^ (w + n)) : x &&& (2 ^ (w + n) - 2 ^ w) = x - x % 2 ^ w := by
  have e1 : 2 ^ (w + n) - 2 ^ w = (2 ^ n - 1) <<< w := by
    rw [Nat.shiftLeft_eq, Nat.sub_mul, Nat.one_mul, ← Nat.pow_add, Nat.add_comm n w]
  have e2 : x - x % 2 ^ w = (x / 2 ^ w) <<< w := by
    rw [Nat.shiftLeft_eq]
    have := Nat.div_add_mod x (2 ^ w)
    rw [Nat.mul_comm] at this; omega
  have hd : x / 2 ^ w < 2 ^ n := by
    rw [Nat.div_lt_iff_lt_mul (Nat.two_pow_pos w), ← Nat.pow_add, Nat.add_comm n w]; exact hx
  rw [e1, e2]
  apply Nat.eq_of_testBit_eq
  intro j
  rw [Nat.testBit_and, Nat.testBit_shiftLeft, Nat.testBit_shiftLeft, Nat.testBit_two_pow_sub_one, Nat.testBit_div_two_pow]
  by_cases hj : w ≤ j
  · have e3 : j - w + w = j := by omega
    rw [e3]
    by_cases hn : j - w < n
    · simp [hj, hn]
    · have : x.testBit j = false := Nat.testBit_lt_two_pow (Nat.lt_of_lt_of_le hx (Nat.pow_le_pow_right (by omega) (by omega)))
      simp [this]
  · simp [hj]
theorem and_ab (f x : Nat) (h : f ≤ 3) (hx : x < 2 ^ 128) : x &&& ab f = x - x % 2 ^ fw f := by
  obtain ⟨_, h2⟩ := fw_le2 f h
  have := and_high x (fw f) (128 - fw f)
  rw [show fw f + (128 - fw f) = 128 from by omega] at this
  exact this hx
theorem ab_mod (f x : Nat) (h : f ≤ 3) (hx : x < 2 ^ 128) : (x &&& ab f = ab f) ↔ ab f ≤ x := by
  rw [and_ab f x h hx]
  have h1 := ab_add f h
  have h2 : x % 2 ^ fw f < 2 ^ fw f := Nat.mod_lt _ (Nat.two_pow_pos _)
  have h3 := Nat.mod_le x (2 ^ fw f)
  constructor
  · intro e; omega
  · intro e
    -- x lies in the last piece
    have h4 : 2 ^ fw f ∣ ab f := by
      unfold ab
      exact Nat.dvd_sub (Nat.pow_dvd_pow 2 (fw_le2 f h).2) (Nat.dvd_refl _)
    obtain ⟨c, hc⟩ := h4
    have h5 : x = ab f + (x - ab f) := by omega
    have h6 : x % 2 ^ fw f = x - ab f := by
      conv => lhs; rw [h5, hc, Nat.mul_add_mod]
      rw [← hc]
      exact Nat.mod_eq_of_lt (by omega)
    omega
theorem or_ab (f x : Nat) (h : f ≤ 3) (hx : x < 2 ^ fw f) : x ||| ab f = x + ab f := by
  have h4 : 2 ^ fw f ∣ ab f := by
    unfold ab
    exact Nat.dvd_sub (Nat.pow_dvd_pow 2 (fw_le2 f h).2) (Nat.dvd_refl _)
  obtain ⟨c, hc⟩ := h4
  rw [hc, Nat.or_comm, ← Nat.two_pow_add_eq_or_of_lt hx, Nat.add_comm]
theorem andnot_nat (a b : Nat) (ha : a < 18446744073709551616) (hb : b < 18446744073709551616) : andNotI .u64 a b = ((a ^^^ (a &&& b) : Nat) : Int) := by
  have h1 : (BitVec.ofInt 64 (a : Int)) = BitVec.ofNat 64 a := by simp
  have h2 : (BitVec.ofInt 64 (b : Int)) = BitVec.ofNat 64 b := by simp
  have h3 : a &&& b < 2 ^ 64 := Nat.lt_of_le_of_lt Nat.and_le_left ha
  have h4 : a ^^^ (a &&& b) < 18446744073709551616 := Nat.xor_lt_two_pow (n := 64) ha h3
  show IntKind.wrap .u64 (((BitVec.ofInt 64 (a : Int) &&& ~~~BitVec.ofInt 64 (b : Int) : BitVec 64).toNat : Nat) : Int) = _
  rw [h1, h2]
  have h5 : (BitVec.ofNat 64 a &&& ~~~BitVec.ofNat 64 b) = (BitVec.ofNat 64 a ^^^ (BitVec.ofNat 64 a &&& BitVec.ofNat 64 b)) := by
    ext i hi
    simp only [BitVec.getElem_and, BitVec.getElem_not, BitVec.getElem_xor]
    cases (BitVec.ofNat 64 a)[i] <;> cases (BitVec.ofNat 64 b)[i] <;> rfl
  rw [h5, BitVec.toNat_xor, BitVec.toNat_and, BitVec.toNat_ofNat, BitVec.toNat_ofNat, Nat.mod_eq_of_lt ha, Nat.mod_eq_of_lt hb]
  exact u64_id (by omega) (by omega)
theorem andnot_two (x y : Nat) (hx : x < 2 ^ 128) (hy : y < 2 ^ 128) : andNotI .u64 (Hi x) (Hi y) = Hi (x ^^^ (x &&& y)) ∧ andNotI .u64 (Lo x) (Lo y) = Lo (x ^^^ (x &&& y)) := by
  obtain ⟨h1, h2⟩ := op_two (fun a b => a ^^ (a && b)) (fun a b => a ^^^ (a &&& b)) (fun a b j => by rw [Nat.testBit_xor, Nat.testBit_and]) rfl x y
  unfold Hi Lo
  exact ⟨by rw [andnot_nat _ _ (hi_lt hx) (hi_lt hy)]; exact congrArg _ h1.symm, by rw [andnot_nat _ _ (lo_lt x) (lo_lt y)]; exact congrArg _ h2.symm⟩
theorem low_ab (f x : Nat) (h : f ≤ 3) (hx : x < 2 ^ 128) : x ^^^ (x &&& ab f) = x % 2 ^ fw f := by
  apply Nat.eq_of_testBit_eq
  intro j
  have h1 : (x &&& ab f).testBit j = (decide (fw f ≤ j) && x.testBit j) := by
    rw [and_ab f x h hx]
    have e2 : x - x % 2 ^ fw f = (x / 2 ^ fw f) <<< fw f := by
      rw [Nat.shiftLeft_eq]
      have := Nat.div_add_mod x (2 ^ fw f)
      rw [Nat.mul_comm] at this; omega
    rw [e2, Nat.testBit_shiftLeft, Nat.testBit_div_two_pow]
    by_cases hj : fw f ≤ j
    · rw [show j - fw f + fw f = j from by omega]
    · simp [hj]
  rw [Nat.testBit_xor, h1, Nat.testBit_mod_two_pow]
  by_cases hj : fw f ≤ j
  · have : ¬ j < fw f := by omega
    simp [hj, this]
  · have : j < fw f := by omega
    simp [hj, this]
def nanf (f : Nat) : Nat := enc f false (2 * fe f + 1) (2 ^ (fp f - 2))
def boxed (f x : Nat) : Bool := decide (ab f ≤ x)
def unbox (f x : Nat) : Nat := cond (boxed f x) (x % 2 ^ fw f) (nanf f)
theorem box_above_ok (f : Nat) (h : f ≤ 3) (K : Int → Int → Prop) : box_above f K = K (Hi (ab f)) (Lo (ab f)) := by
  rw [box_above.is]
  rcases four h with rfl | rfl | rfl | rfl <;> kernel_rfl
theorem box_Above_ok (f : Nat) (h : f ≤ 3) (K : Int → Int → Int → Prop) : box_Above f K = K (Hi (ab f)) (Lo (ab f)) 0 := by
  rw [box_Above.is]; unfold box_Above.d; rw [shape_Check_ok f h, br_f (by decide), box_above_ok f h]
theorem box_IsBoxed_ok (f x : Nat) (h : f ≤ 3) (hx : x < 2 ^ 128) (K : Bool → Prop) : box_IsBoxed f (Hi x) (Lo x) K = K (boxed f x) := by
  rw [box_IsBoxed.is]; unfold box_IsBoxed.d
  obtain ⟨h1, h2⟩ := and_two x (ab f) hx (ab_lt f)
  rw [box_Above_ok f h, br_t (by decide), h1, h2, pair_eq]
  have : decide (x &&& ab f = ab f) = boxed f x := by unfold boxed; rw [decide_eq_decide]; exact ab_mod f x h hx
  rw [this]
theorem box_Low_ok (f x : Nat) (h : f ≤ 3) (hx : x < 2 ^ 128) (K : Int → Int → Int → Prop) : box_Low f (Hi x) (Lo x) K = K (Hi (x % 2 ^ fw f)) (Lo (x % 2 ^ fw f)) 0 := by
  rw [box_Low.is]; unfold box_Low.d
  obtain ⟨h1, h2⟩ := andnot_two x (ab f) hx (ab_lt f)
  rw [box_Above_ok f h, br_f (by decide), h1, h2, low_ab f x h hx]
theorem box_Unbox_ok (f x : Nat) (h : f ≤ 3) (hx : x < 2 ^ 128) (K : Int → Int → Int → Prop) : box_Unbox f (Hi x) (Lo x) K = K (Hi (unbox f x)) (Lo (unbox f x)) 0 := by
  rw [box_Unbox.is]; unfold box_Unbox.d
  rw [box_Low_ok f x h hx, br_f (by decide), box_IsBoxed_ok f x h hx, shape_NaN_ok f h]
  unfold unbox nanf
  cases boxed f x <;> rfl
theorem box_Box_ok (f x : Nat) (h : f ≤ 3) (hx : x < 2 ^ 128) (K : Int → Int → Int → Prop) : box_Box f (Hi x) (Lo x) K = br (decide (x < 2 ^ fw f)) (K (Hi (x + ab f)) (Lo (x + ab f)) 0) (K 0 0 2) := by
  rw [box_Box.is]; unfold box_Box.d
  rw [shape_Fits_ok f x h hx]
  by_cases hf : x < 2 ^ fw f
  · obtain ⟨h1, h2⟩ := or_two x (ab f) hx (ab_lt f)
    rw [br_f (by simp [hf]), br_t (by simp [hf]), box_above_ok f h, h1, h2, or_ab f x h hf]
  · rw [br_t (by simp [hf]), br_f (by simp [hf])]
theorem box_Box_no (f : Nat) (h : 3 < f) (hi lo : Int) (K : Int → Int → Int → Prop) : box_Box f hi lo K = K 0 0 2 := by
  rw [box_Box.is]; unfold box_Box.d; rw [shape_Fits_no f h]; rfl
theorem box_lt {f x : Nat} (h : f ≤ 3) (hx : x < 2 ^ fw f) : x + ab f < 2 ^ 128 := by have := ab_add f h; omega
end Go.Ev.S

/- The registers: what their functions come to. -/
set_option linter.unusedVariables false
set_option linter.unusedSimpArgs false
set_option maxRecDepth 20000
namespace Go.Ev.S
open Go Go.Ev
open Go.Lib (decDigits)
section
variable {g : Nat → Int} {F : Nat → Nat → Lf}
theorem none_ok (b : Bool) (K : Bool → Bool → (Nat → Int) → (Nat → Nat → Lf) → Prop) : regs_Regs_none b g F K = K (!b) b g F := by
  rw [regs_Regs_none.is]; rfl
theorem word_ok (b : Bool) (n : Int) (k0 : Bool → (Nat → Int) → (Nat → Nat → Lf) → Prop) (k1 : Nat → Bool → (Nat → Int) → (Nat → Nat → Lf) → Prop) (h0 : ¬ (0 ≤ n ∧ n < 32) → k0 b g F) (h1 : 0 ≤ n → n < 32 → k1 n.toNat b g F) : regs_Regs_word b g F n k0 k1 := by
  rw [regs_Regs_word.is]; unfold regs_Regs_word.d
  by_cases l : n < 0
  · rw [br_t (lt_t l)]; exact h0 (by omega)
  rw [br_f (lt_f (by omega))]
  by_cases u : 32 ≤ n
  · rw [br_t (le_t u)]; exact h0 (by omega)
  rw [br_f (le_f (by omega)), gd_t (by rw [le_t (by omega), lt_t (by omega)]; rfl)]
  exact h1 (by omega) (by omega)
theorem bits_ok (b : Bool) (n : Int) (k0 : Bool → (Nat → Int) → (Nat → Nat → Lf) → Prop) (k1 : Nat → Bool → (Nat → Int) → (Nat → Nat → Lf) → Prop) (h0 : ¬ (0 ≤ n ∧ n < 32) → k0 b g F) (h1 : 0 ≤ n → n < 32 → k1 n.toNat b g F) : regs_Regs_bits b g F n k0 k1 := by
  rw [regs_Regs_bits.is]; unfold regs_Regs_bits.d
  by_cases l : n < 0
  · rw [br_t (lt_t l)]; exact h0 (by omega)
  rw [br_f (lt_f (by omega))]
  by_cases u : 32 ≤ n
  · rw [br_t (le_t u)]; exact h0 (by omega)
  rw [br_f (le_f (by omega)), gd_t (by rw [le_t (by omega), lt_t (by omega)]; rfl)]
  exact h1 (by omega) (by omega)
theorem setX_ok (n v : Int) (K : Int → Bool → (Nat → Int) → (Nat → Nat → Lf) → Prop) (h0 : ¬ (0 ≤ n ∧ n < 32) → K 2 true g F) (h1 : 0 ≤ n → n < 32 → K 0 true (upd (upd g n.toNat v) 0 0) F) : regs_Regs_SetX true g F n v K := by
  rw [regs_Regs_SetX.is]; unfold regs_Regs_SetX.d
  rw [none_ok]
  show br false _ _
  rw [br_f rfl]
  exact word_ok true n _ _ h0 h1
theorem getX_ok (n : Int) (K : Int → Int → Bool → (Nat → Int) → (Nat → Nat → Lf) → Prop) (h0 : ¬ (0 ≤ n ∧ n < 32) → K 0 2 true g F) (h1 : 0 ≤ n → n < 32 → K (g n.toNat) 0 true g F) : regs_Regs_X true g F n K := by
  rw [regs_Regs_X.is]; unfold regs_Regs_X.d
  rw [none_ok]
  show br false _ _
  rw [br_f rfl]
  exact word_ok true n _ _ h0 h1
theorem setF_ok (n p q : Int) (K : Int → Bool → (Nat → Int) → (Nat → Nat → Lf) → Prop) (h0 : ¬ (0 ≤ n ∧ n < 32) → K 2 true g F) (h1 : 0 ≤ n → n < 32 → K 0 true g (upd2 (upd2 F n.toNat 0 (Lf.z p)) n.toNat 1 (Lf.z q))) : regs_Regs_SetF true g F n p q K := by
  rw [regs_Regs_SetF.is]; unfold regs_Regs_SetF.d
  rw [none_ok]
  show br false _ _
  rw [br_f rfl]
  exact bits_ok true n _ _ h0 h1
theorem getF_ok (n : Int) (K : Int → Int → Int → Bool → (Nat → Int) → (Nat → Nat → Lf) → Prop) (h0 : ¬ (0 ≤ n ∧ n < 32) → K 0 0 2 true g F) (h1 : 0 ≤ n → n < 32 → K (F n.toNat 0).toI (F n.toNat 1).toI 0 true g F) : regs_Regs_F true g F n K := by
  rw [regs_Regs_F.is]; unfold regs_Regs_F.d
  rw [none_ok]
  show br false _ _
  rw [br_f rfl]
  exact bits_ok true n _ _ h0 h1
theorem rput_ok (f x : Nat) (n : Int) (hx : x < 2 ^ 128) (K : Int → Bool → (Nat → Int) → (Nat → Nat → Lf) → Prop) (h0 : ¬ (f ≤ 3 ∧ x < 2 ^ fw f ∧ 0 ≤ n ∧ n < 32) → K 2 true g F)
    (h1 : f ≤ 3 → x < 2 ^ fw f → 0 ≤ n → n < 32 → K 0 true g (upd2 (upd2 F n.toNat 0 (Lf.z (Hi (x + ab f)))) n.toNat 1 (Lf.z (Lo (x + ab f))))) : regs_Regs_Put true g F f n (Hi x) (Lo x) K := by
  rw [regs_Regs_Put.is]; unfold regs_Regs_Put.d
  rw [none_ok]
  show br false _ _
  rw [br_f rfl]
  by_cases hf : f ≤ 3
  · rw [box_Box_ok f x hf hx]
    by_cases hw : x < 2 ^ fw f
    · rw [br_t (decide_eq_true hw), br_f (show (!eqI 0 0) = false from rfl)]
      exact setF_ok n _ _ _ (fun h => h0 fun hh => h hh.2.2) (h1 hf hw)
    · rw [br_f (decide_eq_false hw), br_t (show (!eqI 2 0) = true from rfl)]
      exact h0 fun hh => hw hh.2.1
  · rw [box_Box_no f (by omega), br_t (show (!eqI 2 0) = true from rfl)]
    exact h0 fun hh => hf hh.1
theorem rget_ok (f x : Nat) (n : Int) (hf : f ≤ 3) (hx : x < 2 ^ 128) (h0 : 0 ≤ n) (hn : n < 32) (e0 : (F n.toNat 0).toI = Hi x) (e1 : (F n.toNat 1).toI = Lo x) (K : Int → Int → Int → Bool → (Nat → Int) → (Nat → Nat → Lf) → Prop)
    (h1 : K (Hi (unbox f x)) (Lo (unbox f x)) 0 true g F) : regs_Regs_Get true g F f n K := by
  rw [regs_Regs_Get.is]; unfold regs_Regs_Get.d
  refine getF_ok n _ (fun h => absurd ⟨h0, hn⟩ h) fun _ _ => ?_
  rw [br_f (show (!eqI 0 0) = false from rfl), e0, e1, box_Unbox_ok f x hf hx]
  exact h1
theorem rlow_ok (f x : Nat) (n : Int) (hf : f ≤ 3) (hx : x < 2 ^ 128) (h0 : 0 ≤ n) (hn : n < 32) (e0 : (F n.toNat 0).toI = Hi x) (e1 : (F n.toNat 1).toI = Lo x) (K : Int → Int → Int → Bool → (Nat → Int) → (Nat → Nat → Lf) → Prop)
    (h1 : K (Hi (x % 2 ^ fw f)) (Lo (x % 2 ^ fw f)) 0 true g F) : regs_Regs_Low true g F f n K := by
  rw [regs_Regs_Low.is]; unfold regs_Regs_Low.d
  refine getF_ok n _ (fun h => absurd ⟨h0, hn⟩ h) fun _ _ => ?_
  rw [br_f (show (!eqI 0 0) = false from rfl), e0, e1, box_Low_ok f x hf hx]
  exact h1
theorem rfrom_ok (K : Bool → (Nat → Int) → (Nat → Nat → Lf) → Prop) : regs_From g F K = K true (upd g 0 0) F := by
  rw [regs_From.is]; rfl
theorem rcopy_ok (K0 : Bool → (Nat → Int) → (Nat → Nat → Lf) → Prop) (K1 : Bool → (Nat → Int) → (Nat → Nat → Lf) → Bool → (Nat → Int) → (Nat → Nat → Lf) → Prop) : regs_Regs_Copy true g F K0 K1 = K1 true g F true g F := by
  rw [regs_Regs_Copy.is]; unfold regs_Regs_Copy.d
  rw [none_ok]; rfl
theorem rtell_ok (K : (Nat → Int) → (Nat → Nat → Lf) → Bool → (Nat → Int) → (Nat → Nat → Lf) → Prop) : regs_Regs_Tell true g F K = K g F true g F := by
  rw [regs_Regs_Tell.is]; unfold regs_Regs_Tell.d
  rw [none_ok]; rfl
theorem rsame_ok (g' : Nat → Int) (F' : Nat → Nat → Lf) (K : Bool → Bool → (Nat → Int) → (Nat → Nat → Lf) → Bool → (Nat → Int) → (Nat → Nat → Lf) → Prop) :
    regs_Same true g F true g' F' K = K (eqN 32 g g' && eqTb (Sk.agg [Sk.int IntKind.u64, Sk.int IntKind.u64]) 32 F F') true g F true g' F' := by
  rw [regs_Same.is]; unfold regs_Same.d
  rw [none_ok]
  show br true _ _ = _
  rw [br_t rfl, none_ok]
  rfl
end
theorem eqF_iff (F F' : Nat → Nat → Lf) : eqTb (Sk.agg [Sk.int IntKind.u64, Sk.int IntKind.u64]) 32 F F' = true ↔ ∀ i, i < 32 → (F i 0).toI = (F' i 0).toI ∧ (F i 1).toI = (F' i 1).toI := by
  rw [eqTb_iff]
  refine forall_congr' fun i => forall_congr' fun hi => ?_
  show (eqI (F i 0).toI (F' i 0).toI && (eqI (F i 1).toI (F' i 1).toI && true)) = true ↔ _
  simp [eqI]
theorem upd2_eq (F : Nat → Nat → Lf) (i c : Nat) (v : Lf) : upd2 F i c v i c = v := by simp [upd2]
theorem upd2_ne (F : Nat → Nat → Lf) (i c : Nat) (v : Lf) (a b : Nat) (h : a ≠ i ∨ b ≠ c) : upd2 F i c v a b = F a b := by
  unfold upd2
  cases h1 : Nat.beq a i <;> cases h2 : Nat.beq b c <;> try rfl
  exfalso
  have := Nat.eq_of_beq_eq_true h1
  have := Nat.eq_of_beq_eq_true h2
  omega
theorem set2 (F : Nat → Nat → Lf) (n : Nat) (p q : Int) (i : Nat) : ((upd2 (upd2 F n 0 (Lf.z p)) n 1 (Lf.z q)) i 0).toI = (if i = n then p else (F i 0).toI) ∧ ((upd2 (upd2 F n 0 (Lf.z p)) n 1 (Lf.z q)) i 1).toI = if i = n then q else (F i 1).toI := by
  by_cases h : i = n
  · subst h
    rw [if_pos rfl, if_pos rfl, upd2_ne _ _ _ _ _ _ (.inr (by omega)), upd2_eq, upd2_eq]
    exact ⟨rfl, rfl⟩
  · rw [if_neg h, if_neg h, upd2_ne _ _ _ _ _ _ (.inl h), upd2_ne _ _ _ _ _ _ (.inl h), upd2_ne _ _ _ _ _ _ (.inl h), upd2_ne _ _ _ _ _ _ (.inl h)]
    exact ⟨rfl, rfl⟩
def t32 (n : Nat) : List UInt8 := if n < 10 then [UInt8.ofNat (48 + n)] else [UInt8.ofNat (48 + n / 10), UInt8.ofNat (48 + n % 10)]
theorem itoa_32 {n : Nat} (h : n < 32) : Go.Lib.itoa (n : Int) = t32 n := by
  have e : Go.Lib.itoa (n : Int) = decDigits n := by unfold Go.Lib.itoa; rw [if_neg (by omega), Int.toNat_natCast]
  rw [e]; unfold t32
  by_cases g : n < 10
  · rw [if_pos g, Go.Lib.decDigits_one g]
  · rw [if_neg g, Go.Lib.decDigits_two g (by omega)]
def nm (fl : Bool) (n : Nat) : List UInt8 := cond fl [102] [120] ++ t32 n
theorem nm_inj : ∀ n, n < 32 → ∀ m, m < 32 → ∀ a b : Bool, nm a n = nm b m → a = b ∧ n = m := by decide +kernel
theorem nm_len : ∀ n, n < 32 → ∀ a : Bool, 2 ≤ (nm a n).length ∧ (nm a n).length ≤ 3 := by decide +kernel
theorem nm_atoi : ∀ n, n < 32 → Go.Lib.atoiAll (t32 n) = .ok (n : Int) := by
  intro n h
  rcases (show n = 0 ∨ n = 1 ∨ n = 2 ∨ n = 3 ∨ n = 4 ∨ n = 5 ∨ n = 6 ∨ n = 7 ∨ n = 8 ∨ n = 9 ∨ n = 10 ∨ n = 11 ∨ n = 12 ∨ n = 13 ∨ n = 14 ∨ n = 15 ∨ n = 16 ∨ n = 17 ∨ n = 18 ∨ n = 19 ∨ n = 20 ∨ n = 21 ∨ n = 22 ∨ n = 23 ∨ n = 24 ∨ n = 25 ∨ n = 26 ∨ n = 27 ∨ n = 28 ∨ n = 29 ∨ n = 30 ∨ n = 31 by omega) with rfl | rfl | rfl | rfl | rfl | rfl | rfl | rfl | rfl | rfl | rfl | rfl | rfl | rfl | rfl | rfl | rfl | rfl | rfl | rfl | rfl | rfl | rfl | rfl | rfl | rfl | rfl | rfl | rfl | rfl | rfl | rfl <;> rfl
theorem regs_Name_ok (fl : Bool) (n : Nat) (h : n < 32) (K : List UInt8 → Int → Prop) (hK : K (nm fl n) 0) : regs_Name fl (n : Int) K := by
  have hl : (t32 n).length ≤ 2 := by unfold t32; split <;> simp
  have hI : ∀ Q : List UInt8 → Prop, Q (t32 n) → strconv_Itoa (n : Int) Q := fun Q hQ => by
    rw [strconv_Itoa.is]; refine ⟨by omega, ?_⟩; rw [itoa_32 h]; exact hQ
  rw [regs_Name.is]; unfold regs_Name.d
  rw [br_f (lt_f (by omega)), br_f (lt_f (by omega))]
  cases fl
  · rw [br_f rfl]; refine hI _ ?_; rw [gd_t (le_t (by omega))]; exact hK
  · rw [br_t rfl]; refine hI _ ?_; rw [gd_t (le_t (by omega))]; exact hK
theorem regs_Named_ok (s : List UInt8) (K : Bool → Int → Int → Prop) (h1 : ∀ fl n, n < 32 → s = nm fl n → K fl (n : Int) 0) (h2 : (∀ fl n, n < 32 → s ≠ nm fl n) → K false 0 230) : regs_Named s K := by
  have no : (s.length < 2 ∨ 3 < s.length) → K false 0 230 := fun hl => h2 fun fl n hn hs => by
    have := nm_len n hn fl
    rw [← hs] at this; omega
  rw [regs_Named.is]; unfold regs_Named.d
  by_cases l1 : s.length < 2
  · rw [br_t (lt_t (by omega))]; exact no (.inl l1)
  rw [br_f (lt_f (by omega))]
  by_cases l2 : 3 < s.length
  · rw [br_t (lt_t (by omega))]; exact no (.inr l2)
  rw [br_f (lt_f (by omega)), gd_t (by rw [le_t (by omega), le_t (by omega)]; rfl), Int.toNat_natCast]
  have hsub : subS s 1 s.length = s.drop 1 := by unfold subS; rw [List.take_length]
  rw [hsub, strconv_Atoi.is]; unfold strconv_Atoi.d
  refine ⟨by rw [List.length_drop]; omega, ?_⟩
  have comes : ∀ v : Int, (∃ fl n, n < 32 ∧ s = nm fl n ∧ v ≠ (n : Int)) → Go.Lib.atoiAll (s.drop 1) ≠ .ok v := by
    rintro v ⟨fl, n, hn, rfl, hv⟩ hh
    have : (nm fl n).drop 1 = t32 n := by cases fl <;> rfl
    rw [this, nm_atoi n hn] at hh
    cases hh; exact hv rfl
  have oks : ∀ fl n, n < 32 → s = nm fl n → Go.Lib.atoiAll (s.drop 1) = .ok (n : Int) := by
    rintro fl n hn rfl
    have : (nm fl n).drop 1 = t32 n := by cases fl <;> rfl
    rw [this, nm_atoi n hn]
  cases hA : Go.Lib.atoiAll (s.drop 1) with
  | ok v =>
    have fails : (¬ (0 ≤ v ∧ v < 32)) → K false 0 230 := fun hv => h2 fun fl n hn hs => by
      have := oks fl n hn hs
      rw [hA] at this; cases this; omega
    show br (ltI v 0) _ _
    by_cases v1 : v < 0
    · rw [br_t (lt_t v1)]; exact fails (by omega)
    rw [br_f (lt_f (by omega))]
    by_cases v2 : 31 < v
    · rw [br_t (lt_t v2)]; exact fails (by omega)
    rw [br_f (lt_f (by omega)), gd_t (lt_t (by omega))]
    obtain ⟨n, rfl⟩ : ∃ n : Nat, v = n := ⟨v.toNat, by omega⟩
    refine regs_Name_ok _ n (by omega) _ ?_
    by_cases hs : nm (eqI (byteAt s 0) 102) n = s
    · rw [show eqS (nm (eqI (byteAt s 0) 102) n) s = true by rw [eqS_dec]; exact decide_eq_true hs]
      exact h1 _ n (by omega) hs.symm
    · rw [show eqS (nm (eqI (byteAt s 0) 102) n) s = false by rw [eqS_dec]; exact decide_eq_false hs]
      refine h2 fun fl m hm hh => hs ?_
      have e := oks fl m hm hh
      rw [hA] at e
      have e2 : n = m := by cases e; rfl
      subst e2
      subst hh
      have : eqI (byteAt (nm fl n) 0) 102 = fl := by cases fl <;> rfl
      rw [this]
  | range => exact h2 fun fl n hn hs => by have := oks fl n hn hs; rw [hA] at this; cases this
  | _ => exact h2 fun fl n hn hs => by have := oks fl n hn hs; rw [hA] at this; cases this
theorem lives_ok (K : Bool → Prop) (hK : K true) : law23_lives K := by
  rw [law23_lives.is]; unfold law23_lives.d
  rw [regs_New.is]; unfold regs_New.d
  refine setX_ok 0 7 _ (fun h => absurd ⟨by omega, by omega⟩ h) fun _ _ => ?_
  refine getX_ok 0 _ (fun h => absurd ⟨by omega, by omega⟩ h) fun _ _ => ?_
  refine setX_ok 5 7 _ (fun h => absurd ⟨by omega, by omega⟩ h) fun _ _ => ?_
  refine getX_ok 5 _ (fun h => absurd ⟨by omega, by omega⟩ h) fun _ _ => ?_
  refine getX_ok 32 _ (fun _ => ?_) fun h1 h2 => absurd h2 (by omega)
  refine rput_ok 2 15360 3 (by decide) _ (fun h => absurd ⟨by omega, by decide, by omega, by omega⟩ h) fun _ _ _ _ => ?_
  refine getF_ok 3 _ (fun h => absurd ⟨by omega, by omega⟩ h) fun _ _ => ?_
  refine regs_Named_ok _ _ (fun fl n hn hs => ?_) fun hno => absurd rfl (hno true 31 (by omega))
  have h := nm_inj 31 (by omega) n hn true fl (by rw [← hs]; rfl)
  obtain ⟨rfl, rfl⟩ := h
  rw [(set2 _ _ _ _ _).2]
  exact hK
end Go.Ev.S

/- The registers: what is changed, and that it changes. -/
set_option linter.unusedVariables false
set_option linter.unusedSimpArgs false
set_option maxRecDepth 20000
namespace Go.Ev.S
open Go Go.Ev
def okE (r : Nat → Lf) : Prop := 0 ≤ (r 1).toI ∧ (r 1).toI < 32 ∧ (isT (r 0).toI = true → (r 2).toI = 0) ∧ (isT (r 0).toI = false → (r 3).toI = 0 ∧ (r 4).toI = 0)
def stp (r : Nat → Lf) (s : (Nat → Int) × (Nat → Nat → Lf)) : (Nat → Int) × (Nat → Nat → Lf) :=
  cond (isT (r 0).toI) (s.1, upd2 (upd2 s.2 (r 1).toI.toNat 0 (Lf.z (r 3).toI)) (r 1).toI.toNat 1 (Lf.z (r 4).toI)) (upd (upd s.1 (r 1).toI.toNat (r 2).toI) 0 0, s.2)
def run (h : Nat → Nat → Lf) : Nat → (Nat → Int) × (Nat → Nat → Lf) → (Nat → Int) × (Nat → Nat → Lf)
  | 0, s => s
  | n + 1, s => stp (h n) (run h n s)
theorem run_congr {h k : Nat → Nat → Lf} (s : (Nat → Int) × (Nat → Nat → Lf)) : ∀ n, (∀ i, i < n → h i = k i) → run h n s = run k n s
  | 0, _ => rfl
  | n + 1, e => by rw [run, run, run_congr s n fun i hi => e i (by omega), e n (by omega)]
structure Acc (s : (Nat → Int) × (Nat → Nat → Lf)) (n : Nat) (h : Nat → Nat → Lf) (t : (Nat → Int) × (Nat → Nat → Lf)) : Prop where
  ok : ∀ i, i < n → okE (h i)
  run : run h n s = t
theorem Acc.zero (s : (Nat → Int) × (Nat → Nat → Lf)) (h : Nat → Nat → Lf) : Acc s 0 h s := ⟨fun i hi => absurd hi (by omega), rfl⟩
theorem Acc.one {s : (Nat → Int) × (Nat → Nat → Lf)} {r : Nat → Nat → Lf} (hr : okE (r 0)) : Acc s 1 r (stp (r 0) s) := ⟨fun i hi => by
  obtain rfl : i = 0 := by omega
  exact hr, rfl⟩
theorem Acc.more {s t : (Nat → Int) × (Nat → Nat → Lf)} {n : Nat} {h r : Nat → Nat → Lf} (a : Acc s n h t) (hr : okE (r 0)) : Acc s (n + 1) (appT n h r) (stp (r 0) t) := by
  have e : appT n h r n = r 0 := by rw [appT_ge (by omega), Nat.sub_self]
  refine ⟨fun i hi => ?_, ?_⟩
  · by_cases h1 : i < n
    · rw [appT_lt h1]; exact a.ok i h1
    · obtain rfl : i = n := by omega
      rw [e]; exact hr
  · rw [S.run, e, run_congr (k := h) s n fun i hi => appT_lt hi, a.run]
theorem change_loop (n : Nat) (h : Nat → Nat → Lf) (hn : n < 1000000) (hok : ∀ i, i < n → okE (h i)) (k0 : Int → Bool → (Nat → Int) → (Nat → Nat → Lf) → Prop) (k1 : Bool → (Nat → Int) → (Nat → Nat → Lf) → Bool → (Nat → Int) → (Nat → Nat → Lf) → Prop)
    (g : Nat → Int) (F : Nat → Nat → Lf) (s : (Nat → Int) × (Nat → Nat → Lf)) (hk : k1 true g F true (run h n s).1 (run h n s).2) :
    ∀ (j i : Nat), i + j = n → regs_Regs_Change.l5 k0 k1 (j + 1) n h (n : Int) (i : Int) true g F true (run h i s).1 (run h i s).2 := by
  intro j
  induction j with
  | zero =>
    intro i hi
    obtain rfl : i = n := by omega
    unfold regs_Regs_Change.l5 regs_Regs_Change.l5.step
    rw [br_f (lt_f (by omega))]
    exact hk
  | succ j ih =>
    intro i hi
    have hlt : i < n := by omega
    have ih := ih (i + 1) (by omega)
    obtain ⟨o1, o2, o3, o4⟩ := hok i hlt
    rw [S.run] at ih
    unfold regs_Regs_Change.l5 regs_Regs_Change.l5.step
    rw [br_t (lt_t (by omega)), gd_t (by rw [le_t (by omega), lt_t (by omega)]; rfl), Int.toNat_natCast]
    have hadd : addI .i64 (i : Int) 1 = ((i + 1 : Nat) : Int) := by rw [add_i64 (by omega) (by omega)]; omega
    generalize run h i s = s1 at *
    cases ht : isT (h i 0).toI with
    | true =>
      have e : stp (h i) s1 = (s1.1, upd2 (upd2 s1.2 (h i 1).toI.toNat 0 (Lf.z (h i 3).toI)) (h i 1).toI.toNat 1 (Lf.z (h i 4).toI)) := by unfold stp; rw [ht]; rfl
      rw [e] at ih
      have ew : (!eqI (h i 2).toI 0) = false := by rw [eq_t (o3 ht)]; rfl
      rw [br_t rfl, ew, br_f rfl]
      show br (!true) _ _
      rw [br_f (show (!true) = false from rfl), br_t rfl]
      refine setF_ok _ _ _ _ (fun hh => absurd ⟨o1, o2⟩ hh) fun _ _ => ?_
      rw [br_f (show (!eqI 0 0) = false from rfl), hadd]
      exact ih
    | false =>
      have e : stp (h i) s1 = (upd (upd s1.1 (h i 1).toI.toNat (h i 2).toI) 0 0, s1.2) := by unfold stp; rw [ht]; rfl
      rw [e] at ih
      have ew : (!(eqI (h i 3).toI 0 && eqI (h i 4).toI 0)) = false := by rw [eq_t (o4 ht).1, eq_t (o4 ht).2]; rfl
      rw [br_f rfl]
      show br (!false) _ _
      rw [br_t (show (!false) = true from rfl), ew, br_f rfl, br_f rfl]
      refine setX_ok _ _ _ (fun hh => absurd ⟨o1, o2⟩ hh) fun _ _ => ?_
      rw [br_f (show (!eqI 0 0) = false from rfl), hadd]
      exact ih
theorem change_ok (n : Nat) (h : Nat → Nat → Lf) (hn : n < 1000000) {g : Nat → Int} {F : Nat → Nat → Lf} {t : (Nat → Int) × (Nat → Nat → Lf)} (a : Acc (g, F) n h t) (K : Int → Bool → (Nat → Int) → (Nat → Nat → Lf) → Prop)
    (hk : K 0 true t.1 t.2) : regs_Regs_Change true g F n h K := by
  rw [regs_Regs_Change.is]; unfold regs_Regs_Change.d
  rw [none_ok]
  show br false _ _
  rw [br_f rfl]
  refine ⟨n + 1, ?_⟩
  exact change_loop n h hn a.ok _ _ g F (g, F) (by rw [a.run]; exact hk) n 0 (by omega)
def rowX (x : Int) (v : Int) : Nat → Nat → Lf := upd2 (upd2 (upd2 (upd2 (upd2 z2 0 0 (Lf.z 0)) 0 1 (Lf.z x)) 0 2 (Lf.z v)) 0 3 (Lf.z 0)) 0 4 (Lf.z 0)
def rowF (x : Int) (p q : Int) : Nat → Nat → Lf := upd2 (upd2 (upd2 (upd2 (upd2 z2 0 0 (Lf.z 1)) 0 1 (Lf.z x)) 0 2 (Lf.z 0)) 0 3 (Lf.z p)) 0 4 (Lf.z q)
theorem rowX_ok (x : Nat) (v : Int) (h : x < 32) : okE (rowX x v 0) := by
  refine ⟨?_, ?_, fun _ => ?_, fun _ => ⟨rfl, rfl⟩⟩
  · show (0 : Int) ≤ (x : Int); omega
  · show (x : Int) < 32; omega
  · rename_i hh; exact absurd hh (by show ¬ isT 0 = true; decide)
theorem rowF_ok (x : Nat) (p q : Int) (h : x < 32) : okE (rowF x p q 0) := by
  refine ⟨?_, ?_, fun _ => rfl, fun hh => ?_⟩
  · show (0 : Int) ≤ (x : Int); omega
  · show (x : Int) < 32; omega
  · exact absurd hh (by show ¬ isT 1 = false; decide)
theorem stpX (x : Nat) (v : Int) (s : (Nat → Int) × (Nat → Nat → Lf)) : stp (rowX x v 0) s = (upd (upd s.1 x v) 0 0, s.2) := by
  show cond (isT 0) _ (upd (upd s.1 (x : Int).toNat v) 0 0, s.2) = _
  rw [show isT 0 = false from rfl, Int.toNat_natCast]; rfl
theorem stpF (x : Nat) (p q : Int) (s : (Nat → Int) × (Nat → Nat → Lf)) : stp (rowF x p q 0) s = (s.1, upd2 (upd2 s.2 x 0 (Lf.z p)) x 1 (Lf.z q)) := by
  show cond (isT 1) (s.1, upd2 (upd2 s.2 (x : Int).toNat 0 (Lf.z p)) (x : Int).toNat 1 (Lf.z q)) _ = _
  rw [show isT 1 = true from rfl, Int.toNat_natCast]; rfl
section changed
variable (ga gb : Nat → Int) (Fa Fb : Nat → Nat → Lf)
def InvX (x n : Nat) (h : Nat → Nat → Lf) : Prop := n ≤ x ∧ ∃ gx, Acc (ga, Fa) n h (gx, Fa) ∧ ∀ i, i < 32 → gx i = if i < x then gb i else ga i
def InvF (x n : Nat) (h : Nat → Nat → Lf) : Prop := n ≤ 32 + x ∧ ∃ gx Fx, Acc (ga, Fa) n h (gx, Fx) ∧ (∀ i, i < 32 → gx i = gb i) ∧
  ∀ i, i < 32 → (Fx i 0).toI = (if i < x then (Fb i 0).toI else (Fa i 0).toI) ∧ (Fx i 1).toI = if i < x then (Fb i 1).toI else (Fa i 1).toI
variable {ga gb Fa Fb}
theorem InvX.skip {x n : Nat} {h : Nat → Nat → Lf} (a : InvX ga gb Fa x n h) (hx : x < 32) (e : ga x = gb x) : InvX ga gb Fa (x + 1) n h := by
  obtain ⟨h1, gx, h2, h3⟩ := a
  refine ⟨by omega, gx, h2, fun i hi => ?_⟩
  rw [h3 i hi]
  by_cases q : i < x
  · rw [if_pos q, if_pos (by omega)]
  · by_cases q2 : i = x
    · subst q2; rw [if_neg (by omega), if_pos (by omega), e]
    · rw [if_neg q, if_neg (by omega)]
theorem nextX {x : Nat} {gx : Nat → Int} (h0 : ga 0 = 0) (hb0 : gb 0 = 0) (hx : x < 32) (h3 : ∀ i, i < 32 → gx i = if i < x then gb i else ga i) (e : ga x ≠ gb x) :
    ∀ i, i < 32 → upd (upd gx x (gb x)) 0 0 i = if i < x + 1 then gb i else ga i := by
  have hx0 : x ≠ 0 := fun q => by subst q; exact e (by rw [h0, hb0])
  intro i hi
  by_cases q : i = 0
  · subst q; rw [upd_same, if_pos (by omega), hb0]
  · rw [upd_ne _ _ _ _ q]
    by_cases q2 : i = x
    · subst q2; rw [upd_same, if_pos (by omega)]
    · rw [upd_ne _ _ _ _ q2, h3 i hi]
      by_cases q3 : i < x
      · rw [if_pos q3, if_pos (by omega)]
      · rw [if_neg q3, if_neg (by omega)]
theorem InvX.more {x n : Nat} {h : Nat → Nat → Lf} (a : InvX ga gb Fa x n h) (h0 : ga 0 = 0) (hb0 : gb 0 = 0) (hx : x < 32) (e : ga x ≠ gb x) : InvX ga gb Fa (x + 1) (n + 1) (appT n h (rowX x (gb x))) := by
  obtain ⟨h1, gx, h2, h3⟩ := a
  have h4 := h2.more (rowX_ok x (gb x) hx)
  rw [stpX] at h4
  exact ⟨by omega, _, h4, nextX h0 hb0 hx h3 e⟩
theorem InvX.first {x : Nat} (h0 : ga 0 = 0) (hb0 : gb 0 = 0) (hx : x < 32) (h3 : ∀ i, i < x → ga i = gb i) (e : ga x ≠ gb x) : InvX ga gb Fa (x + 1) 1 (rowX x (gb x)) := by
  have h4 := Acc.one (s := (ga, Fa)) (rowX_ok x (gb x) hx)
  rw [stpX] at h4
  refine ⟨by omega, _, h4, nextX h0 hb0 hx (fun i hi => ?_) e⟩
  split
  · rename_i q; exact h3 i q
  · rfl
theorem InvF.skip {x n : Nat} {h : Nat → Nat → Lf} (a : InvF ga gb Fa Fb x n h) (hx : x < 32) (e0 : (Fa x 0).toI = (Fb x 0).toI) (e1 : (Fa x 1).toI = (Fb x 1).toI) : InvF ga gb Fa Fb (x + 1) n h := by
  obtain ⟨h1, gx, Fx, h2, h3, h4⟩ := a
  refine ⟨by omega, gx, Fx, h2, h3, fun i hi => ?_⟩
  rw [(h4 i hi).1, (h4 i hi).2]
  by_cases q : i < x
  · rw [if_pos q, if_pos q, if_pos (by omega), if_pos (by omega)]; exact ⟨rfl, rfl⟩
  · by_cases q2 : i = x
    · subst q2; rw [if_neg q, if_neg q, if_pos (by omega), if_pos (by omega)]; exact ⟨e0, e1⟩
    · rw [if_neg q, if_neg q, if_neg (by omega), if_neg (by omega)]; exact ⟨rfl, rfl⟩
theorem nextF {x : Nat} {Fx : Nat → Nat → Lf} (h4 : ∀ i, i < 32 → (Fx i 0).toI = (if i < x then (Fb i 0).toI else (Fa i 0).toI) ∧ (Fx i 1).toI = if i < x then (Fb i 1).toI else (Fa i 1).toI) :
    ∀ i, i < 32 → ((upd2 (upd2 Fx x 0 (Lf.z (Fb x 0).toI)) x 1 (Lf.z (Fb x 1).toI)) i 0).toI = (if i < x + 1 then (Fb i 0).toI else (Fa i 0).toI) ∧ ((upd2 (upd2 Fx x 0 (Lf.z (Fb x 0).toI)) x 1 (Lf.z (Fb x 1).toI)) i 1).toI = if i < x + 1 then (Fb i 1).toI else (Fa i 1).toI := by
  intro i hi
  rw [(set2 _ _ _ _ _).1, (set2 _ _ _ _ _).2, (h4 i hi).1, (h4 i hi).2]
  by_cases q : i = x
  · subst q; rw [if_pos rfl, if_pos rfl, if_pos (by omega), if_pos (by omega)]; exact ⟨rfl, rfl⟩
  · rw [if_neg q, if_neg q]
    by_cases q2 : i < x
    · rw [if_pos q2, if_pos q2, if_pos (by omega), if_pos (by omega)]; exact ⟨rfl, rfl⟩
    · rw [if_neg q2, if_neg q2, if_neg (by omega), if_neg (by omega)]; exact ⟨rfl, rfl⟩
theorem InvF.more {x n : Nat} {h : Nat → Nat → Lf} (a : InvF ga gb Fa Fb x n h) (hx : x < 32) : InvF ga gb Fa Fb (x + 1) (n + 1) (appT n h (rowF x (Fb x 0).toI (Fb x 1).toI)) := by
  obtain ⟨h1, gx, Fx, h2, h3, h4⟩ := a
  have h5 := h2.more (rowF_ok x (Fb x 0).toI (Fb x 1).toI hx)
  rw [stpF] at h5
  exact ⟨by omega, gx, _, h5, h3, nextF h4⟩
theorem InvF.first {x : Nat} (hx : x < 32) (hg : ∀ i, i < 32 → ga i = gb i) (h4 : ∀ i, i < x → (Fa i 0).toI = (Fb i 0).toI ∧ (Fa i 1).toI = (Fb i 1).toI) : InvF ga gb Fa Fb (x + 1) 1 (rowF x (Fb x 0).toI (Fb x 1).toI) := by
  have h5 := Acc.one (s := (ga, Fa)) (rowF_ok x (Fb x 0).toI (Fb x 1).toI hx)
  rw [stpF] at h5
  refine ⟨by omega, ga, _, h5, hg, nextF fun i hi => ?_⟩
  by_cases q : i < x
  · rw [if_pos q, if_pos q]; exact h4 i q
  · rw [if_neg q, if_neg q]; exact ⟨rfl, rfl⟩
theorem InvX.done {n : Nat} {h : Nat → Nat → Lf} (a : InvX ga gb Fa 32 n h) : InvF ga gb Fa Fb 0 n h := by
  obtain ⟨h1, gx, h2, h3⟩ := a
  refine ⟨by omega, gx, Fa, h2, fun i hi => ?_, fun i hi => ?_⟩
  · rw [h3 i hi, if_pos hi]
  · rw [if_neg (by omega), if_neg (by omega)]; exact ⟨rfl, rfl⟩
abbrev KS := Nat → Bool → (Nat → Int) → (Nat → Nat → Lf) → Bool → (Nat → Int) → (Nat → Nat → Lf) → Nat → (Nat → Nat → Lf) → Prop
abbrev KN := Bool → (Nat → Int) → (Nat → Nat → Lf) → Bool → (Nat → Int) → (Nat → Nat → Lf) → Prop
theorem cx1 (h0 : ga 0 = 0) (hb0 : gb 0 = 0) (k : KS) (hk : ∀ n h, InvX ga gb Fa 32 n h → k n true ga Fa true gb Fb n h) :
    ∀ (j x n : Nat) (h : Nat → Nat → Lf), x + j = 32 → InvX ga gb Fa x n h → regs_Changed.l5h1 k (j + 1) n gb (x : Int) true ga Fa true gb Fb n h := by
  intro j
  induction j with
  | zero =>
    intro x n h hx a
    obtain rfl : x = 32 := by omega
    unfold regs_Changed.l5h1 regs_Changed.l5h1.step
    rw [br_f (lt_f (by omega))]
    exact hk n h a
  | succ j ih =>
    intro x n h hx a
    have hx : x < 32 := by omega
    have hadd : addI .i64 (x : Int) 1 = ((x + 1 : Nat) : Int) := by rw [add_i64 (by omega) (by omega)]; omega
    unfold regs_Changed.l5h1 regs_Changed.l5h1.step
    rw [br_t (lt_t (by omega)), gd_t (by rw [le_t (by omega), lt_t (by omega)]; rfl), gd_t (by rw [le_t (by omega), lt_t (by omega)]; rfl), Int.toNat_natCast, hadd]
    by_cases e : ga x = gb x
    · rw [br_f (by rw [eq_t e]; rfl)]
      exact ih (x + 1) n h (by omega) (a.skip hx e)
    · rw [br_t (by rw [eq_f e]; rfl), gd_t (by have := a.1; exact Nat.ble_eq_true_of_le (by omega))]
      exact ih (x + 1) (n + 1) _ (by omega) (a.more h0 hb0 hx e)
theorem cx0 (h0 : ga 0 = 0) (hb0 : gb 0 = 0) (k0 : KN) (k : KS) (hk0 : (∀ i, i < 32 → ga i = gb i) → k0 true ga Fa true gb Fb) (hk : ∀ n h, InvX ga gb Fa 32 n h → k n true ga Fa true gb Fb n h) :
    ∀ (j x : Nat), x + j = 32 → (∀ i, i < x → ga i = gb i) → regs_Changed.l5 k0 k (j + 1) gb (x : Int) true ga Fa true gb Fb := by
  intro j
  induction j with
  | zero =>
    intro x hx a
    obtain rfl : x = 32 := by omega
    unfold regs_Changed.l5 regs_Changed.l5.step
    rw [br_f (lt_f (by omega))]
    exact hk0 a
  | succ j ih =>
    intro x hx a
    have hx' : x < 32 := by omega
    have hadd : addI .i64 (x : Int) 1 = ((x + 1 : Nat) : Int) := by rw [add_i64 (by omega) (by omega)]; omega
    unfold regs_Changed.l5 regs_Changed.l5.step
    rw [br_t (lt_t (by omega)), gd_t (by rw [le_t (by omega), lt_t (by omega)]; rfl), gd_t (by rw [le_t (by omega), lt_t (by omega)]; rfl), Int.toNat_natCast, hadd]
    by_cases e : ga x = gb x
    · rw [br_f (by rw [eq_t e]; rfl)]
      refine ih (x + 1) (by omega) fun i hi => ?_
      by_cases q : i = x
      · subst q; exact e
      · exact a i (by omega)
    · rw [br_t (by rw [eq_f e]; rfl)]
      exact cx1 h0 hb0 k hk j (x + 1) 1 _ (by omega) (InvX.first h0 hb0 hx' a e)
theorem cf1 (k : KS) (hk : ∀ n h, InvF ga gb Fa Fb 32 n h → k n true ga Fa true gb Fb n h) :
    ∀ (j x n : Nat) (h : Nat → Nat → Lf), x + j = 32 → InvF ga gb Fa Fb x n h → regs_Changed.l11h1 k (j + 1) n Fb (x : Int) true ga Fa true gb Fb n h := by
  intro j
  induction j with
  | zero =>
    intro x n h hx a
    obtain rfl : x = 32 := by omega
    unfold regs_Changed.l11h1 regs_Changed.l11h1.step
    rw [br_f (lt_f (by omega))]
    exact hk n h a
  | succ j ih =>
    intro x n h hx a
    have hx : x < 32 := by omega
    have hadd : addI .i64 (x : Int) 1 = ((x + 1 : Nat) : Int) := by rw [add_i64 (by omega) (by omega)]; omega
    unfold regs_Changed.l11h1 regs_Changed.l11h1.step
    rw [br_t (lt_t (by omega)), gd_t (by rw [le_t (by omega), lt_t (by omega)]; rfl), gd_t (by rw [le_t (by omega), lt_t (by omega)]; rfl), Int.toNat_natCast, hadd]
    by_cases e : (Fa x 0).toI = (Fb x 0).toI ∧ (Fa x 1).toI = (Fb x 1).toI
    · rw [br_f (by rw [eq_t e.1, eq_t e.2]; rfl)]
      exact ih (x + 1) n h (by omega) (a.skip hx e.1 e.2)
    · rw [br_t (by
        by_cases q : (Fa x 0).toI = (Fb x 0).toI
        · rw [eq_t q, eq_f fun q2 => e ⟨q, q2⟩]; rfl
        · rw [eq_f q]; rfl), gd_t (by have := a.1; exact Nat.ble_eq_true_of_le (by omega))]
      exact ih (x + 1) (n + 1) _ (by omega) (a.more hx)
theorem cf0 (hg : ∀ i, i < 32 → ga i = gb i) (k0 : KN) (k : KS) (hk0 : (∀ i, i < 32 → (Fa i 0).toI = (Fb i 0).toI ∧ (Fa i 1).toI = (Fb i 1).toI) → k0 true ga Fa true gb Fb) (hk : ∀ n h, InvF ga gb Fa Fb 32 n h → k n true ga Fa true gb Fb n h) :
    ∀ (j x : Nat), x + j = 32 → (∀ i, i < x → (Fa i 0).toI = (Fb i 0).toI ∧ (Fa i 1).toI = (Fb i 1).toI) → regs_Changed.l11 k0 k (j + 1) Fb (x : Int) true ga Fa true gb Fb := by
  intro j
  induction j with
  | zero =>
    intro x hx a
    obtain rfl : x = 32 := by omega
    unfold regs_Changed.l11 regs_Changed.l11.step
    rw [br_f (lt_f (by omega))]
    exact hk0 a
  | succ j ih =>
    intro x hx a
    have hx' : x < 32 := by omega
    have hadd : addI .i64 (x : Int) 1 = ((x + 1 : Nat) : Int) := by rw [add_i64 (by omega) (by omega)]; omega
    unfold regs_Changed.l11 regs_Changed.l11.step
    rw [br_t (lt_t (by omega)), gd_t (by rw [le_t (by omega), lt_t (by omega)]; rfl), gd_t (by rw [le_t (by omega), lt_t (by omega)]; rfl), Int.toNat_natCast, hadd]
    by_cases e : (Fa x 0).toI = (Fb x 0).toI ∧ (Fa x 1).toI = (Fb x 1).toI
    · rw [br_f (by rw [eq_t e.1, eq_t e.2]; rfl)]
      refine ih (x + 1) (by omega) fun i hi => ?_
      by_cases q : i = x
      · subst q; exact e
      · exact a i (by omega)
    · rw [br_t (by
        by_cases q : (Fa x 0).toI = (Fb x 0).toI
        · rw [eq_t q, eq_f fun q2 => e ⟨q, q2⟩]; rfl
        · rw [eq_f q]; rfl)]
      exact cf1 k hk j (x + 1) 1 _ (by omega) (InvF.first hx' hg a)
theorem changed_ok (h0 : ga 0 = 0) (hb0 : gb 0 = 0) (K : Nat → (Nat → Nat → Lf) → Int → Bool → (Nat → Int) → (Nat → Nat → Lf) → Bool → (Nat → Int) → (Nat → Nat → Lf) → Prop)
    (hK : ∀ n h gx Fx, n ≤ 64 → Acc (ga, Fa) n h (gx, Fx) → (∀ i, i < 32 → gx i = gb i) → (∀ i, i < 32 → (Fx i 0).toI = (Fb i 0).toI ∧ (Fx i 1).toI = (Fb i 1).toI) → K n h 0 true ga Fa true gb Fb) :
    regs_Changed true ga Fa true gb Fb K := by
  rw [regs_Changed.is]; unfold regs_Changed.d
  rw [none_ok]
  show br false _ _
  rw [br_f rfl, none_ok]
  show br false _ _
  rw [br_f rfl]
  have fin : ∀ n h, InvF ga gb Fa Fb 32 n h → K n h 0 true ga Fa true gb Fb := by
    rintro n h ⟨h1, gx, Fx, h2, h3, h4⟩
    refine hK n h gx Fx (by omega) h2 h3 fun i hi => ?_
    have := h4 i hi
    rw [if_pos hi, if_pos hi] at this
    exact this
  refine ⟨33, cx0 h0 hb0 _ _ (fun hg => ⟨33, cf0 hg _ _ (fun hf => ?_) (fun n h a => fin n h a) 32 0 (by omega) fun i hi => absurd hi (by omega)⟩) (fun n h a => ⟨33, cf1 _ (fun n h a => fin n h a) 32 0 n h (by omega) a.done⟩) 32 0 (by omega) fun i hi => absurd hi (by omega)⟩
  exact hK 0 z2 ga Fa (by omega) (Acc.zero _ _) hg hf
end changed
end Go.Ev.S

/- The plain laws of BoxReads, BoxWithin and BoxBack. -/
set_option linter.unusedVariables false
set_option linter.unusedSimpArgs false
set_option maxRecDepth 8000
namespace Go.Ev.S
open Go Go.Ev
theorem u8_of {a : Int} (w : (Lit.int .u8 a).wf = true) : ∃ n : Nat, a = n ∧ n < 256 := by
  obtain ⟨h1, h2⟩ := range_u8 w
  exact ⟨a.toNat, by omega, by omega⟩
theorem pair_of {a b : Int} (w : (Lit.int .u64 a).wf = true) (w2 : (Lit.int .u64 b).wf = true) : ∃ x : Nat, x < 2 ^ 128 ∧ a = Hi x ∧ b = Lo x := by
  obtain ⟨h1, h2⟩ := range_u64 w
  obtain ⟨h3, h4⟩ := range_u64 w2
  refine ⟨two a.toNat b.toNat, two_lt (by omega) (by omega), ?_, ?_⟩
  · rw [Hi_two (by omega)]; omega
  · rw [Lo_two (by omega)]; omega
theorem bx {x : Nat} : (eqI (Hi x) (Hi x) && eqI (Lo x) (Lo x)) = true := by rw [pair_eq]; simp
theorem boxed_box (f b : Nat) (h : f ≤ 3) (hb : b < 2 ^ fw f) : boxed f (b + ab f) = true := by unfold boxed; simp
theorem box_mod (f b : Nat) (h : f ≤ 3) (hb : b < 2 ^ fw f) : (b + ab f) % 2 ^ fw f = b := by
  have h4 : 2 ^ fw f ∣ ab f := by
    unfold ab
    exact Nat.dvd_sub (Nat.pow_dvd_pow 2 (fw_le2 f h).2) (Nat.dvd_refl _)
  obtain ⟨c, hc⟩ := h4
  rw [hc, Nat.add_mul_mod_self_left, Nat.mod_eq_of_lt hb]
theorem unbox_box (f b : Nat) (h : f ≤ 3) (hb : b < 2 ^ fw f) : unbox f (b + ab f) = b := by
  unfold unbox; rw [boxed_box f b h hb]; exact box_mod f b h hb
end Go.Ev.S

/- The registers: RegsBack. -/
set_option linter.unusedVariables false
set_option linter.unusedSimpArgs false
set_option maxRecDepth 20000
namespace Go.Ev.S
open Go Go.Ev
theorem eqN_refl (g : Nat → Int) : eqN 32 g g = true := (eqN_iff _ _ _).2 fun _ _ => rfl
theorem eqF_refl (F : Nat → Nat → Lf) : eqTb (Sk.agg [Sk.int IntKind.u64, Sk.int IntKind.u64]) 32 F F = true := (eqF_iff F F).2 fun _ _ => ⟨rfl, rfl⟩
theorem back_loop (k0 : Bool → Prop) (k1 : Int → Int → Int → Int → Int → Int → Int → Int → Int → Nat → (Nat → Nat → Lf) → Bool → (Nat → Int) → (Nat → Nat → Lf) → (Nat → Int) → (Nat → Nat → Lf) → Int → Int → Int → Int → Prop)
    (x0 x1 x3 x4 : Int) (m : Nat) (hm : m < 32) (x6 x7 x8 x9 : Int) (x10 : Nat) (x11 : Nat → Nat → Lf) (x12 : Bool) (x13 : Nat → Int) (x14 : Nat → Nat → Lf) (g : Nat → Int) (F : Nat → Nat → Lf) (p q : Int) (x19 x20 x21 x22 : Int)
    (hk : k1 x0 x1 x3 x4 m x6 x7 x8 x9 x10 x11 x12 x13 x14 g F x19 x20 x21 x22) :
    ∀ (j x : Nat), x + j = 32 → law23_RegsBack.l14 k0 k1 (j + 1) x0 x1 (x : Int) x3 x4 m x6 x7 x8 x9 x10 x11 x12 x13 x14 g F g (upd2 (upd2 F m 0 (Lf.z p)) m 1 (Lf.z q)) x19 x20 x21 x22 := by
  intro j
  induction j with
  | zero =>
    intro x hx
    obtain rfl : x = 32 := by omega
    unfold law23_RegsBack.l14 law23_RegsBack.l14.step
    rw [br_f (lt_f (by omega))]
    exact hk
  | succ j ih =>
    intro x hx
    have hadd : addI .i64 (x : Int) 1 = ((x + 1 : Nat) : Int) := by rw [add_i64 (by omega) (by omega)]; omega
    unfold law23_RegsBack.l14 law23_RegsBack.l14.step
    rw [br_t (lt_t (by omega)), gd_t (by rw [le_t (by omega), lt_t (by omega)]; rfl), gd_t (by rw [le_t (by omega), lt_t (by omega)]; rfl), Int.toNat_natCast, hadd, br_f (by rw [eq_t rfl]; rfl)]
    by_cases e : x = m
    · rw [br_f (by rw [eq_t (by omega)]; rfl)]
      exact ih (x + 1) (by omega)
    · rw [br_t (by rw [eq_f (by omega)]; rfl), gd_t (by rw [le_t (by omega), lt_t (by omega)]; rfl), gd_t (by rw [le_t (by omega), lt_t (by omega)]; rfl)]
      rw [(set2 _ _ _ _ _).1, (set2 _ _ _ _ _).2, if_neg e, if_neg e, br_f (by rw [eq_t rfl, eq_t rfl]; rfl)]
      exact ih (x + 1) (by omega)
theorem regsBack (a0_0 : Nat → Int) (a0_1 : Nat → Nat → Lf) (a1_0 : Nat → Int) (a1_1 : Nat → Nat → Lf) (a2_0 : Int) (a2_1 : Int) (a2_2 : Int) (a2_3 : Int) (a2_4_0 : Int) (a2_4_1 : Int) (a2_5 : Int) (a2_6n : Nat) (a2_6 : Nat → Nat → Lf)
    (_ : ∀ i, i < 32 → (Lit.int .u64 (a0_0 i)).wf = true) (_ : ∀ i, 32 ≤ i → a0_0 i = 0) (_ : ∀ i, i < 32 → Sk.has (.agg [.int .u64, .int .u64]) 0 (a0_1 i)) (_ : ∀ i, i < 32 → (Lit.int .u64 (a1_0 i)).wf = true) (_ : ∀ i, 32 ≤ i → a1_0 i = 0) (_ : ∀ i, i < 32 → Sk.has (.agg [.int .u64, .int .u64]) 0 (a1_1 i))
    (_ : (Lit.int .i64 a2_0).wf = true) (_ : (Lit.int .i64 a2_1).wf = true) (_ : (Lit.int .i64 a2_2).wf = true) (_ : (Lit.int .u64 a2_3).wf = true)
    (w0 : (Lit.int .u64 a2_4_0).wf = true) (w1 : (Lit.int .u64 a2_4_1).wf = true) (w2 : (Lit.int .u8 a2_5).wf = true)
    (_ : a2_6n ≤ maxLen) (_ : ∀ i, i < a2_6n → Sk.has (.agg [.bool, .int .i64, .int .u64, .agg [.int .u64, .int .u64]]) 0 (a2_6 i)) (K : Bool → Prop) (hK : K true) :
    law23_RegsBack a0_0 a0_1 a1_0 a1_1 a2_0 a2_1 a2_2 a2_3 a2_4_0 a2_4_1 a2_5 a2_6n a2_6 K := by
  have hal : law23_lives fun y0 => K y0 := lives_ok _ hK
  obtain ⟨x, hx, rfl, rfl⟩ := pair_of w0 w1
  obtain ⟨f, rfl, hf⟩ := u8_of w2
  rw [law23_RegsBack.is]; unfold law23_RegsBack.d
  rw [rfrom_ok, rfrom_ok]
  have ea : upd a0_0 0 0 0 = 0 := upd_same _ _ _
  have eb : upd a1_0 0 0 0 = 0 := upd_same _ _ _
  generalize upd a0_0 0 0 = ga at *
  generalize upd a1_0 0 0 = gb at *
  refine changed_ok ea eb _ fun n h gx Fx hn acc hg hF => ?_
  rw [rcopy_ok, br_f (show (!eqI 0 0) = false from rfl)]
  refine change_ok n h (by omega) acc _ ?_
  rw [br_f (show (!eqI 0 0) = false from rfl), rsame_ok]
  have e1 : eqN 32 gx gb = true := (eqN_iff _ _ _).2 hg
  have e2 : eqTb (Sk.agg [Sk.int IntKind.u64, Sk.int IntKind.u64]) 32 Fx a1_1 = true := (eqF_iff _ _).2 hF
  rw [e1, e2]
  refine ⟨rfl, ?_⟩
  show br (!true) _ _
  rw [br_f (show (!true) = false from rfl), rtell_ok]
  refine ⟨rfl, ?_⟩
  rw [rfrom_ok, rsame_ok, eqF_refl]
  have e3 : eqN 32 (upd ga 0 0) ga = true := (eqN_iff _ _ _).2 fun i _ => by
    by_cases q : i = 0
    · subst q; rw [upd_same, ea]
    · rw [upd_ne _ _ _ _ q]
  rw [e3]
  refine ⟨rfl, ?_⟩
  show br (!true) _ _
  rw [br_f (show (!true) = false from rfl), rtell_ok]
  refine ⟨rfl, ?_⟩
  refine rput_ok f x a2_2 hx _ (fun _ => ?_) fun hf3 hxw h0 h32 => ?_
  · rw [rtell_ok]
    refine ⟨rfl, ?_⟩
    rw [br_t (show (!eqI 2 0) = true from rfl), eqN_refl, eqF_refl]
    show br true _ _
    rw [br_t rfl, br_t (show eqI 2 2 = true from rfl)]
    exact hal
  · rw [rtell_ok]
    refine ⟨rfl, ?_⟩
    rw [br_f (show (!eqI 0 0) = false from rfl)]
    have hb := box_lt hf3 hxw
    have s0 := set2 a1_1 a2_2.toNat (Hi (x + ab f)) (Lo (x + ab f)) a2_2.toNat
    rw [if_pos rfl, if_pos rfl] at s0
    refine rget_ok f (x + ab f) a2_2 hf3 hb h0 h32 s0.1 s0.2 _ ?_
    refine rlow_ok f (x + ab f) a2_2 hf3 hb h0 h32 s0.1 s0.2 _ ?_
    rw [unbox_box f x hf3 hxw, box_mod f x hf3 hxw]
    obtain ⟨m, hm⟩ : ∃ m : Nat, a2_2 = m := ⟨a2_2.toNat, by omega⟩
    subst hm
    rw [Int.toNat_natCast]
    refine ⟨33, back_loop _ _ _ _ _ _ m (by omega) _ _ _ _ _ _ _ _ _ _ _ _ _ _ _ _ _ ?_ 32 0 (by omega)⟩
    rw [br_t (show eqI 0 0 = true from rfl), br_t (show eqI 0 0 = true from rfl), bx, br_t rfl, br_t rfl, rtell_ok]
    refine ⟨rfl, ?_⟩
    rw [e1, e2]
    show br true _ _
    rw [br_t rfl]
    exact hal
end Go.Ev.S
