/- What the document's answer reckons with natural numbers: made, measured, moved. -/
import Derived.Test.YtdbjlpagibdnhaaDoorLA
set_option linter.unusedVariables false
set_option linter.unusedSimpArgs false
set_option maxRecDepth 8000
namespace Go.Ev.S
open Go Go.Ev

theorem shl_i64 (a s : Nat) (hs : s ≤ 63) (h : a * 2 ^ s < 9223372036854775808) : shlI .i64 (a : Int) (s : Int) = ((a * 2 ^ s : Nat) : Int) := by
  have hb : IntKind.bits .i64 = 64 := rfl
  have h1 : min (Int.toNat (s : Int)) (IntKind.bits .i64) = s := by rw [Int.toNat_natCast, hb]; omega
  simp only [shlI, h1]
  have e : (a : Int) * 2 ^ s = ((a * 2 ^ s : Nat) : Int) := by simp
  rw [e]
  exact i64_id (by omega) (by omega)
theorem or_i64 (a b : Nat) (ha : a < 2 ^ 62) (hb : b < 2 ^ 62) : orI .i64 (a : Int) (b : Int) = ((a ||| b : Nat) : Int) := by
  have h3 : a ||| b < 2 ^ 62 := Nat.or_lt_two_pow ha hb
  have e62 : (2 : Nat) ^ 62 = 4611686018427387904 := rfl
  show IntKind.wrap .i64 (((BitVec.ofInt 64 (a : Int) ||| BitVec.ofInt 64 (b : Int) : BitVec 64).toNat : Nat) : Int) = _
  rw [BitVec.toNat_or, BitVec.ofInt_natCast, BitVec.ofInt_natCast, BitVec.toNat_ofNat, BitVec.toNat_ofNat, Nat.mod_eq_of_lt (by rw [B64]; omega), Nat.mod_eq_of_lt (by rw [B64]; omega)]
  exact i64_id (by omega) (by omega)
theorem and_i64_1 (a : Nat) (ha : a < 2 ^ 62) : andI .i64 (a : Int) 1 = ((a % 2 : Nat) : Int) := by
  have e62 : (2 : Nat) ^ 62 = 4611686018427387904 := rfl
  show IntKind.wrap .i64 (((BitVec.ofInt 64 (a : Int) &&& BitVec.ofInt 64 ((1 : Nat) : Int) : BitVec 64).toNat : Nat) : Int) = _
  rw [BitVec.toNat_and, BitVec.ofInt_natCast, BitVec.ofInt_natCast, BitVec.toNat_ofNat, BitVec.toNat_ofNat, Nat.mod_eq_of_lt (by rw [B64]; omega), Nat.mod_eq_of_lt (by rw [B64]; omega)]
  have : a &&& 1 = a % 2 := Nat.and_one_is_mod a
  rw [this]
  exact i64_id (by omega) (by omega)
theorem shr_i64 (a s : Nat) (hs : s ≤ 64) : shrI .i64 (a : Int) (s : Int) = ((a / 2 ^ s : Nat) : Int) := by
  rw [shr_pos (k := .i64) hs]; simp

theorem r05_Of_loop (x : Nat) (hx : x < 18446744073709551616) (k0 : (Nat → Int) → Prop) (h : k0 (G 8 x)) : ∀ (j i : Nat), i + j = 8 → r05_Of.l3 k0 (j + 1) x i (G 8 (x % 2 ^ (8 * i))) := by
  intro j
  induction j with
  | zero =>
    intro i hi
    have hi : i = 8 := by omega
    subst hi
    unfold r05_Of.l3 r05_Of.l3.step
    rw [br_f (lt_f (by omega)), Nat.mod_eq_of_lt (by rw [show 8 * 8 = 64 from rfl, B64]; exact hx)]
    exact h
  | succ j ih =>
    intro i hi
    have ih := ih (i + 1) (by omega)
    have e : ((i + 1 : Nat) : Int) = (i : Int) + 1 := by omega
    rw [e, mod_dg, ← G_put 8 _ _ i (Nat.mod_lt _ (Nat.two_pow_pos _)) (dg_lt 8 x i)] at ih
    have e1 : 8 * (i : Int) = ((8 * i : Nat) : Int) := by omega
    have e2 : shrI .u64 (x : Int) ((8 * i : Nat) : Int) = ((x / 2 ^ (8 * i) : Nat) : Int) := by
      rw [shr_pos (k := .u64) (by have : IntKind.bits .u64 = 64 := rfl
                                  rw [this]; omega)]
      simp
    have e3 : ((x / 2 ^ (8 * i) : Nat) : Int) % 256 = ((dg 8 x i : Nat) : Int) := by
      unfold dg; rw [B8]; omega
    unfold r05_Of.l3 r05_Of.l3.step
    simp (disch := omega) only [lt_t, lt_f, le_t, gd_true, br_true, Bool.and_self, Bool.not_false, mul_i64, cv_u64, add_i64, Int.toNat_natCast, e1, e2, cv_u8', e3]
    exact ih
theorem r05_Of_ok (x : Nat) (hx : x < 18446744073709551616) (K : List UInt8 → Prop) (h : K (nb x)) : r05_Of x K := by
  rw [r05_Of.is]; unfold r05_Of.d
  refine ⟨9, ?_⟩
  have := r05_Of_loop x hx (fun y0 => r05_fit 8 y0 fun y0 => K y0) ?_ 8 0 rfl
  · rw [Nat.mul_zero, Nat.pow_zero, Nat.mod_one, G_zero] at this; exact this
  · exact r05_fit_ok 8 x (by omega) (by rw [show 8 * 8 = 64 from rfl, B64]; exact hx) _ h

theorem W_G (x : Nat) : W x = G 64 x := rfl
theorem p384' {i : Nat} (h : i = 48) : 2 ^ (8 * i) = Q6 := Q6_at (by omega)
theorem sub_word (x i : Nat) : wd x (i / 8) / 2 ^ (8 * (i % 8)) % 256 = dg 8 x i := by
  unfold wd dg
  have hr : i % 8 < 8 := Nat.mod_lt _ (by omega)
  have h1 : (18446744073709551616 : Nat) = 2 ^ (8 * (i % 8)) * (2 ^ 8 * 2 ^ (56 - 8 * (i % 8))) := by
    rw [← Nat.pow_add, ← Nat.pow_add, show (18446744073709551616 : Nat) = 2 ^ 64 from rfl]; congr 1; omega
  rw [h1, Nat.mod_mul_right_div_self, show (256 : Nat) = 2 ^ 8 from rfl, Nat.mod_mul_right_mod, Nat.div_div_eq_div_mul, ← Nat.pow_add]
  congr 3; omega
theorem r05_OfWide_loop (x : Nat) (hx : x < Q6) (k0 : (Nat → Int) → Prop) (h : k0 (G 8 x)) : ∀ (j i : Nat), i + j = 48 → r05_OfWide.l3 k0 (j + 1) i (W x) (G 8 (x % 2 ^ (8 * i))) := by
  intro j
  induction j with
  | zero =>
    intro i hi
    have hi : i = 48 := by omega
    unfold r05_OfWide.l3 r05_OfWide.l3.step
    rw [br_f (lt_f (by omega)), Nat.mod_eq_of_lt (by rw [p384' hi]; exact hx)]
    exact h
  | succ j ih =>
    intro i hi
    have ih := ih (i + 1) (by omega)
    have e : ((i + 1 : Nat) : Int) = (i : Int) + 1 := by omega
    rw [e, mod_dg, ← G_put 8 _ _ i (Nat.mod_lt _ (Nat.two_pow_pos _)) (dg_lt 8 x i)] at ih
    have e0 : Int.toNat ((i : Int) / 8) = i / 8 := by omega
    have e1 : 8 * ((i : Int) % 8) = ((8 * (i % 8) : Nat) : Int) := by omega
    have e2 : shrI .u64 ((wd x (i / 8) : Nat) : Int) ((8 * (i % 8) : Nat) : Int) = ((wd x (i / 8) / 2 ^ (8 * (i % 8)) : Nat) : Int) := by
      rw [shr_pos (k := .u64) (by have : IntKind.bits .u64 = 64 := rfl
                                  rw [this]; omega)]
      simp
    have e3 : ((wd x (i / 8) / 2 ^ (8 * (i % 8)) : Nat) : Int) % 256 = ((dg 8 x i : Nat) : Int) := by
      have := sub_word x i; omega
    unfold r05_OfWide.l3 r05_OfWide.l3.step
    simp (disch := omega) only [lt_t, lt_f, le_t, gd_true, br_true, Bool.and_self, Bool.not_false, quo_i64, rem_i, mul_i64, cv_u64, add_i64, Int.toNat_natCast, W_app, e0, e1, e2, cv_u8', e3]
    exact ih
theorem r05_OfWide_ok (x : Nat) (hx : x < Q6) (K : List UInt8 → Prop) (h : K (nb x)) : r05_OfWide (W x) K := by
  rw [r05_OfWide.is]; unfold r05_OfWide.d
  refine ⟨49, ?_⟩
  have := r05_OfWide_loop x hx (fun y0 => r05_fit 48 y0 fun y0 => K y0) ?_ 48 0 rfl
  · rw [Nat.mul_zero, Nat.pow_zero, Nat.mod_one, G_zero] at this; exact this
  · exact r05_fit_ok 48 x (by omega) (Nat.lt_of_lt_of_eq hx (p384' rfl).symm) _ h

/-- A part laid into a word of 64 above what is there. -/
theorem or_shl64 (d b s w : Nat) (hd : d < 2 ^ s) (hs : s + w ≤ 64) (hb : b < 2 ^ w) : orI .u64 (d : Int) (shlI .u64 (b : Int) (s : Int)) = ((d + b * 2 ^ s : Nat) : Int) := by
  have hb64 : IntKind.bits .u64 = 64 := rfl
  have h1 : b * 2 ^ s + 2 ^ s ≤ 2 ^ 64 := by
    have h2 : (b + 1) * 2 ^ s ≤ 2 ^ w * 2 ^ s := Nat.mul_le_mul_right _ hb
    have h3 : 2 ^ w * 2 ^ s ≤ 2 ^ 64 := by rw [← Nat.pow_add]; exact Nat.pow_le_pow_right (by omega) (by omega)
    rw [Nat.add_mul] at h2; omega
  have hP := Nat.two_pow_pos s
  rw [shl_k (k := .u64) rfl b s (by rw [hb64]; omega), hb64, Nat.mod_eq_of_lt (by omega), or_k (k := .u64) rfl _ _ (by rw [hb64]; omega) (by rw [hb64]; omega)]
  congr 1
  exact or_mult hd (Nat.mul_mod_left _ _)
theorem put_fits {d b s w : Nat} (hd : d < 2 ^ s) (hs : s + w ≤ 64) (hb : b < 2 ^ w) : d + b * 2 ^ s < 2 ^ 64 := by
  have h2 : (b + 1) * 2 ^ s ≤ 2 ^ w * 2 ^ s := Nat.mul_le_mul_right _ hb
  have h3 : 2 ^ w * 2 ^ s ≤ 2 ^ 64 := by rw [← Nat.pow_add]; exact Nat.pow_le_pow_right (by omega) (by omega)
  rw [Nat.add_mul] at h2; omega
theorem r05_ToWide_loop (a : List UInt8) (hl : a.length ≤ 48) (k0 : (Nat → Int) → (Nat → Int) → Prop) (z : Nat → Int) (h : k0 z (W (val a))) : ∀ (j i : Nat), i + j = a.length → r05_ToWide.l5 k0 (j + 1) a i z (G 64 (val a % 2 ^ (8 * i))) := by
  intro j
  induction j with
  | zero =>
    intro i hi
    unfold r05_ToWide.l5 r05_ToWide.l5.step
    rw [br_f (lt_f (by omega)), Nat.mod_eq_of_lt (by have := val_lt8 a; rwa [show i = a.length from by omega])]
    exact h
  | succ j ih =>
    intro i hi
    have ih := ih (i + 1) (by omega)
    have e : ((i + 1 : Nat) : Int) = (i : Int) + 1 := by omega
    rw [e] at ih
    have hd := dg_lt 8 (val a) i
    have e0 : Int.toNat ((i : Int) / 8) = i / 8 := by omega
    have e1 : 8 * ((i : Int) % 8) = ((8 * (i % 8) : Nat) : Int) := by omega
    have hlow := dg_low 64 (val a % 2 ^ (8 * i)) (i / 8) (8 * (i % 8)) (by rw [show 64 * (i / 8) + 8 * (i % 8) = 8 * i from by omega]; exact Nat.mod_lt _ (Nat.two_pow_pos _))
    have o := or_shl64 _ (dg 8 (val a) i) (8 * (i % 8)) 8 hlow (by omega) hd
    have hG : upd (G 64 (val a % 2 ^ (8 * i))) (i / 8) ((dg 64 (val a % 2 ^ (8 * i)) (i / 8) + dg 8 (val a) i * 2 ^ (8 * (i % 8)) : Nat) : Int) = G 64 (val a % 2 ^ (8 * (i + 1))) := by
      refine G_upd ?_ (put_fits hlow (by omega) hd)
      rw [mod_dg 8, Nat.add_mul, Nat.mul_assoc, ← Nat.pow_add, show 8 * (i % 8) + 64 * (i / 8) = 8 * i from by omega]; omega
    rw [B8] at hd
    unfold r05_ToWide.l5 r05_ToWide.l5.step
    simp (disch := omega) only [lt_t, le_t, gd_true, br_true, Bool.and_self, quo_i64]
    rw [r05_at_ok a i (by omega) (by omega)]
    simp (disch := omega) only [lt_t, lt_f, le_t, gd_true, Bool.and_self, Bool.not_false, rem_i, mul_i64, cv_u64, add_i64, e0, e1, G_app, o, hG]
    exact ih
theorem r05_ToWide_ok (a : List UInt8) (K : (Nat → Int) → Bool → Prop) (h : if May a ∧ a.length ≤ 48 then K (W (val a)) true else K (W 0) false) : r05_ToWide a K := by
  rw [r05_ToWide.is]; unfold r05_ToWide.d
  rw [r05_May_ok]
  by_cases hm : May a
  · rw [br_f (by simp [hm])]
    by_cases hl : a.length ≤ 48
    · rw [if_pos ⟨hm, hl⟩] at h
      rw [br_f (lt_f (by omega))]
      refine ⟨a.length + 1, ?_⟩
      have := r05_ToWide_loop a hl (fun y0 y1 => K y1 true) (fun _ => 0) h a.length 0 (by omega)
      rw [Nat.mul_zero, Nat.pow_zero, Nat.mod_one, G_zero] at this
      exact this
    · rw [if_neg fun hc => hl hc.2, W_zero] at h
      rw [br_t (lt_t (by omega))]; exact h
  · rw [if_neg fun hc => hm hc.1, W_zero] at h
    rw [br_t (by simp [hm])]; exact h

theorem r05_Len_ok (a : List UInt8) (K : Int → Prop) (h : K (if May a then (blen (val a) : Int) else 0)) : r05_Len a K := by
  rw [r05_Len.is]; unfold r05_Len.d
  rw [r05_May_ok]
  by_cases hm : May a
  · rw [if_pos hm] at h
    rw [br_f (by simp [hm]), eqS_nil]
    cases a with
    | nil => rw [br_t (by simp)]; exact h
    | cons b l =>
      have hl := hm.1
      rw [List.length_cons] at hl
      have hv : val (b :: l) ≠ 0 := fun e => by have := hm.nb; rw [e, nb_zero] at this; cases this
      have hb := blen_top 8 _ (by omega) hv
      rw [wl_val hm.2, List.length_cons, Nat.add_sub_cancel, head_dg] at hb
      have hbl := u8_lt b
      rw [br_f (by simp), gd_t (lt_t (by rw [List.length_cons]; omega)), byteAt_zero, cv_u64 (by omega) (by omega)]
      refine r01_Len_ok _ (by omega) _ ?_
      have h8 : blen b.toNat ≤ 8 := (blen_le _ _).2 hbl
      rw [List.length_cons]
      simp (disch := omega) only [sub_i64, mul_i64, add_i64]
      rw [show 8 * (((l.length + 1 : Nat) : Int) - 1) + (blen b.toNat : Int) = ((blen (val (b :: l)) : Nat) : Int) from by rw [hb]; omega]
      exact h
  · rw [if_neg hm] at h
    rw [br_t (by simp [hm])]; exact h

theorem lowb_bits (x : Nat) (h : x ≠ 0) : x.testBit (lowb x) = true ∧ ∀ i, i < lowb x → x.testBit i = false := by
  obtain ⟨q, hq⟩ := lowb_spec x h
  generalize lowb x = k at *
  subst hq
  constructor
  · rw [Nat.testBit_two_pow_mul]; simp [Nat.testBit_zero]
  · intro i hi
    rw [Nat.testBit_two_pow_mul]; simp; omega
theorem r01_Low_loop (x : Nat) (h0 : x ≠ 0) (hx : x < 18446744073709551616) (hk : lowb x < 64) (k0 : Int → Prop) (k1 : Prop) (h : k0 (lowb x)) : ∀ (j i : Nat), i + j = lowb x → r01_Low.l2 k0 k1 (j + 1) x i := by
  obtain ⟨b1, b2⟩ := lowb_bits x h0
  intro j
  induction j with
  | zero =>
    intro i hi
    unfold r01_Low.l2 r01_Low.l2.step
    rw [br_t (lt_t (by omega)), r01_Bit_ok x i hx (by omega), show i = lowb x from by omega, b1, br_true]
    exact h
  | succ j ih =>
    intro i hi
    have ih := ih (i + 1) (by omega)
    have e : ((i + 1 : Nat) : Int) = (i : Int) + 1 := by omega
    rw [e] at ih
    unfold r01_Low.l2 r01_Low.l2.step
    rw [br_t (lt_t (by omega)), r01_Bit_ok x i hx (by omega), b2 i (by omega), br_false, add_i64 (by omega) (by omega)]
    exact ih
theorem lowb_lt (x n : Nat) (h0 : x ≠ 0) (hx : x < 2 ^ n) : lowb x < n := by
  obtain ⟨b1, _⟩ := lowb_bits x h0
  apply Classical.byContradiction
  intro hc
  rw [Nat.testBit_lt_two_pow (Nat.lt_of_lt_of_le hx (Nat.pow_le_pow_right (by omega) (by omega)))] at b1
  cases b1
theorem r01_Low_ok (x : Nat) (h0 : x ≠ 0) (hx : x < 18446744073709551616) (K : Int → Prop) (h : K (lowb x)) : r01_Low x K := by
  rw [r01_Low.is]; unfold r01_Low.d
  exact ⟨lowb x + 1, r01_Low_loop x h0 hx (lowb_lt x 64 h0 hx) _ _ h (lowb x) 0 (by omega)⟩

theorem r05_Low_loop (a : List UInt8) (hl : a.length ≤ 100000) (k0 : Int → Prop) (k1 : Prop) (h0 : val a ≠ 0 → k0 (lowb (val a))) (h1 : val a = 0 → k1) :
    ∀ (j t : Nat), t + j = a.length → val a % 2 ^ (8 * t) = 0 → r05_Low.l4 k0 k1 (j + 1) a t := by
  intro j
  induction j with
  | zero =>
    intro t ht hm
    unfold r05_Low.l4 r05_Low.l4.step
    rw [br_f (lt_f (by omega))]
    refine h1 ?_
    rw [Nat.mod_eq_of_lt (by have := val_lt8 a; rwa [show t = a.length from by omega])] at hm
    exact hm
  | succ j ih =>
    intro t ht hm
    have hd := dg_lt 8 (val a) t
    rw [B8] at hd
    unfold r05_Low.l4 r05_Low.l4.step
    rw [br_t (lt_t (by omega)), r05_at_ok a t (by omega) (by omega)]
    by_cases hz : dg 8 (val a) t = 0
    · rw [eq_t (by omega), br_f (by rfl), add_i64 (by omega) (by omega)]
      have := ih (t + 1) (by omega) (by rw [mod_dg, hm, hz]; omega)
      rw [show ((t + 1 : Nat) : Int) = (t : Int) + 1 from by omega] at this
      exact this
    · rw [eq_f (by omega), br_t (by rfl), r05_at_ok a t (by omega) (by omega), cv_u64 (by omega) (by omega)]
      refine r01_Low_ok _ hz (by omega) _ ?_
      have hlow := lowb_byte (val a) t hm hz
      have hk := lowb_lt _ 8 hz (by rw [B8]; exact hd)
      simp (disch := omega) only [mul_i64, add_i64]
      rw [show 8 * (t : Int) + (lowb (dg 8 (val a) t) : Int) = ((lowb (val a) : Nat) : Int) from by rw [hlow]; omega]
      refine h0 fun e => hz ?_
      rw [e]; exact dg_zero 8 0 t (Nat.two_pow_pos _)
theorem r05_Low_ok (a : List UInt8) (K : Int → Prop) (h : K (if May a then (lowb (val a) : Int) else 0)) : r05_Low a K := by
  rw [r05_Low.is]; unfold r05_Low.d
  rw [r05_May_ok]
  by_cases hm : May a
  · rw [if_pos hm] at h
    have hl := hm.1
    rw [br_f (by simp [hm])]
    exact ⟨a.length + 1, r05_Low_loop a (by omega) (fun y0 => K y0) (K 0) (fun _ => h) (fun e => by rw [e, lowb_zero] at h; exact h) a.length 0 (by omega) (by simp [Nat.mod_one])⟩
  · rw [if_neg hm] at h
    rw [br_t (by simp [hm])]; exact h

theorem up_step8 (x i s t y N : Nat) (ht : t = i + s / 8) (hy : dg 8 x i * 2 ^ (s % 8) = y) (hNN : x % 2 ^ (8 * i) * 2 ^ s = N) :
    ∃ N1, upd (G 8 N) t (((dg 8 N t ||| y % 256 : Nat)) : Int) = G 8 N1 ∧ upd (G 8 N1) (t + 1) ((y / 256 : Nat) : Int) = G 8 (x % 2 ^ (8 * (i + 1)) * 2 ^ s) := by
  have hdx := dg_lt 8 x i
  rw [B8] at hdx
  have hr : s % 8 < 8 := Nat.mod_lt _ (by omega)
  have hx := Nat.mod_lt x (Nat.two_pow_pos (8 * i))
  have hp : 2 ^ (8 * i) * 2 ^ s = 2 ^ (8 * t + s % 8) := by rw [← Nat.pow_add]; congr 1; omega
  have hN : N < 2 ^ (8 * t + s % 8) := by
    rw [← hp, ← hNN]; exact Nat.mul_lt_mul_of_pos_right hx (Nat.two_pow_pos _)
  have hlow := dg_low 8 N t (s % 8) hN
  have hN1 : N < 2 ^ (8 * (t + 1)) := Nat.lt_of_lt_of_le hN (Nat.pow_le_pow_right (by omega) (by omega))
  have hym : y % 256 % 2 ^ (s % 8) = 0 := by
    rw [show (256 : Nat) = 2 ^ 8 from rfl, Nat.mod_mod_of_dvd _ (Nat.pow_dvd_pow 2 (by omega)), ← hy]
    exact Nat.mul_mod_left _ _
  have hor : dg 8 N t ||| y % 256 = dg 8 N t + y % 256 := or_mult hlow hym
  have hsum : dg 8 N t + y % 256 < 2 ^ 8 := by
    rw [← hor]; exact Nat.or_lt_two_pow (dg_lt 8 N t) (by rw [B8]; exact Nat.mod_lt _ (by omega))
  have hyl : y / 256 < 2 ^ 8 := by
    rw [B8, Nat.div_lt_iff_lt_mul (by omega), ← hy]
    have : dg 8 x i * 2 ^ (s % 8) < 2 ^ 8 * 2 ^ 8 := Nat.mul_lt_mul_of_lt_of_le (by rw [B8]; exact hdx) (Nat.pow_le_pow_right (by omega) (by omega)) (Nat.two_pow_pos _)
    rw [B8] at this; exact this
  have hG1 : upd (G 8 N) t (((dg 8 N t ||| y % 256 : Nat)) : Int) = G 8 (N + y % 256 * 2 ^ (8 * t)) := by
    rw [hor]
    refine G_upd ?_ hsum
    rw [Nat.add_mul]; omega
  have hlt : N + y % 256 * 2 ^ (8 * t) < 2 ^ (8 * (t + 1)) := by
    have hNl : N = N % 2 ^ (8 * t) + dg 8 N t * 2 ^ (8 * t) := by
      have := mod_dg 8 N t
      rw [Nat.mod_eq_of_lt hN1] at this; exact this
    have h1 := put_lt 8 (N % 2 ^ (8 * t)) (dg 8 N t + y % 256) t (Nat.mod_lt _ (Nat.two_pow_pos _)) hsum
    rw [Nat.add_mul] at h1
    omega
  refine ⟨N + y % 256 * 2 ^ (8 * t), hG1, ?_⟩
  rw [G_put 8 _ _ (t + 1) hlt hyl]
  refine congrArg (G 8) ?_
  have h2 := dm_mul' y 256 (2 ^ (8 * t))
  rw [pow_k, B8]
  have h3 : y * 2 ^ (8 * t) = dg 8 x i * 2 ^ (8 * i) * 2 ^ s := by
    rw [← hy, Nat.mul_assoc, ← Nat.pow_add, Nat.mul_assoc, ← Nat.pow_add]; congr 2; omega
  rw [mod_dg, Nat.add_mul, hNN, ← h3]
  omega

theorem r05_Left_loop (a : List UInt8) (s : Nat) (hl : a.length ≤ 100000) (hs : s ≤ 1000000) (c0 m0 : Nat) (k0 : Nat → Nat → Nat → (Nat → Int) → Prop) (h : k0 (a.length + s / 8 + 1) c0 m0 (G 8 (val a * 2 ^ s))) :
    ∀ (j i : Nat), i + j = a.length → r05_Left.l9 k0 (j + 1) a s (a.length + s / 8 + 1) c0 i m0 (G 8 (val a % 2 ^ (8 * i) * 2 ^ s)) := by
  intro j
  induction j with
  | zero =>
    intro i hi
    unfold r05_Left.l9 r05_Left.l9.step
    rw [br_f (lt_f (by omega)), show i = a.length from by omega, Nat.mod_eq_of_lt (val_lt8 a)]
    exact h
  | succ j ih =>
    intro i hi
    have ih := ih (i + 1) (by omega)
    have e : ((i + 1 : Nat) : Int) = (i : Int) + 1 := by omega
    obtain ⟨N1, u1, u3⟩ := up_step8 (val a) i s _ _ _ rfl rfl rfl
    rw [e, ← u3] at ih
    have hd := dg_lt 8 (val a) i
    rw [B8] at hd
    have hy : dg 8 (val a) i * 2 ^ (s % 8) < 256 * 256 := Nat.mul_lt_mul_of_lt_of_le hd (by
      have : 2 ^ (s % 8) ≤ 2 ^ 8 := Nat.pow_le_pow_right (by omega) (by omega)
      rwa [B8] at this) (by omega)
    have q1 := shl_i64 (dg 8 (val a) i) (s % 8) (by omega) (by omega)
    have e1 : Int.toNat ((i : Int) + (s : Int) / 8) = i + s / 8 := by omega
    have e2 : Int.toNat ((i : Int) + (s : Int) / 8 + 1) = i + s / 8 + 1 := by omega
    have e3 : (s : Int) % 8 = ((s % 8 : Nat) : Int) := by omega
    have e4 : ((dg 8 (val a) i * 2 ^ (s % 8) : Nat) : Int) % 256 = ((dg 8 (val a) i * 2 ^ (s % 8) % 256 : Nat) : Int) := by omega
    have e5 : ((dg 8 (val a) i * 2 ^ (s % 8) : Nat) : Int) / 256 % 256 = ((dg 8 (val a) i * 2 ^ (s % 8) / 256 : Nat) : Int) := by omega
    have hb : IntKind.bits .u8 = 8 := rfl
    have o1 : orI .u8 ((dg 8 (val a % 2 ^ (8 * i) * 2 ^ s) (i + s / 8) : Nat) : Int) ((dg 8 (val a) i * 2 ^ (s % 8) % 256 : Nat) : Int) = ((dg 8 (val a % 2 ^ (8 * i) * 2 ^ s) (i + s / 8) ||| dg 8 (val a) i * 2 ^ (s % 8) % 256 : Nat) : Int) :=
      or_k (k := .u8) rfl _ _ (by rw [hb]; exact dg_lt 8 _ _) (by rw [hb, B8]; exact Nat.mod_lt _ (by omega))
    unfold r05_Left.l9 r05_Left.l9.step
    rw [br_t (lt_t (by omega)), r05_at_ok a i (by omega) (by omega)]
    simp (disch := omega) only [lt_t, lt_f, le_t, gd_true, Bool.and_self, Bool.not_false, Int.toNat_natCast, quo_i64, rem_i, add_i64, cv_u64, G_app, e1, e2, e3, q1, cv_u8', shr_i64_8, e4, e5, o1, u1]
    exact ih
theorem blen_mul (x s : Nat) (h : x ≠ 0) : blen (x * 2 ^ s) = blen x + s := by
  have h1 : x * 2 ^ s / 2 ^ s = x := Nat.mul_div_cancel _ (Nat.two_pow_pos s)
  have := blen_shift (x := x * 2 ^ s) (i := s) (by rw [h1]; exact h)
  rw [this, h1, Nat.add_comm]
theorem len_blen' (x n : Nat) : (nb x).length ≤ n ↔ blen x ≤ 8 * n := by
  rw [nb_len_le, blen_le, p256]
theorem len_blen (x : Nat) : (nb x).length ≤ 16384 ↔ blen x ≤ 131072 := by
  have := len_blen' x 16384
  omega
theorem r05_Left_ok (a : List UInt8) (n : Int) (hn : n < 9223372036854775808) (hm : May a) (K : List UInt8 → Int → Prop) (h1 : n < 0 → K [] 2) (h2 : 0 ≤ n → a = [] → K [] 0)
    (h3 : 0 ≤ n → a ≠ [] → 131072 < (blen (val a) : Int) + n → K [] 4) (h4 : 0 ≤ n → a ≠ [] → (blen (val a) : Int) + n ≤ 131072 → K (nb (val a * 2 ^ n.toNat)) 0) : r05_Left a n K := by
  rw [r05_Left.is]; unfold r05_Left.d
  by_cases hneg : n < 0
  · rw [br_t (lt_t hneg)]; exact h1 hneg
  rw [br_f (lt_f (by omega)), eqS_nil]
  by_cases h0 : a = []
  · rw [br_t (by simp [h0])]; exact h2 (by omega) h0
  rw [br_f (by simp [h0])]
  have hl := hm.1
  by_cases hbig : 131072 < n
  · rw [br_t (lt_t hbig)]; exact h3 (by omega) h0 (by omega)
  rw [br_f (lt_f (by omega))]
  refine r05_Len_ok a _ ?_
  rw [if_pos hm]
  have hbl : blen (val a) ≤ 131072 := by
    rw [← len_blen, hm.nb]; exact hl
  rw [add_i64 (by omega) (by omega)]
  by_cases hlong : 131072 < (blen (val a) : Int) + n
  · rw [br_t (lt_t hlong)]; exact h3 (by omega) h0 hlong
  rw [br_f (lt_f (by omega))]
  obtain ⟨s, rfl⟩ : ∃ s : Nat, n = s := ⟨n.toNat, by omega⟩
  have e1 : Int.toNat ((a.length : Int) + (s : Int) / 8 + 1) = a.length + s / 8 + 1 := by omega
  simp (disch := omega) only [quo_i64, add_i64, le_t, gd_true, Bool.and_self, e1]
  have h4 := h4 (by omega) h0 (by omega)
  rw [Int.toNat_natCast] at h4
  refine ⟨a.length + 1, ?_⟩
  have := r05_Left_loop a s (by omega) (by omega) (a.length + s / 8 + 1) (a.length + s / 8 + 1) (fun y0 y1 y2 y3 => r05_fit y0 y3 fun y0 => K y0 0) ?_ a.length 0 (by omega)
  · rw [Nat.mul_zero, Nat.pow_zero, Nat.mod_one, Nat.zero_mul, G_zero] at this; exact this
  · refine r05_fit_ok _ _ (by omega) ?_ _ h4
    have : val a * 2 ^ s < 2 ^ (8 * a.length) * 2 ^ s := Nat.mul_lt_mul_of_pos_right (val_lt8 a) (Nat.two_pow_pos _)
    rw [← Nat.pow_add] at this
    exact Nat.lt_of_lt_of_le this (Nat.pow_le_pow_right (by omega) (by omega))

theorem down_dg8 (x s i : Nat) : (dg 8 x (i + s / 8) + dg 8 x (i + s / 8 + 1) * 256) / 2 ^ (s % 8) % 256 = dg 8 (x / 2 ^ s) i := by
  have hr : s % 8 < 8 := Nat.mod_lt _ (by omega)
  have h1 : dg 8 x (i + s / 8) + dg 8 x (i + s / 8 + 1) * 256 = x / 2 ^ (8 * (i + s / 8)) % 2 ^ 16 := by
    have a := div_dg 8 x (i + s / 8)
    have b := div_dg 8 x (i + s / 8 + 1)
    rw [B8] at a b
    rw [a, b, show (2 : Nat) ^ 16 = 65536 from rfl]
    have c := dg_lt 8 x (i + s / 8)
    have d := dg_lt 8 x (i + s / 8 + 1)
    rw [B8] at c d
    omega
  rw [h1]
  unfold dg
  rw [Nat.div_div_eq_div_mul, ← Nat.pow_add]
  have h2 : (2 : Nat) ^ 16 = 2 ^ (s % 8) * 2 ^ (16 - s % 8) := by rw [← Nat.pow_add]; congr 1; omega
  rw [h2, Nat.mod_mul_right_div_self, Nat.div_div_eq_div_mul, ← Nat.pow_add, show (256 : Nat) = 2 ^ 8 from rfl, Nat.mod_mod_of_dvd _ (Nat.pow_dvd_pow 2 (by omega))]
  congr 3; omega
theorem r05_Right_loop (a : List UInt8) (s : Nat) (hl : a.length ≤ 100000) (hs : s / 8 ≤ a.length) (lost : Bool) (c0 m0 : Nat) (k0 : Bool → Nat → Nat → Nat → (Nat → Int) → Prop) (h : k0 lost (a.length - s / 8) c0 m0 (G 8 (val a / 2 ^ s % 2 ^ (8 * (a.length - s / 8))))) :
    ∀ (j i : Nat), i + j = a.length - s / 8 → r05_Right.l11 k0 (j + 1) a s lost ((a.length - s / 8 : Nat) : Int) (a.length - s / 8) c0 i m0 (G 8 (val a / 2 ^ s % 2 ^ (8 * i))) := by
  intro j
  induction j with
  | zero =>
    intro i hi
    unfold r05_Right.l11 r05_Right.l11.step
    rw [br_f (lt_f (by omega)), show i = a.length - s / 8 from by omega]
    exact h
  | succ j ih =>
    intro i hi
    have ih := ih (i + 1) (by omega)
    have e : ((i + 1 : Nat) : Int) = (i : Int) + 1 := by omega
    have hw := down_dg8 (val a) s i
    have hdw := dg_lt 8 (val a / 2 ^ s) i
    rw [e, mod_dg, ← G_put 8 _ _ i (Nat.mod_lt _ (Nat.two_pow_pos _)) hdw, ← hw] at ih
    have hd := dg_lt 8 (val a) (i + s / 8)
    have hd2 := dg_lt 8 (val a) (i + s / 8 + 1)
    rw [B8] at hd hd2
    have e1 : (i : Int) + (s : Int) / 8 = ((i + s / 8 : Nat) : Int) := by omega
    have e2 : ((i + s / 8 : Nat) : Int) + 1 = ((i + s / 8 + 1 : Nat) : Int) := by omega
    have e3 : (s : Int) % 8 = ((s % 8 : Nat) : Int) := by omega
    have q1 := shl_i64 (dg 8 (val a) (i + s / 8 + 1)) 8 (by omega) (by rw [B8]; omega)
    rw [B8, show ((8 : Nat) : Int) = 8 from rfl] at q1
    have e62 : (2 : Nat) ^ 62 = 4611686018427387904 := rfl
    have o1 : orI .i64 ((dg 8 (val a) (i + s / 8) : Nat) : Int) ((dg 8 (val a) (i + s / 8 + 1) * 256 : Nat) : Int) = ((dg 8 (val a) (i + s / 8) + dg 8 (val a) (i + s / 8 + 1) * 256 : Nat) : Int) := by
      rw [or_i64 _ _ (by omega) (by omega)]
      congr 1
      exact or_mult (r := 8) (by rw [B8]; exact hd) (by rw [B8]; exact Nat.mul_mod_left _ _)
    have sh := shr_i64 (dg 8 (val a) (i + s / 8) + dg 8 (val a) (i + s / 8 + 1) * 256) (s % 8) (by omega)
    have e4 : (((dg 8 (val a) (i + s / 8) + dg 8 (val a) (i + s / 8 + 1) * 256) / 2 ^ (s % 8) : Nat) : Int) % 256 = (((dg 8 (val a) (i + s / 8) + dg 8 (val a) (i + s / 8 + 1) * 256) / 2 ^ (s % 8) % 256 : Nat) : Int) := by omega
    unfold r05_Right.l11 r05_Right.l11.step
    simp (disch := omega) only [lt_t, br_true, quo_i64, add_i64, e1, e2]
    rw [r05_at_ok a _ (by omega) (by omega), r05_at_ok a _ (by omega) (by omega)]
    simp (disch := omega) only [lt_t, lt_f, le_t, gd_true, Bool.and_self, Bool.not_false, Int.toNat_natCast, rem_i, cv_u64, e3, q1, o1, sh, cv_u8', e4]
    exact ih
theorem lt_low (x n : Int) : ltI x n = decide (x < n) := by simp [ltI]
theorem r05_Right_ok (a : List UInt8) (n : Int) (hn : n < 9223372036854775808) (hm : May a) (K : List UInt8 → Bool → Int → Prop) (h1 : n < 0 → K [] false 2) (h2 : 0 ≤ n → a = [] → K [] false 0)
    (h3 : 0 ≤ n → a ≠ [] → K (nb (val a / 2 ^ n.toNat)) (decide ((lowb (val a) : Int) < n)) 0) : r05_Right a n K := by
  rw [r05_Right.is]; unfold r05_Right.d
  by_cases hneg : n < 0
  · rw [br_t (lt_t hneg)]; exact h1 hneg
  rw [br_f (lt_f (by omega)), eqS_nil]
  by_cases h0 : a = []
  · rw [br_t (by simp [h0])]; exact h2 (by omega) h0
  rw [br_f (by simp [h0])]
  have hl := hm.1
  obtain ⟨s, rfl⟩ : ∃ s : Nat, n = s := ⟨n.toNat, by omega⟩
  have h3 := h3 (by omega) h0
  rw [Int.toNat_natCast] at h3
  refine r05_Low_ok a _ ?_
  rw [if_pos hm, lt_low, mul_i64 (by omega) (by omega)]
  by_cases hbig : 8 * a.length ≤ s
  · rw [br_t (le_t (by omega))]
    have : val a / 2 ^ s = 0 := Nat.div_eq_of_lt (Nat.lt_of_lt_of_le (val_lt8 a) (Nat.pow_le_pow_right (by omega) hbig))
    rw [this, nb_zero] at h3
    exact h3
  · rw [br_f (le_f (by omega))]
    have e1 : Int.toNat ((a.length : Int) - (s : Int) / 8) = a.length - s / 8 := by omega
    have e2 : (a.length : Int) - (s : Int) / 8 = ((a.length - s / 8 : Nat) : Int) := by omega
    simp (disch := omega) only [quo_i64, sub_i64, le_t, gd_true, Bool.and_self, e1]
    rw [e2]
    have hlt2 : val a / 2 ^ s < 2 ^ (8 * (a.length - s / 8)) := by
      rw [Nat.div_lt_iff_lt_mul (Nat.two_pow_pos _), ← Nat.pow_add]
      exact Nat.lt_of_lt_of_le (val_lt8 a) (Nat.pow_le_pow_right (by omega) (by omega))
    refine ⟨a.length - s / 8 + 1, ?_⟩
    have := r05_Right_loop a s (by omega) (by omega) (decide ((lowb (val a) : Int) < s)) (a.length - s / 8) (a.length - s / 8) (fun y0 y1 y2 y3 y4 => r05_fit y1 y4 fun y0_1 => K y0_1 y0 0) ?_ (a.length - s / 8) 0 (by omega)
    · rw [Nat.mul_zero, Nat.pow_zero, Nat.mod_one, G_zero] at this; exact this
    · rw [Nat.mod_eq_of_lt hlt2]
      exact r05_fit_ok _ _ (by omega) hlt2 _ h3
end Go.Ev.S

/- The law of shifts. -/
set_option linter.unusedVariables false
set_option linter.unusedSimpArgs false
set_option maxRecDepth 8000
namespace Go.Ev.S
open Go Go.Ev

theorem may_nz {a : List UInt8} (hm : May a) (h : a ≠ []) : val a ≠ 0 := fun e => by have := hm.nb; rw [e, nb_zero] at this; exact h this.symm
theorem may_blen {a : List UInt8} (hm : May a) : blen (val a) ≤ 131072 := by rw [← len_blen, hm.nb]; exact hm.1

theorem nat_Left_ok (a : List UInt8) (n : Int) (hn : n < 9223372036854775808) (K : List UInt8 → Int → Prop) (h0 : ¬ May a → K [] 2) (h1 : May a → n < 0 → K [] 2) (h2 : May a → 0 ≤ n → a = [] → K [] 0)
    (h3 : May a → 0 ≤ n → a ≠ [] → 131072 < (blen (val a) : Int) + n → K [] 4) (h4 : May a → 0 ≤ n → a ≠ [] → (blen (val a) : Int) + n ≤ 131072 → K (nb (val a * 2 ^ n.toNat)) 0) : nat_Left a n K := by
  rw [nat_Left.is]; unfold nat_Left.d
  rw [nat_Check_ok]
  by_cases hm : May a
  · rw [if_pos hm, br_f (by rfl)]
    by_cases hneg : n < 0
    · rw [br_t (lt_t hneg)]; exact h1 hm hneg
    rw [br_f (lt_f (by omega)), eqS_nil]
    by_cases hz : a = []
    · rw [br_t (by simp [hz])]; exact h2 hm (by omega) hz
    rw [br_f (by simp [hz])]
    refine nat_Len_ok a _ ?_
    have hb := may_blen hm
    rw [if_pos hm, sub_i64 (by omega) (by omega)]
    by_cases hlong : 131072 < (blen (val a) : Int) + n
    · rw [br_t (lt_t (by omega))]; exact h3 hm (by omega) hz hlong
    rw [br_f (lt_f (by omega))]
    obtain ⟨s, rfl⟩ : ∃ s : Nat, n = s := ⟨n.toNat, by omega⟩
    have h4 := h4 hm (by omega) hz (by omega)
    rw [Int.toNat_natCast] at h4
    refine hm.words _ ?_
    have hw := hm.wl
    refine nat_up_ok _ _ s (by omega) (by omega) hm.lt _ _ (fun hc => ?_) fun _ c m => ?_
    · exfalso
      have := hm.lt
      rw [hc] at this
      have h0 := may_nz hm hz
      simp at this; omega
    · refine nat_told_ok _ _ ?_ (lt_wl32 _) _ ?_
      · have hl := nat_up_fin (val a) _ s (by omega) (by omega) hm.lt
        have := (wl_le 32 (by omega) _ _).2 hl
        omega
      · have : (nb (val a * 2 ^ s)).length ≤ 16384 := by
          rw [len_blen, blen_mul _ _ (may_nz hm hz)]; omega
        rw [if_neg (by omega)]; exact h4
  · rw [if_neg hm, br_t (by rfl)]; exact h0 hm

theorem nat_Right_ok (a : List UInt8) (n : Int) (hn : n < 9223372036854775808) (K : List UInt8 → Bool → Int → Prop) (h0 : ¬ May a → K [] false 2) (h1 : May a → n < 0 → K [] false 2) (h2 : May a → 0 ≤ n → a = [] → K [] false 0)
    (h3 : May a → 0 ≤ n → a ≠ [] → K (nb (val a / 2 ^ n.toNat)) (decide ((lowb (val a) : Int) < n)) 0) : nat_Right a n K := by
  rw [nat_Right.is]; unfold nat_Right.d
  rw [nat_Check_ok]
  by_cases hm : May a
  · rw [if_pos hm, br_f (by rfl)]
    by_cases hneg : n < 0
    · rw [br_t (lt_t hneg)]; exact h1 hm hneg
    rw [br_f (lt_f (by omega)), eqS_nil]
    by_cases hz : a = []
    · rw [br_t (by simp [hz])]; exact h2 hm (by omega) hz
    rw [br_f (by simp [hz])]
    obtain ⟨s, rfl⟩ : ∃ s : Nat, n = s := ⟨n.toNat, by omega⟩
    have h3 := h3 hm (by omega) hz
    rw [Int.toNat_natCast] at h3
    refine hm.words _ ?_
    have hw := hm.wl
    refine nat_down_ok _ _ s (by omega) (by omega) hm.lt _ ?_
    have hle : wl 32 (val a / 2 ^ s) ≤ wl 32 (val a) := wl_mono (by omega) (Nat.div_le_self _ _)
    refine nat_number_ok _ _ (by omega) (lt_wl32 _) _ ?_
    refine nat_Low_ok a _ ?_
    rw [if_pos hm, lt_low]; exact h3
  · rw [if_neg hm, br_t (by rfl)]; exact h0 hm

theorem natShifts (a : List UInt8) (n : Int) (ha : a.length ≤ 140737488351232) (wn : (Lit.int .i64 n).wf = true) (K : Bool → Prop) (h : K true) : law05_NatShifts a n K := by
  rw [law05_NatShifts.is]; unfold law05_NatShifts.d
  have al : law05_alive fun y0 => K y0 := law05_alive_ok _ h
  obtain ⟨r1, r2⟩ := range_i64 wn
  by_cases hm : May a
  · have hbb : ∀ b, beqB b b = true := fun b => by cases b <;> rfl
    have hw : (!decide (May a ∧ May [])) = false := by simp [hm, may_nil]
    by_cases hneg : n < 0
    · refine nat_Left_ok a n r2 _ (fun c => absurd hm c) (fun _ _ => ?_) (fun _ c => by omega) (fun _ c => by omega) fun _ c => by omega
      refine nat_Right_ok a n r2 _ (fun c => absurd hm c) (fun _ _ => ?_) (fun _ c => by omega) fun _ c => by omega
      rw [law05_wrong_ok, hw, br_false]
      refine r05_Left_ok a n r2 hm _ (fun _ => ?_) (fun c => by omega) (fun c => by omega) fun c => by omega
      refine r05_Right_ok a n r2 hm _ (fun _ => ?_) (fun c => by omega) fun c => by omega
      simp only [eqS_self, eqI_self, br_true, hbb]
      exact al
    by_cases hz : a = []
    · refine nat_Left_ok a n r2 _ (fun c => absurd hm c) (fun _ c => by omega) (fun _ _ _ => ?_) (fun _ _ c => absurd hz c) fun _ _ c => absurd hz c
      refine nat_Right_ok a n r2 _ (fun c => absurd hm c) (fun _ c => by omega) (fun _ _ _ => ?_) fun _ _ c => absurd hz c
      rw [law05_wrong_ok, hw, br_false]
      refine r05_Left_ok a n r2 hm _ (fun c => by omega) (fun _ _ => ?_) (fun _ c => absurd hz c) fun _ c => absurd hz c
      refine r05_Right_ok a n r2 hm _ (fun c => by omega) (fun _ _ => ?_) fun _ c => absurd hz c
      simp only [eqS_self, eqI_self, br_true, hbb]
      exact al
    by_cases hl : 131072 < (blen (val a) : Int) + n
    · refine nat_Left_ok a n r2 _ (fun c => absurd hm c) (fun _ c => by omega) (fun _ _ c => absurd c hz) (fun _ _ _ _ => ?_) fun _ _ _ c => by omega
      refine nat_Right_ok a n r2 _ (fun c => absurd hm c) (fun _ c => by omega) (fun _ _ c => absurd c hz) fun _ _ _ => ?_
      rw [law05_wrong_ok, hw, br_false]
      refine r05_Left_ok a n r2 hm _ (fun c => by omega) (fun _ c => absurd c hz) (fun _ _ _ => ?_) fun _ _ c => by omega
      refine r05_Right_ok a n r2 hm _ (fun c => by omega) (fun _ c => absurd c hz) fun _ _ => ?_
      simp only [eqS_self, eqI_self, br_true, hbb]
      exact al
    · refine nat_Left_ok a n r2 _ (fun c => absurd hm c) (fun _ c => by omega) (fun _ _ c => absurd c hz) (fun _ _ _ c => by omega) fun _ _ _ _ => ?_
      refine nat_Right_ok a n r2 _ (fun c => absurd hm c) (fun _ c => by omega) (fun _ _ c => absurd c hz) fun _ _ _ => ?_
      rw [law05_wrong_ok, hw, br_false]
      refine r05_Left_ok a n r2 hm _ (fun c => by omega) (fun _ c => absurd c hz) (fun _ _ c => by omega) fun _ _ _ => ?_
      refine r05_Right_ok a n r2 hm _ (fun c => by omega) (fun _ c => absurd c hz) fun _ _ => ?_
      simp only [eqS_self, eqI_self, br_true, hbb]
      exact al
  · refine nat_Left_ok a n r2 _ (fun _ => ?_) (fun c => absurd c hm) (fun c => absurd c hm) (fun c => absurd c hm) fun c => absurd c hm
    refine nat_Right_ok a n r2 _ (fun _ => ?_) (fun c => absurd c hm) (fun c => absurd c hm) fun c => absurd c hm
    rw [law05_wrong_ok, br_t (by simp [hm])]
    simp only [eqS_self, eqI_self, br_true, Bool.not_false]
    exact al
end Go.Ev.S
