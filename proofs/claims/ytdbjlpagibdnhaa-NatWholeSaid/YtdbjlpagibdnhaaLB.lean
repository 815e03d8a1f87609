/- What the document's answer reckons with natural numbers: made, measured, moved. -/
import Derived.Test.YtdbjlpagibdnhaaLA
set_option linter.unusedVariables false
set_option linter.unusedSimpArgs false
set_option maxRecDepth 8000
namespace Go.Ev.S
open Go Go.Ev

theorem shl_i64 (a s : Nat) (hs : s ≤ 63) (h : a * 2 ^ s < 9223372036854775808) : shlI .i64 (a : Int) (s : Int) = ((a * 2 ^ s : Nat) : Int) := by
  have hb : IntKind.bits .i64 = 64 := rfl
  have h1 : min (Int.toNat (s : Int)) (IntKind.bits .i64) = s := by rw [Int.toNat_natCast, hb]; omega
  simp only [shlI, h1]
  have e : (a : Int) * 2 ^ s = ((a * 2 ^ s : Nat) : Int) := by simp
  rw [e]
  exact i64_id (by omega) (by omega)
theorem or_i64 (a b : Nat) (ha : a < 2 ^ 62) (hb : b < 2 ^ 62) : orI .i64 (a : Int) (b : Int) = ((a ||| b : Nat) : Int) := by
  have h3 : a ||| b < 2 ^ 62 := Nat.or_lt_two_pow ha hb
  have e62 : (2 : Nat) ^ 62 = 4611686018427387904 := rfl
  show IntKind.wrap .i64 (((BitVec.ofInt 64 (a : Int) ||| BitVec.ofInt 64 (b : Int) : BitVec 64).toNat : Nat) : Int) = _
  rw [BitVec.toNat_or, BitVec.ofInt_natCast, BitVec.ofInt_natCast, BitVec.toNat_ofNat, BitVec.toNat_ofNat, Nat.mod_eq_of_lt (by rw [B64]; omega), Nat.mod_eq_of_lt (by rw [B64]; omega)]
  exact i64_id (by omega) (by omega)
theorem and_i64_1 (a : Nat) (ha : a < 2 ^ 62) : andI .i64 (a : Int) 1 = ((a % 2 : Nat) : Int) := by
  have e62 : (2 : Nat) ^ 62 = 4611686018427387904 := rfl
  show IntKind.wrap .i64 (((BitVec.ofInt 64 (a : Int) &&& BitVec.ofInt 64 ((1 : Nat) : Int) : BitVec 64).toNat : Nat) : Int) = _
  rw [BitVec.toNat_and, BitVec.ofInt_natCast, BitVec.ofInt_natCast, BitVec.toNat_ofNat, BitVec.toNat_ofNat, Nat.mod_eq_of_lt (by rw [B64]; omega), Nat.mod_eq_of_lt (by rw [B64]; omega)]
  have : a &&& 1 = a % 2 := Nat.and_one_is_mod a
  rw [this]
  exact i64_id (by omega) (by omega)
theorem shr_i64 (a s : Nat) (hs : s ≤ 64) : shrI .i64 (a : Int) (s : Int) = ((a / 2 ^ s : Nat) : Int) := by
  rw [shr_pos (k := .i64) hs]; simp

theorem r05_Of_loop (x : Nat) (hx : x < 18446744073709551616) (k0 : (Nat → Int) → Prop) (h : k0 (G 8 x)) : ∀ (j i : Nat), i + j = 8 → r05_Of.l3 k0 (j + 1) x i (G 8 (x % 2 ^ (8 * i))) := by
  intro j
  induction j with
  | zero =>
    intro i hi
    have hi : i = 8 := by omega
    subst hi
    unfold r05_Of.l3 r05_Of.l3.step
    rw [br_f (lt_f (by omega)), Nat.mod_eq_of_lt (by rw [show 8 * 8 = 64 from rfl, B64]; exact hx)]
    exact h
  | succ j ih =>
    intro i hi
    have ih := ih (i + 1) (by omega)
    have e : ((i + 1 : Nat) : Int) = (i : Int) + 1 := by omega
    rw [e, mod_dg, ← G_put 8 _ _ i (Nat.mod_lt _ (Nat.two_pow_pos _)) (dg_lt 8 x i)] at ih
    have e1 : 8 * (i : Int) = ((8 * i : Nat) : Int) := by omega
    have e2 : shrI .u64 (x : Int) ((8 * i : Nat) : Int) = ((x / 2 ^ (8 * i) : Nat) : Int) := by
      rw [shr_pos (k := .u64) (by have : IntKind.bits .u64 = 64 := rfl
                                  rw [this]; omega)]
      simp
    have e3 : ((x / 2 ^ (8 * i) : Nat) : Int) % 256 = ((dg 8 x i : Nat) : Int) := by
      unfold dg; rw [B8]; omega
    unfold r05_Of.l3 r05_Of.l3.step
    simp (disch := omega) only [lt_t, lt_f, le_t, gd_true, br_true, Bool.and_self, Bool.not_false, mul_i64, cv_u64, add_i64, Int.toNat_natCast, e1, e2, cv_u8', e3]
    exact ih
theorem r05_Of_ok (x : Nat) (hx : x < 18446744073709551616) (K : List UInt8 → Prop) (h : K (nb x)) : r05_Of x K := by
  rw [r05_Of.is]; unfold r05_Of.d
  refine ⟨9, ?_⟩
  have := r05_Of_loop x hx (fun y0 => r05_fit 8 y0 fun y0 => K y0) ?_ 8 0 rfl
  · rw [Nat.mul_zero, Nat.pow_zero, Nat.mod_one, G_zero] at this; exact this
  · exact r05_fit_ok 8 x (by omega) (by rw [show 8 * 8 = 64 from rfl, B64]; exact hx) _ h

theorem W_G (x : Nat) : W x = G 64 x := rfl
theorem p384' {i : Nat} (h : i = 48) : 2 ^ (8 * i) = Q6 := Q6_at (by omega)
theorem sub_word (x i : Nat) : wd x (i / 8) / 2 ^ (8 * (i % 8)) % 256 = dg 8 x i := by
  unfold wd dg
  have hr : i % 8 < 8 := Nat.mod_lt _ (by omega)
  have h1 : (18446744073709551616 : Nat) = 2 ^ (8 * (i % 8)) * (2 ^ 8 * 2 ^ (56 - 8 * (i % 8))) := by
    rw [← Nat.pow_add, ← Nat.pow_add, show (18446744073709551616 : Nat) = 2 ^ 64 from rfl]; congr 1; omega
  rw [h1, Nat.mod_mul_right_div_self, show (256 : Nat) = 2 ^ 8 from rfl, Nat.mod_mul_right_mod, Nat.div_div_eq_div_mul, ← Nat.pow_add]
  congr 3; omega
theorem r05_OfWide_loop (x : Nat) (hx : x < Q6) (k0 : (Nat → Int) → Prop) (h : k0 (G 8 x)) : ∀ (j i : Nat), i + j = 48 → r05_OfWide.l3 k0 (j + 1) i (W x) (G 8 (x % 2 ^ (8 * i))) := by
  intro j
  induction j with
  | zero =>
    intro i hi
    have hi : i = 48 := by omega
    unfold r05_OfWide.l3 r05_OfWide.l3.step
    rw [br_f (lt_f (by omega)), Nat.mod_eq_of_lt (by rw [p384' hi]; exact hx)]
    exact h
  | succ j ih =>
    intro i hi
    have ih := ih (i + 1) (by omega)
    have e : ((i + 1 : Nat) : Int) = (i : Int) + 1 := by omega
    rw [e, mod_dg, ← G_put 8 _ _ i (Nat.mod_lt _ (Nat.two_pow_pos _)) (dg_lt 8 x i)] at ih
    have e0 : Int.toNat ((i : Int) / 8) = i / 8 := by omega
    have e1 : 8 * ((i : Int) % 8) = ((8 * (i % 8) : Nat) : Int) := by omega
    have e2 : shrI .u64 ((wd x (i / 8) : Nat) : Int) ((8 * (i % 8) : Nat) : Int) = ((wd x (i / 8) / 2 ^ (8 * (i % 8)) : Nat) : Int) := by
      rw [shr_pos (k := .u64) (by have : IntKind.bits .u64 = 64 := rfl
                                  rw [this]; omega)]
      simp
    have e3 : ((wd x (i / 8) / 2 ^ (8 * (i % 8)) : Nat) : Int) % 256 = ((dg 8 x i : Nat) : Int) := by
      have := sub_word x i; omega
    unfold r05_OfWide.l3 r05_OfWide.l3.step
    simp (disch := omega) only [lt_t, lt_f, le_t, gd_true, br_true, Bool.and_self, Bool.not_false, quo_i64, rem_i, mul_i64, cv_u64, add_i64, Int.toNat_natCast, W_app, e0, e1, e2, cv_u8', e3]
    exact ih
theorem r05_OfWide_ok (x : Nat) (hx : x < Q6) (K : List UInt8 → Prop) (h : K (nb x)) : r05_OfWide (W x) K := by
  rw [r05_OfWide.is]; unfold r05_OfWide.d
  refine ⟨49, ?_⟩
  have := r05_OfWide_loop x hx (fun y0 => r05_fit 48 y0 fun y0 => K y0) ?_ 48 0 rfl
  · rw [Nat.mul_zero, Nat.pow_zero, Nat.mod_one, G_zero] at this; exact this
  · exact r05_fit_ok 48 x (by omega) (Nat.lt_of_lt_of_eq hx (p384' rfl).symm) _ h

/-- A part laid into a word of 64 above what is there. -/
theorem or_shl64 (d b s w : Nat) (hd : d < 2 ^ s) (hs : s + w ≤ 64) (hb : b < 2 ^ w) : orI .u64 (d : Int) (shlI .u64 (b : Int) (s : Int)) = ((d + b * 2 ^ s : Nat) : Int) := by
  have hb64 : IntKind.bits .u64 = 64 := rfl
  have h1 : b * 2 ^ s + 2 ^ s ≤ 2 ^ 64 := by
    have h2 : (b + 1) * 2 ^ s ≤ 2 ^ w * 2 ^ s := Nat.mul_le_mul_right _ hb
    have h3 : 2 ^ w * 2 ^ s ≤ 2 ^ 64 := by rw [← Nat.pow_add]; exact Nat.pow_le_pow_right (by omega) (by omega)
    rw [Nat.add_mul] at h2; omega
  have hP := Nat.two_pow_pos s
  rw [shl_k (k := .u64) rfl b s (by rw [hb64]; omega), hb64, Nat.mod_eq_of_lt (by omega), or_k (k := .u64) rfl _ _ (by rw [hb64]; omega) (by rw [hb64]; omega)]
  congr 1
  exact or_mult hd (Nat.mul_mod_left _ _)
theorem put_fits {d b s w : Nat} (hd : d < 2 ^ s) (hs : s + w ≤ 64) (hb : b < 2 ^ w) : d + b * 2 ^ s < 2 ^ 64 := by
  have h2 : (b + 1) * 2 ^ s ≤ 2 ^ w * 2 ^ s := Nat.mul_le_mul_right _ hb
  have h3 : 2 ^ w * 2 ^ s ≤ 2 ^ 64 := by rw [← Nat.pow_add]; exact Nat.pow_le_pow_right (by omega) (by omega)
  rw [Nat.add_mul] at h2; omega
theorem r05_ToWide_loop (a : List UInt8) (hl : a.length ≤ 48) (k0 : (Nat → Int) → (Nat → Int) → Prop) (z : Nat → Int) (h : k0 z (W (val a))) : ∀ (j i : Nat), i + j = a.length → r05_ToWide.l5 k0 (j + 1) a i z (G 64 (val a % 2 ^ (8 * i))) := by
  intro j
  induction j with
  | zero =>
    intro i hi
    unfold r05_ToWide.l5 r05_ToWide.l5.step
    rw [br_f (lt_f (by omega)), Nat.mod_eq_of_lt (by have := val_lt8 a; rwa [show i = a.length from by omega])]
    exact h
  | succ j ih =>
    intro i hi
    have ih := ih (i + 1) (by omega)
    have e : ((i + 1 : Nat) : Int) = (i : Int) + 1 := by omega
    rw [e] at ih
    have hd := dg_lt 8 (val a) i
    have e0 : Int.toNat ((i : Int) / 8) = i / 8 := by omega
    have e1 : 8 * ((i : Int) % 8) = ((8 * (i % 8) : Nat) : Int) := by omega
    have hlow := dg_low 64 (val a % 2 ^ (8 * i)) (i / 8) (8 * (i % 8)) (by rw [show 64 * (i / 8) + 8 * (i % 8) = 8 * i from by omega]; exact Nat.mod_lt _ (Nat.two_pow_pos _))
    have o := or_shl64 _ (dg 8 (val a) i) (8 * (i % 8)) 8 hlow (by omega) hd
    have hG : upd (G 64 (val a % 2 ^ (8 * i))) (i / 8) ((dg 64 (val a % 2 ^ (8 * i)) (i / 8) + dg 8 (val a) i * 2 ^ (8 * (i % 8)) : Nat) : Int) = G 64 (val a % 2 ^ (8 * (i + 1))) := by
      refine G_upd ?_ (put_fits hlow (by omega) hd)
      rw [mod_dg 8, Nat.add_mul, Nat.mul_assoc, ← Nat.pow_add, show 8 * (i % 8) + 64 * (i / 8) = 8 * i from by omega]; omega
    rw [B8] at hd
    unfold r05_ToWide.l5 r05_ToWide.l5.step
    simp (disch := omega) only [lt_t, le_t, gd_true, br_true, Bool.and_self, quo_i64]
    rw [r05_at_ok a i (by omega) (by omega)]
    simp (disch := omega) only [lt_t, lt_f, le_t, gd_true, Bool.and_self, Bool.not_false, rem_i, mul_i64, cv_u64, add_i64, e0, e1, G_app, o, hG]
    exact ih
theorem r05_ToWide_ok (a : List UInt8) (K : (Nat → Int) → Bool → Prop) (h : if May a ∧ a.length ≤ 48 then K (W (val a)) true else K (W 0) false) : r05_ToWide a K := by
  rw [r05_ToWide.is]; unfold r05_ToWide.d
  rw [r05_May_ok]
  by_cases hm : May a
  · rw [br_f (by simp [hm])]
    by_cases hl : a.length ≤ 48
    · rw [if_pos ⟨hm, hl⟩] at h
      rw [br_f (lt_f (by omega))]
      refine ⟨a.length + 1, ?_⟩
      have := r05_ToWide_loop a hl (fun y0 y1 => K y1 true) (fun _ => 0) h a.length 0 (by omega)
      rw [Nat.mul_zero, Nat.pow_zero, Nat.mod_one, G_zero] at this
      exact this
    · rw [if_neg fun hc => hl hc.2, W_zero] at h
      rw [br_t (lt_t (by omega))]; exact h
  · rw [if_neg fun hc => hm hc.1, W_zero] at h
    rw [br_t (by simp [hm])]; exact h

theorem r05_Len_ok (a : List UInt8) (K : Int → Prop) (h : K (if May a then (blen (val a) : Int) else 0)) : r05_Len a K := by
  rw [r05_Len.is]; unfold r05_Len.d
  rw [r05_May_ok]
  by_cases hm : May a
  · rw [if_pos hm] at h
    rw [br_f (by simp [hm]), eqS_nil]
    cases a with
    | nil => rw [br_t (by simp)]; exact h
    | cons b l =>
      have hl := hm.1
      rw [List.length_cons] at hl
      have hv : val (b :: l) ≠ 0 := fun e => by have := hm.nb; rw [e, nb_zero] at this; cases this
      have hb := blen_top 8 _ (by omega) hv
      rw [wl_val hm.2, List.length_cons, Nat.add_sub_cancel, head_dg] at hb
      have hbl := u8_lt b
      rw [br_f (by simp), gd_t (lt_t (by rw [List.length_cons]; omega)), byteAt_zero, cv_u64 (by omega) (by omega)]
      refine r01_Len_ok _ (by omega) _ ?_
      have h8 : blen b.toNat ≤ 8 := (blen_le _ _).2 hbl
      rw [List.length_cons]
      simp (disch := omega) only [sub_i64, mul_i64, add_i64]
      rw [show 8 * (((l.length + 1 : Nat) : Int) - 1) + (blen b.toNat : Int) = ((blen (val (b :: l)) : Nat) : Int) from by rw [hb]; omega]
      exact h
  · rw [if_neg hm] at h
    rw [br_t (by simp [hm])]; exact h

theorem lowb_bits (x : Nat) (h : x ≠ 0) : x.testBit (lowb x) = true ∧ ∀ i, i < lowb x → x.testBit i = false := by
  obtain ⟨q, hq⟩ := lowb_spec x h
  generalize lowb x = k at *
  subst hq
  constructor
  · rw [Nat.testBit_two_pow_mul]; simp [Nat.testBit_zero]
  · intro i hi
    rw [Nat.testBit_two_pow_mul]; simp; omega
theorem r01_Low_loop (x : Nat) (h0 : x ≠ 0) (hx : x < 18446744073709551616) (hk : lowb x < 64) (k0 : Int → Prop) (k1 : Prop) (h : k0 (lowb x)) : ∀ (j i : Nat), i + j = lowb x → r01_Low.l2 k0 k1 (j + 1) x i := by
  obtain ⟨b1, b2⟩ := lowb_bits x h0
  intro j
  induction j with
  | zero =>
    intro i hi
    unfold r01_Low.l2 r01_Low.l2.step
    rw [br_t (lt_t (by omega)), r01_Bit_ok x i hx (by omega), show i = lowb x from by omega, b1, br_true]
    exact h
  | succ j ih =>
    intro i hi
    have ih := ih (i + 1) (by omega)
    have e : ((i + 1 : Nat) : Int) = (i : Int) + 1 := by omega
    rw [e] at ih
    unfold r01_Low.l2 r01_Low.l2.step
    rw [br_t (lt_t (by omega)), r01_Bit_ok x i hx (by omega), b2 i (by omega), br_false, add_i64 (by omega) (by omega)]
    exact ih
theorem lowb_lt (x n : Nat) (h0 : x ≠ 0) (hx : x < 2 ^ n) : lowb x < n := by
  obtain ⟨b1, _⟩ := lowb_bits x h0
  apply Classical.byContradiction
  intro hc
  rw [Nat.testBit_lt_two_pow (Nat.lt_of_lt_of_le hx (Nat.pow_le_pow_right (by omega) (by omega)))] at b1
  cases b1
theorem r01_Low_ok (x : Nat) (h0 : x ≠ 0) (hx : x < 18446744073709551616) (K : Int → Prop) (h : K (lowb x)) : r01_Low x K := by
  rw [r01_Low.is]; unfold r01_Low.d
  exact ⟨lowb x + 1, r01_Low_loop x h0 hx (lowb_lt x 64 h0 hx) _ _ h (lowb x) 0 (by omega)⟩

theorem r05_Low_loop (a : List UInt8) (hl : a.length ≤ 100000) (k0 : Int → Prop) (k1 : Prop) (h0 : val a ≠ 0 → k0 (lowb (val a))) (h1 : val a = 0 → k1) :
    ∀ (j t : Nat), t + j = a.length → val a % 2 ^ (8 * t) = 0 → r05_Low.l4 k0 k1 (j + 1) a t := by
  intro j
  induction j with
  | zero =>
    intro t ht hm
    unfold r05_Low.l4 r05_Low.l4.step
    rw [br_f (lt_f (by omega))]
    refine h1 ?_
    rw [Nat.mod_eq_of_lt (by have := val_lt8 a; rwa [show t = a.length from by omega])] at hm
    exact hm
  | succ j ih =>
    intro t ht hm
    have hd := dg_lt 8 (val a) t
    rw [B8] at hd
    unfold r05_Low.l4 r05_Low.l4.step
    rw [br_t (lt_t (by omega)), r05_at_ok a t (by omega) (by omega)]
    by_cases hz : dg 8 (val a) t = 0
    · rw [eq_t (by omega), br_f (by rfl), add_i64 (by omega) (by omega)]
      have := ih (t + 1) (by omega) (by rw [mod_dg, hm, hz]; omega)
      rw [show ((t + 1 : Nat) : Int) = (t : Int) + 1 from by omega] at this
      exact this
    · rw [eq_f (by omega), br_t (by rfl), r05_at_ok a t (by omega) (by omega), cv_u64 (by omega) (by omega)]
      refine r01_Low_ok _ hz (by omega) _ ?_
      have hlow := lowb_byte (val a) t hm hz
      have hk := lowb_lt _ 8 hz (by rw [B8]; exact hd)
      simp (disch := omega) only [mul_i64, add_i64]
      rw [show 8 * (t : Int) + (lowb (dg 8 (val a) t) : Int) = ((lowb (val a) : Nat) : Int) from by rw [hlow]; omega]
      refine h0 fun e => hz ?_
      rw [e]; exact dg_zero 8 0 t (Nat.two_pow_pos _)
theorem r05_Low_ok (a : List UInt8) (K : Int → Prop) (h : K (if May a then (lowb (val a) : Int) else 0)) : r05_Low a K := by
  rw [r05_Low.is]; unfold r05_Low.d
  rw [r05_May_ok]
  by_cases hm : May a
  · rw [if_pos hm] at h
    have hl := hm.1
    rw [br_f (by simp [hm])]
    exact ⟨a.length + 1, r05_Low_loop a (by omega) (fun y0 => K y0) (K 0) (fun _ => h) (fun e => by rw [e, lowb_zero] at h; exact h) a.length 0 (by omega) (by simp [Nat.mod_one])⟩
  · rw [if_neg hm] at h
    rw [br_t (by simp [hm])]; exact h

theorem up_step8 (x i s t y N : Nat) (ht : t = i + s / 8) (hy : dg 8 x i * 2 ^ (s % 8) = y) (hNN : x % 2 ^ (8 * i) * 2 ^ s = N) :
    ∃ N1, upd (G 8 N) t (((dg 8 N t ||| y % 256 : Nat)) : Int) = G 8 N1 ∧ upd (G 8 N1) (t + 1) ((y / 256 : Nat) : Int) = G 8 (x % 2 ^ (8 * (i + 1)) * 2 ^ s) := by
  have hdx := dg_lt 8 x i
  rw [B8] at hdx
  have hr : s % 8 < 8 := Nat.mod_lt _ (by omega)
  have hx := Nat.mod_lt x (Nat.two_pow_pos (8 * i))
  have hp : 2 ^ (8 * i) * 2 ^ s = 2 ^ (8 * t + s % 8) := by rw [← Nat.pow_add]; congr 1; omega
  have hN : N < 2 ^ (8 * t + s % 8) := by
    rw [← hp, ← hNN]; exact Nat.mul_lt_mul_of_pos_right hx (Nat.two_pow_pos _)
  have hlow := dg_low 8 N t (s % 8) hN
  have hN1 : N < 2 ^ (8 * (t + 1)) := Nat.lt_of_lt_of_le hN (Nat.pow_le_pow_right (by omega) (by omega))
  have hym : y % 256 % 2 ^ (s % 8) = 0 := by
    rw [show (256 : Nat) = 2 ^ 8 from rfl, Nat.mod_mod_of_dvd _ (Nat.pow_dvd_pow 2 (by omega)), ← hy]
    exact Nat.mul_mod_left _ _
  have hor : dg 8 N t ||| y % 256 = dg 8 N t + y % 256 := or_mult hlow hym
  have hsum : dg 8 N t + y % 256 < 2 ^ 8 := by
    rw [← hor]; exact Nat.or_lt_two_pow (dg_lt 8 N t) (by rw [B8]; exact Nat.mod_lt _ (by omega))
  have hyl : y / 256 < 2 ^ 8 := by
    rw [B8, Nat.div_lt_iff_lt_mul (by omega), ← hy]
    have : dg 8 x i * 2 ^ (s % 8) < 2 ^ 8 * 2 ^ 8 := Nat.mul_lt_mul_of_lt_of_le (by rw [B8]; exact hdx) (Nat.pow_le_pow_right (by omega) (by omega)) (Nat.two_pow_pos _)
    rw [B8] at this; exact this
  have hG1 : upd (G 8 N) t (((dg 8 N t ||| y % 256 : Nat)) : Int) = G 8 (N + y % 256 * 2 ^ (8 * t)) := by
    rw [hor]
    refine G_upd ?_ hsum
    rw [Nat.add_mul]; omega
  have hlt : N + y % 256 * 2 ^ (8 * t) < 2 ^ (8 * (t + 1)) := by
    have hNl : N = N % 2 ^ (8 * t) + dg 8 N t * 2 ^ (8 * t) := by
      have := mod_dg 8 N t
      rw [Nat.mod_eq_of_lt hN1] at this; exact this
    have h1 := put_lt 8 (N % 2 ^ (8 * t)) (dg 8 N t + y % 256) t (Nat.mod_lt _ (Nat.two_pow_pos _)) hsum
    rw [Nat.add_mul] at h1
    omega
  refine ⟨N + y % 256 * 2 ^ (8 * t), hG1, ?_⟩
  rw [G_put 8 _ _ (t + 1) hlt hyl]
  refine congrArg (G 8) ?_
  have h2 := dm_mul' y 256 (2 ^ (8 * t))
  rw [pow_k, B8]
  have h3 : y * 2 ^ (8 * t) = dg 8 x i * 2 ^ (8 * i) * 2 ^ s := by
    rw [← hy, Nat.mul_assoc, ← Nat.pow_add, Nat.mul_assoc, ← Nat.pow_add]; congr 2; omega
  rw [mod_dg, Nat.add_mul, hNN, ← h3]
  omega

theorem r05_Left_loop (a : List UInt8) (s : Nat) (hl : a.length ≤ 100000) (hs : s ≤ 1000000) (c0 m0 : Nat) (k0 : Nat → Nat → Nat → (Nat → Int) → Prop) (h : k0 (a.length + s / 8 + 1) c0 m0 (G 8 (val a * 2 ^ s))) :
    ∀ (j i : Nat), i + j = a.length → r05_Left.l9 k0 (j + 1) a s (a.length + s / 8 + 1) c0 i m0 (G 8 (val a % 2 ^ (8 * i) * 2 ^ s)) := by
  intro j
  induction j with
  | zero =>
    intro i hi
    unfold r05_Left.l9 r05_Left.l9.step
    rw [br_f (lt_f (by omega)), show i = a.length from by omega, Nat.mod_eq_of_lt (val_lt8 a)]
    exact h
  | succ j ih =>
    intro i hi
    have ih := ih (i + 1) (by omega)
    have e : ((i + 1 : Nat) : Int) = (i : Int) + 1 := by omega
    obtain ⟨N1, u1, u3⟩ := up_step8 (val a) i s _ _ _ rfl rfl rfl
    rw [e, ← u3] at ih
    have hd := dg_lt 8 (val a) i
    rw [B8] at hd
    have hy : dg 8 (val a) i * 2 ^ (s % 8) < 256 * 256 := Nat.mul_lt_mul_of_lt_of_le hd (by
      have : 2 ^ (s % 8) ≤ 2 ^ 8 := Nat.pow_le_pow_right (by omega) (by omega)
      rwa [B8] at this) (by omega)
    have q1 := shl_i64 (dg 8 (val a) i) (s % 8) (by omega) (by omega)
    have e1 : Int.toNat ((i : Int) + (s : Int) / 8) = i + s / 8 := by omega
    have e2 : Int.toNat ((i : Int) + (s : Int) / 8 + 1) = i + s / 8 + 1 := by omega
    have e3 : (s : Int) % 8 = ((s % 8 : Nat) : Int) := by omega
    have e4 : ((dg 8 (val a) i * 2 ^ (s % 8) : Nat) : Int) % 256 = ((dg 8 (val a) i * 2 ^ (s % 8) % 256 : Nat) : Int) := by omega
    have e5 : ((dg 8 (val a) i * 2 ^ (s % 8) : Nat) : Int) / 256 % 256 = ((dg 8 (val a) i * 2 ^ (s % 8) / 256 : Nat) : Int) := by omega
    have hb : IntKind.bits .u8 = 8 := rfl
    have o1 : orI .u8 ((dg 8 (val a % 2 ^ (8 * i) * 2 ^ s) (i + s / 8) : Nat) : Int) ((dg 8 (val a) i * 2 ^ (s % 8) % 256 : Nat) : Int) = ((dg 8 (val a % 2 ^ (8 * i) * 2 ^ s) (i + s / 8) ||| dg 8 (val a) i * 2 ^ (s % 8) % 256 : Nat) : Int) :=
      or_k (k := .u8) rfl _ _ (by rw [hb]; exact dg_lt 8 _ _) (by rw [hb, B8]; exact Nat.mod_lt _ (by omega))
    unfold r05_Left.l9 r05_Left.l9.step
    rw [br_t (lt_t (by omega)), r05_at_ok a i (by omega) (by omega)]
    simp (disch := omega) only [lt_t, lt_f, le_t, gd_true, Bool.and_self, Bool.not_false, Int.toNat_natCast, quo_i64, rem_i, add_i64, cv_u64, G_app, e1, e2, e3, q1, cv_u8', shr_i64_8, e4, e5, o1, u1]
    exact ih
theorem blen_mul (x s : Nat) (h : x ≠ 0) : blen (x * 2 ^ s) = blen x + s := by
  have h1 : x * 2 ^ s / 2 ^ s = x := Nat.mul_div_cancel _ (Nat.two_pow_pos s)
  have := blen_shift (x := x * 2 ^ s) (i := s) (by rw [h1]; exact h)
  rw [this, h1, Nat.add_comm]
theorem len_blen' (x n : Nat) : (nb x).length ≤ n ↔ blen x ≤ 8 * n := by
  rw [nb_len_le, blen_le, p256]
theorem len_blen (x : Nat) : (nb x).length ≤ 16384 ↔ blen x ≤ 131072 := by
  have := len_blen' x 16384
  omega
theorem r05_Left_ok (a : List UInt8) (n : Int) (hn : n < 9223372036854775808) (hm : May a) (K : List UInt8 → Int → Prop) (h1 : n < 0 → K [] 2) (h2 : 0 ≤ n → a = [] → K [] 0)
    (h3 : 0 ≤ n → a ≠ [] → 131072 < (blen (val a) : Int) + n → K [] 4) (h4 : 0 ≤ n → a ≠ [] → (blen (val a) : Int) + n ≤ 131072 → K (nb (val a * 2 ^ n.toNat)) 0) : r05_Left a n K := by
  rw [r05_Left.is]; unfold r05_Left.d
  by_cases hneg : n < 0
  · rw [br_t (lt_t hneg)]; exact h1 hneg
  rw [br_f (lt_f (by omega)), eqS_nil]
  by_cases h0 : a = []
  · rw [br_t (by simp [h0])]; exact h2 (by omega) h0
  rw [br_f (by simp [h0])]
  have hl := hm.1
  by_cases hbig : 131072 < n
  · rw [br_t (lt_t hbig)]; exact h3 (by omega) h0 (by omega)
  rw [br_f (lt_f (by omega))]
  refine r05_Len_ok a _ ?_
  rw [if_pos hm]
  have hbl : blen (val a) ≤ 131072 := by
    rw [← len_blen, hm.nb]; exact hl
  rw [add_i64 (by omega) (by omega)]
  by_cases hlong : 131072 < (blen (val a) : Int) + n
  · rw [br_t (lt_t hlong)]; exact h3 (by omega) h0 hlong
  rw [br_f (lt_f (by omega))]
  obtain ⟨s, rfl⟩ : ∃ s : Nat, n = s := ⟨n.toNat, by omega⟩
  have e1 : Int.toNat ((a.length : Int) + (s : Int) / 8 + 1) = a.length + s / 8 + 1 := by omega
  simp (disch := omega) only [quo_i64, add_i64, le_t, gd_true, Bool.and_self, e1]
  have h4 := h4 (by omega) h0 (by omega)
  rw [Int.toNat_natCast] at h4
  refine ⟨a.length + 1, ?_⟩
  have := r05_Left_loop a s (by omega) (by omega) (a.length + s / 8 + 1) (a.length + s / 8 + 1) (fun y0 y1 y2 y3 => r05_fit y0 y3 fun y0 => K y0 0) ?_ a.length 0 (by omega)
  · rw [Nat.mul_zero, Nat.pow_zero, Nat.mod_one, Nat.zero_mul, G_zero] at this; exact this
  · refine r05_fit_ok _ _ (by omega) ?_ _ h4
    have : val a * 2 ^ s < 2 ^ (8 * a.length) * 2 ^ s := Nat.mul_lt_mul_of_pos_right (val_lt8 a) (Nat.two_pow_pos _)
    rw [← Nat.pow_add] at this
    exact Nat.lt_of_lt_of_le this (Nat.pow_le_pow_right (by omega) (by omega))

theorem down_dg8 (x s i : Nat) : (dg 8 x (i + s / 8) + dg 8 x (i + s / 8 + 1) * 256) / 2 ^ (s % 8) % 256 = dg 8 (x / 2 ^ s) i := by
  have hr : s % 8 < 8 := Nat.mod_lt _ (by omega)
  have h1 : dg 8 x (i + s / 8) + dg 8 x (i + s / 8 + 1) * 256 = x / 2 ^ (8 * (i + s / 8)) % 2 ^ 16 := by
    have a := div_dg 8 x (i + s / 8)
    have b := div_dg 8 x (i + s / 8 + 1)
    rw [B8] at a b
    rw [a, b, show (2 : Nat) ^ 16 = 65536 from rfl]
    have c := dg_lt 8 x (i + s / 8)
    have d := dg_lt 8 x (i + s / 8 + 1)
    rw [B8] at c d
    omega
  rw [h1]
  unfold dg
  rw [Nat.div_div_eq_div_mul, ← Nat.pow_add]
  have h2 : (2 : Nat) ^ 16 = 2 ^ (s % 8) * 2 ^ (16 - s % 8) := by rw [← Nat.pow_add]; congr 1; omega
  rw [h2, Nat.mod_mul_right_div_self, Nat.div_div_eq_div_mul, ← Nat.pow_add, show (256 : Nat) = 2 ^ 8 from rfl, Nat.mod_mod_of_dvd _ (Nat.pow_dvd_pow 2 (by omega))]
  congr 3; omega
theorem r05_Right_loop (a : List UInt8) (s : Nat) (hl : a.length ≤ 100000) (hs : s / 8 ≤ a.length) (lost : Bool) (c0 m0 : Nat) (k0 : Bool → Nat → Nat → Nat → (Nat → Int) → Prop) (h : k0 lost (a.length - s / 8) c0 m0 (G 8 (val a / 2 ^ s % 2 ^ (8 * (a.length - s / 8))))) :
    ∀ (j i : Nat), i + j = a.length - s / 8 → r05_Right.l11 k0 (j + 1) a s lost ((a.length - s / 8 : Nat) : Int) (a.length - s / 8) c0 i m0 (G 8 (val a / 2 ^ s % 2 ^ (8 * i))) := by
  intro j
  induction j with
  | zero =>
    intro i hi
    unfold r05_Right.l11 r05_Right.l11.step
    rw [br_f (lt_f (by omega)), show i = a.length - s / 8 from by omega]
    exact h
  | succ j ih =>
    intro i hi
    have ih := ih (i + 1) (by omega)
    have e : ((i + 1 : Nat) : Int) = (i : Int) + 1 := by omega
    have hw := down_dg8 (val a) s i
    have hdw := dg_lt 8 (val a / 2 ^ s) i
    rw [e, mod_dg, ← G_put 8 _ _ i (Nat.mod_lt _ (Nat.two_pow_pos _)) hdw, ← hw] at ih
    have hd := dg_lt 8 (val a) (i + s / 8)
    have hd2 := dg_lt 8 (val a) (i + s / 8 + 1)
    rw [B8] at hd hd2
    have e1 : (i : Int) + (s : Int) / 8 = ((i + s / 8 : Nat) : Int) := by omega
    have e2 : ((i + s / 8 : Nat) : Int) + 1 = ((i + s / 8 + 1 : Nat) : Int) := by omega
    have e3 : (s : Int) % 8 = ((s % 8 : Nat) : Int) := by omega
    have q1 := shl_i64 (dg 8 (val a) (i + s / 8 + 1)) 8 (by omega) (by rw [B8]; omega)
    rw [B8, show ((8 : Nat) : Int) = 8 from rfl] at q1
    have e62 : (2 : Nat) ^ 62 = 4611686018427387904 := rfl
    have o1 : orI .i64 ((dg 8 (val a) (i + s / 8) : Nat) : Int) ((dg 8 (val a) (i + s / 8 + 1) * 256 : Nat) : Int) = ((dg 8 (val a) (i + s / 8) + dg 8 (val a) (i + s / 8 + 1) * 256 : Nat) : Int) := by
      rw [or_i64 _ _ (by omega) (by omega)]
      congr 1
      exact or_mult (r := 8) (by rw [B8]; exact hd) (by rw [B8]; exact Nat.mul_mod_left _ _)
    have sh := shr_i64 (dg 8 (val a) (i + s / 8) + dg 8 (val a) (i + s / 8 + 1) * 256) (s % 8) (by omega)
    have e4 : (((dg 8 (val a) (i + s / 8) + dg 8 (val a) (i + s / 8 + 1) * 256) / 2 ^ (s % 8) : Nat) : Int) % 256 = (((dg 8 (val a) (i + s / 8) + dg 8 (val a) (i + s / 8 + 1) * 256) / 2 ^ (s % 8) % 256 : Nat) : Int) := by omega
    unfold r05_Right.l11 r05_Right.l11.step
    simp (disch := omega) only [lt_t, br_true, quo_i64, add_i64, e1, e2]
    rw [r05_at_ok a _ (by omega) (by omega), r05_at_ok a _ (by omega) (by omega)]
    simp (disch := omega) only [lt_t, lt_f, le_t, gd_true, Bool.and_self, Bool.not_false, Int.toNat_natCast, rem_i, cv_u64, e3, q1, o1, sh, cv_u8', e4]
    exact ih
theorem lt_low (x n : Int) : ltI x n = decide (x < n) := by simp [ltI]
theorem r05_Right_ok (a : List UInt8) (n : Int) (hn : n < 9223372036854775808) (hm : May a) (K : List UInt8 → Bool → Int → Prop) (h1 : n < 0 → K [] false 2) (h2 : 0 ≤ n → a = [] → K [] false 0)
    (h3 : 0 ≤ n → a ≠ [] → K (nb (val a / 2 ^ n.toNat)) (decide ((lowb (val a) : Int) < n)) 0) : r05_Right a n K := by
  rw [r05_Right.is]; unfold r05_Right.d
  by_cases hneg : n < 0
  · rw [br_t (lt_t hneg)]; exact h1 hneg
  rw [br_f (lt_f (by omega)), eqS_nil]
  by_cases h0 : a = []
  · rw [br_t (by simp [h0])]; exact h2 (by omega) h0
  rw [br_f (by simp [h0])]
  have hl := hm.1
  obtain ⟨s, rfl⟩ : ∃ s : Nat, n = s := ⟨n.toNat, by omega⟩
  have h3 := h3 (by omega) h0
  rw [Int.toNat_natCast] at h3
  refine r05_Low_ok a _ ?_
  rw [if_pos hm, lt_low, mul_i64 (by omega) (by omega)]
  by_cases hbig : 8 * a.length ≤ s
  · rw [br_t (le_t (by omega))]
    have : val a / 2 ^ s = 0 := Nat.div_eq_of_lt (Nat.lt_of_lt_of_le (val_lt8 a) (Nat.pow_le_pow_right (by omega) hbig))
    rw [this, nb_zero] at h3
    exact h3
  · rw [br_f (le_f (by omega))]
    have e1 : Int.toNat ((a.length : Int) - (s : Int) / 8) = a.length - s / 8 := by omega
    have e2 : (a.length : Int) - (s : Int) / 8 = ((a.length - s / 8 : Nat) : Int) := by omega
    simp (disch := omega) only [quo_i64, sub_i64, le_t, gd_true, Bool.and_self, e1]
    rw [e2]
    have hlt2 : val a / 2 ^ s < 2 ^ (8 * (a.length - s / 8)) := by
      rw [Nat.div_lt_iff_lt_mul (Nat.two_pow_pos _), ← Nat.pow_add]
      exact Nat.lt_of_lt_of_le (val_lt8 a) (Nat.pow_le_pow_right (by omega) (by omega))
    refine ⟨a.length - s / 8 + 1, ?_⟩
    have := r05_Right_loop a s (by omega) (by omega) (decide ((lowb (val a) : Int) < s)) (a.length - s / 8) (a.length - s / 8) (fun y0 y1 y2 y3 y4 => r05_fit y1 y4 fun y0_1 => K y0_1 y0 0) ?_ (a.length - s / 8) 0 (by omega)
    · rw [Nat.mul_zero, Nat.pow_zero, Nat.mod_one, G_zero] at this; exact this
    · rw [Nat.mod_eq_of_lt hlt2]
      exact r05_fit_ok _ _ (by omega) hlt2 _ h3
end Go.Ev.S

/- Natural numbers as rows of words: divided. -/
set_option linter.unusedVariables false
set_option linter.unusedSimpArgs false
set_option maxRecDepth 8000
namespace Go.Ev.S
open Go Go.Ev

/-- A guess that the two highest words bar is too high. -/
theorem guess_ge {B P U D v1 v2 dl x u2 ul q left : Nat} (hP : 0 < P) (hD : D = (v1 * B + v2) * P + dl) (hU : U = (x * B + u2) * P + ul) (hul : ul < P) (hx : q * v1 + left = x) (hD0 : 0 < D) (hUB : U < D * B)
    (h : B ≤ q ∨ left * B + u2 < q * v2) : U / D < q := by
  rw [Nat.div_lt_iff_lt_mul hD0]
  rcases h with h | h
  · exact Nat.lt_of_lt_of_le hUB (by rw [Nat.mul_comm q]; exact Nat.mul_le_mul_left _ h)
  · have h1 : (x * B + u2 + 1) * P ≤ q * ((v1 * B + v2) * P) := by
      rw [← Nat.mul_assoc]
      refine Nat.mul_le_mul_right _ ?_
      rw [← hx, Nat.mul_add, Nat.add_mul, ← Nat.mul_assoc]
      omega
    have h2 : q * ((v1 * B + v2) * P) ≤ q * D := Nat.mul_le_mul_left _ (by omega)
    rw [Nat.add_mul, Nat.one_mul] at h1
    omega
/-- A guess that they let stand is too high by one at most. -/
theorem guess_le {B P U D v1 v2 dl x u2 ul q left : Nat} (hD : D = (v1 * B + v2) * P + dl) (hdl : dl < P) (hU : U = (x * B + u2) * P + ul) (hx : q * v1 + left = x) (hD0 : 0 < D) (hv : 0 < v1) (hqB : q < B) (h : q * v2 ≤ left * B + u2) : q ≤ U / D + 1 := by
  have key : (q - 1) * D ≤ U := by
    have h1 : (q - 1) * D ≤ (q - 1) * ((v1 * B + v2 + 1) * P) := Nat.mul_le_mul_left _ (by rw [Nat.add_mul (v1 * B + v2)]; omega)
    have h2 : (q - 1) * (v1 * B + v2 + 1) ≤ x * B + u2 := by
      rcases Nat.eq_zero_or_pos q with h0 | h0
      · subst h0; simp
      · have e1 : (q - 1) * (v1 * B + v2 + 1) = q * (v1 * B + v2) + (q - 1) - (v1 * B + v2) := by
          obtain ⟨t, rfl⟩ : ∃ t, q = t + 1 := ⟨q - 1, by omega⟩
          rw [Nat.add_sub_cancel, Nat.mul_add t, Nat.add_mul t 1]
          omega
        have e2 : q * (v1 * B + v2) ≤ x * B + u2 := by
          rw [← hx, Nat.mul_add, Nat.add_mul, ← Nat.mul_assoc]; omega
        have e3 : B ≤ v1 * B := Nat.le_mul_of_pos_left _ hv
        omega
    have h3 : (q - 1) * ((v1 * B + v2 + 1) * P) ≤ (x * B + u2) * P := by
      rw [← Nat.mul_assoc]; exact Nat.mul_le_mul_right _ h2
    omega
  have := (Nat.le_div_iff_mul_le hD0).2 key
  omega

theorem word_pair (a b : Nat) (ha : a < 4294967296) (hb : b < 4294967296) : orI .u64 (shlI .u64 (a : Int) 32) (b : Int) = ((a * 4294967296 + b : Nat) : Int) := by
  have hb64 : IntKind.bits .u64 = 64 := rfl
  have := shl_k (k := .u64) rfl a 32 (by rw [hb64]; omega)
  rw [show ((32 : Nat) : Int) = 32 from rfl] at this
  rw [this, hb64, B32, Nat.mod_eq_of_lt (by rw [B64]; omega), or_k (k := .u64) rfl _ _ (by rw [hb64, B64]; omega) (by rw [hb64, B64]; omega)]
  congr 1
  rw [Nat.or_comm, or_mult (r := 32) (by rw [B32]; exact hb) (by rw [B32]; exact Nat.mul_mod_left _ _), Nat.add_comm]
theorem quo_u64 (a b : Nat) (ha : a < 18446744073709551616) : quoI .u64 (a : Int) (b : Int) = ((a / b : Nat) : Int) := by
  have h : a / b ≤ a := Nat.div_le_self a b
  show IntKind.wrap .u64 ((a : Int).tdiv b) = _
  rw [Int.tdiv_eq_ediv_of_nonneg (by omega)]
  have : (a : Int) / (b : Int) = ((a / b : Nat) : Int) := by simp
  rw [this]
  generalize a / b = q at h ⊢
  exact u64_id (by omega) (by omega)

/-- One round of the loop that mends the guess. -/
theorem guess_down {again : Nat → Int → Nat → Nat → Int → Int → Int → Int → Nat → (Nat → Int) → Nat → (Nat → Int) → Nat → (Nat → Int) → Prop} {k0 : Nat → Int → Nat → Nat → Int → Int → Int → Nat → (Nat → Int) → Nat → (Nat → Int) → Nat → (Nat → Int) → Prop} (n0 : Nat) (s : Int) (L md i : Nat) (hmd : 2 ≤ md) (hmd2 : md ≤ 1000000) (c1 c2 c3 : Nat) (f1 f3 : Nat → Int) (D v1 q left : Nat) (hv1 : v1 < 4294967296) (hl : left < 4294967296) (e1 : dg 32 D (md - 1) = v1) (hq1 : q + 1 < 18446744073709551616)
    (h1 : left + v1 < 4294967296 → again n0 s md L md i q (left + v1 : Nat) c1 f1 c2 (G 32 D) c3 f3) (h2 : 4294967296 ≤ left + v1 → k0 n0 s md L md i q c1 f1 c2 (G 32 D) c3 f3) :
    gd (leI 0 (subI IntKind.i64 (md : Int) 1) && ltI (subI IntKind.i64 (md : Int) 1) (md : Int)) (br (leI 4294967296 (addI IntKind.u64 (left : Int) (cvI IntKind.u64 (G 32 D (Int.toNat (subI IntKind.i64 (md : Int) 1)))))) (k0 n0 s md L md i (subI IntKind.u64 ((q + 1 : Nat) : Int) 1) c1 f1 c2 (G 32 D) c3 f3) (again n0 s md L md i (subI IntKind.u64 ((q + 1 : Nat) : Int) 1) (addI IntKind.u64 (left : Int) (cvI IntKind.u64 (G 32 D (Int.toNat (subI IntKind.i64 (md : Int) 1))))) c1 f1 c2 (G 32 D) c3 f3)) := by
  have s1 : subI .u64 ((q + 1 : Nat) : Int) 1 = (q : Int) := by rw [sub_u64 (by omega) (by omega)]; omega
  have a1 : addI .u64 (left : Int) ((v1 : Nat) : Int) = ((left + v1 : Nat) : Int) := by rw [add_u64 (by omega) (by omega)]; omega
  have i0 : subI IntKind.i64 (md : Int) 1 = (md : Int) - 1 := by rw [sub_i64 (by omega) (by omega)]
  have i1 : Int.toNat ((md : Int) - 1) = md - 1 := by omega
  have i2 : cvI IntKind.u64 ((v1 : Nat) : Int) = v1 := by rw [cv_u64 (by omega) (by omega)]
  rw [i0, i1, G_app, e1, i2, a1, s1, gd_t (by rw [le_t (by omega), lt_t (by omega)]; rfl)]
  by_cases hl2 : left + v1 < 4294967296
  · rw [br_f (le_f (by omega))]; exact h1 hl2
  · rw [br_t (le_t (by omega))]; exact h2 (by omega)
theorem guess_test (left u2 q v2 : Nat) (hl : left < 4294967296) (hu : u2 < 4294967296) (hq : q < 4294967296) (hv : v2 < 4294967296) : ltI (orI IntKind.u64 (shlI IntKind.u64 (left : Int) 32) (cvI IntKind.u64 (u2 : Int))) (mulI IntKind.u64 (q : Int) (cvI IntKind.u64 (v2 : Int))) = decide (left * 4294967296 + u2 < q * v2) := by
  have h1 : q * v2 ≤ 4294967295 * 4294967295 := Nat.mul_le_mul (by omega) (by omega)
  have e4 : ((q : Int) * ((v2 : Nat) : Int)) = ((q * v2 : Nat) : Int) := by simp
  rw [cv_u64 (by omega) (by omega), cv_u64 (by omega) (by omega), word_pair left u2 hl hu, mul_u64 (by rw [e4]; omega) (by rw [e4]; omega), e4]
  generalize q * v2 = t
  by_cases h : left * 4294967296 + u2 < t
  · rw [lt_t (by omega)]; exact (decide_eq_true h).symm
  · rw [lt_f (by omega)]; exact (decide_eq_false h).symm
theorem guess_step {again : Nat → Int → Nat → Nat → Int → Int → Int → Int → Nat → (Nat → Int) → Nat → (Nat → Int) → Nat → (Nat → Int) → Prop} {k0 : Nat → Int → Nat → Nat → Int → Int → Int → Nat → (Nat → Int) → Nat → (Nat → Int) → Nat → (Nat → Int) → Prop} (n0 : Nat) (s : Int) (L md i : Nat) (hi : i ≤ 1000000) (hmd : 2 ≤ md) (hmd2 : md ≤ 1000000) (hL : i + md < L) (c1 c2 c3 : Nat) (f1 : Nat → Int) (D N v1 v2 u2 q left : Nat) (hv1 : v1 < 4294967296) (hv2 : v2 < 4294967296) (hu2 : u2 < 4294967296) (hl : left < 4294967296)
    (e1 : dg 32 D (md - 1) = v1) (e2 : dg 32 D (md - 2) = v2) (e3 : dg 32 N (i + md - 2) = u2) (hq1 : q < 18446744073709551616)
    (hd : 4294967296 ≤ q ∨ left * 4294967296 + u2 < q * v2 → ∃ p, q = p + 1 ∧ (left + v1 < 4294967296 → again n0 s md L md i p (left + v1 : Nat) c1 f1 c2 (G 32 D) c3 (G 32 N)) ∧ (4294967296 ≤ left + v1 → k0 n0 s md L md i p c1 f1 c2 (G 32 D) c3 (G 32 N)))
    (hk : q < 4294967296 → q * v2 ≤ left * 4294967296 + u2 → k0 n0 s md L md i q c1 f1 c2 (G 32 D) c3 (G 32 N)) :
    nat_parts.l24.step again k0 n0 s md L md i q left c1 f1 c2 (G 32 D) c3 (G 32 N) := by
  unfold nat_parts.l24.step
  by_cases hbig : 4294967296 ≤ q
  · rw [br_t (le_t (by omega))]
    obtain ⟨p, rfl, h1, h2⟩ := hd (.inl hbig)
    exact guess_down n0 s L md i hmd hmd2 c1 c2 c3 f1 _ D v1 p left hv1 hl e1 (by omega) h1 h2
  · rw [br_f (le_f (by omega))]
    have i0 : subI IntKind.i64 (md : Int) 2 = (md : Int) - 2 := by rw [sub_i64 (by omega) (by omega)]
    have i1 : addI IntKind.i64 (i : Int) (md : Int) = (i : Int) + md := by rw [add_i64 (by omega) (by omega)]
    have i2 : subI IntKind.i64 ((i : Int) + md) 2 = (i : Int) + md - 2 := by rw [sub_i64 (by omega) (by omega)]
    have i3 : Int.toNat ((md : Int) - 2) = md - 2 := by omega
    have i4 : Int.toNat ((i : Int) + md - 2) = i + md - 2 := by omega
    rw [i0, i1, i2, i3, i4, gd_t (by rw [le_t (by omega), lt_t (by omega)]; rfl), gd_t (by rw [le_t (by omega), lt_t (by omega)]; rfl), G_app, G_app, e2, e3, guess_test left u2 q v2 hl hu2 (by omega) hv2]
    by_cases ht : left * 4294967296 + u2 < q * v2
    · rw [br_t (decide_eq_true ht)]
      obtain ⟨p, rfl, h1, h2⟩ := hd (.inr ht)
      exact guess_down n0 s L md i hmd hmd2 c1 c2 c3 f1 _ D v1 p left hv1 hl e1 (by omega) h1 h2
    · rw [br_f (decide_eq_false ht)]
      exact hk (by omega) (by omega)

theorem guess_left {B v1 x q left : Nat} (hxv : x / B ≤ v1) (hB : 0 < B) (hx : q * v1 + left = x) (hq : B ≤ q) : left < B := by
  have h1 : B * v1 ≤ q * v1 := Nat.mul_le_mul_right _ hq
  have h2 := Nat.div_add_mod x B
  have h3 := Nat.mod_lt x hB
  have h4 : B * (x / B) ≤ B * v1 := Nat.mul_le_mul_left _ hxv
  omega
theorem guess_over {B q v2 left u2 : Nat} (hq : q < B) (hv : v2 < B) (hl : B ≤ left) : q * v2 ≤ left * B + u2 := by
  have h1 : q * v2 ≤ B * B := Nat.mul_le_mul (by omega) (by omega)
  have h2 : B * B ≤ left * B := Nat.mul_le_mul_right _ hl
  omega

/-- The loop that mends the guess. -/
theorem nat_parts_guess (n s : Int) (L md i : Nat) (hi : i ≤ 1000000) (hmd : 2 ≤ md) (hmd2 : md ≤ 1000000) (hL : i + md < L) (n0 : Nat) (D N : Nat) (c1 c2 c3 : Nat) (f1 : Nat → Int)
    (U v1 v2 dl x u2 ul P : Nat) (hP : 0 < P) (hD : D = (v1 * 4294967296 + v2) * P + dl) (hdl : dl < P) (hU : U = (x * 4294967296 + u2) * P + ul) (hul : ul < P) (hD0 : 0 < D) (hUB : U < D * 4294967296) (hv : 0 < v1)
    (hxv : x / 4294967296 ≤ v1) (hx2 : x < 18446744073709551616)
    (e1 : dg 32 D (md - 1) = v1) (e2 : dg 32 D (md - 2) = v2) (e3 : dg 32 N (i + md - 2) = u2)
    (k0 : Nat → Int → Nat → Nat → Int → Int → Int → Nat → (Nat → Int) → Nat → (Nat → Int) → Nat → (Nat → Int) → Prop)
    (h : ∀ q : Nat, U / D ≤ q → q ≤ U / D + 1 → q < 4294967296 → k0 n0 s md L md i q c1 f1 c2 (G 32 D) c3 (G 32 N)) :
    ∀ (q left : Nat), q * v1 + left = x → left < 4294967296 → U / D ≤ q → nat_parts.l24 k0 (q + 1) n0 s md L md i q left c1 f1 c2 (G 32 D) c3 (G 32 N) := by
  have hv1 := dg_lt 32 D (md - 1)
  have hv2 := dg_lt 32 D (md - 2)
  have hu2 := dg_lt 32 N (i + md - 2)
  rw [B32, e1] at hv1
  rw [B32, e2] at hv2
  rw [B32, e3] at hu2
  have done : ∀ q left : Nat, q * v1 + left = x → U / D ≤ q → q < 4294967296 → q * v2 ≤ left * 4294967296 + u2 → k0 n0 s md L md i q c1 f1 c2 (G 32 D) c3 (G 32 N) :=
    fun q left hx hge hlt ht => h q hge (guess_le hD hdl hU hx hD0 hv hlt ht) hlt
  have qx : ∀ q left : Nat, q * v1 + left = x → q < 18446744073709551616 := fun q left hx => by
    have : q * 1 ≤ q * v1 := Nat.mul_le_mul_left _ hv
    omega
  intro q
  induction q with
  | zero =>
    intro left hx hl hge
    unfold nat_parts.l24
    refine guess_step n0 s L md i hi hmd hmd2 hL c1 c2 c3 f1 D N v1 v2 u2 0 left hv1 hv2 hu2 hl e1 e2 e3 (by omega) (fun hc => ?_) (fun a b => done 0 left hx hge a b)
    rw [Nat.zero_mul] at hc
    omega
  | succ q ih =>
    intro left hx hl hge
    have hqx := qx (q + 1) left hx
    have hx' : q * v1 + (left + v1) = x := by rw [Nat.add_mul] at hx; omega
    have hover : 4294967296 ≤ left + v1 → q < 4294967296 := fun hl2 => by
      apply Classical.byContradiction
      intro hc
      have := guess_left hxv (by omega) hx' (by omega)
      omega
    unfold nat_parts.l24
    refine guess_step n0 s L md i hi hmd hmd2 hL c1 c2 c3 f1 D N v1 v2 u2 (q + 1) left hv1 hv2 hu2 hl e1 e2 e3 hqx (fun hc => ?_) (fun a b => done (q + 1) left hx hge a b)
    have hlt := guess_ge hP hD hU hul hx hD0 hUB hc
    have hge' : U / D ≤ q := Nat.le_of_lt_succ hlt
    exact ⟨q, rfl, fun hl2 => ih (left + v1) hx' hl2 hge', fun hl2 => done q (left + v1) hx' hge' (hover hl2) (guess_over (hover hl2) hv2 hl2)⟩

/-- A number all of whose digits from a place on are noughts. -/
theorem lt_of_dg (k n x : Nat) (hk : k ≠ 0) (h : ∀ i, n ≤ i → dg k x i = 0) : x < 2 ^ (k * n) := by
  rw [← wl_le k hk]
  apply Classical.byContradiction
  intro hc
  have hx : x ≠ 0 := by intro e; subst e; rw [wl_zero] at hc; omega
  exact wl_top k hk x hx (h _ (by omega))
theorem setd_lt {k N N' w j n : Nat} (hk : k ≠ 0) (hN : N < 2 ^ (k * n)) (hj : j < n) (hw : w < 2 ^ k) (h : N' + dg k N j * 2 ^ (k * j) = N + w * 2 ^ (k * j)) : N' < 2 ^ (k * n) := by
  refine lt_of_dg k n N' hk fun i hi => ?_
  have h1 := congrFun (G_upd h hw) i
  rw [upd_ne _ _ _ _ (by omega), G_app, G_app, dg_high k N n i hN hi] at h1
  omega

/-- Taken away as often as was guessed. -/
theorem nat_parts_take (n0 : Nat) (s : Int) (L md i q : Nat) (hi : i ≤ 1000000) (hmd2 : md ≤ 1000000) (hL : i + md < L) (hq : q < 4294967296) (c1 c2 c3 : Nat) (f1 : Nat → Int) (D N0 : Nat) (hD : D < 2 ^ (32 * md)) (hN0 : N0 < 2 ^ (32 * (i + md + 1)))
    (k0 : Nat → Int → Nat → Nat → Int → Int → Int → Int → Int → Nat → (Nat → Int) → Nat → (Nat → Int) → Nat → (Nat → Int) → Prop)
    (h : ∀ (N c : Nat) (b : Int), N < 2 ^ (32 * (i + md + 1)) → c < 4294967296 → -1 ≤ b → b ≤ 0 → (N : Int) + (b - c) * ((2 ^ (32 * (i + md)) : Nat) : Int) = N0 - ((q * D * 2 ^ (32 * i) : Nat) : Int) → k0 n0 s md L md i q c b c1 f1 c2 (G 32 D) c3 (G 32 N)) :
    ∀ (j k N c : Nat) (b : Int), k + j = md → N < 2 ^ (32 * (i + md + 1)) → c < 4294967296 → -1 ≤ b → b ≤ 0 → (N : Int) + (b - c) * ((2 ^ (32 * (i + k)) : Nat) : Int) = N0 - ((q * (D % 2 ^ (32 * k)) * 2 ^ (32 * i) : Nat) : Int) →
      nat_parts.l31 k0 (j + 1) n0 s md L md i q c b md k c1 f1 c2 (G 32 D) c3 (G 32 N) := by
  intro j
  induction j with
  | zero =>
    intro k N c b hk hN hc hb1 hb2 hE
    have hk : k = md := by omega
    subst hk
    unfold nat_parts.l31 nat_parts.l31.step
    rw [br_f (lt_f (by omega))]
    rw [Nat.mod_eq_of_lt hD] at hE
    exact h N c b hN hc hb1 hb2 hE
  | succ j ih =>
    intro k N c b hk hN hc hb1 hb2 hE
    have hdN := dg_lt 32 N (i + k)
    have hdD := dg_lt 32 D k
    rw [B32] at hdN hdD
    have hm : q * dg 32 D k ≤ 4294967295 * 4294967295 := Nat.mul_le_mul (by omega) (by omega)
    have hD1 := mod_dg 32 D k
    -- the product's low word, and what is carried
    have hs : ∀ (t : Nat) (z : Int), t = c + q * dg 32 D k → z = b + ((dg 32 N (i + k) : Int) - ((t % 4294967296 : Nat) : Int)) →
        nat_parts.l31 k0 (j + 1) n0 s md L md i q ((t / 4294967296 : Nat) : Int) (z / 4294967296) md ((k : Int) + 1) c1 f1 c2 (G 32 D) c3 (upd (G 32 N) (i + k) (z % 4294967296)) := by
      intro t z ht hz
      have hw : z % 4294967296 = ((z % 4294967296).toNat : Int) := by omega
      have hwl : (z % 4294967296).toNat < 2 ^ 32 := by rw [B32]; omega
      have e : ((k + 1 : Nat) : Int) = (k : Int) + 1 := by omega
      have hsp := split_dg 32 N (i + k)
      obtain ⟨N', hN'⟩ : ∃ N', N' + dg 32 N (i + k) * 2 ^ (32 * (i + k)) = N + (z % 4294967296).toNat * 2 ^ (32 * (i + k)) :=
        ⟨N % 2 ^ (32 * (i + k)) + (z % 4294967296).toNat * 2 ^ (32 * (i + k)) + N / 2 ^ (32 * (i + k + 1)) * 2 ^ (32 * (i + k + 1)), by omega⟩
      rw [hw, G_upd hN' hwl, ← e]
      refine ih (k + 1) N' _ _ (by omega) (setd_lt (by omega) hN (by omega) hwl hN') (by omega) (by omega) (by omega) ?_
      rw [hD1, show i + (k + 1) = i + k + 1 from by omega, pow_k, B32]
      have hp : 2 ^ (32 * (i + k)) = 2 ^ (32 * k) * 2 ^ (32 * i) := by rw [← Nat.pow_add, show 32 * k + 32 * i = 32 * (i + k) from by omega]
      have h1 : ((q * (D % 2 ^ (32 * k) + dg 32 D k * 2 ^ (32 * k)) * 2 ^ (32 * i) : Nat) : Int) = ((q * (D % 2 ^ (32 * k)) * 2 ^ (32 * i) : Nat) : Int) + ((q * dg 32 D k : Nat) : Int) * ((2 ^ (32 * (i + k)) : Nat) : Int) := by
        rw [hp, Nat.mul_add, Nat.add_mul, ← Nat.mul_assoc q (dg 32 D k), Nat.mul_assoc (q * dg 32 D k)]
        simp
      rw [h1]
      generalize 2 ^ (32 * (i + k)) = P at *
      have h4 := Int.emod_add_mul_ediv z 4294967296
      have h5 : z * (P : Int) = (z % 4294967296).toNat * (P : Int) + z / 4294967296 * ((P : Int) * 4294967296) := by
        conv => lhs; rw [← h4]
        rw [← hw, Int.add_mul, Int.mul_comm (4294967296 : Int), Int.mul_assoc, Int.mul_comm (4294967296 : Int)]
      have h6 : z * (P : Int) = b * P + (dg 32 N (i + k) : Int) * P - ((t % 4294967296 : Nat) : Int) * P := by rw [hz, Int.add_mul, Int.sub_mul]; omega
      have h7 : ((t : Nat) : Int) * (P : Int) = ((t % 4294967296 : Nat) : Int) * P + ((t / 4294967296 : Nat) : Int) * ((P : Int) * 4294967296) := by
        have := dm_mul' t 4294967296 P
        have h8 : ((t % 4294967296 * P + t / 4294967296 * (P * 4294967296) : Nat) : Int) = ((t * P : Nat) : Int) := by rw [this]
        simpa using h8.symm
      have h9 : ((t : Nat) : Int) * (P : Int) = (c : Int) * P + ((q * dg 32 D k : Nat) : Int) * P := by rw [ht]; rw [show ((c + q * dg 32 D k : Nat) : Int) = (c : Int) + ((q * dg 32 D k : Nat) : Int) from by omega, Int.add_mul]
      have h10 : (N' : Int) + (dg 32 N (i + k) : Int) * P = N + ((z % 4294967296).toNat : Int) * P := by
        have : ((N' + dg 32 N (i + k) * P : Nat) : Int) = ((N + (z % 4294967296).toNat * P : Nat) : Int) := by rw [hN']
        simpa using this
      have c4 : ((P * 4294967296 : Nat) : Int) = (P : Int) * 4294967296 := by simp
      rw [c4, Int.sub_mul]
      rw [Int.sub_mul] at hE
      omega
    have e0 : Int.toNat ((i : Int) + k) = i + k := by omega
    have e5 : mulI .u64 (q : Int) (dg 32 D k : Int) = ((q * dg 32 D k : Nat) : Int) := by
      have e4 : ((q : Int) * (dg 32 D k : Int)) = ((q * dg 32 D k : Nat) : Int) := by simp
      rw [mul_u64 (by rw [e4]; omega) (by rw [e4]; omega), e4]
    have e6 : (c : Int) + ((q * dg 32 D k : Nat) : Int) = ((c + q * dg 32 D k : Nat) : Int) := by omega
    have e7 : ((c + q * dg 32 D k : Nat) : Int) / 4294967296 = (((c + q * dg 32 D k) / 4294967296 : Nat) : Int) := by omega
    have e8 : ((c + q * dg 32 D k : Nat) : Int) % 4294967296 = (((c + q * dg 32 D k) % 4294967296 : Nat) : Int) := by omega
    unfold nat_parts.l31 nat_parts.l31.step
    simp (disch := omega) only [lt_t, le_t, gd_true, br_true, Bool.and_self, Int.toNat_natCast, add_i64, sub_i64, cv_u64, add_u64, G_app, e0, e5, e6, shr_u64_32, shr_i64_32, cv_u32', e7, e8, cv_i64]
    exact hs _ _ rfl rfl

/-- Added again, where it was one too many. -/
theorem nat_parts_give (n0 : Nat) (s : Int) (L md i : Nat) (q : Int) (hi : i ≤ 1000000) (hmd2 : md ≤ 1000000) (hL : i + md < L) (c1 c2 c3 : Nat) (f1 : Nat → Int) (D N0 : Nat) (hD : D < 2 ^ (32 * md))
    (k0 : Nat → Int → Nat → Nat → Int → Int → Int → Int → Nat → (Nat → Int) → Nat → (Nat → Int) → Nat → (Nat → Int) → Prop)
    (h : ∀ (N c : Nat), N < 2 ^ (32 * (i + md + 1)) → c < 4294967296 → N + c * 2 ^ (32 * (i + md)) = N0 + D * 2 ^ (32 * i) → k0 n0 s md L md i q c c1 f1 c2 (G 32 D) c3 (G 32 N)) :
    ∀ (j k N c : Nat), k + j = md → N < 2 ^ (32 * (i + md + 1)) → c < 2 → N + c * 2 ^ (32 * (i + k)) = N0 + D % 2 ^ (32 * k) * 2 ^ (32 * i) → nat_parts.l45 k0 (j + 1) n0 s md L md i q c md k c1 f1 c2 (G 32 D) c3 (G 32 N) := by
  intro j
  induction j with
  | zero =>
    intro k N c hk hN hc hE
    have hk : k = md := by omega
    subst hk
    unfold nat_parts.l45 nat_parts.l45.step
    rw [br_f (lt_f (by omega))]
    rw [Nat.mod_eq_of_lt hD] at hE
    exact h N c hN (by omega) hE
  | succ j ih =>
    intro k N c hk hN hc hE
    have hdN := dg_lt 32 N (i + k)
    have hdD := dg_lt 32 D k
    rw [B32] at hdN hdD
    have hD1 := mod_dg 32 D k
    obtain ⟨N', s1, s2⟩ := acc_step (k := 32) (N := N) (j := i + k) (s := c + (dg 32 N (i + k) + dg 32 D k)) rfl
    have hw : (c + (dg 32 N (i + k) + dg 32 D k)) % 4294967296 < 2 ^ 32 := Nat.mod_lt _ (by omega)
    have e : ((k + 1 : Nat) : Int) = (k : Int) + 1 := by omega
    have next := ih (k + 1) N' ((c + (dg 32 N (i + k) + dg 32 D k)) / 4294967296) (by omega) (setd_lt (by omega) hN (by omega) hw s1) (by omega) (by
      rw [hD1, show i + (k + 1) = i + k + 1 from by omega]
      rw [B32, Nat.add_mul, Nat.add_mul] at s2
      have hp : dg 32 D k * 2 ^ (32 * k) * 2 ^ (32 * i) = dg 32 D k * 2 ^ (32 * (i + k)) := by rw [Nat.mul_assoc, ← Nat.pow_add, show 32 * k + 32 * i = 32 * (i + k) from by omega]
      rw [Nat.add_mul, hp]
      omega)
    rw [e] at next
    have hG : upd (G 32 N) (i + k) (((c + (dg 32 N (i + k) + dg 32 D k)) % 4294967296 : Nat) : Int) = G 32 N' := G_upd s1 hw
    have e0 : Int.toNat ((i : Int) + k) = i + k := by omega
    have e1 : ((c : Int) + ((dg 32 N (i + k) : Int) + (dg 32 D k : Int))) / 4294967296 = (((c + (dg 32 N (i + k) + dg 32 D k)) / 4294967296 : Nat) : Int) := by omega
    have e2 : ((c : Int) + ((dg 32 N (i + k) : Int) + (dg 32 D k : Int))) % 4294967296 = (((c + (dg 32 N (i + k) + dg 32 D k)) % 4294967296 : Nat) : Int) := by omega
    unfold nat_parts.l45 nat_parts.l45.step
    simp (disch := omega) only [lt_t, le_t, gd_true, br_true, Bool.and_self, Int.toNat_natCast, add_i64, cv_u64, add_u64, G_app, e0, shr_u64_32, cv_u32', e1, e2]
    rw [hG]; exact next
end Go.Ev.S

/- Natural numbers as rows of words: the loop of the long division. -/
set_option linter.unusedVariables false
set_option linter.unusedSimpArgs false
set_option maxRecDepth 8000
namespace Go.Ev.S
open Go Go.Ev

theorem fix_arith {PT E R T q qs Nl : Nat} {z : Int} (hE : E < PT) (hNl : Nl < PT) (h1 : qs * E ≤ R) (h2 : R < qs * E + E) (hT : T = q * E) (h : (Nl : Int) + z * (PT : Int) = R - (T : Int)) (hq1 : qs ≤ q) (hq2 : q ≤ qs + 1) :
    (q = qs ∧ z = 0 ∧ Nl = R - qs * E) ∨ (q = qs + 1 ∧ z = -1 ∧ Nl + E = PT + (R - qs * E)) := by
  have zp : z ≥ 1 → (PT : Int) ≤ z * PT := fun hz => by
    have := Int.mul_le_mul_of_nonneg_right hz (show (0 : Int) ≤ PT by omega)
    omega
  have zn : z ≤ -1 → z * PT ≤ -(PT : Int) := fun hz => by
    have := Int.mul_le_mul_of_nonneg_right hz (show (0 : Int) ≤ PT by omega)
    omega
  have zn2 : z ≤ -2 → z * PT ≤ -(PT : Int) - PT := fun hz => by
    have := Int.mul_le_mul_of_nonneg_right hz (show (0 : Int) ≤ PT by omega)
    omega
  rcases (by omega : q = qs ∨ q = qs + 1) with e | e
  · left
    rw [e] at hT
    have hz : z = 0 := by
      rcases (by omega : z ≥ 1 ∨ z ≤ -1 ∨ z = 0) with hz | hz | hz
      · have := zp hz; omega
      · have := zn hz; omega
      · exact hz
    subst hz
    refine ⟨e, rfl, ?_⟩
    rw [Int.zero_mul] at h
    omega
  · right
    rw [e, Nat.add_mul, Nat.one_mul] at hT
    have hz : z = -1 := by
      rcases (by omega : z ≥ 1 ∨ z ≤ -2 ∨ z = 0 ∨ z = -1) with hz | hz | hz | hz
      · have := zp hz; omega
      · have := zn2 hz; omega
      · subst hz; rw [Int.zero_mul] at h; omega
      · exact hz
    subst hz
    refine ⟨e, rfl, ?_⟩
    omega

/-- What the guess needs to know of the two numbers. -/
theorem guess_shape (D R md i : Nat) (hmd : 2 ≤ md) (hD : D < 2 ^ (32 * md)) (hv : dg 32 D (md - 1) ≠ 0) (hR : R < D * 2 ^ (32 * (i + 1))) :
    ∃ dl ul P, 0 < P ∧ dl < P ∧ ul < P ∧ D = (dg 32 D (md - 1) * 4294967296 + dg 32 D (md - 2)) * P + dl ∧
      R / 2 ^ (32 * i) = ((dg 32 R (i + md) * 4294967296 + dg 32 R (i + md - 1)) * 4294967296 + dg 32 R (i + md - 2)) * P + ul ∧
      R / 2 ^ (32 * i) < D * 4294967296 ∧ dg 32 R (i + md) ≤ dg 32 D (md - 1) ∧ R / 2 ^ (32 * i) / D ≤ (dg 32 R (i + md) * 4294967296 + dg 32 R (i + md - 1)) / dg 32 D (md - 1) := by
  obtain ⟨m, rfl⟩ : ∃ m, md = m + 2 := ⟨md - 2, by omega⟩
  have hU : R / 2 ^ (32 * i) < D * 4294967296 := by
    rw [Nat.div_lt_iff_lt_mul (Nat.two_pow_pos _), Nat.mul_assoc, Nat.mul_comm 4294967296, ← B32, ← pow_k]
    exact hR
  have hd := fun j => dg_div 32 R i j
  generalize R / 2 ^ (32 * i) = U at *
  have hUB : U < 2 ^ (32 * (m + 3)) := by
    rw [pow_k, B32]
    exact Nat.lt_trans hU (Nat.mul_lt_mul_of_pos_right hD (by omega))
  have a1 := div_dg 32 D m
  have a2 := div_dg 32 D (m + 1)
  have b1 := div_dg 32 U m
  have b2 := div_dg 32 U (m + 1)
  have b3 := div_dg 32 U (m + 2)
  rw [Nat.div_eq_of_lt hD] at a2
  rw [Nat.div_eq_of_lt hUB] at b3
  rw [B32] at a1 a2 b1 b2 b3
  rw [hd] at b1 b2 b3
  rw [show m + 1 + 1 = m + 2 from rfl] at b2
  have hP := Nat.two_pow_pos (32 * m)
  have c1 := Nat.div_add_mod D (2 ^ (32 * m))
  have c2 := Nat.div_add_mod U (2 ^ (32 * m))
  have c3 := Nat.mod_lt D hP
  have c4 := Nat.mod_lt U hP
  have c5 := Nat.mod_lt D (Nat.two_pow_pos (32 * (m + 1)))
  have c6 := Nat.div_add_mod D (2 ^ (32 * (m + 1)))
  have d1 : D / 2 ^ (32 * m) = dg 32 D (m + 1) * 4294967296 + dg 32 D m := by omega
  have d2 : U / 2 ^ (32 * m) = (dg 32 R (i + (m + 2)) * 4294967296 + dg 32 R (i + (m + 1))) * 4294967296 + dg 32 R (i + m) := by omega
  have d3 : D / 2 ^ (32 * (m + 1)) = dg 32 D (m + 1) := by omega
  have d4 : U / 2 ^ (32 * (m + 1)) = dg 32 R (i + (m + 2)) * 4294967296 + dg 32 R (i + (m + 1)) := by omega
  have d5 : U / 2 ^ (32 * (m + 2)) = dg 32 R (i + (m + 2)) := by omega
  simp only [show m + 2 - 1 = m + 1 from rfl, show m + 2 - 2 = m from rfl, show i + (m + 2) - 1 = i + (m + 1) from rfl, show i + (m + 2) - 2 = i + m from rfl] at hv ⊢
  refine ⟨D % 2 ^ (32 * m), U % 2 ^ (32 * m), 2 ^ (32 * m), hP, c3, c4, ?_, ?_, hU, ?_, ?_⟩
  · rw [← d1, Nat.mul_comm]; exact c1.symm
  · rw [← d2, Nat.mul_comm]; exact c2.symm
  · rw [← d5]
    have : U < (dg 32 D (m + 1) + 1) * 2 ^ (32 * (m + 2)) := by
      rw [show m + 2 = m + 1 + 1 from rfl, pow_k 32 (m + 1), B32, ← Nat.mul_assoc]
      refine Nat.lt_of_lt_of_le hU (Nat.mul_le_mul_right _ ?_)
      rw [Nat.add_mul, ← d3, Nat.mul_comm (D / _)]
      omega
    have := (Nat.div_lt_iff_lt_mul (Nat.two_pow_pos (32 * (m + 2)))).2 this
    omega
  · rw [← d4, Nat.div_div_eq_div_mul]
    refine Nat.div_le_div_left ?_ (Nat.mul_pos (Nat.two_pow_pos _) (by omega))
    rw [← d3]; exact Nat.mul_div_le D _

/-- The number behind a word set at the top. -/
theorem top_word {N t w z : Nat} (hN : N < 2 ^ (32 * (t + 1))) (hw : w < 2 ^ 32) : upd (G 32 N) t (w : Int) = G 32 (N % 2 ^ (32 * t) + w * 2 ^ (32 * t)) := by
  rw [G_setd 32 N w t hw, Nat.div_eq_of_lt hN, Nat.zero_mul, Nat.add_zero]

/-- One round. -/
theorem nat_parts_round (n0 : Nat) (s : Int) (L md i : Nat) (hmd : 2 ≤ md) (hmd2 : md ≤ 1000000) (hi : i ≤ 1000000) (hL : i + md < L) (hL2 : L ≤ 2000000) (hin : i < n0) (hn : n0 ≤ 1000000) (c1 c2 c3 : Nat) (D Q R : Nat)
    (hD : D < 2 ^ (32 * md)) (hv : dg 32 D (md - 1) ≠ 0) (hR : R < D * 2 ^ (32 * (i + 1))) (hQ : Q % 2 ^ (32 * (i + 1)) = 0)
    (again : Nat → Int → Nat → Nat → Int → Int → Nat → (Nat → Int) → Nat → (Nat → Int) → Nat → (Nat → Int) → Prop) (k0 : Nat → Int → Nat → Nat → (Nat → Int) → Nat → (Nat → Int) → Prop)
    (h : ∀ q R', q < 4294967296 → R' + q * (D * 2 ^ (32 * i)) = R → R' < D * 2 ^ (32 * i) → again n0 s md L md ((i : Int) - 1) c1 (G 32 (Q + q * 2 ^ (32 * i))) c2 (G 32 D) c3 (G 32 R')) :
    nat_parts.l20.step again k0 n0 s md L md i c1 (G 32 Q) c2 (G 32 D) c3 (G 32 R) := by
  obtain ⟨dl, ul, P, hP, hdl, hul, hDe, hUe, hUB, hu1, hq0⟩ := guess_shape D R md i hmd hD hv hR
  have hv1 := dg_lt 32 D (md - 1)
  have hv2 := dg_lt 32 D (md - 2)
  have hr0 := dg_lt 32 R (i + md)
  have hr1 := dg_lt 32 R (i + md - 1)
  rw [B32] at hv1 hv2 hr0 hr1
  have hD0 : 0 < D := by
    rcases Nat.eq_zero_or_pos D with e | e
    · rw [e] at hR; omega
    · exact e
  have hx2 : dg 32 R (i + md) * 4294967296 + dg 32 R (i + md - 1) < 18446744073709551616 := by omega
  have hqs : R / 2 ^ (32 * i) / D < 4294967296 := (Nat.div_lt_iff_lt_mul hD0).2 (by rw [Nat.mul_comm 4294967296]; exact hUB)
  have hPi := Nat.two_pow_pos (32 * i)
  have hE : D * 2 ^ (32 * i) < 2 ^ (32 * (i + md)) := by
    rw [show 32 * (i + md) = 32 * md + 32 * i from by omega, Nat.pow_add]
    exact Nat.mul_lt_mul_of_pos_right hD hPi
  have hRlt : R < 2 ^ (32 * (i + md + 1)) := by
    refine Nat.lt_trans hR ?_
    rw [show 32 * (i + md + 1) = 32 * md + 32 * (i + 1) from by omega, Nat.pow_add]
    exact Nat.mul_lt_mul_of_pos_right hD (Nat.two_pow_pos _)
  have hq1 : R / 2 ^ (32 * i) / D * (D * 2 ^ (32 * i)) ≤ R := by
    rw [Nat.div_div_eq_div_mul, Nat.mul_comm (2 ^ (32 * i)) D]; exact Nat.div_mul_le_self _ _
  have hq2 : R < R / 2 ^ (32 * i) / D * (D * 2 ^ (32 * i)) + D * 2 ^ (32 * i) := by
    rw [Nat.div_div_eq_div_mul, Nat.mul_comm (2 ^ (32 * i)) D]
    have a := Nat.div_add_mod R (D * 2 ^ (32 * i))
    have b := Nat.mod_lt R (Nat.mul_pos hD0 hPi)
    rw [Nat.mul_comm] at a
    omega
  generalize R / 2 ^ (32 * i) = U at *
  have fin := h (U / D) (R - U / D * (D * 2 ^ (32 * i))) hqs (by omega) (by omega)
  generalize hqse : U / D = qs at *
  have i0 : subI IntKind.i64 (md : Int) 1 = (md : Int) - 1 := by rw [sub_i64 (by omega) (by omega)]
  have i1 : addI IntKind.i64 (i : Int) (md : Int) = (i : Int) + md := by rw [add_i64 (by omega) (by omega)]
  have i2 : subI IntKind.i64 ((i : Int) + md) 1 = (i : Int) + md - 1 := by rw [sub_i64 (by omega) (by omega)]
  have i3 : Int.toNat ((md : Int) - 1) = md - 1 := by omega
  have i4 : Int.toNat ((i : Int) + md - 1) = i + md - 1 := by omega
  have i5 : Int.toNat ((i : Int) + md) = i + md := by omega
  have i6 : subI IntKind.i64 (i : Int) 1 = (i : Int) - 1 := by rw [sub_i64 (by omega) (by omega)]
  have w0 : (leI 0 ((i : Int) + md) && ltI ((i : Int) + md) (L : Int)) = true := by rw [le_t (by omega), lt_t (by omega)]; rfl
  have w1 : (leI 0 ((i : Int) + md - 1) && ltI ((i : Int) + md - 1) (L : Int)) = true := by rw [le_t (by omega), lt_t (by omega)]; rfl
  have w2 : (leI 0 ((md : Int) - 1) && ltI ((md : Int) - 1) (md : Int)) = true := by rw [le_t (by omega), lt_t (by omega)]; rfl
  have w3 : (leI 0 (i : Int) && ltI (i : Int) (n0 : Int)) = true := by rw [le_t (by omega), lt_t (by omega)]; rfl
  have w4 : (!eqI ((dg 32 D (md - 1) : Nat) : Int) 0) = true := by rw [eq_f (by omega)]; rfl
  have c0 : ∀ j, cvI IntKind.u64 ((dg 32 D j : Nat) : Int) = (dg 32 D j : Nat) := fun j => by
    have := dg_lt 32 D j; rw [B32] at this; rw [cv_u64 (by omega) (by omega)]
  have c4 : ∀ j, cvI IntKind.u64 ((dg 32 R j : Nat) : Int) = (dg 32 R j : Nat) := fun j => by
    have := dg_lt 32 R j; rw [B32] at this; rw [cv_u64 (by omega) (by omega)]
  -- the quotient's word
  have setQ : ∀ q : Nat, q = qs → upd (G 32 Q) i (cvI IntKind.u32 (q : Int)) = G 32 (Q + qs * 2 ^ (32 * i)) := by
    intro q e
    have hz : dg 32 Q i = 0 := by
      have := mod_dg 32 Q i
      rw [hQ] at this
      have h0 : dg 32 Q i * 2 ^ (32 * i) = 0 := by omega
      rcases Nat.mul_eq_zero.1 h0 with h0 | h0
      · exact h0
      · omega
    rw [e, cv_u32', show ((qs : Nat) : Int) % 4294967296 = ((qs : Nat) : Int) from by omega]
    exact G_upd (by rw [hz]; omega) (by rw [B32]; exact hqs)
  unfold nat_parts.l20.step
  rw [br_t (le_t (by omega)), i1, i2, i0, i3, i4, i5, gd_t w0, gd_t w1, gd_t w2]
  simp only [G_app]
  rw [c0, c4, c4, gd_t w4, gd_t w2, gd_t w4, word_pair _ _ hr0 hr1, quo_u64 _ _ hx2, rem_i (by omega), ← Int.natCast_emod]
  refine ⟨_, nat_parts_guess 0 s L md i hi hmd hmd2 hL n0 D R c1 c2 c3 (G 32 Q) U (dg 32 D (md - 1)) (dg 32 D (md - 2)) dl _ (dg 32 R (i + md - 2)) ul P hP hDe hdl hUe hul hD0 hUB (by omega) ?_ hx2 rfl rfl rfl _ ?_ _ _ ?_ ?_ ?_⟩
  · omega
  · -- behind the guess
    intro q hge hle hqB
    rw [hqse] at hge hle
    refine ⟨md + 1, ?_⟩
    refine nat_parts_take n0 s L md i q hi hmd2 hL hqB c1 c2 c3 (G 32 Q) D R hD hRlt _ ?_ md 0 R 0 0 (by omega) hRlt (by omega) (by omega) (by omega) (by simp [Nat.mod_one])
    intro N c b hN hc hb1 hb2 hE2
    have hdN := dg_lt 32 N (i + md)
    rw [B32] at hdN
    have hNs := mod_dg 32 N (i + md)
    rw [Nat.mod_eq_of_lt hN] at hNs
    have hNl := Nat.mod_lt N (Nat.two_pow_pos (32 * (i + md)))
    have e1 : ((dg 32 N (i + md) : Nat) : Int) - (c : Int) = (dg 32 N (i + md) : Int) - c := rfl
    have cz : addI IntKind.i64 b (subI IntKind.i64 (cvI IntKind.i64 ((dg 32 N (i + md) : Nat) : Int)) (cvI IntKind.i64 (c : Int))) = b + ((dg 32 N (i + md) : Int) - c) := by
      rw [cv_i64 (by omega) (by omega), cv_i64 (by omega) (by omega), sub_i64 (by omega) (by omega), add_i64 (by omega) (by omega)]
    have hf := fix_arith (z := b + ((dg 32 N (i + md) : Int) - c)) (T := q * D * 2 ^ (32 * i)) (q := q) hE hNl hq1 hq2 (by rw [Nat.mul_assoc]) (by
      rw [← hE2]
      have e2 : (N : Int) = ((N % 2 ^ (32 * (i + md)) : Nat) : Int) + (dg 32 N (i + md) : Int) * ((2 ^ (32 * (i + md)) : Nat) : Int) := by
        have : ((N : Nat) : Int) = ((N % 2 ^ (32 * (i + md)) + dg 32 N (i + md) * 2 ^ (32 * (i + md)) : Nat) : Int) := by rw [← hNs]
        rw [this]; simp
      rw [e2]
      generalize ((2 ^ (32 * (i + md)) : Nat) : Int) = PT
      rw [show b + ((dg 32 N (i + md) : Int) - c) = dg 32 N (i + md) + (b - c) from by omega, Int.add_mul]
      omega) hge hle
    show gd _ _
    rw [i1, i5, gd_t w0, gd_t w0]
    simp only [G_app]
    rw [cz]
    rcases hf with ⟨hq, hz, hNe⟩ | ⟨hq, hz, hNe⟩
    · rw [hz, br_f (by rfl), gd_t w3, i6, Int.toNat_natCast, setQ q hq]
      have : upd (G 32 N) (i + md) (cvI IntKind.u32 0) = G 32 (R - qs * (D * 2 ^ (32 * i))) := by
        have := top_word (w := 0) (z := 0) hN (by omega)
        rw [Nat.zero_mul, Nat.add_zero, hNe] at this
        exact this
      rw [this]; exact fin
    · rw [hz, br_t (by rfl)]
      have hup : upd (G 32 N) (i + md) (cvI IntKind.u32 (-1)) = G 32 (N % 2 ^ (32 * (i + md)) + 4294967295 * 2 ^ (32 * (i + md))) :=
        top_word (w := 4294967295) (z := 0) hN (by omega)
      have hNlt := put_lt 32 (N % 2 ^ (32 * (i + md))) 4294967295 (i + md) hNl (by omega)
      have hs1 : subI IntKind.u64 (q : Int) 1 = ((qs : Nat) : Int) := by rw [sub_u64 (by omega) (by omega)]; omega
      rw [hup, hs1]
      refine ⟨md + 1, ?_⟩
      refine nat_parts_give n0 s L md i (qs : Int) hi hmd2 hL c1 c2 c3 (G 32 Q) D (N % 2 ^ (32 * (i + md)) + 4294967295 * 2 ^ (32 * (i + md))) hD _ ?_ md 0 _ 0 (by omega) hNlt (by omega) (by simp [Nat.mod_one])
      intro N2 c5 hN2 hc5 hE3
      have hd2 := dg_lt 32 N2 (i + md)
      rw [B32] at hd2
      have hNs2 := mod_dg 32 N2 (i + md)
      rw [Nat.mod_eq_of_lt hN2] at hNs2
      have hNl2 := Nat.mod_lt N2 (Nat.two_pow_pos (32 * (i + md)))
      have cc : cvI IntKind.u32 (c5 : Int) = c5 := by rw [cv_u32']; omega
      -- the sum of the two highest words is the base
      have hsum : dg 32 N2 (i + md) + c5 = 4294967296 ∧ N2 % 2 ^ (32 * (i + md)) = R - qs * (D * 2 ^ (32 * i)) := by
        have hl : N2 % 2 ^ (32 * (i + md)) + (dg 32 N2 (i + md) + c5) * 2 ^ (32 * (i + md)) = (R - qs * (D * 2 ^ (32 * i))) + 4294967296 * 2 ^ (32 * (i + md)) := by
          rw [Nat.add_mul]; omega
        have hlt : R - qs * (D * 2 ^ (32 * i)) < 2 ^ (32 * (i + md)) := by omega
        generalize 2 ^ (32 * (i + md)) = PT at *
        generalize dg 32 N2 (i + md) + c5 = t at *
        generalize R - qs * (D * 2 ^ (32 * i)) = v at *
        generalize N2 % PT = u at *
        have hPT : 0 < PT := by omega
        have a1 : (u + t * PT) / PT = t := by rw [Nat.add_mul_div_right _ _ hPT, Nat.div_eq_of_lt hNl2, Nat.zero_add]
        have a2 : (v + 4294967296 * PT) / PT = 4294967296 := by rw [Nat.add_mul_div_right _ _ hPT, Nat.div_eq_of_lt hlt, Nat.zero_add]
        rw [hl, a2] at a1
        subst a1
        exact ⟨rfl, by omega⟩
      show gd _ _
      rw [i1, i5, gd_t w0, gd_t w0, gd_t w3, i6, Int.toNat_natCast, setQ qs rfl]
      simp only [G_app]
      have ha : addI IntKind.u32 ((dg 32 N2 (i + md) : Nat) : Int) (cvI IntKind.u32 (c5 : Int)) = ((0 : Nat) : Int) := by
        rw [cc, show addI IntKind.u32 ((dg 32 N2 (i + md) : Nat) : Int) (c5 : Int) = IntKind.wrap .u32 (((dg 32 N2 (i + md) : Nat) : Int) + c5) from rfl, wrap_u32]
        omega
      rw [ha, top_word (w := 0) (z := 0) hN2 (by omega), Nat.zero_mul, Nat.add_zero, hsum.2]
      exact fin
  · rw [Nat.mul_comm]; exact Nat.div_add_mod _ _
  · exact Nat.lt_trans (Nat.mod_lt _ (by omega)) hv1
  · rw [hqse]; exact hq0

theorem mod_down {Q n m : Nat} (h : Q % 2 ^ m = 0) (hn : n ≤ m) : Q % 2 ^ n = 0 := by
  have : 2 ^ n ∣ 2 ^ m := Nat.pow_dvd_pow 2 hn
  exact Nat.mod_eq_zero_of_dvd (Nat.dvd_trans this (Nat.dvd_of_mod_eq_zero h))
/-- All rounds. -/
theorem nat_parts_loop (n0 : Nat) (s : Int) (L md : Nat) (hmd : 2 ≤ md) (hmd2 : md ≤ 1000000) (hL2 : L ≤ 2000000) (hn : n0 ≤ 1000000) (c1 c2 c3 : Nat) (D N0 : Nat)
    (hD : D < 2 ^ (32 * md)) (hv : dg 32 D (md - 1) ≠ 0)
    (k0 : Nat → Int → Nat → Nat → (Nat → Int) → Nat → (Nat → Int) → Prop)
    (h : ∀ Q R, Q * D + R = N0 → R < D → Q < 2 ^ (32 * n0) → k0 n0 s L c1 (G 32 Q) c3 (G 32 R)) :
    ∀ (t Q R : Nat), t + md ≤ L → t ≤ n0 → R < D * 2 ^ (32 * t) → Q % 2 ^ (32 * t) = 0 → Q < 2 ^ (32 * n0) → Q * D + R = N0 → nat_parts.l20 k0 (t + 1) n0 s md L md ((t : Int) - 1) c1 (G 32 Q) c2 (G 32 D) c3 (G 32 R) := by
  intro t
  induction t with
  | zero =>
    intro Q R hL ht hR hQ hQ2 hN
    unfold nat_parts.l20 nat_parts.l20.step
    rw [br_f (le_f (by omega))]
    refine h Q R hN ?_ hQ2
    rw [Nat.mul_zero, Nat.pow_zero, Nat.mul_one] at hR; exact hR
  | succ t ih =>
    intro Q R hL ht hR hQ hQ2 hN
    unfold nat_parts.l20
    rw [show ((t + 1 : Nat) : Int) - 1 = (t : Int) from by omega]
    refine nat_parts_round n0 s L md t hmd hmd2 (by omega) (by omega) hL2 (by omega) hn c1 c2 c3 D Q R hD hv hR hQ _ _ fun q R' hq he hR' => ?_
    have hz : dg 32 Q t = 0 := by
      have h1 := mod_dg 32 Q t
      rw [hQ] at h1
      have h0 : dg 32 Q t * 2 ^ (32 * t) = 0 := by omega
      have hp := Nat.two_pow_pos (32 * t)
      rcases Nat.mul_eq_zero.1 h0 with h0 | h0
      · exact h0
      · omega
    refine ih _ R' (by omega) (by omega) hR' ?_ (setd_lt (w := q) (j := t) (by omega) hQ2 (by omega) (by rw [B32]; exact hq) (by rw [hz]; omega)) ?_
    · rw [Nat.add_mul_mod_self_right]; exact mod_down hQ (by omega)
    · rw [Nat.add_mul, Nat.mul_assoc, Nat.mul_comm (2 ^ (32 * t)) D]; omega

/-- The divisor of one word. -/
theorem nat_parts_one (x y n : Nat) (hn : n ≤ 1000000) (hy : y ≠ 0) (hyB : y < 4294967296) (k0 : Nat → Int → Nat → (Nat → Int) → Prop) (c : Nat) (h : k0 n ((x % y : Nat) : Int) c (G 32 (x / y))) :
    ∀ t, t ≤ n → nat_parts.l7 k0 (t + 1) n (G 32 x) 1 (G 32 y) n ((x / 2 ^ (32 * t) % y : Nat) : Int) ((t : Int) - 1) c (G 32 (x / 2 ^ (32 * t) / y * 2 ^ (32 * t))) := by
  intro t
  induction t with
  | zero =>
    intro ht
    unfold nat_parts.l7 nat_parts.l7.step
    rw [br_f (le_f (by omega)), Nat.mul_zero, Nat.pow_zero, Nat.div_one, Nat.mul_one]
    exact h
  | succ t ih =>
    intro ht
    have ih := ih (by omega)
    have hX := div_dg 32 x t
    rw [B32] at hX
    have hd := dg_lt 32 x t
    rw [B32] at hd
    have hp := Nat.two_pow_pos (32 * t)
    generalize hX1 : x / 2 ^ (32 * (t + 1)) = X1 at *
    rw [hX] at ih
    have hr := Nat.mod_lt X1 (show 0 < y by omega)
    have hdm := Nat.div_add_mod X1 y
    generalize hre : X1 % y = r at *
    generalize hqe : X1 / y = Q1 at *
    have hsum : dg 32 x t + X1 * 4294967296 = r * 4294967296 + dg 32 x t + y * (Q1 * 4294967296) := by
      rw [← hdm, Nat.add_mul, Nat.mul_assoc]; omega
    have hmod : (dg 32 x t + X1 * 4294967296) % y = (r * 4294967296 + dg 32 x t) % y := by rw [hsum, Nat.add_mul_mod_self_left]
    have hdiv : (dg 32 x t + X1 * 4294967296) / y = (r * 4294967296 + dg 32 x t) / y + Q1 * 4294967296 := by rw [hsum, Nat.add_mul_div_left _ _ (by omega)]
    rw [hmod, hdiv] at ih
    have hq : (r * 4294967296 + dg 32 x t) / y < 4294967296 := by
      rw [Nat.div_lt_iff_lt_mul (by omega)]
      have : (r + 1) * 4294967296 ≤ y * 4294967296 := Nat.mul_le_mul_right _ hr
      omega
    have hw : r * 4294967296 + dg 32 x t < 18446744073709551616 := by omega
    have hG : upd (G 32 (Q1 * 2 ^ (32 * (t + 1)))) t (((r * 4294967296 + dg 32 x t) / y : Nat) : Int) = G 32 (((r * 4294967296 + dg 32 x t) / y + Q1 * 4294967296) * 2 ^ (32 * t)) := by
      have hz : dg 32 (Q1 * 2 ^ (32 * (t + 1))) t = 0 := by
        unfold dg
        rw [pow_k, B32, Nat.mul_comm (2 ^ _), ← Nat.mul_assoc, Nat.mul_div_cancel _ hp]
        exact Nat.mul_mod_left _ _
      refine G_upd ?_ (by rw [B32]; exact hq)
      rw [hz, pow_k, B32, Nat.add_mul, Nat.mul_comm (2 ^ (32 * t)) 4294967296, ← Nat.mul_assoc]
      omega
    rw [← hG] at ih
    have o := word_pair r (dg 32 x t) (by omega) hd
    have y0 : G 32 y 0 = (y : Int) := by rw [G_app, dg_self 32 y (by rw [B32]; exact hyB)]
    have e1 : ((t + 1 : Nat) : Int) - 1 = (t : Int) := by omega
    have w0 : (leI 0 (t : Int) && ltI (t : Int) (n : Int)) = true := by rw [le_t (by omega), lt_t (by omega)]; rfl
    have w1 : (!eqI (y : Int) 0) = true := by rw [eq_f (by omega)]; rfl
    have cy : cvI IntKind.u64 (y : Int) = y := by rw [cv_u64 (by omega) (by omega)]
    have cx : cvI IntKind.u64 ((dg 32 x t : Nat) : Int) = (dg 32 x t : Nat) := by rw [cv_u64 (by omega) (by omega)]
    have r0 : ∀ a : Nat, remI IntKind.u64 ((a : Nat) : Int) ((y : Nat) : Int) = ((a % y : Nat) : Int) := fun a => by rw [rem_i (by omega), ← Int.natCast_emod]
    unfold nat_parts.l7 nat_parts.l7.step
    rw [e1, br_t (le_t (by omega)), gd_t w0, gd_t (lt_t (by omega)), y0, cy, gd_t w1, gd_t w0, gd_t (lt_t (by omega)), gd_t w1, Int.toNat_natCast, G_app, cx, o, quo_u64 _ _ hw, r0, cv_u32', sub_i64 (by omega) (by omega)]
    have e2 : ∀ q : Nat, q < 4294967296 → ((q : Nat) : Int) % 4294967296 = q := fun q h => by omega
    rw [e2 _ hq]
    exact ih

theorem app_G (n x : Nat) (hx : x < 2 ^ (32 * n)) : app n (G 32 x) (upd (fun _ => 0) 0 0) = G 32 x := by
  funext i
  unfold app
  by_cases h : i < n
  · have : Nat.blt i n = true := by simpa using h
    rw [this]; rfl
  · have : Nat.blt i n = false := by
      apply Bool.eq_false_iff.2; intro hc; simp at hc; omega
    rw [this, G_app, dg_high 32 x n i hx (by omega)]
    show upd (fun _ => 0) 0 0 (i - n) = _
    by_cases h0 : i - n = 0
    · rw [h0, upd_same]; rfl
    · rw [upd_ne _ _ _ _ h0]; rfl
theorem mul_div_pow (x y s : Nat) : x * 2 ^ s / (y * 2 ^ s) = x / y := Nat.mul_div_mul_right _ _ (Nat.two_pow_pos s)
theorem mul_mod_pow (x y s : Nat) : x * 2 ^ s % (y * 2 ^ s) = x % y * 2 ^ s := Nat.mul_mod_mul_right _ _ _
theorem wl_gt (k : Nat) (hk : k ≠ 0) (x n : Nat) : n < wl k x ↔ 2 ^ (k * n) ≤ x := by
  have := wl_le k hk x n
  omega

theorem nat_parts_ok (x y : Nat) (hx : wl 32 x ≤ 100000) (hy0 : y ≠ 0) (hy : wl 32 y ≤ 100000) (K : Nat → (Nat → Int) → Nat → (Nat → Int) → Prop) (h : K (wl 32 (x / y)) (G 32 (x / y)) (wl 32 (x % y)) (G 32 (x % y))) :
    nat_parts (wl 32 x) (G 32 x) (wl 32 y) (G 32 y) K := by
  have h32 : (32 : Nat) ≠ 0 := by omega
  rw [nat_parts.is]; unfold nat_parts.d
  refine nat_cmp_ok x y _ _ (by omega) (by omega) rfl rfl _ ?_
  rw [sgn_neg]
  by_cases hlt : x < y
  · rw [br_t (by simpa using hlt)]
    rw [Nat.div_eq_of_lt hlt, Nat.mod_eq_of_lt hlt, wl_zero, G_zero] at h
    exact h
  · rw [br_f (by simpa using hlt)]
    have hxl := lt_wl 32 h32 x
    have hyl := lt_wl 32 h32 y
    have hyt := wl_top 32 h32 y hy0
    have hxy := wl_mono (k := 32) h32 (show y ≤ x by omega)
    have hyp : wl 32 y ≠ 0 := by rw [wl_pos hy0 h32]; omega
    have hdx : x / y < 2 ^ (32 * wl 32 x) := Nat.lt_of_le_of_lt (Nat.div_le_self x y) hxl
    generalize hne : wl 32 x = n at *
    rw [gd_t (by rw [le_t (by omega), le_t (by omega), le_t (by omega)]; rfl)]
    by_cases h1 : wl 32 y = 1
    · have hyB : y < 4294967296 := by rw [h1] at hyl; exact hyl
      rw [h1, br_t (eq_t (by omega)), Int.toNat_natCast, sub_i64 (by omega) (by omega)]
      refine ⟨n + 1, ?_⟩
      have := nat_parts_one x y n (by omega) hy0 hyB (fun y0 y1 y2 y3 => nat_cut_n y0 y2 y3 fun y0 y1_1 y2 => nat_cut_o 1 1 1 (upd (fun x => 0) 0 (cvI IntKind.u32 y1)) fun y0_1 y1 y2_1 y3 => K y0 y2 y0_1 y3) n ?_ n (Nat.le_refl _)
      · rw [Nat.div_eq_of_lt hxl, Nat.zero_mod, Nat.zero_div, Nat.zero_mul, G_zero] at this
        exact this
      · refine nat_cut_n_ok n n _ (by omega) hdx _ ?_
        have hm := Nat.mod_lt x (show 0 < y by omega)
        have := G_put 32 0 (x % y) 0 (by simp) (by rw [B32]; omega)
        rw [Nat.mul_zero, Nat.pow_zero, Nat.mul_one, Nat.zero_add, G_zero] at this
        rw [cv_u32', show ((x % y : Nat) : Int) % 4294967296 = ((x % y : Nat) : Int) from by generalize x % y = r at *; omega, this]
        exact nat_cut_o_ok 1 1 1 _ (by omega) (by omega) (by rw [show 32 * 1 = 32 from rfl, B32]; omega) _ fun c => h
    · rw [br_f (eq_f (by omega))]
      have hdt := dg_lt 32 y (wl 32 y - 1)
      rw [B32] at hdt
      have e1 : Int.toNat ((wl 32 y : Int) - 1) = wl 32 y - 1 := by omega
      rw [sub_i64 (by omega) (by omega), e1, gd_t (by rw [le_t (by omega), lt_t (by omega)]; rfl), G_app, cv_u64 (by omega) (by omega)]
      refine word_Len_ok _ (by omega) _ ?_
      have hb : blen (dg 32 y (wl 32 y - 1)) ≤ 32 := (blen_le _ _).2 (by rw [B32]; exact hdt)
      have es : subI IntKind.i64 32 ((blen (dg 32 y (wl 32 y - 1)) : Nat) : Int) = ((32 - blen (dg 32 y (wl 32 y - 1)) : Nat) : Int) := by
        rw [sub_i64 (by omega) (by omega)]; omega
      rw [es]
      generalize hse : 32 - blen (dg 32 y (wl 32 y - 1)) = s
      have hs : s ≤ 32 := by omega
      -- the divisor moved
      have hps := Nat.two_pow_pos s
      have hD0 : y * 2 ^ s ≠ 0 := by
        intro e; rcases Nat.mul_eq_zero.1 e with e | e
        · exact hy0 e
        · omega
      have hX0 : x * 2 ^ s ≠ 0 := by
        intro e; rcases Nat.mul_eq_zero.1 e with e | e
        · omega
        · omega
      have hle : ∀ z : Nat, z ≤ z * 2 ^ s := fun z => Nat.le_mul_of_pos_right z hps
      have wD1 := wl_mono (k := 32) h32 (hle y)
      have wX1 := wl_mono (k := 32) h32 (hle x)
      have wup : ∀ z m : Nat, z < 2 ^ (32 * m) → wl 32 (z * 2 ^ s) ≤ m + 1 := fun z m hz => by
        rw [wl_le 32 h32, pow_k]
        exact Nat.mul_lt_mul_of_lt_of_le hz (Nat.pow_le_pow_right (by omega) hs) (Nat.two_pow_pos _)
      have wD2 := wup y _ hyl
      have wX2 := wup x _ hxl
      have wDX : wl 32 (y * 2 ^ s) ≤ wl 32 (x * 2 ^ s) := wl_mono (k := 32) h32 (Nat.mul_le_mul_right _ (by omega))
      rw [hne] at wX1
      refine nat_up_ok y _ s (by omega) (by omega) hyl _ _ (fun e => absurd e hyp) fun _ c2 m2 => ?_
      refine nat_up_ok x _ s (by omega) (by omega) hxl _ _ (fun e => absurd e (by omega)) fun _ c3 m3 => ?_
      have hDl := lt_wl 32 h32 (y * 2 ^ s)
      have hDt := wl_top 32 h32 _ hD0
      have hXl := lt_wl 32 h32 (x * 2 ^ s)
      rw [app_G _ _ hXl]
      generalize hmd : wl 32 (y * 2 ^ s) = md at *
      generalize hL : wl 32 (x * 2 ^ s) = L at *
      rw [gd_t (leN_t (by omega))]
      refine ⟨1, ?_⟩
      unfold nat_parts.l16 nat_parts.l16.step
      rw [add_i64 (by omega) (by omega), br_f (lt_f (by omega)), Int.toNat_natCast]
      dsimp only
      have ei : subI IntKind.i64 (subI IntKind.i64 ((L + 1 : Nat) : Int) (md : Int)) 1 = ((L + 1 - md : Nat) : Int) - 1 := by
        simp (disch := omega) only [sub_i64]
        omega
      rw [ei]
      refine ⟨L + 1 - md + 1, ?_⟩
      rw [← G_zero 32]
      refine nat_parts_loop n s (L + 1) md (by omega) (by omega) (by omega) (by omega) n m2 (L + 1) (y * 2 ^ s) (x * 2 ^ s) hDl hDt _ (fun Q R he hR hQ => ?_) (L + 1 - md) 0 (x * 2 ^ s) (by omega) (by omega) ?_ (by simp) (Nat.two_pow_pos _) (by omega)
      · have hq : Q = x / y := by
          rw [← mul_div_pow x y s, ← he, Nat.mul_comm Q, Nat.mul_add_div (by omega), Nat.div_eq_of_lt hR, Nat.add_zero]
        have hr : R = x % y * 2 ^ s := by
          rw [← mul_mod_pow x y s, ← he, Nat.mul_comm Q, Nat.mul_add_mod, Nat.mod_eq_of_lt hR]
        refine nat_cut_n_ok n n Q (by omega) hQ _ ?_
        have hRX : R < 2 ^ (32 * (L + 1)) := by
          have h1 : R ≤ x * 2 ^ s := by rw [← he]; omega
          have h2 : (2 : Nat) ^ (32 * L) ≤ 2 ^ (32 * (L + 1)) := Nat.pow_le_pow_right (by omega) (by omega)
          omega
        refine nat_cut_n_ok (L + 1) (L + 1) R (by omega) hRX _ ?_
        refine nat_down_ok R _ s ?_ (by omega) (lt_wl 32 h32 R) _ ?_
        · have := (wl_le 32 h32 R (L + 1)).2 hRX
          omega
        · have : R / 2 ^ s = x % y := by rw [hr, Nat.mul_div_cancel _ hps]
          rw [this, hq]; exact h
      · have h1 : 2 ^ (32 * (md - 1)) ≤ y * 2 ^ s := (wl_gt 32 h32 _ _).1 (by omega)
        have h2 : 2 ^ (32 * (md - 1)) * 2 ^ (32 * (L + 1 - md)) ≤ y * 2 ^ s * 2 ^ (32 * (L + 1 - md)) := Nat.mul_le_mul_right _ h1
        rw [← Nat.pow_add, show 32 * (md - 1) + 32 * (L + 1 - md) = 32 * L from by omega] at h2
        omega
end Go.Ev.S

/- Natural numbers: quotients, greatest common divisors, roots. -/
set_option linter.unusedVariables false
set_option linter.unusedSimpArgs false
set_option maxRecDepth 8000
namespace Go.Ev.S
open Go Go.Ev

theorem lead_val {a : List UInt8} (h : lead a = true) : val a = 0 ↔ a = [] := by
  constructor
  · intro e; rw [← nb_val h, e, nb_zero]
  · intro e; subst e; rfl
theorem wl_len (x n : Nat) (h : wl 32 x ≤ n) : (nb x).length ≤ 4 * n := by
  rw [nb_len_le, p256]
  have := (wl_le 32 (by omega) x n).1 h
  rw [show 8 * (4 * n) = 32 * n from by omega]; exact this

theorem nat_Div_ok (a b : List UInt8) (K : List UInt8 → List UInt8 → Int → Prop) (h1 : ¬ (May a ∧ May b) → K [] [] 2) (h0 : b = [] → K [] [] 2) (h2 : May a → May b → val b ≠ 0 → K (nb (val a / val b)) (nb (val a % val b)) 0) : nat_Div a b K := by
  rw [nat_Div.is]; unfold nat_Div.d
  rw [nat_right_ok]
  by_cases h : May a ∧ May b
  · rw [br_f (by simp [h]), eqS_nil]
    by_cases hb : b = []
    · rw [br_t (by simpa using hb)]; exact h0 hb
    · rw [br_f (by simpa using hb)]
      have hv : val b ≠ 0 := fun e => hb ((lead_val h.2.2).1 e)
      refine h.1.words _ (h.2.words _ ?_)
      have w1 := h.1.wl; have w2 := h.2.wl
      have w3 := wl_mono (k := 32) (by omega) (Nat.div_le_self (val a) (val b))
      have w4 := wl_mono (k := 32) (by omega) (Nat.mod_le (val a) (val b))
      refine nat_parts_ok _ _ (by omega) hv (by omega) _ ?_
      refine nat_number_ok _ _ (by omega) (lt_wl32 _) _ ?_
      exact nat_number_ok _ _ (by omega) (lt_wl32 _) _ (h2 h.1 h.2 hv)
  · rw [br_t (by simp [h])]; exact h1 h

theorem nat_Gcd_loop (k0 : Nat → (Nat → Int) → Prop) : ∀ (y x : Nat), wl 32 x ≤ 100000 → wl 32 y ≤ 100000 → k0 (wl 32 (Nat.gcd x y)) (G 32 (Nat.gcd x y)) → ∃ f, nat_Gcd.l4 k0 f (wl 32 x) (G 32 x) (wl 32 y) (G 32 y) := by
  intro y
  induction y using Nat.strongRecOn with
  | _ y ih =>
    intro x hx hy hk
    by_cases h0 : y = 0
    · subst h0
      refine ⟨1, ?_⟩
      unfold nat_Gcd.l4 nat_Gcd.l4.step
      rw [wl_zero, br_f (lt_f (by omega))]
      rw [Nat.gcd_zero_right] at hk; exact hk
    · have hm := Nat.mod_lt x (show 0 < y by omega)
      have w := wl_mono (k := 32) (by omega) (Nat.le_of_lt hm)
      have hg : Nat.gcd y (x % y) = Nat.gcd x y := by rw [Nat.gcd_comm x y, Nat.gcd_rec y x, Nat.gcd_comm]
      obtain ⟨f, hf⟩ := ih (x % y) hm y hy (by omega) (by rw [hg]; exact hk)
      refine ⟨f + 1, ?_⟩
      unfold nat_Gcd.l4 nat_Gcd.l4.step
      have hp : wl 32 y ≠ 0 := by rw [wl_pos h0 (by omega)]; omega
      rw [br_t (lt_t (by omega))]
      exact nat_parts_ok x y hx h0 hy _ hf
theorem gcd_le_max (x y : Nat) : Nat.gcd x y ≤ x ∨ Nat.gcd x y ≤ y := by
  rcases Nat.eq_zero_or_pos x with e | e
  · right; subst e; rw [Nat.gcd_zero_left]; omega
  · left; exact Nat.gcd_le_left y e
theorem nat_Gcd_ok (a b : List UInt8) (K : List UInt8 → Int → Prop) (h1 : ¬ (May a ∧ May b) → K [] 2) (h2 : May a → May b → K (nb (Nat.gcd (val a) (val b))) 0) : nat_Gcd a b K := by
  rw [nat_Gcd.is]; unfold nat_Gcd.d
  rw [nat_right_ok]
  by_cases h : May a ∧ May b
  · rw [br_f (by simp [h])]
    refine h.1.words _ (h.2.words _ ?_)
    have w1 := h.1.wl; have w2 := h.2.wl
    refine nat_Gcd_loop _ _ _ (by omega) (by omega) ?_
    have w3 : wl 32 (Nat.gcd (val a) (val b)) ≤ 4096 := by
      rcases gcd_le_max (val a) (val b) with e | e
      · have := wl_mono (k := 32) (by omega) e; omega
      · have := wl_mono (k := 32) (by omega) e; omega
    exact nat_number_ok _ _ (by omega) (lt_wl32 _) _ (h2 h.1 h.2)
  · rw [br_t (by simp [h])]; exact h1 h

theorem upR_l5 (k0 : Nat → Nat → Nat → (Nat → Int) → Prop) : ∀ n, nat_upR.l5 k0 n = nat_up.l5 k0 n := by
  intro n
  induction n with
  | zero => rfl
  | succ n ih =>
    unfold nat_upR.l5 nat_up.l5
    rw [ih]; rfl
theorem upR_eq (n : Nat) (f : Nat → Int) (s : Int) (K : Nat → (Nat → Int) → Prop) : nat_upR n f s K = nat_up n f s (K 0 fun _ => 0) (fun y0 _ _ y3 => K y0 y3) := by
  rw [nat_upR.is, nat_up.is]; unfold nat_upR.d nat_up.d
  simp only [upR_l5]

/-- The whole root of a number. -/
def IsRoot (x r : Nat) : Prop := r * r ≤ x ∧ x < (r + 1) * (r + 1)
theorem root_uniq {x r s : Nat} (h : IsRoot x r) (g : IsRoot x s) : r = s := by
  have key : ∀ {r s : Nat}, IsRoot x r → IsRoot x s → r ≤ s := by
    intro r s h g
    apply Classical.byContradiction
    intro hc
    have : (s + 1) * (s + 1) ≤ r * r := Nat.mul_le_mul (by omega) (by omega)
    have h1 := h.1; have h2 := g.2
    omega
  have h1 := key h g; have h2 := key g h
  omega
/-- A step of Newton's from above stays above. -/
theorem newton {x r : Nat} (hr : 0 < r) : x < ((r + x / r) / 2 + 1) * ((r + x / r) / 2 + 1) := by
  have h1 : x < r * (x / r + 1) := by
    have := Nat.div_add_mod x r
    have := Nat.mod_lt x hr
    rw [Nat.mul_add]; omega
  generalize x / r = q at *
  have h2 : r + (q + 1) ≤ 2 * ((r + q) / 2 + 1) := by omega
  have h3 : (r + (q + 1)) * (r + (q + 1)) ≤ 2 * ((r + q) / 2 + 1) * (2 * ((r + q) / 2 + 1)) := Nat.mul_le_mul h2 h2
  generalize (r + q) / 2 + 1 = m at *
  generalize q + 1 = p at *
  have h4 : 4 * (r * p) ≤ (r + p) * (r + p) := by
    rcases Nat.le_total r p with e | e
    · obtain ⟨d, rfl⟩ := Nat.exists_eq_add_of_le e
      have : (r + (r + d)) * (r + (r + d)) = 4 * (r * (r + d)) + d * d := by
        simp only [Nat.add_mul, Nat.mul_add]
        have := Nat.mul_comm d r
        omega
      omega
    · obtain ⟨d, rfl⟩ := Nat.exists_eq_add_of_le e
      have : (p + d + p) * (p + d + p) = 4 * ((p + d) * p) + d * d := by
        simp only [Nat.add_mul, Nat.mul_add]
        have := Nat.mul_comm d p
        omega
      omega
  have h5 : 2 * m * (2 * m) = 4 * (m * m) := by
    rw [Nat.mul_assoc, Nat.mul_left_comm m 2 m, ← Nat.mul_assoc]
  omega
theorem newton_stop {x r : Nat} (hr : 0 < r) (h : r ≤ (r + x / r) / 2) : r * r ≤ x := by
  have h1 : r ≤ x / r := by omega
  exact (Nat.le_div_iff_mul_le hr).1 h1
theorem nat_Sqrt_loop (x : Nat) (hx0 : x ≠ 0) (hx : wl 32 x ≤ 100000) (k0 : Nat → (Nat → Int) → Nat → (Nat → Int) → Prop) (hk : ∀ r, IsRoot x r → k0 (wl 32 x) (G 32 x) (wl 32 r) (G 32 r)) :
    ∀ r, wl 32 r ≤ 100000 → 0 < r → x < (r + 1) * (r + 1) → ∃ f, nat_Sqrt.l7 k0 f (wl 32 x) (G 32 x) (wl 32 r) (G 32 r) := by
  intro r
  induction r using Nat.strongRecOn with
  | _ r ih =>
    intro hw hr hlt
    have w1 := wl_mono (k := 32) (by omega) (Nat.div_le_self x r)
    have w2 : wl 32 (r + x / r) ≤ 100000 + 1 := wl_add hw (by omega)
    have hn := newton (x := x) hr
    have base : ∀ again : Nat → (Nat → Int) → Nat → (Nat → Int) → Prop, (ltI (sgn ((r + x / r) / 2) r) 0 = false → k0 (wl 32 x) (G 32 x) (wl 32 r) (G 32 r)) → ((r + x / r) / 2 < r → again (wl 32 x) (G 32 x) (wl 32 ((r + x / r) / 2)) (G 32 ((r + x / r) / 2))) →
        nat_Sqrt.l7.step again k0 (wl 32 x) (G 32 x) (wl 32 r) (G 32 r) := by
      intro again g1 g2
      unfold nat_Sqrt.l7.step
      refine nat_parts_ok x r hx (by omega) hw _ ?_
      refine nat_sum_ok r (x / r) _ _ (by omega) (by omega) (lt_wl32 _) (lt_wl32 _) _ ?_
      refine nat_down_ok (r + x / r) _ 1 (by omega) (by omega) (lt_wl32 _) _ ?_
      rw [Nat.pow_one]
      have w3 := wl_mono (k := 32) (by omega) (Nat.div_le_self (r + x / r) 2)
      refine nat_cmp_ok _ _ _ _ (by omega) (by omega) rfl rfl _ ?_
      by_cases hc : (r + x / r) / 2 < r
      · rw [br_f (le_f (by unfold sgn; rw [if_pos hc]; omega))]
        exact g2 hc
      · rw [br_t (le_t (by unfold sgn; rw [if_neg hc]; split <;> omega))]
        refine g1 ?_
        rw [sgn_neg]; simpa using hc
    by_cases hc : (r + x / r) / 2 < r
    · have hpos : 0 < (r + x / r) / 2 := by
        apply Classical.byContradiction
        intro h0
        have h1 : (r + x / r) / 2 = 0 := Nat.le_zero.1 (Nat.not_lt.1 h0)
        rw [h1] at hn
        omega
      have w3 := wl_mono (k := 32) (by omega) (Nat.le_of_lt hc)
      obtain ⟨f, hf⟩ := ih _ hc (by omega) hpos hn
      refine ⟨f + 1, ?_⟩
      unfold nat_Sqrt.l7
      refine base _ (fun e => ?_) fun _ => hf
      rw [sgn_neg] at e
      exact absurd hc (by simpa using e)
    · refine ⟨1, ?_⟩
      unfold nat_Sqrt.l7
      exact base _ (fun _ => hk r ⟨newton_stop hr (by omega), hlt⟩) fun e => absurd e hc

theorem nat_Sqrt_ok (a : List UInt8) (K : List UInt8 → List UInt8 → Int → Prop) (h1 : ¬ May a → K [] [] 2) (h2 : May a → ∀ r, IsRoot (val a) r → K (nb r) (nb (val a - r * r)) 0) : nat_Sqrt a K := by
  rw [nat_Sqrt.is]; unfold nat_Sqrt.d
  rw [nat_Check_ok]
  by_cases hm : May a
  · rw [if_pos hm, br_f (by rfl), eqS_nil]
    by_cases hz : a = []
    · rw [br_t (by simpa using hz)]
      have := h2 hm 0 (by subst hz; exact ⟨by decide, by decide⟩)
      subst hz
      rw [val_nil, Nat.zero_mul, Nat.sub_zero, nb_zero] at this
      exact this
    · rw [br_f (by simpa using hz)]
      have hx0 : val a ≠ 0 := fun e => hz ((lead_val hm.2).1 e)
      have w1 := hm.wl
      refine hm.words _ (nat_length_ok _ (by omega) _ ?_)
      have gen : ∀ m, m = 16384 → blen (val a) ≤ 8 * m := fun m hm2 => (blen_le _ _).2 (Nat.lt_of_lt_of_le (val_lt a) (by rw [p256]; exact pow_le_k (by have := hm.1; omega)))
      have hb := gen 16384 rfl
      have hbl := (blen_le (val a) _).1 (Nat.le_refl _)
      have e1 : quoI IntKind.i64 (addI IntKind.i64 ((blen (val a) : Nat) : Int) 1) 2 = (((blen (val a) + 1) / 2 : Nat) : Int) := by
        simp (disch := omega) only [add_i64, quo_i64]
        omega
      have e2 : upd (fun _ => (0 : Int)) 0 1 = G 32 1 := by
        have := G_put 32 0 1 0 (by simp) (by omega)
        rw [Nat.mul_zero, Nat.pow_zero, Nat.mul_one, Nat.zero_add, G_zero] at this
        exact this
      rw [e1, upR_eq, e2]
      have hs1 : (blen (val a) + 1) / 2 ≤ 65537 := by omega
      have hs2 : blen (val a) ≤ (blen (val a) + 1) / 2 + (blen (val a) + 1) / 2 := by omega
      generalize (blen (val a) + 1) / 2 = s at *
      refine nat_up_ok 1 1 s (by omega) (by omega) (by omega) _ _ (fun e => by omega) fun _ _ _ => ?_
      rw [Nat.one_mul]
      have hps := Nat.two_pow_pos s
      have hw : wl 32 (2 ^ s) ≤ s + 1 := (wl_le 32 (by omega) _ _).2 (Nat.pow_lt_pow_right (by omega) (by omega))
      have hlt : val a < (2 ^ s + 1) * (2 ^ s + 1) := by
        have h1 : 2 ^ blen (val a) ≤ 2 ^ (s + s) := Nat.pow_le_pow_right (by omega) hs2
        rw [Nat.pow_add] at h1
        have h3 : 2 ^ s * 2 ^ s ≤ (2 ^ s + 1) * (2 ^ s + 1) := Nat.mul_le_mul (by omega) (by omega)
        omega
      refine nat_Sqrt_loop (val a) hx0 (by omega) _ (fun r hr => ?_) _ (by omega) hps hlt
      have hrx : r ≤ val a := by
        have h1 := hr.1
        rcases Nat.eq_zero_or_pos r with e | e
        · omega
        · have := Nat.mul_le_mul_left r e
          omega
      have w2 := wl_mono (k := 32) (by omega) hrx
      have w3 := wl_mono (k := 32) (by omega) hr.1
      have w4 := wl_mono (k := 32) (by omega) (Nat.sub_le (val a) (r * r))
      refine nat_number_ok _ _ (by omega) (lt_wl32 _) _ ?_
      refine nat_times_ok r r _ _ (by omega) (by omega) (lt_wl32 _) (lt_wl32 _) _ ?_
      refine nat_less_ok _ _ _ _ (by omega) (by omega) (lt_wl32 _) (lt_wl32 _) hr.1 _ ?_
      exact nat_number_ok _ _ (by omega) (lt_wl32 _) _ (h2 hm r hr)
  · rw [if_neg hm, br_t (by rfl)]; exact h1 hm
end Go.Ev.S

/- What the document's answer reckons with natural numbers: quotients, greatest common divisors, roots. -/
set_option linter.unusedVariables false
set_option linter.unusedSimpArgs false
set_option maxRecDepth 8000
namespace Go.Ev.S
open Go Go.Ev

theorem sgn_ge {x y : Nat} (h : y ≤ x) : leI 0 (sgn x y) = true := by
  unfold sgn
  rw [if_neg (by omega)]
  split
  · exact le_t (by omega)
  · exact le_t (by omega)
theorem sgn_lt {x y : Nat} (h : x < y) : leI 0 (sgn x y) = false := by
  unfold sgn
  rw [if_pos h]
  exact le_f (by omega)
theorem bit_dg (x i : Nat) : dg 8 x (i / 8) / 2 ^ (i % 8) % 2 = x / 2 ^ i % 2 := by
  unfold dg
  have h2 : (2 : Nat) ^ 8 = 2 ^ (i % 8) * 2 ^ (8 - i % 8) := by rw [← Nat.pow_add]; congr 1; omega
  have h3 : (2 : Nat) ∣ 2 ^ (8 - i % 8) := Nat.dvd_trans (by rw [Nat.pow_one]; exact Nat.dvd_refl _ : (2 : Nat) ∣ 2 ^ 1) (Nat.pow_dvd_pow 2 (by omega))
  rw [h2, Nat.mod_mul_right_div_self, Nat.mod_mod_of_dvd _ h3, Nat.div_div_eq_div_mul, ← Nat.pow_add, show 8 * (i / 8) + i % 8 = i from by omega]
theorem r05_bit_ok (a : List UInt8) (i : Nat) (hi : i ≤ 1000000000) (hl : a.length ≤ 1000000000) (K : Int → Prop) : r05_bit a i K = K ((val a / 2 ^ i % 2 : Nat) : Int) := by
  rw [r05_bit.is]; unfold r05_bit.d
  have hd := dg_lt 8 (val a) (i / 8)
  rw [B8] at hd
  have e62 : (2 : Nat) ^ 62 = 4611686018427387904 := rfl
  have e0 : quoI IntKind.i64 (i : Int) 8 = ((i / 8 : Nat) : Int) := by rw [quo_i64 (by omega) (by omega) (by omega)]; omega
  have e1 : cvI IntKind.u64 (remI IntKind.i64 (i : Int) 8) = ((i % 8 : Nat) : Int) := by rw [rem_i (by omega), cv_u64 (by omega) (by omega)]; omega
  have hle := Nat.div_le_self (dg 8 (val a) (i / 8)) (2 ^ (i % 8))
  rw [e0, e1, r05_at_ok a _ (by omega) hl, lt_f (by omega), shr_i64 _ _ (by omega), and_i64_1 _ (by omega), bit_dg]
  rfl

theorem r05_double_loop (a : List UInt8) (one : Nat) (h1 : one < 2) (hl : a.length ≤ 1000000) (c0 m0 : Nat) (k0 : Nat → Nat → Nat → (Nat → Int) → Prop) (h : k0 (a.length + 1) c0 m0 (G 8 (2 * val a + one))) :
    ∀ (j i Z c : Nat), i + j = a.length + 1 → Z < 2 ^ (8 * i) → c < 2 → Z + c * 2 ^ (8 * i) = 2 * (val a % 2 ^ (8 * i)) + one → r05_double.l4 k0 (j + 1) a (a.length + 1) c0 c i m0 (G 8 Z) := by
  intro j
  induction j with
  | zero =>
    intro i Z c hi hZ hc hE
    have hi : i = a.length + 1 := by omega
    subst hi
    have hx := val_lt8 a
    have hp : 2 ^ (8 * (a.length + 1)) = 2 ^ (8 * a.length) * 256 := by rw [pow_k, B8]
    have hpp := Nat.two_pow_pos (8 * a.length)
    rw [Nat.mod_eq_of_lt (by omega)] at hE
    have hc0 : c = 0 := by
      rcases (by omega : c = 0 ∨ c = 1) with e | e
      · exact e
      · subst e; omega
    subst hc0
    unfold r05_double.l4 r05_double.l4.step
    rw [br_f (le_f (by omega))]
    rw [← hE, Nat.zero_mul, Nat.add_zero] at h
    exact h
  | succ j ih =>
    intro i Z c hi hZ hc hE
    have hd := dg_lt 8 (val a) i
    rw [B8] at hd
    have e1 : mulI IntKind.i64 2 ((dg 8 (val a) i : Nat) : Int) = ((2 * dg 8 (val a) i : Nat) : Int) := by rw [mul_i64 (by omega) (by omega)]; omega
    have e2 : addI IntKind.i64 (c : Int) ((2 * dg 8 (val a) i : Nat) : Int) = ((c + 2 * dg 8 (val a) i : Nat) : Int) := by rw [add_i64 (by omega) (by omega)]; omega
    have e3 : shrI IntKind.i64 ((c + 2 * dg 8 (val a) i : Nat) : Int) 8 = (((c + 2 * dg 8 (val a) i) / 256 : Nat) : Int) := by rw [shr_i64_8]; omega
    have e4 : cvI IntKind.u8 ((c + 2 * dg 8 (val a) i : Nat) : Int) = (((c + 2 * dg 8 (val a) i) % 256 : Nat) : Int) := by rw [cv_u8']; omega
    have e5 : addI IntKind.i64 (i : Int) 1 = ((i + 1 : Nat) : Int) := by rw [add_i64 (by omega) (by omega)]; omega
    have hw : (c + 2 * dg 8 (val a) i) % 256 < 2 ^ 8 := Nat.mod_lt _ (by omega)
    unfold r05_double.l4 r05_double.l4.step
    rw [br_t (le_t (by omega)), r05_at_ok a i (by omega) (by omega), gd_t (by rw [le_t (by omega), lt_t (by omega)]; rfl), e1, e2, e3, e4, e5, Int.toNat_natCast, G_put 8 Z _ i hZ hw]
    refine ih (i + 1) _ _ (by omega) (put_lt 8 Z _ i hZ hw) (by omega) ?_
    rw [mod_dg, pow_k, B8]
    have := dm_mul' (c + 2 * dg 8 (val a) i) 256 (2 ^ (8 * i))
    rw [Nat.add_mul c, Nat.mul_assoc] at this
    rw [Nat.mul_add]
    omega
theorem r05_double_ok (a : List UInt8) (one : Nat) (h1 : one < 2) (hl : a.length ≤ 1000000) (K : List UInt8 → Prop) (h : K (nb (2 * val a + one))) : r05_double a one K := by
  rw [r05_double.is]; unfold r05_double.d
  have e1 : Int.toNat ((a.length : Int) + 1) = a.length + 1 := by omega
  simp (disch := omega) only [le_t, gd_true, Bool.and_self, add_i64, e1]
  refine ⟨a.length + 2, ?_⟩
  have hx := val_lt8 a
  have := r05_double_loop a one h1 hl (a.length + 1) (a.length + 1) (fun y0 y1 y2 y3 => r05_fit y0 y3 fun y0 => K y0) ?_ (a.length + 1) 0 0 one (by omega) (by simp) h1 (by simp [Nat.mod_one])
  · rw [G_zero] at this; exact this
  · refine r05_fit_ok _ _ (by omega) ?_ _ h
    rw [pow_k, B8]; omega

theorem half_div (x t : Nat) : x / 2 ^ t = 2 * (x / 2 ^ (t + 1)) + x / 2 ^ t % 2 := by
  rw [Nat.pow_succ, ← Nat.div_div_eq_div_mul]
  omega
/-- A quotient, a bit further. -/
theorem div_step (X y q r b : Nat) (hy : 0 < y) (hq : X / y = q) (hr : X % y = r) (hb : b < 2) :
    (y ≤ 2 * r + b → (2 * X + b) / y = 2 * q + 1 ∧ (2 * X + b) % y = 2 * r + b - y) ∧ (2 * r + b < y → (2 * X + b) / y = 2 * q ∧ (2 * X + b) % y = 2 * r + b) := by
  have h1 := Nat.div_add_mod X y
  have h2 := Nat.mod_lt X hy
  rw [hq, hr] at h1
  rw [hr] at h2
  have h3 : 2 * X + b = 2 * r + b + y * (2 * q) := by rw [← h1, Nat.mul_left_comm y 2 q]; omega
  constructor
  · intro h
    have h4 : 2 * X + b = (2 * r + b - y) + y * (2 * q + 1) := by rw [h3, Nat.mul_add]; omega
    rw [h4, Nat.add_mul_div_left _ _ hy, Nat.add_mul_mod_self_left, Nat.div_eq_of_lt (by omega), Nat.mod_eq_of_lt (by omega)]
    omega
  · intro h
    rw [h3, Nat.add_mul_div_left _ _ hy, Nat.add_mul_mod_self_left, Nat.div_eq_of_lt h, Nat.mod_eq_of_lt h]
    omega
/-- One bit set. -/
theorem set_bit (q t : Nat) : upd (G 8 (q * 2 ^ (t + 1))) (t / 8) (orI IntKind.u8 ((dg 8 (q * 2 ^ (t + 1)) (t / 8) : Nat) : Int) (shlI IntKind.u8 1 ((t % 8 : Nat) : Int))) = G 8 ((2 * q + 1) * 2 ^ t) := by
  have hb : IntKind.bits .u8 = 8 := rfl
  have hd := dg_lt 8 (q * 2 ^ (t + 1)) (t / 8)
  have h8 : (2 : Nat) ^ 8 = 2 ^ (t % 8 + 1) * 2 ^ (8 - (t % 8 + 1)) := by rw [← Nat.pow_add]; congr 1; omega
  have hmod : dg 8 (q * 2 ^ (t + 1)) (t / 8) % 2 ^ (t % 8 + 1) = 0 := by
    unfold dg
    rw [Nat.mod_mod_of_dvd _ ⟨_, h8⟩, show t + 1 = t % 8 + 1 + 8 * (t / 8) from by omega, Nat.pow_add, ← Nat.mul_assoc, Nat.mul_div_cancel _ (Nat.two_pow_pos _)]
    exact Nat.mul_mod_left _ _
  have hlt : 2 ^ (t % 8) < 2 ^ (t % 8 + 1) := Nat.pow_lt_pow_right (by omega) (by omega)
  have h1 : shlI IntKind.u8 1 ((t % 8 : Nat) : Int) = ((2 ^ (t % 8) : Nat) : Int) := by
    have := shl_k (k := .u8) rfl 1 (t % 8) (by rw [hb]; omega)
    rw [Nat.one_mul, hb, Nat.mod_eq_of_lt (Nat.pow_lt_pow_right (by omega) (by omega))] at this
    exact this
  have hs : dg 8 (q * 2 ^ (t + 1)) (t / 8) ||| 2 ^ (t % 8) = 2 ^ (t % 8) + dg 8 (q * 2 ^ (t + 1)) (t / 8) := by
    rw [Nat.or_comm]; exact or_mult hlt hmod
  have hs2 : dg 8 (q * 2 ^ (t + 1)) (t / 8) ||| 2 ^ (t % 8) < 2 ^ 8 := Nat.or_lt_two_pow hd (Nat.pow_lt_pow_right (by omega) (by omega))
  rw [h1, or_k (k := .u8) rfl _ _ (by rw [hb]; exact hd) (by rw [hb]; exact Nat.pow_lt_pow_right (by omega) (by omega))]
  refine G_upd ?_ hs2
  rw [hs, Nat.add_mul (2 ^ (t % 8)), ← Nat.pow_add, show t % 8 + 8 * (t / 8) = t from by omega, Nat.add_mul (2 * q) 1, Nat.one_mul, Nat.pow_succ, Nat.mul_comm (2 ^ t) 2, ← Nat.mul_assoc, Nat.mul_comm q 2]
  omega

theorem nb_short {x n : Nat} (h : x < 2 ^ (8 * n)) : (nb x).length ≤ n := (nb_len_le x n).2 (by rw [p256]; exact h)

theorem r05_Div_loop (a b : List UInt8) (hl : a.length ≤ 100000) (hlb : b.length ≤ 100000) (hb : lead b = true) (hy : 0 < val b) (c0 m0 : Nat) (k0 : List UInt8 → Nat → Nat → Nat → (Nat → Int) → Prop)
    (h : k0 (nb (val a % val b)) (a.length + 1) c0 m0 (G 8 (val a / val b))) :
    ∀ t, t ≤ 8 * a.length → r05_Div.l10 k0 (t + 1) a b (nb (val a / 2 ^ t % val b)) (a.length + 1) c0 ((t : Int) - 1) m0 (G 8 (val a / 2 ^ t / val b * 2 ^ t)) := by
  intro t
  induction t with
  | zero =>
    intro ht
    unfold r05_Div.l10 r05_Div.l10.step
    rw [br_f (le_f (by omega)), Nat.pow_zero, Nat.div_one, Nat.mul_one]
    exact h
  | succ t ih =>
    intro ht
    have ih := ih (by omega)
    have hx := half_div (val a) t
    have hb2 : val a / 2 ^ t % 2 < 2 := Nat.mod_lt _ (by omega)
    generalize hbit : val a / 2 ^ t % 2 = bit at *
    rw [hx] at ih
    generalize val a / 2 ^ (t + 1) = X at *
    obtain ⟨s1, s2⟩ := div_step X (val b) _ _ bit hy rfl rfl hb2
    have hr := Nat.mod_lt X hy
    have hyl := val_lt8 b
    generalize hre : X % val b = r at *
    generalize hqe : X / val b = q at *
    have lr : (nb r).length ≤ b.length := nb_short (by omega)
    have e1 : ((t + 1 : Nat) : Int) - 1 = (t : Int) := by omega
    have e2 : quoI IntKind.i64 (t : Int) 8 = ((t / 8 : Nat) : Int) := by rw [quo_i64 (by omega) (by omega) (by omega)]; omega
    have e3 : cvI IntKind.u64 (remI IntKind.i64 (t : Int) 8) = ((t % 8 : Nat) : Int) := by rw [rem_i (by omega), cv_u64 (by omega) (by omega)]; omega
    have e4 : subI IntKind.i64 (t : Int) 1 = (t : Int) - 1 := by rw [sub_i64 (by omega) (by omega)]
    have w0 : (leI 0 ((t / 8 : Nat) : Int) && ltI ((t / 8 : Nat) : Int) ((a.length + 1 : Nat) : Int)) = true := by rw [le_t (by omega), lt_t (by omega)]; rfl
    unfold r05_Div.l10 r05_Div.l10.step
    rw [e1, br_t (le_t (by omega)), r05_bit_ok a t (by omega) (by omega), hbit]
    refine r05_double_ok (nb r) bit hb2 (by omega) _ ?_
    rw [val_nb, r05_Cmp_ok _ b (lead_nb _) hb, val_nb]
    have l2 : (nb (2 * r + bit)).length ≤ b.length + 1 := nb_short (by rw [pow_k, B8]; omega)
    by_cases hc : val b ≤ 2 * r + bit
    · obtain ⟨g1, g2⟩ := s1 hc
      rw [g1, g2] at ih
      rw [br_t (sgn_ge hc)]
      refine r05_sub_ok _ b (by omega) (by omega) (by rw [val_nb]; exact hc) _ ?_
      rw [val_nb, e2, e3, gd_t w0, gd_t (by rw [lt_f (by omega)]; rfl), gd_t w0, Int.toNat_natCast, G_app, set_bit, e4]
      exact ih
    · obtain ⟨g1, g2⟩ := s2 (by omega)
      rw [g1, g2, show 2 * q * 2 ^ t = q * 2 ^ (t + 1) from by rw [Nat.pow_succ, Nat.mul_comm 2 q, Nat.mul_assoc, Nat.mul_comm 2]] at ih
      rw [br_f (sgn_lt (by omega)), e4]
      exact ih

theorem r05_Div_ok (a b : List UInt8) (ha : May a) (hb : May b) (K : List UInt8 → List UInt8 → Int → Prop) (h0 : b = [] → K [] [] 2) (h2 : val b ≠ 0 → K (nb (val a / val b)) (nb (val a % val b)) 0) : r05_Div a b K := by
  rw [r05_Div.is]; unfold r05_Div.d
  rw [eqS_nil]
  by_cases hz : b = []
  · rw [br_t (by simpa using hz)]; exact h0 hz
  · rw [br_f (by simpa using hz), r05_Cmp_ok a b ha.2 hb.2, sgn_neg]
    have hv : val b ≠ 0 := fun e => hz ((lead_val hb.2).1 e)
    have h2 := h2 hv
    have l1 := ha.1; have l2 := hb.1
    by_cases hlt : val a < val b
    · rw [br_t (by simpa using hlt)]
      rw [Nat.div_eq_of_lt hlt, Nat.mod_eq_of_lt hlt, nb_zero, ha.nb] at h2
      exact h2
    · rw [br_f (by simpa using hlt)]
      have va : val a ≠ 0 := by omega
      refine r05_Len_ok a _ (r05_Len_ok b _ ?_)
      rw [if_pos ha, if_pos hb]
      have ba : blen (val a) ≤ 8 * a.length := (blen_le _ _).2 (val_lt8 a)
      have bb : blen (val b) ≤ 8 * b.length := (blen_le _ _).2 (val_lt8 b)
      have bp := blen_pos hv
      have bm : blen (val b) ≤ blen (val a) := (blen_le _ _).2 (by have := blen_lt (val a); omega)
      have e1 : subI IntKind.i64 ((blen (val a) : Nat) : Int) (subI IntKind.i64 ((blen (val b) : Nat) : Int) 1) = ((blen (val a) - (blen (val b) - 1) : Nat) : Int) := by
        simp (disch := omega) only [sub_i64]; omega
      rw [e1]
      have hT : val a / 2 ^ (blen (val a) - (blen (val b) - 1)) < val b := by
        rw [Nat.div_lt_iff_lt_mul (Nat.two_pow_pos _)]
        have g1 := le_blen hv
        have g2 := blen_lt (val a)
        have g3 := Nat.mul_le_mul_right (2 ^ (blen (val a) - (blen (val b) - 1))) g1
        rw [← Nat.pow_add, show blen (val b) - 1 + (blen (val a) - (blen (val b) - 1)) = blen (val a) from by omega] at g3
        omega
      generalize hTe : blen (val a) - (blen (val b) - 1) = T at *
      refine r05_Right_ok a _ (by omega) ha _ (fun e => by omega) (fun _ e => absurd ((lead_val ha.2).2 e) va) fun _ _ => ?_
      rw [Int.toNat_natCast]
      have e2 : addI IntKind.i64 ((a.length : Nat) : Int) 1 = (a.length : Int) + 1 := by rw [add_i64 (by omega) (by omega)]
      have e3 : Int.toNat ((a.length : Int) + 1) = a.length + 1 := by omega
      rw [e2, gd_t (by rw [le_t (by omega), le_t (by omega), le_t (by omega)]; rfl), e3, sub_i64 (by omega) (by omega)]
      refine ⟨T + 1, ?_⟩
      have := r05_Div_loop a b (by omega) (by omega) hb.2 (by omega) (a.length + 1) (a.length + 1) (fun y0 y1 y2 y3 y4 => r05_fit y1 y4 fun y0_3 => K y0_3 y0 0) ?_ T (by omega)
      · rw [Nat.mod_eq_of_lt hT, Nat.div_eq_of_lt hT, Nat.zero_mul, G_zero] at this
        exact this
      · refine r05_fit_ok _ _ (by omega) ?_ _ h2
        have g1 := Nat.div_le_self (val a) (val b)
        have g2 := val_lt8 a
        have g3 : 2 ^ (8 * a.length) ≤ 2 ^ (8 * (a.length + 1)) := pow_le_k (by omega)
        omega

theorem may_mono {x y : Nat} (h : x ≤ y) (hm : May (nb y)) : May (nb x) := by
  refine ⟨?_, lead_nb x⟩
  have := (nb_len_le y _).1 hm.1
  exact (nb_len_le x _).2 (by omega)
theorem r05_Gcd_loop (k0 : List UInt8 → Prop) : ∀ (y x : Nat), May (nb x) → May (nb y) → k0 (nb (Nat.gcd x y)) → ∃ f, r05_Gcd.l1 k0 f (nb x) (nb y) := by
  intro y
  induction y using Nat.strongRecOn with
  | _ y ih =>
    intro x hx hy hk
    by_cases h0 : y = 0
    · subst h0
      refine ⟨1, ?_⟩
      unfold r05_Gcd.l1 r05_Gcd.l1.step
      rw [nb_zero, eqS_nil, br_f (by rfl)]
      rw [Nat.gcd_zero_right] at hk; exact hk
    · have hm := Nat.mod_lt x (show 0 < y by omega)
      have hg : Nat.gcd y (x % y) = Nat.gcd x y := by rw [Nat.gcd_comm x y, Nat.gcd_rec y x, Nat.gcd_comm]
      obtain ⟨f, hf⟩ := ih (x % y) hm y hy (may_mono (Nat.le_of_lt hm) hy) (by rw [hg]; exact hk)
      refine ⟨f + 1, ?_⟩
      unfold r05_Gcd.l1 r05_Gcd.l1.step
      rw [eqS_nil, br_t (by simp [nb_ne h0])]
      refine r05_Div_ok _ _ hx hy _ (fun e => absurd e (nb_ne h0)) fun _ => ?_
      rw [val_nb, val_nb]; exact hf
theorem r05_Gcd_ok (a b : List UInt8) (ha : May a) (hb : May b) (K : List UInt8 → Prop) (h : K (nb (Nat.gcd (val a) (val b)))) : r05_Gcd a b K := by
  rw [r05_Gcd.is]; unfold r05_Gcd.d
  have := r05_Gcd_loop (fun y0 => K y0) (val b) (val a) (by rw [ha.nb]; exact ha) (by rw [hb.nb]; exact hb) h
  rw [ha.nb, hb.nb] at this
  exact this

/-- A root, a bit further. -/
theorem root_step {X r b : Nat} (h : IsRoot X r) (hb : b < 4) :
    (4 * r + 1 ≤ 4 * (X - r * r) + b → IsRoot (4 * X + b) (2 * r + 1) ∧ 4 * X + b - (2 * r + 1) * (2 * r + 1) = 4 * (X - r * r) + b - (4 * r + 1)) ∧
    (4 * (X - r * r) + b < 4 * r + 1 → IsRoot (4 * X + b) (2 * r) ∧ 4 * X + b - 2 * r * (2 * r) = 4 * (X - r * r) + b) := by
  obtain ⟨h1, h2⟩ := h
  have e1 : 2 * r * (2 * r) = 4 * (r * r) := by rw [Nat.mul_assoc, Nat.mul_left_comm r 2 r, ← Nat.mul_assoc]
  have e2 : (2 * r + 1) * (2 * r + 1) = 4 * (r * r) + 4 * r + 1 := by rw [Nat.add_mul, Nat.mul_add, e1]; omega
  have e3 : (r + 1) * (r + 1) = r * r + 2 * r + 1 := by rw [Nat.add_mul, Nat.mul_add]; omega
  have e4 : (2 * r + 1 + 1) * (2 * r + 1 + 1) = 4 * (r * r) + 8 * r + 4 := by
    rw [show 2 * r + 1 + 1 = 2 * (r + 1) from by omega, Nat.mul_assoc, Nat.mul_left_comm (r + 1) 2, ← Nat.mul_assoc, e3]; omega
  unfold IsRoot
  constructor
  · intro h
    refine ⟨⟨?_, ?_⟩, ?_⟩
    · rw [e2]; omega
    · rw [e4]; omega
    · rw [e2]; omega
  · intro h
    refine ⟨⟨?_, ?_⟩, ?_⟩
    · rw [e1]; omega
    · rw [e2]; omega
    · rw [e1]; omega
theorem root_le {x r : Nat} (h : IsRoot x r) : r ≤ x := by
  have h1 := h.1
  rcases Nat.eq_zero_or_pos r with e | e
  · omega
  · have := Nat.mul_le_mul_left r e
    omega

theorem r05_Sqrt_loop (a : List UInt8) (hl : a.length ≤ 100000) (k0 : List UInt8 → List UInt8 → Prop) (h : ∀ r, IsRoot (val a) r → k0 (nb r) (nb (val a - r * r))) :
    ∀ (t r : Nat), t ≤ 100000000 → IsRoot (val a / 2 ^ (2 * t)) r → r05_Sqrt.l4 k0 (t + 1) a (nb r) (nb (val a / 2 ^ (2 * t) - r * r)) ((t : Int) - 1) := by
  intro t
  induction t with
  | zero =>
    intro r ht hr
    rw [Nat.mul_zero, Nat.pow_zero, Nat.div_one] at hr ⊢
    unfold r05_Sqrt.l4 r05_Sqrt.l4.step
    rw [br_f (le_f (by omega))]
    exact h r hr
  | succ t ih =>
    intro r ht hr
    have x1 := half_div (val a) (2 * t)
    have x2 := half_div (val a) (2 * t + 1)
    rw [show 2 * t + 1 + 1 = 2 * (t + 1) from by omega] at x2
    have b0 : val a / 2 ^ (2 * t) % 2 < 2 := Nat.mod_lt _ (by omega)
    have b1 : val a / 2 ^ (2 * t + 1) % 2 < 2 := Nat.mod_lt _ (by omega)
    have ih := fun r => ih r (by omega)
    have hX := Nat.div_le_self (val a) (2 ^ (2 * (t + 1)))
    have hX0 := Nat.div_le_self (val a) (2 ^ (2 * t))
    have hv := val_lt8 a
    have f0 := r05_bit_ok a (2 * t) (by omega) (by omega)
    have f1 := r05_bit_ok a (2 * t + 1) (by omega) (by omega)
    generalize val a / 2 ^ (2 * t) % 2 = d0 at *
    generalize val a / 2 ^ (2 * t + 1) % 2 = d1 at *
    rw [x2] at x1
    rw [x1] at ih hX0
    generalize val a / 2 ^ (2 * (t + 1)) = X at *
    obtain ⟨s1, s2⟩ := root_step hr (show 2 * d1 + d0 < 4 by omega)
    rw [show 4 * X + (2 * d1 + d0) = 2 * (2 * X + d1) + d0 from by omega] at s1 s2
    have hrX := root_le hr
    have hrr := hr.1
    have e1 : ((t + 1 : Nat) : Int) - 1 = (t : Int) := by omega
    have e2 : addI IntKind.i64 (mulI IntKind.i64 2 (t : Int)) 1 = ((2 * t + 1 : Nat) : Int) := by
      simp (disch := omega) only [mul_i64, add_i64]; omega
    have e3 : mulI IntKind.i64 2 (t : Int) = ((2 * t : Nat) : Int) := by
      simp (disch := omega) only [mul_i64]; omega
    have e4 : subI IntKind.i64 (t : Int) 1 = (t : Int) - 1 := by rw [sub_i64 (by omega) (by omega)]
    have hp : (2 : Nat) ^ (8 * (a.length + 1)) = 2 ^ (8 * a.length) * 256 := by rw [pow_k, B8]
    have sh : ∀ z : Nat, z ≤ 4 * val a + 10 → (nb z).length ≤ a.length + 1 := fun z hz => nb_short (by
      have := Nat.two_pow_pos (8 * a.length); omega)
    unfold r05_Sqrt.l4 r05_Sqrt.l4.step
    rw [e1, br_t (le_t (by omega)), e2, e3, f1]
    have l1 := sh (X - r * r) (by omega)
    have l2 := sh (2 * (X - r * r) + d1) (by omega)
    have l3 := sh r (by omega)
    have l4 := sh (2 * r) (by omega)
    refine r05_double_ok _ d1 b1 (by omega) _ ?_
    rw [val_nb, f0]
    refine r05_double_ok _ d0 b0 (by omega) _ ?_
    rw [val_nb]
    refine r05_double_ok (nb r) 0 (by omega) (by omega) _ ?_
    rw [val_nb]
    refine r05_double_ok (nb (2 * r + 0)) 1 (by omega) (by rw [Nat.add_zero]; omega) _ ?_
    rw [val_nb]
    refine r05_double_ok (nb r) 0 (by omega) (by omega) _ ?_
    rw [val_nb, r05_Cmp_ok _ _ (lead_nb _) (lead_nb _), val_nb, val_nb]
    have n1 : 2 * (2 * (X - r * r) + d1) + d0 = 4 * (X - r * r) + (2 * d1 + d0) := by omega
    have n2 : 2 * (2 * r) + 1 = 4 * r + 1 := by omega
    rw [Nat.add_zero (2 * r), n1, n2]
    by_cases hc : 4 * r + 1 ≤ 4 * (X - r * r) + (2 * d1 + d0)
    · obtain ⟨g1, g2⟩ := s1 hc
      rw [br_t (sgn_ge hc)]
      have l5 := sh (4 * (X - r * r) + (2 * d1 + d0)) (by omega)
      have l6 := sh (4 * r + 1) (by omega)
      refine r05_sub_ok _ _ (by omega) (by omega) (by rw [val_nb, val_nb]; exact hc) _ ?_
      rw [val_nb, val_nb]
      refine r05_Of_ok 1 (by omega) _ ?_
      have l7 := sh 1 (by omega)
      refine r05_add_ok _ _ (by omega) (by omega) _ ?_
      rw [val_nb, val_nb, e4, ← g2]
      exact ih _ g1
    · obtain ⟨g1, g2⟩ := s2 (by omega)
      rw [br_f (sgn_lt (by omega)), e4, ← g2]
      exact ih _ g1

theorem r05_Sqrt_ok (a : List UInt8) (ha : May a) (K : List UInt8 → List UInt8 → Prop) (h : ∀ r, IsRoot (val a) r → K (nb r) (nb (val a - r * r))) : r05_Sqrt a K := by
  rw [r05_Sqrt.is]; unfold r05_Sqrt.d
  refine r05_Len_ok a _ ?_
  rw [if_pos ha]
  have l1 := ha.1
  have ba : blen (val a) ≤ 8 * a.length := (blen_le _ _).2 (val_lt8 a)
  have e1 : quoI IntKind.i64 (addI IntKind.i64 ((blen (val a) : Nat) : Int) 1) 2 = (((blen (val a) + 1) / 2 + 1 : Nat) : Int) - 1 := by
    simp (disch := omega) only [add_i64, quo_i64]; omega
  rw [e1]
  have hz : val a / 2 ^ (2 * ((blen (val a) + 1) / 2 + 1)) = 0 := Nat.div_eq_of_lt (Nat.lt_of_lt_of_le (blen_lt _) (Nat.pow_le_pow_right (by omega) (by omega)))
  refine ⟨(blen (val a) + 1) / 2 + 1 + 1, ?_⟩
  have := r05_Sqrt_loop a (by omega) (fun y0 y1 => K y0 y1) h ((blen (val a) + 1) / 2 + 1) 0 (by omega) (by rw [hz]; exact ⟨by decide, by decide⟩)
  rw [hz, Nat.zero_sub, nb_zero] at this
  exact this
end Go.Ev.S

/- The laws of natural numbers that need quotients. -/
set_option linter.unusedVariables false
set_option linter.unusedSimpArgs false
set_option maxRecDepth 8000
namespace Go.Ev.S
open Go Go.Ev

theorem play_f {a b : List UInt8} {n : Nat} {s : Int} (hs : ((n : Nat) : Int) = s) (K : Bool → Prop) (h1 : ¬ (a.length ≤ n ∧ b.length ≤ n) → K false) (h2 : a.length ≤ n → b.length ≤ n → K true) : law05_play a b s K := by
  subst hs
  rw [law05_play_ok]
  by_cases h : a.length ≤ n ∧ b.length ≤ n
  · rw [decide_eq_true h]; exact h2 h.1 h.2
  · rw [decide_eq_false h]; exact h1 h
theorem wrong_f {a b : List UInt8} (K : Bool → Prop) (h1 : ¬ (May a ∧ May b) → K true) (h2 : May a → May b → K false) : law05_wrong a b K := by
  rw [law05_wrong_ok]
  by_cases h : May a ∧ May b
  · rw [decide_eq_true h]; exact h2 h.1 h.2
  · rw [decide_eq_false h]; exact h1 h

theorem natQuotients (a b : List UInt8) (ha : a.length ≤ 140737488351232) (hb : b.length ≤ 140737488351232) (K : Bool → Prop) (h : K true) : law05_NatQuotients a b K := by
  rw [law05_NatQuotients.is]; unfold law05_NatQuotients.d
  have al : law05_alive fun y0 => K y0 := law05_alive_ok _ h
  refine play_f (n := 200) rfl _ (fun _ => by rw [br_t (by rfl)]; exact al) fun p1 p2 => ?_
  rw [br_f (by rfl)]
  by_cases hm : May a ∧ May b
  · by_cases hz : b = []
    · refine nat_Div_ok a b _ (fun e => absurd hm e) (fun _ => ?_) fun _ _ e => absurd ((lead_val hm.2.2).2 hz) e
      refine wrong_f _ (fun e => absurd hm e) fun _ _ => ?_
      rw [br_f rfl]
      refine r05_Div_ok a b hm.1 hm.2 _ (fun _ => ?_) fun e => absurd ((lead_val hm.2.2).2 hz) e
      rw [br_t (eqS_self _), br_t (eqS_self _), br_t (eqI_self _)]; exact al
    · refine nat_Div_ok a b _ (fun e => absurd hm e) (fun e => absurd e hz) fun _ _ _ => ?_
      refine wrong_f _ (fun e => absurd hm e) fun _ _ => ?_
      rw [br_f rfl]
      refine r05_Div_ok a b hm.1 hm.2 _ (fun e => absurd e hz) fun _ => ?_
      rw [br_t (eqS_self _), br_t (eqS_self _), br_t (eqI_self _)]; exact al
  · have g : law05_wrong a b fun y0_1 => br y0_1 (br (eqS [] []) (br (eqS [] []) (br (eqI 2 2) (law05_alive fun y0 => K y0) (K false)) (K false)) (K false)) (r05_Div a b fun y0_2 y1_1 y2_1 => br (eqS [] y0_2) (br (eqS [] y1_1) (br (eqI 2 y2_1) (law05_alive fun y0 => K y0) (K false)) (K false)) (K false)) := by
      refine wrong_f _ (fun _ => ?_) fun e1 e2 => absurd ⟨e1, e2⟩ hm
      rw [br_t rfl, br_t (eqS_self _), br_t (eqS_self _), br_t (eqI_self _)]; exact al
    exact nat_Div_ok a b _ (fun _ => g) (fun _ => g) fun e1 e2 => absurd ⟨e1, e2⟩ hm

theorem natRoots (a b : List UInt8) (ha : a.length ≤ 140737488351232) (hb : b.length ≤ 140737488351232) (K : Bool → Prop) (h : K true) : law05_NatRoots a b K := by
  rw [law05_NatRoots.is]; unfold law05_NatRoots.d
  have al : law05_alive fun y0 => K y0 := law05_alive_ok _ h
  refine play_f (n := 120) rfl _ (fun _ => by rw [br_t (by rfl)]; exact al) fun p1 p2 => ?_
  rw [br_f (by rfl)]
  refine nat_Sqrt_ok a _ (fun hm => ?_) fun hm r hr => ?_
  · rw [r05_May_ok, decide_eq_false hm, br_t (by rfl), br_t (eqS_self _), br_t (eqS_self _), br_t (eqI_self _)]; exact al
  · rw [r05_May_ok, decide_eq_true hm, br_f (by rfl)]
    refine r05_Sqrt_ok a hm _ fun s hs => ?_
    have e := root_uniq hr hs
    subst e
    rw [eqS_self, eqS_self, eqI_self, br_f (by rfl), br_f (by rfl), br_f (by rfl)]
    refine play_f (n := 40) rfl _ (fun _ => by rw [br_t (by rfl)]; exact al) fun p1 p2 => ?_
    rw [br_f (by rfl)]
    refine wrong_f _ (fun _ => by rw [br_t (by rfl)]; exact al) fun m1 m2 => ?_
    rw [br_f (by rfl)]
    refine nat_Gcd_ok a b _ (fun e => absurd ⟨m1, m2⟩ e) fun _ _ => ?_
    refine r05_Gcd_ok a b m1 m2 _ ?_
    rw [br_t (eqS_self _), br_t (eqI_self _)]; exact al

theorem natWhole (a b : List UInt8) (ha : a.length ≤ 140737488351232) (hb : b.length ≤ 140737488351232) (K : Bool → Prop) (h : K true) : law05_NatWhole a b K := by
  rw [law05_NatWhole.is]; unfold law05_NatWhole.d
  have al : law05_alive fun y0 => K y0 := law05_alive_ok _ h
  refine play_f (n := 120) rfl _ (fun _ => by rw [br_t (by rfl)]; exact al) fun p1 p2 => ?_
  rw [br_f (by rfl)]
  refine wrong_f _ (fun _ => by rw [br_t (by rfl)]; exact al) fun m1 m2 => ?_
  rw [br_f (by rfl), eqS_nil]
  by_cases hz : b = []
  · rw [br_t (by simpa using hz)]; exact al
  · rw [br_f (by simpa using hz)]
    refine nat_Div_ok a b _ (fun e => absurd ⟨m1, m2⟩ e) (fun e => absurd e hz) fun _ _ hv => ?_
    have hq := Nat.div_le_self (val a) (val b)
    have hr := Nat.mod_lt (val a) (show 0 < val b by omega)
    have hdm := Nat.div_add_mod (val a) (val b)
    have may : ∀ z, z ≤ val a → May (nb z) := fun z hz => may_mono hz (by rw [m1.nb]; exact m1)
    have lena : (nb (val a)).length = a.length := by rw [m1.nb]
    have short : ∀ z, z ≤ val a → (nb z).length ≤ 120 := fun z hz => by
      have e : val a < 256 ^ a.length := val_lt a
      have : (nb z).length ≤ a.length := (nb_len_le _ _).2 (by omega)
      omega
    have mq := may _ hq
    have mr := may (val a % val b) (Nat.mod_le _ _)
    have hqy : val a / val b * val b ≤ val a := Nat.div_mul_le_self _ _
    have hsum : val a / val b * val b + val a % val b = val a := by rw [Nat.mul_comm]; exact hdm
    have sq := short _ hq
    refine nat_Mul_ok _ b _ (fun e => absurd ⟨mq, m2⟩ e) (fun _ _ e => absurd e (by omega)) fun _ _ _ => tell_ok (by rw [val_nb]; have := short _ hqy; omega) ?_
    rw [val_nb]
    refine nat_Add_ok _ _ _ (fun e => absurd ⟨may _ hqy, mr⟩ e) fun _ _ => tell_ok (by rw [val_nb, val_nb, hsum]; have := short _ (Nat.le_refl _); omega) ?_
    rw [val_nb, val_nb, hsum]
    refine nat_Cmp_ok _ b _ (fun e => absurd ⟨mr, m2⟩ e) fun _ _ => ?_
    rw [val_nb]
    refine nat_Sqrt_ok a _ (fun e => absurd m1 e) fun _ r hroot => ?_
    have hrx := root_le hroot
    have hrr := hroot.1
    have srr := short r hrx
    refine nat_Mul_ok _ _ _ (fun e => absurd ⟨may _ hrx, may _ hrx⟩ e) (fun _ _ e => absurd e (by omega)) fun _ _ _ => tell_ok (by rw [val_nb]; have := short _ hrr; omega) ?_
    rw [val_nb]
    have hs2 : r * r + (val a - r * r) = val a := by omega
    refine nat_Add_ok _ _ _ (fun e => absurd ⟨may _ hrr, may _ (Nat.sub_le _ _)⟩ e) fun _ _ => tell_ok (by rw [val_nb, val_nb, hs2]; have := short _ (Nat.le_refl _); omega) ?_
    rw [val_nb, val_nb, hs2, m1.nb]
    have hsg : ltI (sgn (val a % val b) (val b)) 0 = true := by rw [sgn_neg]; simpa using hr
    simp only [eqI_self, br_true, eqS_self, hsg]
    exact al
end Go.Ev.S
