/- Whole numbers of a kind, as the evaluator's operations have them. -/
import Derived.Test.YtfglhfahphncdaaDoorEvTame
import Derived.DataShut
set_option linter.unusedVariables false
set_option linter.unusedSimpArgs false
namespace Go.Ev
open Go

theorem wrap_u64 (n : Int) : IntKind.wrap .u64 n = n % 18446744073709551616 := by simp [IntKind.wrap, IntKind.bits, IntKind.signed]
theorem wrap_u32 (n : Int) : IntKind.wrap .u32 n = n % 4294967296 := by simp [IntKind.wrap, IntKind.bits, IntKind.signed]
theorem wrap_u8 (n : Int) : IntKind.wrap .u8 n = n % 256 := by simp [IntKind.wrap, IntKind.bits, IntKind.signed]
theorem wrap_i64 (n : Int) : IntKind.wrap .i64 n = if 9223372036854775808 ≤ n % 18446744073709551616 then n % 18446744073709551616 - 18446744073709551616 else n % 18446744073709551616 := by
  simp [IntKind.wrap, IntKind.bits, IntKind.signed]
theorem u64_id {n : Int} (h : 0 ≤ n) (h2 : n < 18446744073709551616) : IntKind.wrap .u64 n = n := by rw [wrap_u64]; omega
theorem u8_id {n : Int} (h : 0 ≤ n) (h2 : n < 256) : IntKind.wrap .u8 n = n := by rw [wrap_u8]; omega
theorem i64_id {n : Int} (h : -9223372036854775808 ≤ n) (h2 : n < 9223372036854775808) : IntKind.wrap .i64 n = n := by rw [wrap_i64]; split <;> omega
theorem cv_u64 {n : Int} (h : 0 ≤ n) (h2 : n < 18446744073709551616) : cvI .u64 n = n := u64_id h h2
theorem cv_i64 {n : Int} (h : -9223372036854775808 ≤ n) (h2 : n < 9223372036854775808) : cvI .i64 n = n := i64_id h h2
theorem add_i64 {a b : Int} (h : -9223372036854775808 ≤ a + b) (h2 : a + b < 9223372036854775808) : addI .i64 a b = a + b := i64_id h h2
theorem sub_i64 {a b : Int} (h : -9223372036854775808 ≤ a - b) (h2 : a - b < 9223372036854775808) : subI .i64 a b = a - b := i64_id h h2
theorem mul_i64 {a b : Int} (h : -9223372036854775808 ≤ a * b) (h2 : a * b < 9223372036854775808) : mulI .i64 a b = a * b := i64_id h h2

theorem range_u64 {n : Int} (h : (Lit.int .u64 n).wf = true) : 0 ≤ n ∧ n < 18446744073709551616 := by
  have := (Lit.wf_int_iff _ _).1 h
  simp [IntKind.min, IntKind.max, IntKind.bits, IntKind.signed] at this
  omega
theorem range_u8 {n : Int} (h : (Lit.int .u8 n).wf = true) : 0 ≤ n ∧ n < 256 := by
  have := (Lit.wf_int_iff _ _).1 h
  simp [IntKind.min, IntKind.max, IntKind.bits, IntKind.signed] at this
  omega
theorem range_i64 {n : Int} (h : (Lit.int .i64 n).wf = true) : -9223372036854775808 ≤ n ∧ n < 9223372036854775808 := by
  have := (Lit.wf_int_iff _ _).1 h
  simp [IntKind.min, IntKind.max, IntKind.bits, IntKind.signed] at this
  omega

theorem br_t {c : Bool} {p q : Prop} (h : c = true) : br c p q = p := by subst h; rfl
theorem br_f {c : Bool} {p q : Prop} (h : c = false) : br c p q = q := by subst h; rfl
theorem gd_t {c : Bool} {p : Prop} (h : c = true) : gd c p = p := by subst h; rfl
theorem lt_t {a b : Int} (h : a < b) : ltI a b = true := by simp [ltI, h]
theorem lt_f {a b : Int} (h : b ≤ a) : ltI a b = false := by simp [ltI]; omega
theorem le_t {a b : Int} (h : a ≤ b) : leI a b = true := by simp [leI, h]
theorem le_f {a b : Int} (h : b < a) : leI a b = false := by simp [leI]; omega
theorem eq_t {a b : Int} (h : a = b) : eqI a b = true := by simp [eqI, h]
theorem eq_f {a b : Int} (h : a ≠ b) : eqI a b = false := by simp [eqI, h]

/-- Numbers of 64 bits, as natural ones. -/
theorem and_nat (a b : Nat) (ha : a < 18446744073709551616) (hb : b < 18446744073709551616) : andI .u64 a b = ((a &&& b : Nat) : Int) := by
  have h1 : (BitVec.ofInt 64 (a : Int)) = BitVec.ofNat 64 a := by simp
  have h2 : (BitVec.ofInt 64 (b : Int)) = BitVec.ofNat 64 b := by simp
  have h3 : a &&& b < 18446744073709551616 := Nat.lt_of_le_of_lt Nat.and_le_left ha
  show IntKind.wrap .u64 (((BitVec.ofInt 64 (a : Int) &&& BitVec.ofInt 64 (b : Int) : BitVec 64).toNat : Nat) : Int) = _
  rw [h1, h2]
  rw [BitVec.toNat_and, BitVec.toNat_ofNat, BitVec.toNat_ofNat, Nat.mod_eq_of_lt ha, Nat.mod_eq_of_lt hb]
  exact u64_id (by omega) (by omega)
theorem or_nat (a b : Nat) (ha : a < 18446744073709551616) (hb : b < 18446744073709551616) : orI .u64 a b = ((a ||| b : Nat) : Int) := by
  have h1 : (BitVec.ofInt 64 (a : Int)) = BitVec.ofNat 64 a := by simp
  have h2 : (BitVec.ofInt 64 (b : Int)) = BitVec.ofNat 64 b := by simp
  have h3 : a ||| b < 18446744073709551616 := Nat.or_lt_two_pow (n := 64) ha hb
  show IntKind.wrap .u64 (((BitVec.ofInt 64 (a : Int) ||| BitVec.ofInt 64 (b : Int) : BitVec 64).toNat : Nat) : Int) = _
  rw [h1, h2]
  rw [BitVec.toNat_or, BitVec.toNat_ofNat, BitVec.toNat_ofNat, Nat.mod_eq_of_lt ha, Nat.mod_eq_of_lt hb]
  exact u64_id (by omega) (by omega)
theorem xor_nat (a b : Nat) (ha : a < 18446744073709551616) (hb : b < 18446744073709551616) : xorI .u64 a b = ((a ^^^ b : Nat) : Int) := by
  have h1 : (BitVec.ofInt 64 (a : Int)) = BitVec.ofNat 64 a := by simp
  have h2 : (BitVec.ofInt 64 (b : Int)) = BitVec.ofNat 64 b := by simp
  have h3 : a ^^^ b < 18446744073709551616 := Nat.xor_lt_two_pow (n := 64) ha hb
  show IntKind.wrap .u64 (((BitVec.ofInt 64 (a : Int) ^^^ BitVec.ofInt 64 (b : Int) : BitVec 64).toNat : Nat) : Int) = _
  rw [h1, h2]
  rw [BitVec.toNat_xor, BitVec.toNat_ofNat, BitVec.toNat_ofNat, Nat.mod_eq_of_lt ha, Nat.mod_eq_of_lt hb]
  exact u64_id (by omega) (by omega)
theorem shr_nat (a i : Nat) (hi : i < 64) : shrI .u64 a i = ((a >>> i : Nat) : Int) := by
  have h1 : min (Int.toNat i) (IntKind.bits .u64) = i := by simp [IntKind.bits]; omega
  simp only [shrI, h1]
  rw [Nat.shiftRight_eq_div_pow, Int.natCast_ediv]
  rw [Int.fdiv_eq_ediv_of_nonneg _ (Int.le_of_lt (Int.pow_pos (by omega)))]
  simp
theorem shr_big (a i : Nat) (ha : a < 18446744073709551616) (hi : 64 ≤ i) : shrI .u64 a i = 0 := by
  have h1 : min (Int.toNat i) (IntKind.bits .u64) = 64 := by simp [IntKind.bits]; omega
  simp only [shrI, h1]
  rw [Int.fdiv_eq_ediv_of_nonneg _ (by simp)]
  exact Int.ediv_eq_zero_of_lt (by omega) (by simpa using (show (a : Int) < 18446744073709551616 by omega))
theorem shl_nat (a i : Nat) (hi : i < 64) : shlI .u64 a i = ((a <<< i % 18446744073709551616 : Nat) : Int) := by
  have h1 : min (Int.toNat i) (IntKind.bits .u64) = i := by simp [IntKind.bits]; omega
  simp only [shlI, h1]
  rw [wrap_u64, Nat.shiftLeft_eq]
  simp
theorem test_nat (a i : Nat) (ha : a < 18446744073709551616) (hi : i < 64) : eqI (andI .u64 (shrI .u64 a i) 1) 1 = a.testBit i := by
  have h2 : a >>> i < 18446744073709551616 := Nat.lt_of_le_of_lt (Nat.shiftRight_le a i) ha
  rw [shr_nat a i hi]
  have := and_nat (a >>> i) 1 h2 (by omega)
  rw [show (1 : Int) = ((1 : Nat) : Int) from rfl, this, Nat.testBit, Nat.and_comm]
  have h3 : 1 &&& a >>> i = (a >>> i) % 2 := by rw [Nat.and_comm]; exact Nat.and_one_is_mod _
  rw [h3]
  rcases Nat.mod_two_eq_zero_or_one (a >>> i) with h | h <;> rw [h] <;> rfl
end Go.Ev
