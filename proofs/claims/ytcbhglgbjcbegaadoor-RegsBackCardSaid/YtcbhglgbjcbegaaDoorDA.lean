/- Numbers in decimal digits: what the library's two functions come to. -/
import Derived.Test.YtcbhglgbjcbegaaDoorEvD
import Derived.Lib.ItoaNum
import Derived.Lib.AtoiAll
import Derived.Lib.Bytealg
import Derived.Test.YtcbhglgbjcbegaaDoorEvB
set_option linter.unusedVariables false
set_option linter.unusedSimpArgs false
namespace Go.Ev.S
open Go Go.Ev
def strconv_Itoa.d (a0 : Int) (K : List UInt8 → Prop) : Prop := (-9223372036854775808 ≤ a0 ∧ a0 ≤ 9223372036854775807) ∧ K (Go.Lib.itoa a0)
noncomputable def strconv_Itoa : Int → (List UInt8 → Prop) → Prop := Classical.choose (⟨strconv_Itoa.d, rfl⟩ : ∃ f, f = strconv_Itoa.d)
theorem strconv_Itoa.is : strconv_Itoa = strconv_Itoa.d := Classical.choose_spec (⟨strconv_Itoa.d, rfl⟩ : ∃ f, f = strconv_Itoa.d)
def strconv_Atoi.d (a0 : List UInt8) (K : Int → Prop) (K1 : Int → Prop) : Prop := a0.length ≤ 281474976710656 ∧
  match Go.Lib.atoiAll a0 with
  | .ok v => K v
  | .range => K1 (Go.Lib.atoiSat a0)
  | _ => K1 0
noncomputable def strconv_Atoi : List UInt8 → (Int → Prop) → (Int → Prop) → Prop := Classical.choose (⟨strconv_Atoi.d, rfl⟩ : ∃ f, f = strconv_Atoi.d)
theorem strconv_Atoi.is : strconv_Atoi = strconv_Atoi.d := Classical.choose_spec (⟨strconv_Atoi.d, rfl⟩ : ∃ f, f = strconv_Atoi.d)
end Go.Ev.S

/- The functions as the evaluator has them: what each comes to. -/
set_option maxRecDepth 100000
set_option linter.unusedVariables false
set_option linter.unusedSimpArgs false
namespace Go.Ev.S
open Go Go.Ev
def shape_Check.d (a0 : Int) (K : Int → Prop) : Prop :=
  br (ltI 3 a0) (K 2) (K 0)
noncomputable def shape_Check : Int → (Int → Prop) → Prop := Classical.choose (⟨shape_Check.d, rfl⟩ : ∃ f, f = shape_Check.d)
theorem shape_Check.is : shape_Check = shape_Check.d := Classical.choose_spec (⟨shape_Check.d, rfl⟩ : ∃ f, f = shape_Check.d)
def shape_numbers.d (a0 : Int) (K : Int → Int → Int → List UInt8 → Prop) : Prop :=
  br (leI 4 (cvI IntKind.i64 a0)) (K 0 0 0 []) (br (eqI a0 0) (br (eqI a0 0) (br (eqI a0 0) (br (eqI a0 0) (K 32 24 127 [115]) (br (eqI a0 1) (K 32 24 127 [100]) (br (eqI a0 2) (K 32 24 127 [104]) (br (eqI a0 3) (K 32 24 127 [113]) False)))) (br (eqI a0 1) (br (eqI a0 0) (K 32 24 1023 [115]) (br (eqI a0 1) (K 32 24 1023 [100]) (br (eqI a0 2) (K 32 24 1023 [104]) (br (eqI a0 3) (K 32 24 1023 [113]) False)))) (br (eqI a0 2) (br (eqI a0 0) (K 32 24 15 [115]) (br (eqI a0 1) (K 32 24 15 [100]) (br (eqI a0 2) (K 32 24 15 [104]) (br (eqI a0 3) (K 32 24 15 [113]) False)))) (br (eqI a0 3) (br (eqI a0 0) (K 32 24 16383 [115]) (br (eqI a0 1) (K 32 24 16383 [100]) (br (eqI a0 2) (K 32 24 16383 [104]) (br (eqI a0 3) (K 32 24 16383 [113]) False)))) False)))) (br (eqI a0 1) (br (eqI a0 0) (br (eqI a0 0) (K 32 53 127 [115]) (br (eqI a0 1) (K 32 53 127 [100]) (br (eqI a0 2) (K 32 53 127 [104]) (br (eqI a0 3) (K 32 53 127 [113]) False)))) (br (eqI a0 1) (br (eqI a0 0) (K 32 53 1023 [115]) (br (eqI a0 1) (K 32 53 1023 [100]) (br (eqI a0 2) (K 32 53 1023 [104]) (br (eqI a0 3) (K 32 53 1023 [113]) False)))) (br (eqI a0 2) (br (eqI a0 0) (K 32 53 15 [115]) (br (eqI a0 1) (K 32 53 15 [100]) (br (eqI a0 2) (K 32 53 15 [104]) (br (eqI a0 3) (K 32 53 15 [113]) False)))) (br (eqI a0 3) (br (eqI a0 0) (K 32 53 16383 [115]) (br (eqI a0 1) (K 32 53 16383 [100]) (br (eqI a0 2) (K 32 53 16383 [104]) (br (eqI a0 3) (K 32 53 16383 [113]) False)))) False)))) (br (eqI a0 2) (br (eqI a0 0) (br (eqI a0 0) (K 32 11 127 [115]) (br (eqI a0 1) (K 32 11 127 [100]) (br (eqI a0 2) (K 32 11 127 [104]) (br (eqI a0 3) (K 32 11 127 [113]) False)))) (br (eqI a0 1) (br (eqI a0 0) (K 32 11 1023 [115]) (br (eqI a0 1) (K 32 11 1023 [100]) (br (eqI a0 2) (K 32 11 1023 [104]) (br (eqI a0 3) (K 32 11 1023 [113]) False)))) (br (eqI a0 2) (br (eqI a0 0) (K 32 11 15 [115]) (br (eqI a0 1) (K 32 11 15 [100]) (br (eqI a0 2) (K 32 11 15 [104]) (br (eqI a0 3) (K 32 11 15 [113]) False)))) (br (eqI a0 3) (br (eqI a0 0) (K 32 11 16383 [115]) (br (eqI a0 1) (K 32 11 16383 [100]) (br (eqI a0 2) (K 32 11 16383 [104]) (br (eqI a0 3) (K 32 11 16383 [113]) False)))) False)))) (br (eqI a0 3) (br (eqI a0 0) (br (eqI a0 0) (K 32 113 127 [115]) (br (eqI a0 1) (K 32 113 127 [100]) (br (eqI a0 2) (K 32 113 127 [104]) (br (eqI a0 3) (K 32 113 127 [113]) False)))) (br (eqI a0 1) (br (eqI a0 0) (K 32 113 1023 [115]) (br (eqI a0 1) (K 32 113 1023 [100]) (br (eqI a0 2) (K 32 113 1023 [104]) (br (eqI a0 3) (K 32 113 1023 [113]) False)))) (br (eqI a0 2) (br (eqI a0 0) (K 32 113 15 [115]) (br (eqI a0 1) (K 32 113 15 [100]) (br (eqI a0 2) (K 32 113 15 [104]) (br (eqI a0 3) (K 32 113 15 [113]) False)))) (br (eqI a0 3) (br (eqI a0 0) (K 32 113 16383 [115]) (br (eqI a0 1) (K 32 113 16383 [100]) (br (eqI a0 2) (K 32 113 16383 [104]) (br (eqI a0 3) (K 32 113 16383 [113]) False)))) False)))) False)))) (br (eqI a0 1) (br (eqI a0 0) (br (eqI a0 0) (br (eqI a0 0) (K 64 24 127 [115]) (br (eqI a0 1) (K 64 24 127 [100]) (br (eqI a0 2) (K 64 24 127 [104]) (br (eqI a0 3) (K 64 24 127 [113]) False)))) (br (eqI a0 1) (br (eqI a0 0) (K 64 24 1023 [115]) (br (eqI a0 1) (K 64 24 1023 [100]) (br (eqI a0 2) (K 64 24 1023 [104]) (br (eqI a0 3) (K 64 24 1023 [113]) False)))) (br (eqI a0 2) (br (eqI a0 0) (K 64 24 15 [115]) (br (eqI a0 1) (K 64 24 15 [100]) (br (eqI a0 2) (K 64 24 15 [104]) (br (eqI a0 3) (K 64 24 15 [113]) False)))) (br (eqI a0 3) (br (eqI a0 0) (K 64 24 16383 [115]) (br (eqI a0 1) (K 64 24 16383 [100]) (br (eqI a0 2) (K 64 24 16383 [104]) (br (eqI a0 3) (K 64 24 16383 [113]) False)))) False)))) (br (eqI a0 1) (br (eqI a0 0) (br (eqI a0 0) (K 64 53 127 [115]) (br (eqI a0 1) (K 64 53 127 [100]) (br (eqI a0 2) (K 64 53 127 [104]) (br (eqI a0 3) (K 64 53 127 [113]) False)))) (br (eqI a0 1) (br (eqI a0 0) (K 64 53 1023 [115]) (br (eqI a0 1) (K 64 53 1023 [100]) (br (eqI a0 2) (K 64 53 1023 [104]) (br (eqI a0 3) (K 64 53 1023 [113]) False)))) (br (eqI a0 2) (br (eqI a0 0) (K 64 53 15 [115]) (br (eqI a0 1) (K 64 53 15 [100]) (br (eqI a0 2) (K 64 53 15 [104]) (br (eqI a0 3) (K 64 53 15 [113]) False)))) (br (eqI a0 3) (br (eqI a0 0) (K 64 53 16383 [115]) (br (eqI a0 1) (K 64 53 16383 [100]) (br (eqI a0 2) (K 64 53 16383 [104]) (br (eqI a0 3) (K 64 53 16383 [113]) False)))) False)))) (br (eqI a0 2) (br (eqI a0 0) (br (eqI a0 0) (K 64 11 127 [115]) (br (eqI a0 1) (K 64 11 127 [100]) (br (eqI a0 2) (K 64 11 127 [104]) (br (eqI a0 3) (K 64 11 127 [113]) False)))) (br (eqI a0 1) (br (eqI a0 0) (K 64 11 1023 [115]) (br (eqI a0 1) (K 64 11 1023 [100]) (br (eqI a0 2) (K 64 11 1023 [104]) (br (eqI a0 3) (K 64 11 1023 [113]) False)))) (br (eqI a0 2) (br (eqI a0 0) (K 64 11 15 [115]) (br (eqI a0 1) (K 64 11 15 [100]) (br (eqI a0 2) (K 64 11 15 [104]) (br (eqI a0 3) (K 64 11 15 [113]) False)))) (br (eqI a0 3) (br (eqI a0 0) (K 64 11 16383 [115]) (br (eqI a0 1) (K 64 11 16383 [100]) (br (eqI a0 2) (K 64 11 16383 [104]) (br (eqI a0 3) (K 64 11 16383 [113]) False)))) False)))) (br (eqI a0 3) (br (eqI a0 0) (br (eqI a0 0) (K 64 113 127 [115]) (br (eqI a0 1) (K 64 113 127 [100]) (br (eqI a0 2) (K 64 113 127 [104]) (br (eqI a0 3) (K 64 113 127 [113]) False)))) (br (eqI a0 1) (br (eqI a0 0) (K 64 113 1023 [115]) (br (eqI a0 1) (K 64 113 1023 [100]) (br (eqI a0 2) (K 64 113 1023 [104]) (br (eqI a0 3) (K 64 113 1023 [113]) False)))) (br (eqI a0 2) (br (eqI a0 0) (K 64 113 15 [115]) (br (eqI a0 1) (K 64 113 15 [100]) (br (eqI a0 2) (K 64 113 15 [104]) (br (eqI a0 3) (K 64 113 15 [113]) False)))) (br (eqI a0 3) (br (eqI a0 0) (K 64 113 16383 [115]) (br (eqI a0 1) (K 64 113 16383 [100]) (br (eqI a0 2) (K 64 113 16383 [104]) (br (eqI a0 3) (K 64 113 16383 [113]) False)))) False)))) False)))) (br (eqI a0 2) (br (eqI a0 0) (br (eqI a0 0) (br (eqI a0 0) (K 16 24 127 [115]) (br (eqI a0 1) (K 16 24 127 [100]) (br (eqI a0 2) (K 16 24 127 [104]) (br (eqI a0 3) (K 16 24 127 [113]) False)))) (br (eqI a0 1) (br (eqI a0 0) (K 16 24 1023 [115]) (br (eqI a0 1) (K 16 24 1023 [100]) (br (eqI a0 2) (K 16 24 1023 [104]) (br (eqI a0 3) (K 16 24 1023 [113]) False)))) (br (eqI a0 2) (br (eqI a0 0) (K 16 24 15 [115]) (br (eqI a0 1) (K 16 24 15 [100]) (br (eqI a0 2) (K 16 24 15 [104]) (br (eqI a0 3) (K 16 24 15 [113]) False)))) (br (eqI a0 3) (br (eqI a0 0) (K 16 24 16383 [115]) (br (eqI a0 1) (K 16 24 16383 [100]) (br (eqI a0 2) (K 16 24 16383 [104]) (br (eqI a0 3) (K 16 24 16383 [113]) False)))) False)))) (br (eqI a0 1) (br (eqI a0 0) (br (eqI a0 0) (K 16 53 127 [115]) (br (eqI a0 1) (K 16 53 127 [100]) (br (eqI a0 2) (K 16 53 127 [104]) (br (eqI a0 3) (K 16 53 127 [113]) False)))) (br (eqI a0 1) (br (eqI a0 0) (K 16 53 1023 [115]) (br (eqI a0 1) (K 16 53 1023 [100]) (br (eqI a0 2) (K 16 53 1023 [104]) (br (eqI a0 3) (K 16 53 1023 [113]) False)))) (br (eqI a0 2) (br (eqI a0 0) (K 16 53 15 [115]) (br (eqI a0 1) (K 16 53 15 [100]) (br (eqI a0 2) (K 16 53 15 [104]) (br (eqI a0 3) (K 16 53 15 [113]) False)))) (br (eqI a0 3) (br (eqI a0 0) (K 16 53 16383 [115]) (br (eqI a0 1) (K 16 53 16383 [100]) (br (eqI a0 2) (K 16 53 16383 [104]) (br (eqI a0 3) (K 16 53 16383 [113]) False)))) False)))) (br (eqI a0 2) (br (eqI a0 0) (br (eqI a0 0) (K 16 11 127 [115]) (br (eqI a0 1) (K 16 11 127 [100]) (br (eqI a0 2) (K 16 11 127 [104]) (br (eqI a0 3) (K 16 11 127 [113]) False)))) (br (eqI a0 1) (br (eqI a0 0) (K 16 11 1023 [115]) (br (eqI a0 1) (K 16 11 1023 [100]) (br (eqI a0 2) (K 16 11 1023 [104]) (br (eqI a0 3) (K 16 11 1023 [113]) False)))) (br (eqI a0 2) (br (eqI a0 0) (K 16 11 15 [115]) (br (eqI a0 1) (K 16 11 15 [100]) (br (eqI a0 2) (K 16 11 15 [104]) (br (eqI a0 3) (K 16 11 15 [113]) False)))) (br (eqI a0 3) (br (eqI a0 0) (K 16 11 16383 [115]) (br (eqI a0 1) (K 16 11 16383 [100]) (br (eqI a0 2) (K 16 11 16383 [104]) (br (eqI a0 3) (K 16 11 16383 [113]) False)))) False)))) (br (eqI a0 3) (br (eqI a0 0) (br (eqI a0 0) (K 16 113 127 [115]) (br (eqI a0 1) (K 16 113 127 [100]) (br (eqI a0 2) (K 16 113 127 [104]) (br (eqI a0 3) (K 16 113 127 [113]) False)))) (br (eqI a0 1) (br (eqI a0 0) (K 16 113 1023 [115]) (br (eqI a0 1) (K 16 113 1023 [100]) (br (eqI a0 2) (K 16 113 1023 [104]) (br (eqI a0 3) (K 16 113 1023 [113]) False)))) (br (eqI a0 2) (br (eqI a0 0) (K 16 113 15 [115]) (br (eqI a0 1) (K 16 113 15 [100]) (br (eqI a0 2) (K 16 113 15 [104]) (br (eqI a0 3) (K 16 113 15 [113]) False)))) (br (eqI a0 3) (br (eqI a0 0) (K 16 113 16383 [115]) (br (eqI a0 1) (K 16 113 16383 [100]) (br (eqI a0 2) (K 16 113 16383 [104]) (br (eqI a0 3) (K 16 113 16383 [113]) False)))) False)))) False)))) (br (eqI a0 3) (br (eqI a0 0) (br (eqI a0 0) (br (eqI a0 0) (K 128 24 127 [115]) (br (eqI a0 1) (K 128 24 127 [100]) (br (eqI a0 2) (K 128 24 127 [104]) (br (eqI a0 3) (K 128 24 127 [113]) False)))) (br (eqI a0 1) (br (eqI a0 0) (K 128 24 1023 [115]) (br (eqI a0 1) (K 128 24 1023 [100]) (br (eqI a0 2) (K 128 24 1023 [104]) (br (eqI a0 3) (K 128 24 1023 [113]) False)))) (br (eqI a0 2) (br (eqI a0 0) (K 128 24 15 [115]) (br (eqI a0 1) (K 128 24 15 [100]) (br (eqI a0 2) (K 128 24 15 [104]) (br (eqI a0 3) (K 128 24 15 [113]) False)))) (br (eqI a0 3) (br (eqI a0 0) (K 128 24 16383 [115]) (br (eqI a0 1) (K 128 24 16383 [100]) (br (eqI a0 2) (K 128 24 16383 [104]) (br (eqI a0 3) (K 128 24 16383 [113]) False)))) False)))) (br (eqI a0 1) (br (eqI a0 0) (br (eqI a0 0) (K 128 53 127 [115]) (br (eqI a0 1) (K 128 53 127 [100]) (br (eqI a0 2) (K 128 53 127 [104]) (br (eqI a0 3) (K 128 53 127 [113]) False)))) (br (eqI a0 1) (br (eqI a0 0) (K 128 53 1023 [115]) (br (eqI a0 1) (K 128 53 1023 [100]) (br (eqI a0 2) (K 128 53 1023 [104]) (br (eqI a0 3) (K 128 53 1023 [113]) False)))) (br (eqI a0 2) (br (eqI a0 0) (K 128 53 15 [115]) (br (eqI a0 1) (K 128 53 15 [100]) (br (eqI a0 2) (K 128 53 15 [104]) (br (eqI a0 3) (K 128 53 15 [113]) False)))) (br (eqI a0 3) (br (eqI a0 0) (K 128 53 16383 [115]) (br (eqI a0 1) (K 128 53 16383 [100]) (br (eqI a0 2) (K 128 53 16383 [104]) (br (eqI a0 3) (K 128 53 16383 [113]) False)))) False)))) (br (eqI a0 2) (br (eqI a0 0) (br (eqI a0 0) (K 128 11 127 [115]) (br (eqI a0 1) (K 128 11 127 [100]) (br (eqI a0 2) (K 128 11 127 [104]) (br (eqI a0 3) (K 128 11 127 [113]) False)))) (br (eqI a0 1) (br (eqI a0 0) (K 128 11 1023 [115]) (br (eqI a0 1) (K 128 11 1023 [100]) (br (eqI a0 2) (K 128 11 1023 [104]) (br (eqI a0 3) (K 128 11 1023 [113]) False)))) (br (eqI a0 2) (br (eqI a0 0) (K 128 11 15 [115]) (br (eqI a0 1) (K 128 11 15 [100]) (br (eqI a0 2) (K 128 11 15 [104]) (br (eqI a0 3) (K 128 11 15 [113]) False)))) (br (eqI a0 3) (br (eqI a0 0) (K 128 11 16383 [115]) (br (eqI a0 1) (K 128 11 16383 [100]) (br (eqI a0 2) (K 128 11 16383 [104]) (br (eqI a0 3) (K 128 11 16383 [113]) False)))) False)))) (br (eqI a0 3) (br (eqI a0 0) (br (eqI a0 0) (K 128 113 127 [115]) (br (eqI a0 1) (K 128 113 127 [100]) (br (eqI a0 2) (K 128 113 127 [104]) (br (eqI a0 3) (K 128 113 127 [113]) False)))) (br (eqI a0 1) (br (eqI a0 0) (K 128 113 1023 [115]) (br (eqI a0 1) (K 128 113 1023 [100]) (br (eqI a0 2) (K 128 113 1023 [104]) (br (eqI a0 3) (K 128 113 1023 [113]) False)))) (br (eqI a0 2) (br (eqI a0 0) (K 128 113 15 [115]) (br (eqI a0 1) (K 128 113 15 [100]) (br (eqI a0 2) (K 128 113 15 [104]) (br (eqI a0 3) (K 128 113 15 [113]) False)))) (br (eqI a0 3) (br (eqI a0 0) (K 128 113 16383 [115]) (br (eqI a0 1) (K 128 113 16383 [100]) (br (eqI a0 2) (K 128 113 16383 [104]) (br (eqI a0 3) (K 128 113 16383 [113]) False)))) False)))) False)))) False))))
noncomputable def shape_numbers : Int → (Int → Int → Int → List UInt8 → Prop) → Prop := Classical.choose (⟨shape_numbers.d, rfl⟩ : ∃ f, f = shape_numbers.d)
theorem shape_numbers.is : shape_numbers = shape_numbers.d := Classical.choose_spec (⟨shape_numbers.d, rfl⟩ : ∃ f, f = shape_numbers.d)
def shape_Emax.d (a0 : Int) (K : Int → Prop) : Prop :=
  shape_numbers a0 fun y0 y1 y2 y3 => K y2
noncomputable def shape_Emax : Int → (Int → Prop) → Prop := Classical.choose (⟨shape_Emax.d, rfl⟩ : ∃ f, f = shape_Emax.d)
theorem shape_Emax.is : shape_Emax = shape_Emax.d := Classical.choose_spec (⟨shape_Emax.d, rfl⟩ : ∃ f, f = shape_Emax.d)
def shape_Width.d (a0 : Int) (K : Int → Prop) : Prop :=
  shape_numbers a0 fun y0 y1 y2 y3 => K y0
noncomputable def shape_Width : Int → (Int → Prop) → Prop := Classical.choose (⟨shape_Width.d, rfl⟩ : ∃ f, f = shape_Width.d)
theorem shape_Width.is : shape_Width = shape_Width.d := Classical.choose_spec (⟨shape_Width.d, rfl⟩ : ∃ f, f = shape_Width.d)
def shape_Fits.d (a0 : Int) (a1_0 : Int) (a1_1 : Int) (K : Bool → Prop) : Prop :=
  br (eqI a0 3) (K true) (br (eqI a0 1) (K (eqI a1_0 0)) (br (eqI a0 0) (br (eqI a0 0) (br (eqI a1_0 0) (shape_Width a0 fun y0 => gd (!ltI (cvI IntKind.u64 y0) 0) (K (eqI (shrI IntKind.u64 a1_1 (cvI IntKind.u64 y0)) 0))) (K false)) (K false)) (br (eqI a0 2) (br (eqI a1_0 0) (shape_Width a0 fun y0 => gd (!ltI (cvI IntKind.u64 y0) 0) (K (eqI (shrI IntKind.u64 a1_1 (cvI IntKind.u64 y0)) 0))) (K false)) (K false))))
noncomputable def shape_Fits : Int → Int → Int → (Bool → Prop) → Prop := Classical.choose (⟨shape_Fits.d, rfl⟩ : ∃ f, f = shape_Fits.d)
theorem shape_Fits.is : shape_Fits = shape_Fits.d := Classical.choose_spec (⟨shape_Fits.d, rfl⟩ : ∃ f, f = shape_Fits.d)
def shape_Precision.d (a0 : Int) (K : Int → Prop) : Prop :=
  shape_numbers a0 fun y0 y1 y2 y3 => K y1
noncomputable def shape_Precision : Int → (Int → Prop) → Prop := Classical.choose (⟨shape_Precision.d, rfl⟩ : ∃ f, f = shape_Precision.d)
theorem shape_Precision.is : shape_Precision = shape_Precision.d := Classical.choose_spec (⟨shape_Precision.d, rfl⟩ : ∃ f, f = shape_Precision.d)
def shape_at.d (a0 : Int) (a1 : Int) (K : Int → Int → Prop) : Prop :=
  br (leI 64 a1) (gd (!ltI (cvI IntKind.u64 (subI IntKind.i64 a1 64)) 0) (K (shlI IntKind.u64 a0 (cvI IntKind.u64 (subI IntKind.i64 a1 64))) 0)) (gd (!ltI (cvI IntKind.u64 a1) 0) (br (ltI 0 a1) (gd (!ltI (cvI IntKind.u64 (subI IntKind.i64 64 a1)) 0) (K (shrI IntKind.u64 a0 (cvI IntKind.u64 (subI IntKind.i64 64 a1))) (shlI IntKind.u64 a0 (cvI IntKind.u64 a1)))) (K 0 (shlI IntKind.u64 a0 (cvI IntKind.u64 a1)))))
noncomputable def shape_at : Int → Int → (Int → Int → Prop) → Prop := Classical.choose (⟨shape_at.d, rfl⟩ : ∃ f, f = shape_at.d)
theorem shape_at.is : shape_at = shape_at.d := Classical.choose_spec (⟨shape_at.d, rfl⟩ : ∃ f, f = shape_at.d)
def shape_NaN.d (a0 : Int) (K : Int → Int → Prop) : Prop :=
  shape_Check a0 fun y0 => br (!eqI y0 0) (K 0 0) (shape_Emax a0 fun y0 => shape_Precision a0 fun y0_1 => shape_at (cvI IntKind.u64 (addI IntKind.i64 (mulI IntKind.i64 4 y0) 3)) (subI IntKind.i64 y0_1 2) fun y0 y1 => K y0 y1)
noncomputable def shape_NaN : Int → (Int → Int → Prop) → Prop := Classical.choose (⟨shape_NaN.d, rfl⟩ : ∃ f, f = shape_NaN.d)
theorem shape_NaN.is : shape_NaN = shape_NaN.d := Classical.choose_spec (⟨shape_NaN.d, rfl⟩ : ∃ f, f = shape_NaN.d)
end Go.Ev.S

/- The functions as the evaluator has them: what each comes to. -/
set_option maxRecDepth 100000
set_option linter.unusedVariables false
set_option linter.unusedSimpArgs false
namespace Go.Ev.S
open Go Go.Ev
def box_above.d (a0 : Int) (K : Int → Int → Prop) : Prop :=
  br (eqI a0 0) (K 18446744073709551615 18446744069414584320) (br (eqI a0 1) (K 18446744073709551615 0) (br (eqI a0 2) (K 18446744073709551615 18446744073709486080) (br (eqI a0 3) (K 0 0) False)))
noncomputable def box_above : Int → (Int → Int → Prop) → Prop := Classical.choose (⟨box_above.d, rfl⟩ : ∃ f, f = box_above.d)
theorem box_above.is : box_above = box_above.d := Classical.choose_spec (⟨box_above.d, rfl⟩ : ∃ f, f = box_above.d)
def box_Above.d (a0 : Int) (K : Int → Int → Int → Prop) : Prop :=
  shape_Check a0 fun y0 => br (!eqI y0 0) (K 0 0 2) (box_above a0 fun y0 y1 => K y0 y1 0)
noncomputable def box_Above : Int → (Int → Int → Int → Prop) → Prop := Classical.choose (⟨box_Above.d, rfl⟩ : ∃ f, f = box_Above.d)
theorem box_Above.is : box_Above = box_Above.d := Classical.choose_spec (⟨box_Above.d, rfl⟩ : ∃ f, f = box_Above.d)
def box_Box.d (a0 : Int) (a1_0 : Int) (a1_1 : Int) (K : Int → Int → Int → Prop) : Prop :=
  shape_Fits a0 a1_0 a1_1 fun y0 => br (!y0) (K 0 0 2) (box_above a0 fun y0 y1 => K (orI IntKind.u64 a1_0 y0) (orI IntKind.u64 a1_1 y1) 0)
noncomputable def box_Box : Int → Int → Int → (Int → Int → Int → Prop) → Prop := Classical.choose (⟨box_Box.d, rfl⟩ : ∃ f, f = box_Box.d)
theorem box_Box.is : box_Box = box_Box.d := Classical.choose_spec (⟨box_Box.d, rfl⟩ : ∃ f, f = box_Box.d)
def box_IsBoxed.d (a0 : Int) (a1_0 : Int) (a1_1 : Int) (K : Bool → Prop) : Prop :=
  box_Above a0 fun y0 y1 y2 => br (eqI y2 0) (K (eqI (andI IntKind.u64 a1_0 y0) y0 && eqI (andI IntKind.u64 a1_1 y1) y1)) (K false)
noncomputable def box_IsBoxed : Int → Int → Int → (Bool → Prop) → Prop := Classical.choose (⟨box_IsBoxed.d, rfl⟩ : ∃ f, f = box_IsBoxed.d)
theorem box_IsBoxed.is : box_IsBoxed = box_IsBoxed.d := Classical.choose_spec (⟨box_IsBoxed.d, rfl⟩ : ∃ f, f = box_IsBoxed.d)
def box_Low.d (a0 : Int) (a1_0 : Int) (a1_1 : Int) (K : Int → Int → Int → Prop) : Prop :=
  box_Above a0 fun y0 y1 y2 => br (!eqI y2 0) (K 0 0 y2) (K (andNotI IntKind.u64 a1_0 y0) (andNotI IntKind.u64 a1_1 y1) 0)
noncomputable def box_Low : Int → Int → Int → (Int → Int → Int → Prop) → Prop := Classical.choose (⟨box_Low.d, rfl⟩ : ∃ f, f = box_Low.d)
theorem box_Low.is : box_Low = box_Low.d := Classical.choose_spec (⟨box_Low.d, rfl⟩ : ∃ f, f = box_Low.d)
def box_Unbox.d (a0 : Int) (a1_0 : Int) (a1_1 : Int) (K : Int → Int → Int → Prop) : Prop :=
  box_Low a0 a1_0 a1_1 fun y0 y1 y2 => br (!eqI y2 0) (K 0 0 y2) (box_IsBoxed a0 a1_0 a1_1 fun y0_1 => br (!y0_1) (shape_NaN a0 fun y0 y1 => K y0 y1 0) (K y0 y1 0))
noncomputable def box_Unbox : Int → Int → Int → (Int → Int → Int → Prop) → Prop := Classical.choose (⟨box_Unbox.d, rfl⟩ : ∃ f, f = box_Unbox.d)
theorem box_Unbox.is : box_Unbox = box_Unbox.d := Classical.choose_spec (⟨box_Unbox.d, rfl⟩ : ∃ f, f = box_Unbox.d)
end Go.Ev.S

/- The functions as the evaluator has them: what each comes to. -/
set_option maxRecDepth 100000
set_option linter.unusedVariables false
set_option linter.unusedSimpArgs false
namespace Go.Ev.S
open Go Go.Ev
def regs_Name.d (a0 : Bool) (a1 : Int) (K : List UInt8 → Int → Prop) : Prop :=
  br (ltI a1 0) (K [] 2) (br (ltI 31 a1) (K [] 2) (br a0 (strconv_Itoa a1 fun y0 => gd (leI (1 + ↑(List.length y0)) 9223372036854775807) (K ([102] ++ y0) 0)) (strconv_Itoa a1 fun y0 => gd (leI (1 + ↑(List.length y0)) 9223372036854775807) (K ([120] ++ y0) 0))))
noncomputable def regs_Name : Bool → Int → (List UInt8 → Int → Prop) → Prop := Classical.choose (⟨regs_Name.d, rfl⟩ : ∃ f, f = regs_Name.d)
theorem regs_Name.is : regs_Name = regs_Name.d := Classical.choose_spec (⟨regs_Name.d, rfl⟩ : ∃ f, f = regs_Name.d)
def regs_Named.d (a0 : List UInt8) (K : Bool → Int → Int → Prop) : Prop :=
  br (ltI (↑(List.length a0)) 2) (K false 0 230) (br (ltI 3 ↑(List.length a0)) (K false 0 230) (gd (leI 1 ↑(List.length a0) && leI ↑(List.length a0) ↑(List.length a0)) (strconv_Atoi (subS a0 1 (Int.toNat ↑(List.length a0))) (fun y0 => br (ltI y0 0) (K false 0 230) (br (ltI 31 y0) (K false 0 230) (gd (ltI 0 ↑(List.length a0)) (regs_Name (eqI (byteAt a0 0) 102) y0 fun y0_1 y1 => br (!eqS y0_1 a0) (K false 0 230) (K (eqI (byteAt a0 0) 102) y0 0))))) fun y0 => K false 0 230)))
noncomputable def regs_Named : List UInt8 → (Bool → Int → Int → Prop) → Prop := Classical.choose (⟨regs_Named.d, rfl⟩ : ∃ f, f = regs_Named.d)
theorem regs_Named.is : regs_Named = regs_Named.d := Classical.choose_spec (⟨regs_Named.d, rfl⟩ : ∃ f, f = regs_Named.d)
def regs_Regs_none.d (a0_0 : Bool) (a0_1 : Nat → Int) (a0_2 : Nat → Nat → Lf) (K : Bool → Bool → (Nat → Int) → (Nat → Nat → Lf) → Prop) : Prop :=
  K (!a0_0) a0_0 a0_1 a0_2
noncomputable def regs_Regs_none : Bool → (Nat → Int) → (Nat → Nat → Lf) → (Bool → Bool → (Nat → Int) → (Nat → Nat → Lf) → Prop) → Prop := Classical.choose (⟨regs_Regs_none.d, rfl⟩ : ∃ f, f = regs_Regs_none.d)
theorem regs_Regs_none.is : regs_Regs_none = regs_Regs_none.d := Classical.choose_spec (⟨regs_Regs_none.d, rfl⟩ : ∃ f, f = regs_Regs_none.d)
def regs_Regs_none_nil.d (K : Bool → Prop) : Prop :=
  K true
noncomputable def regs_Regs_none_nil : (Bool → Prop) → Prop := Classical.choose (⟨regs_Regs_none_nil.d, rfl⟩ : ∃ f, f = regs_Regs_none_nil.d)
theorem regs_Regs_none_nil.is : regs_Regs_none_nil = regs_Regs_none_nil.d := Classical.choose_spec (⟨regs_Regs_none_nil.d, rfl⟩ : ∃ f, f = regs_Regs_none_nil.d)
def regs_Regs_word.d (a0_0 : Bool) (a0_1 : Nat → Int) (a0_2 : Nat → Nat → Lf) (a1 : Int) (K0 : Bool → (Nat → Int) → (Nat → Nat → Lf) → Prop) (K1 : Nat → Bool → (Nat → Int) → (Nat → Nat → Lf) → Prop) : Prop :=
  br (ltI a1 0) (K0 a0_0 a0_1 a0_2) (br (leI 32 a1) (K0 a0_0 a0_1 a0_2) (gd (leI 0 a1 && ltI a1 32) (K1 (Int.toNat a1) a0_0 a0_1 a0_2)))
noncomputable def regs_Regs_word : Bool → (Nat → Int) → (Nat → Nat → Lf) → Int → (Bool → (Nat → Int) → (Nat → Nat → Lf) → Prop) → (Nat → Bool → (Nat → Int) → (Nat → Nat → Lf) → Prop) → Prop := Classical.choose (⟨regs_Regs_word.d, rfl⟩ : ∃ f, f = regs_Regs_word.d)
theorem regs_Regs_word.is : regs_Regs_word = regs_Regs_word.d := Classical.choose_spec (⟨regs_Regs_word.d, rfl⟩ : ∃ f, f = regs_Regs_word.d)
def regs_Regs_X.d (a0_0 : Bool) (a0_1 : Nat → Int) (a0_2 : Nat → Nat → Lf) (a1 : Int) (K : Int → Int → Bool → (Nat → Int) → (Nat → Nat → Lf) → Prop) : Prop :=
  regs_Regs_none a0_0 a0_1 a0_2 fun y0 y1 y2 y3 => br y0 (K 0 1 y1 y2 y3) (regs_Regs_word y1 y2 y3 a1 (fun y0 y1 y2 => K 0 2 y0 y1 y2) fun y0 y1 y2 y3 => K (y2 y0) 0 y1 y2 y3)
noncomputable def regs_Regs_X : Bool → (Nat → Int) → (Nat → Nat → Lf) → Int → (Int → Int → Bool → (Nat → Int) → (Nat → Nat → Lf) → Prop) → Prop := Classical.choose (⟨regs_Regs_X.d, rfl⟩ : ∃ f, f = regs_Regs_X.d)
theorem regs_Regs_X.is : regs_Regs_X = regs_Regs_X.d := Classical.choose_spec (⟨regs_Regs_X.d, rfl⟩ : ∃ f, f = regs_Regs_X.d)
def regs_Regs_X_nil.d (a1 : Int) (K : Int → Int → Prop) : Prop :=
  regs_Regs_none_nil fun y0 => br y0 (K 0 1) False
noncomputable def regs_Regs_X_nil : Int → (Int → Int → Prop) → Prop := Classical.choose (⟨regs_Regs_X_nil.d, rfl⟩ : ∃ f, f = regs_Regs_X_nil.d)
theorem regs_Regs_X_nil.is : regs_Regs_X_nil = regs_Regs_X_nil.d := Classical.choose_spec (⟨regs_Regs_X_nil.d, rfl⟩ : ∃ f, f = regs_Regs_X_nil.d)
def regs_Regs_bits.d (a0_0 : Bool) (a0_1 : Nat → Int) (a0_2 : Nat → Nat → Lf) (a1 : Int) (K0 : Bool → (Nat → Int) → (Nat → Nat → Lf) → Prop) (K1 : Nat → Bool → (Nat → Int) → (Nat → Nat → Lf) → Prop) : Prop :=
  br (ltI a1 0) (K0 a0_0 a0_1 a0_2) (br (leI 32 a1) (K0 a0_0 a0_1 a0_2) (gd (leI 0 a1 && ltI a1 32) (K1 (Int.toNat a1) a0_0 a0_1 a0_2)))
noncomputable def regs_Regs_bits : Bool → (Nat → Int) → (Nat → Nat → Lf) → Int → (Bool → (Nat → Int) → (Nat → Nat → Lf) → Prop) → (Nat → Bool → (Nat → Int) → (Nat → Nat → Lf) → Prop) → Prop := Classical.choose (⟨regs_Regs_bits.d, rfl⟩ : ∃ f, f = regs_Regs_bits.d)
theorem regs_Regs_bits.is : regs_Regs_bits = regs_Regs_bits.d := Classical.choose_spec (⟨regs_Regs_bits.d, rfl⟩ : ∃ f, f = regs_Regs_bits.d)
def regs_Regs_F.d (a0_0 : Bool) (a0_1 : Nat → Int) (a0_2 : Nat → Nat → Lf) (a1 : Int) (K : Int → Int → Int → Bool → (Nat → Int) → (Nat → Nat → Lf) → Prop) : Prop :=
  regs_Regs_none a0_0 a0_1 a0_2 fun y0 y1 y2 y3 => br y0 (K 0 0 1 y1 y2 y3) (regs_Regs_bits y1 y2 y3 a1 (fun y0 y1 y2 => K 0 0 2 y0 y1 y2) fun y0 y1 y2 y3 => K (Lf.toI (y3 y0 0)) (Lf.toI (y3 y0 1)) 0 y1 y2 y3)
noncomputable def regs_Regs_F : Bool → (Nat → Int) → (Nat → Nat → Lf) → Int → (Int → Int → Int → Bool → (Nat → Int) → (Nat → Nat → Lf) → Prop) → Prop := Classical.choose (⟨regs_Regs_F.d, rfl⟩ : ∃ f, f = regs_Regs_F.d)
theorem regs_Regs_F.is : regs_Regs_F = regs_Regs_F.d := Classical.choose_spec (⟨regs_Regs_F.d, rfl⟩ : ∃ f, f = regs_Regs_F.d)
def regs_Regs_F_nil.d (a1 : Int) (K : Int → Int → Int → Prop) : Prop :=
  regs_Regs_none_nil fun y0 => br y0 (K 0 0 1) False
noncomputable def regs_Regs_F_nil : Int → (Int → Int → Int → Prop) → Prop := Classical.choose (⟨regs_Regs_F_nil.d, rfl⟩ : ∃ f, f = regs_Regs_F_nil.d)
theorem regs_Regs_F_nil.is : regs_Regs_F_nil = regs_Regs_F_nil.d := Classical.choose_spec (⟨regs_Regs_F_nil.d, rfl⟩ : ∃ f, f = regs_Regs_F_nil.d)
def regs_New.d (K : Bool → (Nat → Int) → (Nat → Nat → Lf) → Prop) : Prop :=
  K true (fun x => 0) z2
noncomputable def regs_New : (Bool → (Nat → Int) → (Nat → Nat → Lf) → Prop) → Prop := Classical.choose (⟨regs_New.d, rfl⟩ : ∃ f, f = regs_New.d)
theorem regs_New.is : regs_New = regs_New.d := Classical.choose_spec (⟨regs_New.d, rfl⟩ : ∃ f, f = regs_New.d)
def regs_Regs_SetX.d (a0_0 : Bool) (a0_1 : Nat → Int) (a0_2 : Nat → Nat → Lf) (a1 : Int) (a2 : Int) (K : Int → Bool → (Nat → Int) → (Nat → Nat → Lf) → Prop) : Prop :=
  regs_Regs_none a0_0 a0_1 a0_2 fun y0 y1 y2 y3 => br y0 (K 1 y1 y2 y3) (regs_Regs_word y1 y2 y3 a1 (fun y0 y1 y2 => K 2 y0 y1 y2) fun y0 y1 y2 y3 => K 0 y1 (upd (upd y2 y0 a2) 0 0) y3)
noncomputable def regs_Regs_SetX : Bool → (Nat → Int) → (Nat → Nat → Lf) → Int → Int → (Int → Bool → (Nat → Int) → (Nat → Nat → Lf) → Prop) → Prop := Classical.choose (⟨regs_Regs_SetX.d, rfl⟩ : ∃ f, f = regs_Regs_SetX.d)
theorem regs_Regs_SetX.is : regs_Regs_SetX = regs_Regs_SetX.d := Classical.choose_spec (⟨regs_Regs_SetX.d, rfl⟩ : ∃ f, f = regs_Regs_SetX.d)
def regs_Regs_SetX_nil.d (a1 : Int) (a2 : Int) (K : Int → Prop) : Prop :=
  regs_Regs_none_nil fun y0 => br y0 (K 1) False
noncomputable def regs_Regs_SetX_nil : Int → Int → (Int → Prop) → Prop := Classical.choose (⟨regs_Regs_SetX_nil.d, rfl⟩ : ∃ f, f = regs_Regs_SetX_nil.d)
theorem regs_Regs_SetX_nil.is : regs_Regs_SetX_nil = regs_Regs_SetX_nil.d := Classical.choose_spec (⟨regs_Regs_SetX_nil.d, rfl⟩ : ∃ f, f = regs_Regs_SetX_nil.d)
def regs_Regs_SetF.d (a0_0 : Bool) (a0_1 : Nat → Int) (a0_2 : Nat → Nat → Lf) (a1 : Int) (a2_0 : Int) (a2_1 : Int) (K : Int → Bool → (Nat → Int) → (Nat → Nat → Lf) → Prop) : Prop :=
  regs_Regs_none a0_0 a0_1 a0_2 fun y0 y1 y2 y3 => br y0 (K 1 y1 y2 y3) (regs_Regs_bits y1 y2 y3 a1 (fun y0 y1 y2 => K 2 y0 y1 y2) fun y0 y1 y2 y3 => K 0 y1 y2 (upd2 (upd2 y3 y0 0 (Lf.z a2_0)) y0 1 (Lf.z a2_1)))
noncomputable def regs_Regs_SetF : Bool → (Nat → Int) → (Nat → Nat → Lf) → Int → Int → Int → (Int → Bool → (Nat → Int) → (Nat → Nat → Lf) → Prop) → Prop := Classical.choose (⟨regs_Regs_SetF.d, rfl⟩ : ∃ f, f = regs_Regs_SetF.d)
theorem regs_Regs_SetF.is : regs_Regs_SetF = regs_Regs_SetF.d := Classical.choose_spec (⟨regs_Regs_SetF.d, rfl⟩ : ∃ f, f = regs_Regs_SetF.d)
def regs_Regs_SetF_nil.d (a1 : Int) (a2_0 : Int) (a2_1 : Int) (K : Int → Prop) : Prop :=
  regs_Regs_none_nil fun y0 => br y0 (K 1) False
noncomputable def regs_Regs_SetF_nil : Int → Int → Int → (Int → Prop) → Prop := Classical.choose (⟨regs_Regs_SetF_nil.d, rfl⟩ : ∃ f, f = regs_Regs_SetF_nil.d)
theorem regs_Regs_SetF_nil.is : regs_Regs_SetF_nil = regs_Regs_SetF_nil.d := Classical.choose_spec (⟨regs_Regs_SetF_nil.d, rfl⟩ : ∃ f, f = regs_Regs_SetF_nil.d)
def regs_Regs_Put.d (a0_0 : Bool) (a0_1 : Nat → Int) (a0_2 : Nat → Nat → Lf) (a1 : Int) (a2 : Int) (a3_0 : Int) (a3_1 : Int) (K : Int → Bool → (Nat → Int) → (Nat → Nat → Lf) → Prop) : Prop :=
  regs_Regs_none a0_0 a0_1 a0_2 fun y0 y1 y2 y3 => br y0 (K 1 y1 y2 y3) (box_Box a1 a3_0 a3_1 fun y0 y1_1 y2_1 => br (!eqI y2_1 0) (K y2_1 y1 y2 y3) (regs_Regs_SetF y1 y2 y3 a2 y0 y1_1 fun y0 y1 y2 y3 => K y0 y1 y2 y3))
noncomputable def regs_Regs_Put : Bool → (Nat → Int) → (Nat → Nat → Lf) → Int → Int → Int → Int → (Int → Bool → (Nat → Int) → (Nat → Nat → Lf) → Prop) → Prop := Classical.choose (⟨regs_Regs_Put.d, rfl⟩ : ∃ f, f = regs_Regs_Put.d)
theorem regs_Regs_Put.is : regs_Regs_Put = regs_Regs_Put.d := Classical.choose_spec (⟨regs_Regs_Put.d, rfl⟩ : ∃ f, f = regs_Regs_Put.d)
def regs_Regs_Put_nil.d (a1 : Int) (a2 : Int) (a3_0 : Int) (a3_1 : Int) (K : Int → Prop) : Prop :=
  regs_Regs_none_nil fun y0 => br y0 (K 1) (box_Box a1 a3_0 a3_1 fun y0 y1 y2 => br (!eqI y2 0) (K y2) (regs_Regs_SetF_nil a2 y0 y1 fun y0 => K y0))
noncomputable def regs_Regs_Put_nil : Int → Int → Int → Int → (Int → Prop) → Prop := Classical.choose (⟨regs_Regs_Put_nil.d, rfl⟩ : ∃ f, f = regs_Regs_Put_nil.d)
theorem regs_Regs_Put_nil.is : regs_Regs_Put_nil = regs_Regs_Put_nil.d := Classical.choose_spec (⟨regs_Regs_Put_nil.d, rfl⟩ : ∃ f, f = regs_Regs_Put_nil.d)
def law23_lives.d (K : Bool → Prop) : Prop :=
  regs_New fun y0 y1 y2 => regs_Regs_SetX y0 y1 y2 0 7 fun y0 y1 y2 y3 => regs_Regs_X y1 y2 y3 0 fun y0_1 y1 y2 y3 y4 => regs_Regs_SetX y2 y3 y4 5 7 fun y0_2 y1_1 y2 y3 => regs_Regs_X y1_1 y2 y3 5 fun y0_3 y1_2 y2 y3 y4 => regs_Regs_X y2 y3 y4 32 fun y0_4 y1_3 y2 y3 y4 => regs_Regs_Put y2 y3 y4 2 3 0 15360 fun y0_5 y1_4 y2 y3 => regs_Regs_F y1_4 y2 y3 3 fun y0_6 y1_5 y2 y3 y4 y5 => regs_Named [102, 51, 49] fun y0_7 y1_6 y2_1 => br (eqI y0 0) (br (eqI y0_1 0) (br (eqI y1 0) (br (eqI y0_2 0) (br (eqI y0_3 7) (br (eqI y1_2 0) (br (eqI y1_3 2) (br (eqI y0_5 0) (br (eqI y1_5 18446744073709501440) (br (eqI y2 0) (br y0_7 (br (eqI y1_6 31) (K (eqI y2_1 0)) (K false)) (K false)) (K false)) (K false)) (K false)) (K false)) (K false)) (K false)) (K false)) (K false)) (K false)) (K false)
noncomputable def law23_lives : (Bool → Prop) → Prop := Classical.choose (⟨law23_lives.d, rfl⟩ : ∃ f, f = law23_lives.d)
theorem law23_lives.is : law23_lives = law23_lives.d := Classical.choose_spec (⟨law23_lives.d, rfl⟩ : ∃ f, f = law23_lives.d)
def regs_Regs_Get.d (a0_0 : Bool) (a0_1 : Nat → Int) (a0_2 : Nat → Nat → Lf) (a1 : Int) (a2 : Int) (K : Int → Int → Int → Bool → (Nat → Int) → (Nat → Nat → Lf) → Prop) : Prop :=
  regs_Regs_F a0_0 a0_1 a0_2 a2 fun y0 y1 y2 y3 y4 y5 => br (!eqI y2 0) (K 0 0 y2 y3 y4 y5) (box_Unbox a1 y0 y1 fun y0 y1 y2 => K y0 y1 y2 y3 y4 y5)
noncomputable def regs_Regs_Get : Bool → (Nat → Int) → (Nat → Nat → Lf) → Int → Int → (Int → Int → Int → Bool → (Nat → Int) → (Nat → Nat → Lf) → Prop) → Prop := Classical.choose (⟨regs_Regs_Get.d, rfl⟩ : ∃ f, f = regs_Regs_Get.d)
theorem regs_Regs_Get.is : regs_Regs_Get = regs_Regs_Get.d := Classical.choose_spec (⟨regs_Regs_Get.d, rfl⟩ : ∃ f, f = regs_Regs_Get.d)
def regs_Regs_Get_nil.d (a1 : Int) (a2 : Int) (K : Int → Int → Int → Prop) : Prop :=
  regs_Regs_F_nil a2 fun y0 y1 y2 => br (!eqI y2 0) (K 0 0 y2) (box_Unbox a1 y0 y1 fun y0 y1 y2 => K y0 y1 y2)
noncomputable def regs_Regs_Get_nil : Int → Int → (Int → Int → Int → Prop) → Prop := Classical.choose (⟨regs_Regs_Get_nil.d, rfl⟩ : ∃ f, f = regs_Regs_Get_nil.d)
theorem regs_Regs_Get_nil.is : regs_Regs_Get_nil = regs_Regs_Get_nil.d := Classical.choose_spec (⟨regs_Regs_Get_nil.d, rfl⟩ : ∃ f, f = regs_Regs_Get_nil.d)
def regs_Regs_Low.d (a0_0 : Bool) (a0_1 : Nat → Int) (a0_2 : Nat → Nat → Lf) (a1 : Int) (a2 : Int) (K : Int → Int → Int → Bool → (Nat → Int) → (Nat → Nat → Lf) → Prop) : Prop :=
  regs_Regs_F a0_0 a0_1 a0_2 a2 fun y0 y1 y2 y3 y4 y5 => br (!eqI y2 0) (K 0 0 y2 y3 y4 y5) (box_Low a1 y0 y1 fun y0 y1 y2 => K y0 y1 y2 y3 y4 y5)
noncomputable def regs_Regs_Low : Bool → (Nat → Int) → (Nat → Nat → Lf) → Int → Int → (Int → Int → Int → Bool → (Nat → Int) → (Nat → Nat → Lf) → Prop) → Prop := Classical.choose (⟨regs_Regs_Low.d, rfl⟩ : ∃ f, f = regs_Regs_Low.d)
theorem regs_Regs_Low.is : regs_Regs_Low = regs_Regs_Low.d := Classical.choose_spec (⟨regs_Regs_Low.d, rfl⟩ : ∃ f, f = regs_Regs_Low.d)
def regs_Regs_Low_nil.d (a1 : Int) (a2 : Int) (K : Int → Int → Int → Prop) : Prop :=
  regs_Regs_F_nil a2 fun y0 y1 y2 => br (!eqI y2 0) (K 0 0 y2) (box_Low a1 y0 y1 fun y0 y1 y2 => K y0 y1 y2)
noncomputable def regs_Regs_Low_nil : Int → Int → (Int → Int → Int → Prop) → Prop := Classical.choose (⟨regs_Regs_Low_nil.d, rfl⟩ : ∃ f, f = regs_Regs_Low_nil.d)
theorem regs_Regs_Low_nil.is : regs_Regs_Low_nil = regs_Regs_Low_nil.d := Classical.choose_spec (⟨regs_Regs_Low_nil.d, rfl⟩ : ∃ f, f = regs_Regs_Low_nil.d)
def regs_Changed.l5h1.step (again : Nat → (Nat → Int) → Int → Bool → (Nat → Int) → (Nat → Nat → Lf) → Bool → (Nat → Int) → (Nat → Nat → Lf) → Nat → (Nat → Nat → Lf) → Prop) (k0 : Nat → Bool → (Nat → Int) → (Nat → Nat → Lf) → Bool → (Nat → Int) → (Nat → Nat → Lf) → Nat → (Nat → Nat → Lf) → Prop) (x0 : Nat) (x1 : Nat → Int) (x2 : Int) (x3 : Bool) (x4 : Nat → Int) (x5 : Nat → Nat → Lf) (x6 : Bool) (x7 : Nat → Int) (x8 : Nat → Nat → Lf) (x9 : Nat) (x10 : Nat → Nat → Lf) : Prop :=
  br (ltI x2 32) (gd (leI 0 x2 && ltI x2 32) (gd (leI 0 x2 && ltI x2 32) (br (!eqI (x4 (Int.toNat x2)) (x1 (Int.toNat x2))) (gd (leN (x0 + 1) 1099511627776) (again (x0 + 1) x1 (addI IntKind.i64 x2 1) x3 x4 x5 x6 x7 x8 (x0 + 1) (appT x0 x10 (upd2 (upd2 (upd2 (upd2 (upd2 z2 0 0 (Lf.z 0)) 0 1 (Lf.z x2)) 0 2 (Lf.z (x1 (Int.toNat x2)))) 0 3 (Lf.z 0)) 0 4 (Lf.z 0))))) (again x0 x1 (addI IntKind.i64 x2 1) x3 x4 x5 x6 x7 x8 x9 x10)))) (k0 x0 x3 x4 x5 x6 x7 x8 x9 x10)
def regs_Changed.l5h1 (k0 : Nat → Bool → (Nat → Int) → (Nat → Nat → Lf) → Bool → (Nat → Int) → (Nat → Nat → Lf) → Nat → (Nat → Nat → Lf) → Prop) : Nat → Nat → (Nat → Int) → Int → Bool → (Nat → Int) → (Nat → Nat → Lf) → Bool → (Nat → Int) → (Nat → Nat → Lf) → Nat → (Nat → Nat → Lf) → Prop
  | 0 => fun _ _ _ _ _ _ _ _ _ _ _ => False
  | n + 1 => regs_Changed.l5h1.step (regs_Changed.l5h1 k0 n) k0
def regs_Changed.l5.step (again : (Nat → Int) → Int → Bool → (Nat → Int) → (Nat → Nat → Lf) → Bool → (Nat → Int) → (Nat → Nat → Lf) → Prop) (again0 : Nat → (Nat → Int) → Int → Bool → (Nat → Int) → (Nat → Nat → Lf) → Bool → (Nat → Int) → (Nat → Nat → Lf) → Nat → (Nat → Nat → Lf) → Prop) (k0 : Bool → (Nat → Int) → (Nat → Nat → Lf) → Bool → (Nat → Int) → (Nat → Nat → Lf) → Prop) (k1 : Nat → Bool → (Nat → Int) → (Nat → Nat → Lf) → Bool → (Nat → Int) → (Nat → Nat → Lf) → Nat → (Nat → Nat → Lf) → Prop) (x0 : Nat → Int) (x1 : Int) (x2 : Bool) (x3 : Nat → Int) (x4 : Nat → Nat → Lf) (x5 : Bool) (x6 : Nat → Int) (x7 : Nat → Nat → Lf) : Prop :=
  br (ltI x1 32) (gd (leI 0 x1 && ltI x1 32) (gd (leI 0 x1 && ltI x1 32) (br (!eqI (x3 (Int.toNat x1)) (x0 (Int.toNat x1))) (again0 1 x0 (addI IntKind.i64 x1 1) x2 x3 x4 x5 x6 x7 1 (upd2 (upd2 (upd2 (upd2 (upd2 z2 0 0 (Lf.z 0)) 0 1 (Lf.z x1)) 0 2 (Lf.z (x0 (Int.toNat x1)))) 0 3 (Lf.z 0)) 0 4 (Lf.z 0))) (again x0 (addI IntKind.i64 x1 1) x2 x3 x4 x5 x6 x7)))) (k0 x2 x3 x4 x5 x6 x7)
def regs_Changed.l5 (k0 : Bool → (Nat → Int) → (Nat → Nat → Lf) → Bool → (Nat → Int) → (Nat → Nat → Lf) → Prop) (k1 : Nat → Bool → (Nat → Int) → (Nat → Nat → Lf) → Bool → (Nat → Int) → (Nat → Nat → Lf) → Nat → (Nat → Nat → Lf) → Prop) : Nat → (Nat → Int) → Int → Bool → (Nat → Int) → (Nat → Nat → Lf) → Bool → (Nat → Int) → (Nat → Nat → Lf) → Prop
  | 0 => fun _ _ _ _ _ _ _ _ => False
  | n + 1 => regs_Changed.l5.step (regs_Changed.l5 k0 k1 n) (regs_Changed.l5h1 k1 n) k0 k1
def regs_Changed.l11h1.step (again : Nat → (Nat → Nat → Lf) → Int → Bool → (Nat → Int) → (Nat → Nat → Lf) → Bool → (Nat → Int) → (Nat → Nat → Lf) → Nat → (Nat → Nat → Lf) → Prop) (k0 : Nat → Bool → (Nat → Int) → (Nat → Nat → Lf) → Bool → (Nat → Int) → (Nat → Nat → Lf) → Nat → (Nat → Nat → Lf) → Prop) (x0 : Nat) (x1 : Nat → Nat → Lf) (x2 : Int) (x3 : Bool) (x4 : Nat → Int) (x5 : Nat → Nat → Lf) (x6 : Bool) (x7 : Nat → Int) (x8 : Nat → Nat → Lf) (x9 : Nat) (x10 : Nat → Nat → Lf) : Prop :=
  br (ltI x2 32) (gd (leI 0 x2 && ltI x2 32) (gd (leI 0 x2 && ltI x2 32) (br (!(eqI (Lf.toI (x5 (Int.toNat x2) 0)) (Lf.toI (x1 (Int.toNat x2) 0)) && eqI (Lf.toI (x5 (Int.toNat x2) 1)) (Lf.toI (x1 (Int.toNat x2) 1)))) (gd (leN (x0 + 1) 1099511627776) (again (x0 + 1) x1 (addI IntKind.i64 x2 1) x3 x4 x5 x6 x7 x8 (x0 + 1) (appT x0 x10 (upd2 (upd2 (upd2 (upd2 (upd2 z2 0 0 (Lf.z 1)) 0 1 (Lf.z x2)) 0 2 (Lf.z 0)) 0 3 (Lf.z (Lf.toI (x1 (Int.toNat x2) 0)))) 0 4 (Lf.z (Lf.toI (x1 (Int.toNat x2) 1))))))) (again x0 x1 (addI IntKind.i64 x2 1) x3 x4 x5 x6 x7 x8 x9 x10)))) (k0 x0 x3 x4 x5 x6 x7 x8 x9 x10)
def regs_Changed.l11h1 (k0 : Nat → Bool → (Nat → Int) → (Nat → Nat → Lf) → Bool → (Nat → Int) → (Nat → Nat → Lf) → Nat → (Nat → Nat → Lf) → Prop) : Nat → Nat → (Nat → Nat → Lf) → Int → Bool → (Nat → Int) → (Nat → Nat → Lf) → Bool → (Nat → Int) → (Nat → Nat → Lf) → Nat → (Nat → Nat → Lf) → Prop
  | 0 => fun _ _ _ _ _ _ _ _ _ _ _ => False
  | n + 1 => regs_Changed.l11h1.step (regs_Changed.l11h1 k0 n) k0
def regs_Changed.l11.step (again : (Nat → Nat → Lf) → Int → Bool → (Nat → Int) → (Nat → Nat → Lf) → Bool → (Nat → Int) → (Nat → Nat → Lf) → Prop) (again0 : Nat → (Nat → Nat → Lf) → Int → Bool → (Nat → Int) → (Nat → Nat → Lf) → Bool → (Nat → Int) → (Nat → Nat → Lf) → Nat → (Nat → Nat → Lf) → Prop) (k0 : Bool → (Nat → Int) → (Nat → Nat → Lf) → Bool → (Nat → Int) → (Nat → Nat → Lf) → Prop) (k1 : Nat → Bool → (Nat → Int) → (Nat → Nat → Lf) → Bool → (Nat → Int) → (Nat → Nat → Lf) → Nat → (Nat → Nat → Lf) → Prop) (x0 : Nat → Nat → Lf) (x1 : Int) (x2 : Bool) (x3 : Nat → Int) (x4 : Nat → Nat → Lf) (x5 : Bool) (x6 : Nat → Int) (x7 : Nat → Nat → Lf) : Prop :=
  br (ltI x1 32) (gd (leI 0 x1 && ltI x1 32) (gd (leI 0 x1 && ltI x1 32) (br (!(eqI (Lf.toI (x4 (Int.toNat x1) 0)) (Lf.toI (x0 (Int.toNat x1) 0)) && eqI (Lf.toI (x4 (Int.toNat x1) 1)) (Lf.toI (x0 (Int.toNat x1) 1)))) (again0 1 x0 (addI IntKind.i64 x1 1) x2 x3 x4 x5 x6 x7 1 (upd2 (upd2 (upd2 (upd2 (upd2 z2 0 0 (Lf.z 1)) 0 1 (Lf.z x1)) 0 2 (Lf.z 0)) 0 3 (Lf.z (Lf.toI (x0 (Int.toNat x1) 0)))) 0 4 (Lf.z (Lf.toI (x0 (Int.toNat x1) 1))))) (again x0 (addI IntKind.i64 x1 1) x2 x3 x4 x5 x6 x7)))) (k0 x2 x3 x4 x5 x6 x7)
def regs_Changed.l11 (k0 : Bool → (Nat → Int) → (Nat → Nat → Lf) → Bool → (Nat → Int) → (Nat → Nat → Lf) → Prop) (k1 : Nat → Bool → (Nat → Int) → (Nat → Nat → Lf) → Bool → (Nat → Int) → (Nat → Nat → Lf) → Nat → (Nat → Nat → Lf) → Prop) : Nat → (Nat → Nat → Lf) → Int → Bool → (Nat → Int) → (Nat → Nat → Lf) → Bool → (Nat → Int) → (Nat → Nat → Lf) → Prop
  | 0 => fun _ _ _ _ _ _ _ _ => False
  | n + 1 => regs_Changed.l11.step (regs_Changed.l11 k0 k1 n) (regs_Changed.l11h1 k1 n) k0 k1
def regs_Changed.l5.entry : LoopEntry := ⟨LV.mk 67 [(0, 67)] 48 2 true, 2, 64, fun vs H K => match vs, H with
  | [EV.ptr 0 [], EV.ptr 1 [], EV.slice 2 0 x0 none 5, EV.arr IntKind.u64 32 x1, EV.int IntKind.i64 x2], [some (EV.agg [EV.bool x3, EV.arr IntKind.u64 32 x4, EV.arrT 32 (Sk.agg [Sk.int IntKind.u64, Sk.int IntKind.u64]) x5]), some (EV.agg [EV.bool x6, EV.arr IntKind.u64 32 x7, EV.arrT 32 (Sk.agg [Sk.int IntKind.u64, Sk.int IntKind.u64]) x8]), some (EV.arrT x9 (Sk.agg [Sk.bool, Sk.int IntKind.i64, Sk.int IntKind.u64, Sk.agg [Sk.int IntKind.u64, Sk.int IntKind.u64]]) x10)] => ∃ n, regs_Changed.l5h1 (fun y0 y1 y2 y3 y4 y5 y6 y7 y8 => K (.exit 0) [EV.ptr 0 [], EV.ptr 1 [], EV.slice 2 0 y0 none 5] [some (EV.agg [EV.bool y1, EV.arr IntKind.u64 32 y2, EV.arrT 32 (Sk.agg [Sk.int IntKind.u64, Sk.int IntKind.u64]) y3]), some (EV.agg [EV.bool y4, EV.arr IntKind.u64 32 y5, EV.arrT 32 (Sk.agg [Sk.int IntKind.u64, Sk.int IntKind.u64]) y6]), some (EV.arrT y7 (Sk.agg [Sk.bool, Sk.int IntKind.i64, Sk.int IntKind.u64, Sk.agg [Sk.int IntKind.u64, Sk.int IntKind.u64]]) y8)]) n x0 x1 x2 x3 x4 x5 x6 x7 x8 x9 x10
  | [EV.ptr 0 [], EV.ptr 1 [], EV.nilSlice, EV.arr IntKind.u64 32 x0, EV.int IntKind.i64 x1], [some (EV.agg [EV.bool x2, EV.arr IntKind.u64 32 x3, EV.arrT 32 (Sk.agg [Sk.int IntKind.u64, Sk.int IntKind.u64]) x4]), some (EV.agg [EV.bool x5, EV.arr IntKind.u64 32 x6, EV.arrT 32 (Sk.agg [Sk.int IntKind.u64, Sk.int IntKind.u64]) x7])] => ∃ n, regs_Changed.l5 (fun y0 y1 y2 y3 y4 y5 => K (.exit 0) [EV.ptr 0 [], EV.ptr 1 [], EV.nilSlice] [some (EV.agg [EV.bool y0, EV.arr IntKind.u64 32 y1, EV.arrT 32 (Sk.agg [Sk.int IntKind.u64, Sk.int IntKind.u64]) y2]), some (EV.agg [EV.bool y3, EV.arr IntKind.u64 32 y4, EV.arrT 32 (Sk.agg [Sk.int IntKind.u64, Sk.int IntKind.u64]) y5])]) (fun y0 y1 y2 y3 y4 y5 y6 y7 y8 => K (.exit 0) [EV.ptr 0 [], EV.ptr 1 [], EV.slice 2 0 y0 none 5] [some (EV.agg [EV.bool y1, EV.arr IntKind.u64 32 y2, EV.arrT 32 (Sk.agg [Sk.int IntKind.u64, Sk.int IntKind.u64]) y3]), some (EV.agg [EV.bool y4, EV.arr IntKind.u64 32 y5, EV.arrT 32 (Sk.agg [Sk.int IntKind.u64, Sk.int IntKind.u64]) y6]), some (EV.arrT y7 (Sk.agg [Sk.bool, Sk.int IntKind.i64, Sk.int IntKind.u64, Sk.agg [Sk.int IntKind.u64, Sk.int IntKind.u64]]) y8)]) n x0 x1 x2 x3 x4 x5 x6 x7
  | _, _ => False⟩
def regs_Changed.l11.entry : LoopEntry := ⟨LV.mk 64 [(2, 64)] 48 2 true, 2, 64, fun vs H K => match vs, H with
  | [EV.ptr 0 [], EV.slice 2 0 x0 none 5, EV.arrT 32 (Sk.agg [Sk.int IntKind.u64, Sk.int IntKind.u64]) x1, EV.int IntKind.i64 x2], [some (EV.agg [EV.bool x3, EV.arr IntKind.u64 32 x4, EV.arrT 32 (Sk.agg [Sk.int IntKind.u64, Sk.int IntKind.u64]) x5]), some (EV.agg [EV.bool x6, EV.arr IntKind.u64 32 x7, EV.arrT 32 (Sk.agg [Sk.int IntKind.u64, Sk.int IntKind.u64]) x8]), some (EV.arrT x9 (Sk.agg [Sk.bool, Sk.int IntKind.i64, Sk.int IntKind.u64, Sk.agg [Sk.int IntKind.u64, Sk.int IntKind.u64]]) x10)] => ∃ n, regs_Changed.l11h1 (fun y0 y1 y2 y3 y4 y5 y6 y7 y8 => K (.exit 2) [EV.slice 2 0 y0 none 5] [some (EV.agg [EV.bool y1, EV.arr IntKind.u64 32 y2, EV.arrT 32 (Sk.agg [Sk.int IntKind.u64, Sk.int IntKind.u64]) y3]), some (EV.agg [EV.bool y4, EV.arr IntKind.u64 32 y5, EV.arrT 32 (Sk.agg [Sk.int IntKind.u64, Sk.int IntKind.u64]) y6]), some (EV.arrT y7 (Sk.agg [Sk.bool, Sk.int IntKind.i64, Sk.int IntKind.u64, Sk.agg [Sk.int IntKind.u64, Sk.int IntKind.u64]]) y8)]) n x0 x1 x2 x3 x4 x5 x6 x7 x8 x9 x10
  | [EV.ptr 0 [], EV.nilSlice, EV.arrT 32 (Sk.agg [Sk.int IntKind.u64, Sk.int IntKind.u64]) x0, EV.int IntKind.i64 x1], [some (EV.agg [EV.bool x2, EV.arr IntKind.u64 32 x3, EV.arrT 32 (Sk.agg [Sk.int IntKind.u64, Sk.int IntKind.u64]) x4]), some (EV.agg [EV.bool x5, EV.arr IntKind.u64 32 x6, EV.arrT 32 (Sk.agg [Sk.int IntKind.u64, Sk.int IntKind.u64]) x7])] => ∃ n, regs_Changed.l11 (fun y0 y1 y2 y3 y4 y5 => K (.exit 2) [EV.nilSlice] [some (EV.agg [EV.bool y0, EV.arr IntKind.u64 32 y1, EV.arrT 32 (Sk.agg [Sk.int IntKind.u64, Sk.int IntKind.u64]) y2]), some (EV.agg [EV.bool y3, EV.arr IntKind.u64 32 y4, EV.arrT 32 (Sk.agg [Sk.int IntKind.u64, Sk.int IntKind.u64]) y5])]) (fun y0 y1 y2 y3 y4 y5 y6 y7 y8 => K (.exit 2) [EV.slice 2 0 y0 none 5] [some (EV.agg [EV.bool y1, EV.arr IntKind.u64 32 y2, EV.arrT 32 (Sk.agg [Sk.int IntKind.u64, Sk.int IntKind.u64]) y3]), some (EV.agg [EV.bool y4, EV.arr IntKind.u64 32 y5, EV.arrT 32 (Sk.agg [Sk.int IntKind.u64, Sk.int IntKind.u64]) y6]), some (EV.arrT y7 (Sk.agg [Sk.bool, Sk.int IntKind.i64, Sk.int IntKind.u64, Sk.agg [Sk.int IntKind.u64, Sk.int IntKind.u64]]) y8)]) n x0 x1 x2 x3 x4 x5 x6 x7
  | _, _ => False⟩
def regs_Changed.d (a0_0 : Bool) (a0_1 : Nat → Int) (a0_2 : Nat → Nat → Lf) (a1_0 : Bool) (a1_1 : Nat → Int) (a1_2 : Nat → Nat → Lf) (K : Nat → (Nat → Nat → Lf) → Int → Bool → (Nat → Int) → (Nat → Nat → Lf) → Bool → (Nat → Int) → (Nat → Nat → Lf) → Prop) : Prop :=
  regs_Regs_none a0_0 a0_1 a0_2 fun y0 y1 y2 y3 => br y0 (K 0 z2 1 y1 y2 y3 a1_0 a1_1 a1_2) (regs_Regs_none a1_0 a1_1 a1_2 fun y0 y1_1 y2_1 y3_1 => br y0 (K 0 z2 1 y1 y2 y3 y1_1 y2_1 y3_1) (∃ n, regs_Changed.l5 (fun y0 y1 y2 y3 y4 y5 => ∃ n, regs_Changed.l11 (fun y0 y1 y2 y3 y4 y5 => K 0 z2 0 y0 y1 y2 y3 y4 y5) (fun y0 y1 y2 y3 y4 y5 y6 y7 y8 => K y0 y8 0 y1 y2 y3 y4 y5 y6) n y5 0 y0 y1 y2 y3 y4 y5) (fun y0 y1 y2 y3 y4 y5 y6 y7 y8 => ∃ n, regs_Changed.l11h1 (fun y0 y1 y2 y3 y4 y5 y6 y7 y8 => K y0 y8 0 y1 y2 y3 y4 y5 y6) n y0 y6 0 y1 y2 y3 y4 y5 y6 y7 y8) n y2_1 0 y1 y2 y3 y1_1 y2_1 y3_1))
noncomputable def regs_Changed : Bool → (Nat → Int) → (Nat → Nat → Lf) → Bool → (Nat → Int) → (Nat → Nat → Lf) → (Nat → (Nat → Nat → Lf) → Int → Bool → (Nat → Int) → (Nat → Nat → Lf) → Bool → (Nat → Int) → (Nat → Nat → Lf) → Prop) → Prop := Classical.choose (⟨regs_Changed.d, rfl⟩ : ∃ f, f = regs_Changed.d)
theorem regs_Changed.is : regs_Changed = regs_Changed.d := Classical.choose_spec (⟨regs_Changed.d, rfl⟩ : ∃ f, f = regs_Changed.d)
def regs_Regs_Change.l5.step (again : Nat → (Nat → Nat → Lf) → Int → Int → Bool → (Nat → Int) → (Nat → Nat → Lf) → Bool → (Nat → Int) → (Nat → Nat → Lf) → Prop) (k0 : Int → Bool → (Nat → Int) → (Nat → Nat → Lf) → Prop) (k1 : Bool → (Nat → Int) → (Nat → Nat → Lf) → Bool → (Nat → Int) → (Nat → Nat → Lf) → Prop) (x0 : Nat) (x1 : Nat → Nat → Lf) (x2 : Int) (x3 : Int) (x4 : Bool) (x5 : Nat → Int) (x6 : Nat → Nat → Lf) (x7 : Bool) (x8 : Nat → Int) (x9 : Nat → Nat → Lf) : Prop :=
  br (ltI x3 x2) (gd (leI 0 x3 && ltI x3 ↑x0) (br (isT (Lf.toI (x1 (Int.toNat x3) 0))) (br (!eqI (Lf.toI (x1 (Int.toNat x3) 2)) 0) (br (!eqI (Lf.toI (x1 (Int.toNat x3) 2)) 0) (k0 2 x4 x5 x6) (br (isT (Lf.toI (x1 (Int.toNat x3) 0))) (regs_Regs_SetF x7 x8 x9 (Lf.toI (x1 (Int.toNat x3) 1)) (Lf.toI (x1 (Int.toNat x3) 3)) (Lf.toI (x1 (Int.toNat x3) 4)) fun y0 y1 y2 y3 => br (!eqI y0 0) (k0 y0 x4 x5 x6) (again x0 x1 x2 (addI IntKind.i64 x3 1) x4 x5 x6 y1 y2 y3)) (regs_Regs_SetX x7 x8 x9 (Lf.toI (x1 (Int.toNat x3) 1)) (Lf.toI (x1 (Int.toNat x3) 2)) fun y0 y1 y2 y3 => br (!eqI y0 0) (k0 y0 x4 x5 x6) (again x0 x1 x2 (addI IntKind.i64 x3 1) x4 x5 x6 y1 y2 y3)))) (br (!isT (Lf.toI (x1 (Int.toNat x3) 0))) (br (!(eqI (Lf.toI (x1 (Int.toNat x3) 3)) 0 && eqI (Lf.toI (x1 (Int.toNat x3) 4)) 0)) (k0 2 x4 x5 x6) (br (isT (Lf.toI (x1 (Int.toNat x3) 0))) (regs_Regs_SetF x7 x8 x9 (Lf.toI (x1 (Int.toNat x3) 1)) (Lf.toI (x1 (Int.toNat x3) 3)) (Lf.toI (x1 (Int.toNat x3) 4)) fun y0 y1 y2 y3 => br (!eqI y0 0) (k0 y0 x4 x5 x6) (again x0 x1 x2 (addI IntKind.i64 x3 1) x4 x5 x6 y1 y2 y3)) (regs_Regs_SetX x7 x8 x9 (Lf.toI (x1 (Int.toNat x3) 1)) (Lf.toI (x1 (Int.toNat x3) 2)) fun y0 y1 y2 y3 => br (!eqI y0 0) (k0 y0 x4 x5 x6) (again x0 x1 x2 (addI IntKind.i64 x3 1) x4 x5 x6 y1 y2 y3)))) (br (isT (Lf.toI (x1 (Int.toNat x3) 0))) (regs_Regs_SetF x7 x8 x9 (Lf.toI (x1 (Int.toNat x3) 1)) (Lf.toI (x1 (Int.toNat x3) 3)) (Lf.toI (x1 (Int.toNat x3) 4)) fun y0 y1 y2 y3 => br (!eqI y0 0) (k0 y0 x4 x5 x6) (again x0 x1 x2 (addI IntKind.i64 x3 1) x4 x5 x6 y1 y2 y3)) (regs_Regs_SetX x7 x8 x9 (Lf.toI (x1 (Int.toNat x3) 1)) (Lf.toI (x1 (Int.toNat x3) 2)) fun y0 y1 y2 y3 => br (!eqI y0 0) (k0 y0 x4 x5 x6) (again x0 x1 x2 (addI IntKind.i64 x3 1) x4 x5 x6 y1 y2 y3))))) (br (!isT (Lf.toI (x1 (Int.toNat x3) 0))) (br (!(eqI (Lf.toI (x1 (Int.toNat x3) 3)) 0 && eqI (Lf.toI (x1 (Int.toNat x3) 4)) 0)) (k0 2 x4 x5 x6) (br (isT (Lf.toI (x1 (Int.toNat x3) 0))) (regs_Regs_SetF x7 x8 x9 (Lf.toI (x1 (Int.toNat x3) 1)) (Lf.toI (x1 (Int.toNat x3) 3)) (Lf.toI (x1 (Int.toNat x3) 4)) fun y0 y1 y2 y3 => br (!eqI y0 0) (k0 y0 x4 x5 x6) (again x0 x1 x2 (addI IntKind.i64 x3 1) x4 x5 x6 y1 y2 y3)) (regs_Regs_SetX x7 x8 x9 (Lf.toI (x1 (Int.toNat x3) 1)) (Lf.toI (x1 (Int.toNat x3) 2)) fun y0 y1 y2 y3 => br (!eqI y0 0) (k0 y0 x4 x5 x6) (again x0 x1 x2 (addI IntKind.i64 x3 1) x4 x5 x6 y1 y2 y3)))) (br (isT (Lf.toI (x1 (Int.toNat x3) 0))) (regs_Regs_SetF x7 x8 x9 (Lf.toI (x1 (Int.toNat x3) 1)) (Lf.toI (x1 (Int.toNat x3) 3)) (Lf.toI (x1 (Int.toNat x3) 4)) fun y0 y1 y2 y3 => br (!eqI y0 0) (k0 y0 x4 x5 x6) (again x0 x1 x2 (addI IntKind.i64 x3 1) x4 x5 x6 y1 y2 y3)) (regs_Regs_SetX x7 x8 x9 (Lf.toI (x1 (Int.toNat x3) 1)) (Lf.toI (x1 (Int.toNat x3) 2)) fun y0 y1 y2 y3 => br (!eqI y0 0) (k0 y0 x4 x5 x6) (again x0 x1 x2 (addI IntKind.i64 x3 1) x4 x5 x6 y1 y2 y3)))))) (k1 x4 x5 x6 x7 x8 x9)
def regs_Regs_Change.l5 (k0 : Int → Bool → (Nat → Int) → (Nat → Nat → Lf) → Prop) (k1 : Bool → (Nat → Int) → (Nat → Nat → Lf) → Bool → (Nat → Int) → (Nat → Nat → Lf) → Prop) : Nat → Nat → (Nat → Nat → Lf) → Int → Int → Bool → (Nat → Int) → (Nat → Nat → Lf) → Bool → (Nat → Int) → (Nat → Nat → Lf) → Prop
  | 0 => fun _ _ _ _ _ _ _ _ _ _ => False
  | n + 1 => regs_Regs_Change.l5.step (regs_Regs_Change.l5 k0 k1 n) k0 k1
def regs_Regs_Change.l5.entry : LoopEntry := ⟨LV.mk 33 [(0, 33)] 16 1 false, 1, 57, fun vs H K => match vs, H with
  | [EV.ptr 0 [], EV.ptr 1 [], EV.rsT x0 (Sk.agg [Sk.bool, Sk.int IntKind.i64, Sk.int IntKind.u64, Sk.agg [Sk.int IntKind.u64, Sk.int IntKind.u64]]) x1, EV.int IntKind.i64 x2, EV.int IntKind.i64 x3], [some (EV.agg [EV.bool x4, EV.arr IntKind.u64 32 x5, EV.arrT 32 (Sk.agg [Sk.int IntKind.u64, Sk.int IntKind.u64]) x6]), some (EV.agg [EV.bool x7, EV.arr IntKind.u64 32 x8, EV.arrT 32 (Sk.agg [Sk.int IntKind.u64, Sk.int IntKind.u64]) x9])] => ∃ n, regs_Regs_Change.l5 (fun y0 y1 y2 y3 => K .ret [EV.int IntKind.i64 y0] [some (EV.agg [EV.bool y1, EV.arr IntKind.u64 32 y2, EV.arrT 32 (Sk.agg [Sk.int IntKind.u64, Sk.int IntKind.u64]) y3])]) (fun y0 y1 y2 y3 y4 y5 => K (.exit 0) [EV.ptr 0 [], EV.ptr 1 []] [some (EV.agg [EV.bool y0, EV.arr IntKind.u64 32 y1, EV.arrT 32 (Sk.agg [Sk.int IntKind.u64, Sk.int IntKind.u64]) y2]), some (EV.agg [EV.bool y3, EV.arr IntKind.u64 32 y4, EV.arrT 32 (Sk.agg [Sk.int IntKind.u64, Sk.int IntKind.u64]) y5])]) n x0 x1 x2 x3 x4 x5 x6 x7 x8 x9
  | _, _ => False⟩
def regs_Regs_Change.d (a0_0 : Bool) (a0_1 : Nat → Int) (a0_2 : Nat → Nat → Lf) (a1n : Nat) (a1 : Nat → Nat → Lf) (K : Int → Bool → (Nat → Int) → (Nat → Nat → Lf) → Prop) : Prop :=
  regs_Regs_none a0_0 a0_1 a0_2 fun y0 y1 y2 y3 => br y0 (K 1 y1 y2 y3) (∃ n, regs_Regs_Change.l5 (fun y0 y1 y2 y3 => K y0 y1 y2 y3) (fun y0 y1 y2 y3 y4 y5 => K 0 y3 y4 y5) n a1n a1 (↑a1n) 0 y1 y2 y3 y1 y2 y3)
noncomputable def regs_Regs_Change : Bool → (Nat → Int) → (Nat → Nat → Lf) → Nat → (Nat → Nat → Lf) → (Int → Bool → (Nat → Int) → (Nat → Nat → Lf) → Prop) → Prop := Classical.choose (⟨regs_Regs_Change.d, rfl⟩ : ∃ f, f = regs_Regs_Change.d)
theorem regs_Regs_Change.is : regs_Regs_Change = regs_Regs_Change.d := Classical.choose_spec (⟨regs_Regs_Change.d, rfl⟩ : ∃ f, f = regs_Regs_Change.d)
def regs_Regs_Copy.d (a0_0 : Bool) (a0_1 : Nat → Int) (a0_2 : Nat → Nat → Lf) (K0 : Bool → (Nat → Int) → (Nat → Nat → Lf) → Prop) (K1 : Bool → (Nat → Int) → (Nat → Nat → Lf) → Bool → (Nat → Int) → (Nat → Nat → Lf) → Prop) : Prop :=
  regs_Regs_none a0_0 a0_1 a0_2 fun y0 y1 y2 y3 => br y0 (K0 y1 y2 y3) (K1 y1 y2 y3 y1 y2 y3)
noncomputable def regs_Regs_Copy : Bool → (Nat → Int) → (Nat → Nat → Lf) → (Bool → (Nat → Int) → (Nat → Nat → Lf) → Prop) → (Bool → (Nat → Int) → (Nat → Nat → Lf) → Bool → (Nat → Int) → (Nat → Nat → Lf) → Prop) → Prop := Classical.choose (⟨regs_Regs_Copy.d, rfl⟩ : ∃ f, f = regs_Regs_Copy.d)
theorem regs_Regs_Copy.is : regs_Regs_Copy = regs_Regs_Copy.d := Classical.choose_spec (⟨regs_Regs_Copy.d, rfl⟩ : ∃ f, f = regs_Regs_Copy.d)
def regs_Regs_Tell.d (a0_0 : Bool) (a0_1 : Nat → Int) (a0_2 : Nat → Nat → Lf) (K : (Nat → Int) → (Nat → Nat → Lf) → Bool → (Nat → Int) → (Nat → Nat → Lf) → Prop) : Prop :=
  regs_Regs_none a0_0 a0_1 a0_2 fun y0 y1 y2 y3 => br y0 (K (fun x => 0) z2 y1 y2 y3) (K y2 y3 y1 y2 y3)
noncomputable def regs_Regs_Tell : Bool → (Nat → Int) → (Nat → Nat → Lf) → ((Nat → Int) → (Nat → Nat → Lf) → Bool → (Nat → Int) → (Nat → Nat → Lf) → Prop) → Prop := Classical.choose (⟨regs_Regs_Tell.d, rfl⟩ : ∃ f, f = regs_Regs_Tell.d)
theorem regs_Regs_Tell.is : regs_Regs_Tell = regs_Regs_Tell.d := Classical.choose_spec (⟨regs_Regs_Tell.d, rfl⟩ : ∃ f, f = regs_Regs_Tell.d)
def regs_Same.d (a0_0 : Bool) (a0_1 : Nat → Int) (a0_2 : Nat → Nat → Lf) (a1_0 : Bool) (a1_1 : Nat → Int) (a1_2 : Nat → Nat → Lf) (K : Bool → Bool → (Nat → Int) → (Nat → Nat → Lf) → Bool → (Nat → Int) → (Nat → Nat → Lf) → Prop) : Prop :=
  regs_Regs_none a0_0 a0_1 a0_2 fun y0 y1 y2 y3 => br (!y0) (regs_Regs_none a1_0 a1_1 a1_2 fun y0 y1_1 y2_1 y3_1 => br (!y0) (K (beqB y1 y1_1 && (eqN 32 y2 y2_1 && eqTb (Sk.agg [Sk.int IntKind.u64, Sk.int IntKind.u64]) 32 y3 y3_1)) y1 y2 y3 y1_1 y2_1 y3_1) (K false y1 y2 y3 y1_1 y2_1 y3_1)) (K false y1 y2 y3 a1_0 a1_1 a1_2)
noncomputable def regs_Same : Bool → (Nat → Int) → (Nat → Nat → Lf) → Bool → (Nat → Int) → (Nat → Nat → Lf) → (Bool → Bool → (Nat → Int) → (Nat → Nat → Lf) → Bool → (Nat → Int) → (Nat → Nat → Lf) → Prop) → Prop := Classical.choose (⟨regs_Same.d, rfl⟩ : ∃ f, f = regs_Same.d)
theorem regs_Same.is : regs_Same = regs_Same.d := Classical.choose_spec (⟨regs_Same.d, rfl⟩ : ∃ f, f = regs_Same.d)
def regs_From.d (a0_0 : Nat → Int) (a0_1 : Nat → Nat → Lf) (K : Bool → (Nat → Int) → (Nat → Nat → Lf) → Prop) : Prop :=
  K true (upd a0_0 0 0) a0_1
noncomputable def regs_From : (Nat → Int) → (Nat → Nat → Lf) → (Bool → (Nat → Int) → (Nat → Nat → Lf) → Prop) → Prop := Classical.choose (⟨regs_From.d, rfl⟩ : ∃ f, f = regs_From.d)
theorem regs_From.is : regs_From = regs_From.d := Classical.choose_spec (⟨regs_From.d, rfl⟩ : ∃ f, f = regs_From.d)
def law23_RegsBack.l14.step (again : Int → Int → Int → Int → Int → Int → Int → Int → Int → Int → Nat → (Nat → Nat → Lf) → Bool → (Nat → Int) → (Nat → Nat → Lf) → (Nat → Int) → (Nat → Nat → Lf) → (Nat → Int) → (Nat → Nat → Lf) → Int → Int → Int → Int → Prop) (k0 : Bool → Prop) (k1 : Int → Int → Int → Int → Int → Int → Int → Int → Int → Nat → (Nat → Nat → Lf) → Bool → (Nat → Int) → (Nat → Nat → Lf) → (Nat → Int) → (Nat → Nat → Lf) → Int → Int → Int → Int → Prop) (x0 : Int) (x1 : Int) (x2 : Int) (x3 : Int) (x4 : Int) (x5 : Int) (x6 : Int) (x7 : Int) (x8 : Int) (x9 : Int) (x10 : Nat) (x11 : Nat → Nat → Lf) (x12 : Bool) (x13 : Nat → Int) (x14 : Nat → Nat → Lf) (x15 : Nat → Int) (x16 : Nat → Nat → Lf) (x17 : Nat → Int) (x18 : Nat → Nat → Lf) (x19 : Int) (x20 : Int) (x21 : Int) (x22 : Int) : Prop :=
  br (ltI x2 32) (gd (leI 0 x2 && ltI x2 32) (gd (leI 0 x2 && ltI x2 32) (br (!eqI (x17 (Int.toNat x2)) (x15 (Int.toNat x2))) (k0 false) (br (!eqI x2 x5) (gd (leI 0 x2 && ltI x2 32) (gd (leI 0 x2 && ltI x2 32) (br (!(eqI (Lf.toI (x18 (Int.toNat x2) 0)) (Lf.toI (x16 (Int.toNat x2) 0)) && eqI (Lf.toI (x18 (Int.toNat x2) 1)) (Lf.toI (x16 (Int.toNat x2) 1)))) (k0 false) (again x0 x1 (addI IntKind.i64 x2 1) x3 x4 x5 x6 x7 x8 x9 x10 x11 x12 x13 x14 x15 x16 x17 x18 x19 x20 x21 x22)))) (again x0 x1 (addI IntKind.i64 x2 1) x3 x4 x5 x6 x7 x8 x9 x10 x11 x12 x13 x14 x15 x16 x17 x18 x19 x20 x21 x22))))) (k1 x0 x1 x3 x4 x5 x6 x7 x8 x9 x10 x11 x12 x13 x14 x15 x16 x19 x20 x21 x22)
def law23_RegsBack.l14 (k0 : Bool → Prop) (k1 : Int → Int → Int → Int → Int → Int → Int → Int → Int → Nat → (Nat → Nat → Lf) → Bool → (Nat → Int) → (Nat → Nat → Lf) → (Nat → Int) → (Nat → Nat → Lf) → Int → Int → Int → Int → Prop) : Nat → Int → Int → Int → Int → Int → Int → Int → Int → Int → Int → Nat → (Nat → Nat → Lf) → Bool → (Nat → Int) → (Nat → Nat → Lf) → (Nat → Int) → (Nat → Nat → Lf) → (Nat → Int) → (Nat → Nat → Lf) → Int → Int → Int → Int → Prop
  | 0 => fun _ _ _ _ _ _ _ _ _ _ _ _ _ _ _ _ _ _ _ _ _ _ _ => False
  | n + 1 => law23_RegsBack.l14.step (law23_RegsBack.l14 k0 k1 n) k0 k1
def law23_RegsBack.l14.entry : LoopEntry := ⟨LV.mk 497696 [(0, 497696)] 64 0 false, 0, 157, fun vs H K => match vs, H with
  | [EV.ptr 0 [], EV.ptr 1 [], EV.ptr 2 [], EV.ptr 3 [], EV.ptr 4 [], EV.int IntKind.i64 x0, EV.ptr 5 [], EV.int IntKind.i64 x1, EV.int IntKind.i64 x2], [some (EV.agg [EV.int IntKind.i64 x3, EV.int IntKind.i64 x4, EV.int IntKind.i64 x5, EV.int IntKind.u64 x6, EV.agg [EV.int IntKind.u64 x7, EV.int IntKind.u64 x8], EV.int IntKind.u8 x9, EV.rsT x10 (Sk.agg [Sk.bool, Sk.int IntKind.i64, Sk.int IntKind.u64, Sk.agg [Sk.int IntKind.u64, Sk.int IntKind.u64]]) x11]), some (EV.agg [EV.bool x12, EV.arr IntKind.u64 32 x13, EV.arrT 32 (Sk.agg [Sk.int IntKind.u64, Sk.int IntKind.u64]) x14]), some (EV.agg [EV.arr IntKind.u64 32 x15, EV.arrT 32 (Sk.agg [Sk.int IntKind.u64, Sk.int IntKind.u64]) x16]), some (EV.agg [EV.arr IntKind.u64 32 x17, EV.arrT 32 (Sk.agg [Sk.int IntKind.u64, Sk.int IntKind.u64]) x18]), some (EV.agg [EV.int IntKind.u64 x19, EV.int IntKind.u64 x20]), some (EV.agg [EV.int IntKind.u64 x21, EV.int IntKind.u64 x22])] => ∃ n, law23_RegsBack.l14 (fun y0 => K .ret [EV.bool y0] []) (fun y0 y1 y2 y3 y4 y5 y6 y7 y8 y9 y10 y11 y12 y13 y14 y15 y16 y17 y18 y19 => K (.exit 0) [EV.ptr 0 [], EV.ptr 1 [], EV.ptr 2 [], EV.ptr 3 [], EV.int IntKind.i64 y0, EV.ptr 4 [], EV.int IntKind.i64 y1] [some (EV.agg [EV.int IntKind.i64 y2, EV.int IntKind.i64 y3, EV.int IntKind.i64 y4, EV.int IntKind.u64 y5, EV.agg [EV.int IntKind.u64 y6, EV.int IntKind.u64 y7], EV.int IntKind.u8 y8, EV.rsT y9 (Sk.agg [Sk.bool, Sk.int IntKind.i64, Sk.int IntKind.u64, Sk.agg [Sk.int IntKind.u64, Sk.int IntKind.u64]]) y10]), some (EV.agg [EV.bool y11, EV.arr IntKind.u64 32 y12, EV.arrT 32 (Sk.agg [Sk.int IntKind.u64, Sk.int IntKind.u64]) y13]), some (EV.agg [EV.arr IntKind.u64 32 y14, EV.arrT 32 (Sk.agg [Sk.int IntKind.u64, Sk.int IntKind.u64]) y15]), some (EV.agg [EV.int IntKind.u64 y16, EV.int IntKind.u64 y17]), some (EV.agg [EV.int IntKind.u64 y18, EV.int IntKind.u64 y19])]) n x0 x1 x2 x3 x4 x5 x6 x7 x8 x9 x10 x11 x12 x13 x14 x15 x16 x17 x18 x19 x20 x21 x22
  | _, _ => False⟩
def law23_RegsBack.d (a0_0 : Nat → Int) (a0_1 : Nat → Nat → Lf) (a1_0 : Nat → Int) (a1_1 : Nat → Nat → Lf) (a2_0 : Int) (a2_1 : Int) (a2_2 : Int) (a2_3 : Int) (a2_4_0 : Int) (a2_4_1 : Int) (a2_5 : Int) (a2_6n : Nat) (a2_6 : Nat → Nat → Lf) (K : Bool → Prop) : Prop :=
  regs_From a0_0 a0_1 fun y0 y1 y2 => regs_From a1_0 a1_1 fun y0_1 y1_1 y2_1 => regs_Changed y0 y1 y2 y0_1 y1_1 y2_1 fun y0 y1 y2 y3 y4 y5 y6 y7 y8 => regs_Regs_Copy y3 y4 y5 (fun y0 y1 y2_2 => br (!eqI y2 0) (K false) (K false)) fun y0_2 y1_2 y2_2 y3 y4 y5 => br (!eqI y2 0) (K false) (regs_Regs_Change y3 y4 y5 y0 y1 fun y0 y1 y2 y3 => br (!eqI y0 0) (K false) (regs_Same y1 y2 y3 y6 y7 y8 fun y0 y1_3 y2_3 y3_1 y4 y5 y6_1 => keepH [some (EV.agg [EV.arr IntKind.u64 32 a0_0, EV.arrT 32 (Sk.agg [Sk.int IntKind.u64, Sk.int IntKind.u64]) a0_1]), some (EV.agg [EV.arr IntKind.u64 32 a1_0, EV.arrT 32 (Sk.agg [Sk.int IntKind.u64, Sk.int IntKind.u64]) a1_1]), some (EV.agg [EV.int IntKind.i64 a2_0, EV.int IntKind.i64 a2_1, EV.int IntKind.i64 a2_2, EV.int IntKind.u64 a2_3, EV.agg [EV.int IntKind.u64 a2_4_0, EV.int IntKind.u64 a2_4_1], EV.int IntKind.u8 a2_5, EV.rsT a2_6n (Sk.agg [Sk.bool, Sk.int IntKind.i64, Sk.int IntKind.u64, Sk.agg [Sk.int IntKind.u64, Sk.int IntKind.u64]]) a2_6]), some (EV.agg [EV.bool y0_2, EV.arr IntKind.u64 32 y1_2, EV.arrT 32 (Sk.agg [Sk.int IntKind.u64, Sk.int IntKind.u64]) y2_2]), some (EV.agg [EV.bool y4, EV.arr IntKind.u64 32 y5, EV.arrT 32 (Sk.agg [Sk.int IntKind.u64, Sk.int IntKind.u64]) y6_1]), some (EV.agg [EV.bool y1_3, EV.arr IntKind.u64 32 y2_3, EV.arrT 32 (Sk.agg [Sk.int IntKind.u64, Sk.int IntKind.u64]) y3_1])] [some (EV.agg [EV.arr IntKind.u64 32 a0_0, EV.arrT 32 (Sk.agg [Sk.int IntKind.u64, Sk.int IntKind.u64]) a0_1]), some (EV.agg [EV.arr IntKind.u64 32 a1_0, EV.arrT 32 (Sk.agg [Sk.int IntKind.u64, Sk.int IntKind.u64]) a1_1]), some (EV.agg [EV.int IntKind.i64 a2_0, EV.int IntKind.i64 a2_1, EV.int IntKind.i64 a2_2, EV.int IntKind.u64 a2_3, EV.agg [EV.int IntKind.u64 a2_4_0, EV.int IntKind.u64 a2_4_1], EV.int IntKind.u8 a2_5, EV.rsT a2_6n (Sk.agg [Sk.bool, Sk.int IntKind.i64, Sk.int IntKind.u64, Sk.agg [Sk.int IntKind.u64, Sk.int IntKind.u64]]) a2_6]), some (EV.agg [EV.bool y0_2, EV.arr IntKind.u64 32 y1_2, EV.arrT 32 (Sk.agg [Sk.int IntKind.u64, Sk.int IntKind.u64]) y2_2]), some (EV.agg [EV.bool y6, EV.arr IntKind.u64 32 y7, EV.arrT 32 (Sk.agg [Sk.int IntKind.u64, Sk.int IntKind.u64]) y8]), some (EV.agg [EV.bool y1, EV.arr IntKind.u64 32 y2, EV.arrT 32 (Sk.agg [Sk.int IntKind.u64, Sk.int IntKind.u64]) y3])] ∧ br (!y0) (K false) (regs_Regs_Tell y0_2 y1_2 y2_2 fun y0 y1_4 y2_4 y3_2 y4 => keepH [some (EV.agg [EV.arr IntKind.u64 32 a0_0, EV.arrT 32 (Sk.agg [Sk.int IntKind.u64, Sk.int IntKind.u64]) a0_1]), some (EV.agg [EV.arr IntKind.u64 32 a1_0, EV.arrT 32 (Sk.agg [Sk.int IntKind.u64, Sk.int IntKind.u64]) a1_1]), some (EV.agg [EV.int IntKind.i64 a2_0, EV.int IntKind.i64 a2_1, EV.int IntKind.i64 a2_2, EV.int IntKind.u64 a2_3, EV.agg [EV.int IntKind.u64 a2_4_0, EV.int IntKind.u64 a2_4_1], EV.int IntKind.u8 a2_5, EV.rsT a2_6n (Sk.agg [Sk.bool, Sk.int IntKind.i64, Sk.int IntKind.u64, Sk.agg [Sk.int IntKind.u64, Sk.int IntKind.u64]]) a2_6]), some (EV.agg [EV.bool y2_4, EV.arr IntKind.u64 32 y3_2, EV.arrT 32 (Sk.agg [Sk.int IntKind.u64, Sk.int IntKind.u64]) y4]), some (EV.agg [EV.bool y6, EV.arr IntKind.u64 32 y7, EV.arrT 32 (Sk.agg [Sk.int IntKind.u64, Sk.int IntKind.u64]) y8]), some (EV.agg [EV.bool y1, EV.arr IntKind.u64 32 y2, EV.arrT 32 (Sk.agg [Sk.int IntKind.u64, Sk.int IntKind.u64]) y3])] [some (EV.agg [EV.arr IntKind.u64 32 a0_0, EV.arrT 32 (Sk.agg [Sk.int IntKind.u64, Sk.int IntKind.u64]) a0_1]), some (EV.agg [EV.arr IntKind.u64 32 a1_0, EV.arrT 32 (Sk.agg [Sk.int IntKind.u64, Sk.int IntKind.u64]) a1_1]), some (EV.agg [EV.int IntKind.i64 a2_0, EV.int IntKind.i64 a2_1, EV.int IntKind.i64 a2_2, EV.int IntKind.u64 a2_3, EV.agg [EV.int IntKind.u64 a2_4_0, EV.int IntKind.u64 a2_4_1], EV.int IntKind.u8 a2_5, EV.rsT a2_6n (Sk.agg [Sk.bool, Sk.int IntKind.i64, Sk.int IntKind.u64, Sk.agg [Sk.int IntKind.u64, Sk.int IntKind.u64]]) a2_6]), some (EV.agg [EV.bool y0_2, EV.arr IntKind.u64 32 y1_2, EV.arrT 32 (Sk.agg [Sk.int IntKind.u64, Sk.int IntKind.u64]) y2_2]), some (EV.agg [EV.bool y6, EV.arr IntKind.u64 32 y7, EV.arrT 32 (Sk.agg [Sk.int IntKind.u64, Sk.int IntKind.u64]) y8]), some (EV.agg [EV.bool y1, EV.arr IntKind.u64 32 y2, EV.arrT 32 (Sk.agg [Sk.int IntKind.u64, Sk.int IntKind.u64]) y3])] ∧ regs_From y0 y1_4 fun y0 y1_5 y2_5 => regs_Same y0 y1_5 y2_5 y0_2 y1_2 y2_2 fun y0_3 y1_6 y2_6 y3_3 y4 y5 y6_2 => keepH [some (EV.agg [EV.arr IntKind.u64 32 a0_0, EV.arrT 32 (Sk.agg [Sk.int IntKind.u64, Sk.int IntKind.u64]) a0_1]), some (EV.agg [EV.arr IntKind.u64 32 a1_0, EV.arrT 32 (Sk.agg [Sk.int IntKind.u64, Sk.int IntKind.u64]) a1_1]), some (EV.agg [EV.int IntKind.i64 a2_0, EV.int IntKind.i64 a2_1, EV.int IntKind.i64 a2_2, EV.int IntKind.u64 a2_3, EV.agg [EV.int IntKind.u64 a2_4_0, EV.int IntKind.u64 a2_4_1], EV.int IntKind.u8 a2_5, EV.rsT a2_6n (Sk.agg [Sk.bool, Sk.int IntKind.i64, Sk.int IntKind.u64, Sk.agg [Sk.int IntKind.u64, Sk.int IntKind.u64]]) a2_6]), some (EV.agg [EV.bool y4, EV.arr IntKind.u64 32 y5, EV.arrT 32 (Sk.agg [Sk.int IntKind.u64, Sk.int IntKind.u64]) y6_2]), some (EV.agg [EV.bool y6, EV.arr IntKind.u64 32 y7, EV.arrT 32 (Sk.agg [Sk.int IntKind.u64, Sk.int IntKind.u64]) y8]), some (EV.agg [EV.bool y1, EV.arr IntKind.u64 32 y2, EV.arrT 32 (Sk.agg [Sk.int IntKind.u64, Sk.int IntKind.u64]) y3]), some (EV.agg [EV.bool y1_6, EV.arr IntKind.u64 32 y2_6, EV.arrT 32 (Sk.agg [Sk.int IntKind.u64, Sk.int IntKind.u64]) y3_3])] [some (EV.agg [EV.arr IntKind.u64 32 a0_0, EV.arrT 32 (Sk.agg [Sk.int IntKind.u64, Sk.int IntKind.u64]) a0_1]), some (EV.agg [EV.arr IntKind.u64 32 a1_0, EV.arrT 32 (Sk.agg [Sk.int IntKind.u64, Sk.int IntKind.u64]) a1_1]), some (EV.agg [EV.int IntKind.i64 a2_0, EV.int IntKind.i64 a2_1, EV.int IntKind.i64 a2_2, EV.int IntKind.u64 a2_3, EV.agg [EV.int IntKind.u64 a2_4_0, EV.int IntKind.u64 a2_4_1], EV.int IntKind.u8 a2_5, EV.rsT a2_6n (Sk.agg [Sk.bool, Sk.int IntKind.i64, Sk.int IntKind.u64, Sk.agg [Sk.int IntKind.u64, Sk.int IntKind.u64]]) a2_6]), some (EV.agg [EV.bool y0_2, EV.arr IntKind.u64 32 y1_2, EV.arrT 32 (Sk.agg [Sk.int IntKind.u64, Sk.int IntKind.u64]) y2_2]), some (EV.agg [EV.bool y6, EV.arr IntKind.u64 32 y7, EV.arrT 32 (Sk.agg [Sk.int IntKind.u64, Sk.int IntKind.u64]) y8]), some (EV.agg [EV.bool y1, EV.arr IntKind.u64 32 y2, EV.arrT 32 (Sk.agg [Sk.int IntKind.u64, Sk.int IntKind.u64]) y3]), some (EV.agg [EV.bool y0, EV.arr IntKind.u64 32 y1_5, EV.arrT 32 (Sk.agg [Sk.int IntKind.u64, Sk.int IntKind.u64]) y2_5])] ∧ br (!y0_3) (K false) (regs_Regs_Tell y6 y7 y8 fun y0_4 y1_7 y2_7 y3_4 y4 => keepH [some (EV.agg [EV.arr IntKind.u64 32 a0_0, EV.arrT 32 (Sk.agg [Sk.int IntKind.u64, Sk.int IntKind.u64]) a0_1]), some (EV.agg [EV.arr IntKind.u64 32 a1_0, EV.arrT 32 (Sk.agg [Sk.int IntKind.u64, Sk.int IntKind.u64]) a1_1]), some (EV.agg [EV.int IntKind.i64 a2_0, EV.int IntKind.i64 a2_1, EV.int IntKind.i64 a2_2, EV.int IntKind.u64 a2_3, EV.agg [EV.int IntKind.u64 a2_4_0, EV.int IntKind.u64 a2_4_1], EV.int IntKind.u8 a2_5, EV.rsT a2_6n (Sk.agg [Sk.bool, Sk.int IntKind.i64, Sk.int IntKind.u64, Sk.agg [Sk.int IntKind.u64, Sk.int IntKind.u64]]) a2_6]), some (EV.agg [EV.bool y0_2, EV.arr IntKind.u64 32 y1_2, EV.arrT 32 (Sk.agg [Sk.int IntKind.u64, Sk.int IntKind.u64]) y2_2]), some (EV.agg [EV.bool y2_7, EV.arr IntKind.u64 32 y3_4, EV.arrT 32 (Sk.agg [Sk.int IntKind.u64, Sk.int IntKind.u64]) y4]), some (EV.agg [EV.bool y1, EV.arr IntKind.u64 32 y2, EV.arrT 32 (Sk.agg [Sk.int IntKind.u64, Sk.int IntKind.u64]) y3]), some (EV.agg [EV.bool y0, EV.arr IntKind.u64 32 y1_5, EV.arrT 32 (Sk.agg [Sk.int IntKind.u64, Sk.int IntKind.u64]) y2_5])] [some (EV.agg [EV.arr IntKind.u64 32 a0_0, EV.arrT 32 (Sk.agg [Sk.int IntKind.u64, Sk.int IntKind.u64]) a0_1]), some (EV.agg [EV.arr IntKind.u64 32 a1_0, EV.arrT 32 (Sk.agg [Sk.int IntKind.u64, Sk.int IntKind.u64]) a1_1]), some (EV.agg [EV.int IntKind.i64 a2_0, EV.int IntKind.i64 a2_1, EV.int IntKind.i64 a2_2, EV.int IntKind.u64 a2_3, EV.agg [EV.int IntKind.u64 a2_4_0, EV.int IntKind.u64 a2_4_1], EV.int IntKind.u8 a2_5, EV.rsT a2_6n (Sk.agg [Sk.bool, Sk.int IntKind.i64, Sk.int IntKind.u64, Sk.agg [Sk.int IntKind.u64, Sk.int IntKind.u64]]) a2_6]), some (EV.agg [EV.bool y0_2, EV.arr IntKind.u64 32 y1_2, EV.arrT 32 (Sk.agg [Sk.int IntKind.u64, Sk.int IntKind.u64]) y2_2]), some (EV.agg [EV.bool y6, EV.arr IntKind.u64 32 y7, EV.arrT 32 (Sk.agg [Sk.int IntKind.u64, Sk.int IntKind.u64]) y8]), some (EV.agg [EV.bool y1, EV.arr IntKind.u64 32 y2, EV.arrT 32 (Sk.agg [Sk.int IntKind.u64, Sk.int IntKind.u64]) y3]), some (EV.agg [EV.bool y0, EV.arr IntKind.u64 32 y1_5, EV.arrT 32 (Sk.agg [Sk.int IntKind.u64, Sk.int IntKind.u64]) y2_5])] ∧ regs_Regs_Put y6 y7 y8 a2_5 a2_2 a2_4_0 a2_4_1 fun y0_5 y1_8 y2_8 y3_5 => regs_Regs_Tell y1_8 y2_8 y3_5 fun y0_6 y1_9 y2_9 y3_6 y4 => keepH [some (EV.agg [EV.arr IntKind.u64 32 a0_0, EV.arrT 32 (Sk.agg [Sk.int IntKind.u64, Sk.int IntKind.u64]) a0_1]), some (EV.agg [EV.arr IntKind.u64 32 a1_0, EV.arrT 32 (Sk.agg [Sk.int IntKind.u64, Sk.int IntKind.u64]) a1_1]), some (EV.agg [EV.int IntKind.i64 a2_0, EV.int IntKind.i64 a2_1, EV.int IntKind.i64 a2_2, EV.int IntKind.u64 a2_3, EV.agg [EV.int IntKind.u64 a2_4_0, EV.int IntKind.u64 a2_4_1], EV.int IntKind.u8 a2_5, EV.rsT a2_6n (Sk.agg [Sk.bool, Sk.int IntKind.i64, Sk.int IntKind.u64, Sk.agg [Sk.int IntKind.u64, Sk.int IntKind.u64]]) a2_6]), some (EV.agg [EV.bool y0_2, EV.arr IntKind.u64 32 y1_2, EV.arrT 32 (Sk.agg [Sk.int IntKind.u64, Sk.int IntKind.u64]) y2_2]), some (EV.agg [EV.bool y2_9, EV.arr IntKind.u64 32 y3_6, EV.arrT 32 (Sk.agg [Sk.int IntKind.u64, Sk.int IntKind.u64]) y4]), some (EV.agg [EV.bool y1, EV.arr IntKind.u64 32 y2, EV.arrT 32 (Sk.agg [Sk.int IntKind.u64, Sk.int IntKind.u64]) y3]), some (EV.agg [EV.bool y0, EV.arr IntKind.u64 32 y1_5, EV.arrT 32 (Sk.agg [Sk.int IntKind.u64, Sk.int IntKind.u64]) y2_5]), some (EV.agg [EV.arr IntKind.u64 32 y0_4, EV.arrT 32 (Sk.agg [Sk.int IntKind.u64, Sk.int IntKind.u64]) y1_7])] [some (EV.agg [EV.arr IntKind.u64 32 a0_0, EV.arrT 32 (Sk.agg [Sk.int IntKind.u64, Sk.int IntKind.u64]) a0_1]), some (EV.agg [EV.arr IntKind.u64 32 a1_0, EV.arrT 32 (Sk.agg [Sk.int IntKind.u64, Sk.int IntKind.u64]) a1_1]), some (EV.agg [EV.int IntKind.i64 a2_0, EV.int IntKind.i64 a2_1, EV.int IntKind.i64 a2_2, EV.int IntKind.u64 a2_3, EV.agg [EV.int IntKind.u64 a2_4_0, EV.int IntKind.u64 a2_4_1], EV.int IntKind.u8 a2_5, EV.rsT a2_6n (Sk.agg [Sk.bool, Sk.int IntKind.i64, Sk.int IntKind.u64, Sk.agg [Sk.int IntKind.u64, Sk.int IntKind.u64]]) a2_6]), some (EV.agg [EV.bool y0_2, EV.arr IntKind.u64 32 y1_2, EV.arrT 32 (Sk.agg [Sk.int IntKind.u64, Sk.int IntKind.u64]) y2_2]), some (EV.agg [EV.bool y1_8, EV.arr IntKind.u64 32 y2_8, EV.arrT 32 (Sk.agg [Sk.int IntKind.u64, Sk.int IntKind.u64]) y3_5]), some (EV.agg [EV.bool y1, EV.arr IntKind.u64 32 y2, EV.arrT 32 (Sk.agg [Sk.int IntKind.u64, Sk.int IntKind.u64]) y3]), some (EV.agg [EV.bool y0, EV.arr IntKind.u64 32 y1_5, EV.arrT 32 (Sk.agg [Sk.int IntKind.u64, Sk.int IntKind.u64]) y2_5]), some (EV.agg [EV.arr IntKind.u64 32 y0_4, EV.arrT 32 (Sk.agg [Sk.int IntKind.u64, Sk.int IntKind.u64]) y1_7])] ∧ br (!eqI y0_5 0) (br (eqN 32 y0_6 y0_4 && eqTb (Sk.agg [Sk.int IntKind.u64, Sk.int IntKind.u64]) 32 y1_9 y1_7) (br (eqI y0_5 2) (law23_lives fun y0 => K y0) (K false)) (K false)) (regs_Regs_Get y1_8 y2_8 y3_5 a2_5 a2_2 fun y0 y1_10 y2_10 y3_7 y4 y5 => regs_Regs_Low y3_7 y4 y5 a2_5 a2_2 fun y0_7 y1_11 y2_11 y3_8 y4 y5 => ∃ n, law23_RegsBack.l14 (fun y0 => K y0) (fun y0 y1 y2 y3 y4 y5 y6 y7 y8 y9 y10 y11 y12 y13 y14 y15 y16 y17 y18 y19 => br (eqI y0 0) (br (eqI y1 0) (br (eqI y16 y6 && eqI y17 y7) (br (eqI y18 y6 && eqI y19 y7) (regs_Regs_Tell y11 y12 y13 fun y0 y1 y2_12 y3_9 y4_1 => keepH [some (EV.agg [EV.int IntKind.i64 y2, EV.int IntKind.i64 y3, EV.int IntKind.i64 y4, EV.int IntKind.u64 y5, EV.agg [EV.int IntKind.u64 y6, EV.int IntKind.u64 y7], EV.int IntKind.u8 y8, EV.rsT y9 (Sk.agg [Sk.bool, Sk.int IntKind.i64, Sk.int IntKind.u64, Sk.agg [Sk.int IntKind.u64, Sk.int IntKind.u64]]) y10]), some (EV.agg [EV.bool y2_12, EV.arr IntKind.u64 32 y3_9, EV.arrT 32 (Sk.agg [Sk.int IntKind.u64, Sk.int IntKind.u64]) y4_1]), some (EV.agg [EV.arr IntKind.u64 32 y14, EV.arrT 32 (Sk.agg [Sk.int IntKind.u64, Sk.int IntKind.u64]) y15]), some (EV.agg [EV.int IntKind.u64 y16, EV.int IntKind.u64 y17]), some (EV.agg [EV.int IntKind.u64 y18, EV.int IntKind.u64 y19])] [some (EV.agg [EV.int IntKind.i64 y2, EV.int IntKind.i64 y3, EV.int IntKind.i64 y4, EV.int IntKind.u64 y5, EV.agg [EV.int IntKind.u64 y6, EV.int IntKind.u64 y7], EV.int IntKind.u8 y8, EV.rsT y9 (Sk.agg [Sk.bool, Sk.int IntKind.i64, Sk.int IntKind.u64, Sk.agg [Sk.int IntKind.u64, Sk.int IntKind.u64]]) y10]), some (EV.agg [EV.bool y11, EV.arr IntKind.u64 32 y12, EV.arrT 32 (Sk.agg [Sk.int IntKind.u64, Sk.int IntKind.u64]) y13]), some (EV.agg [EV.arr IntKind.u64 32 y14, EV.arrT 32 (Sk.agg [Sk.int IntKind.u64, Sk.int IntKind.u64]) y15]), some (EV.agg [EV.int IntKind.u64 y16, EV.int IntKind.u64 y17]), some (EV.agg [EV.int IntKind.u64 y18, EV.int IntKind.u64 y19])] ∧ br (eqN 32 y0 y14 && eqTb (Sk.agg [Sk.int IntKind.u64, Sk.int IntKind.u64]) 32 y1 y15) (law23_lives fun y0 => K y0) (K false)) (K false)) (K false)) (K false)) (K false)) n y2_10 y2_11 0 a2_0 a2_1 a2_2 a2_3 a2_4_0 a2_4_1 a2_5 a2_6n a2_6 y1 y2 y3 y0_4 y1_7 y0_6 y1_9 y0 y1_10 y0_7 y1_11)))))
noncomputable def law23_RegsBack : (Nat → Int) → (Nat → Nat → Lf) → (Nat → Int) → (Nat → Nat → Lf) → Int → Int → Int → Int → Int → Int → Int → Nat → (Nat → Nat → Lf) → (Bool → Prop) → Prop := Classical.choose (⟨law23_RegsBack.d, rfl⟩ : ∃ f, f = law23_RegsBack.d)
theorem law23_RegsBack.is : law23_RegsBack = law23_RegsBack.d := Classical.choose_spec (⟨law23_RegsBack.d, rfl⟩ : ∃ f, f = law23_RegsBack.d)
end Go.Ev.S

/- The functions as the evaluator has them: what each comes to. -/
set_option maxRecDepth 100000
set_option linter.unusedVariables false
set_option linter.unusedSimpArgs false
namespace Go.Ev.S
open Go Go.Ev
end Go.Ev.S

/- The functions as the evaluator has them: what each comes to. -/
set_option maxRecDepth 100000
set_option linter.unusedVariables false
set_option linter.unusedSimpArgs false
namespace Go.Ev.S
open Go Go.Ev
end Go.Ev.S

/- The functions as the evaluator has them: what each comes to. -/
set_option maxRecDepth 100000
set_option linter.unusedVariables false
set_option linter.unusedSimpArgs false
namespace Go.Ev.S
open Go Go.Ev
end Go.Ev.S

/- The functions as the evaluator has them: what each comes to. -/
set_option maxRecDepth 100000
set_option linter.unusedVariables false
set_option linter.unusedSimpArgs false
namespace Go.Ev.S
open Go Go.Ev
end Go.Ev.S

/- The functions as the evaluator has them: what each comes to. -/
set_option maxRecDepth 100000
set_option linter.unusedVariables false
set_option linter.unusedSimpArgs false
namespace Go.Ev.S
open Go Go.Ev
end Go.Ev.S

/- The functions as the evaluator has them: what each comes to. -/
set_option maxRecDepth 100000
set_option linter.unusedVariables false
set_option linter.unusedSimpArgs false
namespace Go.Ev.S
open Go Go.Ev
end Go.Ev.S

/- The functions as the evaluator has them: what each comes to. -/
set_option maxRecDepth 100000
set_option linter.unusedVariables false
set_option linter.unusedSimpArgs false
namespace Go.Ev.S
open Go Go.Ev
end Go.Ev.S

/- The functions as the evaluator has them: what each comes to. -/
set_option maxRecDepth 100000
set_option linter.unusedVariables false
set_option linter.unusedSimpArgs false
namespace Go.Ev.S
open Go Go.Ev
end Go.Ev.S

/- The functions as the evaluator has them: what each comes to. -/
set_option maxRecDepth 100000
set_option linter.unusedVariables false
set_option linter.unusedSimpArgs false
namespace Go.Ev.S
open Go Go.Ev
end Go.Ev.S

/- The functions as the evaluator has them: what each comes to. -/
set_option maxRecDepth 100000
set_option linter.unusedVariables false
set_option linter.unusedSimpArgs false
namespace Go.Ev.S
open Go Go.Ev
end Go.Ev.S

/- The functions as the evaluator has them: what each comes to. -/
set_option maxRecDepth 100000
set_option linter.unusedVariables false
set_option linter.unusedSimpArgs false
namespace Go.Ev.S
open Go Go.Ev
end Go.Ev.S

/- The functions as the evaluator has them: what each comes to. -/
set_option maxRecDepth 100000
set_option linter.unusedVariables false
set_option linter.unusedSimpArgs false
namespace Go.Ev.S
open Go Go.Ev
end Go.Ev.S

/- The functions as the evaluator has them: what each comes to. -/
set_option maxRecDepth 100000
set_option linter.unusedVariables false
set_option linter.unusedSimpArgs false
namespace Go.Ev.S
open Go Go.Ev
end Go.Ev.S

/- The functions as the evaluator has them: what each comes to. -/
set_option maxRecDepth 100000
set_option linter.unusedVariables false
set_option linter.unusedSimpArgs false
namespace Go.Ev.S
open Go Go.Ev
end Go.Ev.S

/- The functions as the evaluator has them: what each comes to. -/
set_option maxRecDepth 100000
set_option linter.unusedVariables false
set_option linter.unusedSimpArgs false
namespace Go.Ev.S
open Go Go.Ev
end Go.Ev.S

/- The functions as the evaluator has them: what each comes to. -/
set_option maxRecDepth 100000
set_option linter.unusedVariables false
set_option linter.unusedSimpArgs false
namespace Go.Ev.S
open Go Go.Ev
end Go.Ev.S

/- The functions as the evaluator has them: what each comes to. -/
set_option maxRecDepth 100000
set_option linter.unusedVariables false
set_option linter.unusedSimpArgs false
namespace Go.Ev.S
open Go Go.Ev
end Go.Ev.S

/- The functions as the evaluator has them: what each comes to. -/
set_option maxRecDepth 100000
set_option linter.unusedVariables false
set_option linter.unusedSimpArgs false
namespace Go.Ev.S
open Go Go.Ev
end Go.Ev.S

/- The functions as the evaluator has them: what each comes to. -/
set_option maxRecDepth 100000
set_option linter.unusedVariables false
set_option linter.unusedSimpArgs false
namespace Go.Ev.S
open Go Go.Ev
end Go.Ev.S

/- The functions as the evaluator has them: what each comes to. -/
set_option maxRecDepth 100000
set_option linter.unusedVariables false
set_option linter.unusedSimpArgs false
namespace Go.Ev.S
open Go Go.Ev
end Go.Ev.S

/- The functions as the evaluator has them: what each comes to. -/
set_option maxRecDepth 100000
set_option linter.unusedVariables false
set_option linter.unusedSimpArgs false
namespace Go.Ev.S
open Go Go.Ev
end Go.Ev.S

/- The functions as the evaluator has them: what each comes to. -/
set_option maxRecDepth 100000
set_option linter.unusedVariables false
set_option linter.unusedSimpArgs false
namespace Go.Ev.S
open Go Go.Ev
end Go.Ev.S

/- The functions as the evaluator has them: what each comes to. -/
set_option maxRecDepth 100000
set_option linter.unusedVariables false
set_option linter.unusedSimpArgs false
namespace Go.Ev.S
open Go Go.Ev
end Go.Ev.S

/- The functions as the evaluator has them: what each comes to. -/
set_option maxRecDepth 100000
set_option linter.unusedVariables false
set_option linter.unusedSimpArgs false
namespace Go.Ev.S
open Go Go.Ev
end Go.Ev.S

/- The functions as the evaluator has them: what each comes to. -/
set_option maxRecDepth 100000
set_option linter.unusedVariables false
set_option linter.unusedSimpArgs false
namespace Go.Ev.S
open Go Go.Ev
end Go.Ev.S

/- The functions as the evaluator has them: what each comes to. -/
set_option maxRecDepth 100000
set_option linter.unusedVariables false
set_option linter.unusedSimpArgs false
namespace Go.Ev.S
open Go Go.Ev
end Go.Ev.S
