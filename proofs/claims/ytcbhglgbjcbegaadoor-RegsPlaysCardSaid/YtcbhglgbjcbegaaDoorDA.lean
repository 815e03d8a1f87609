/- Numbers in decimal digits: what the library's two functions come to. -/
import Derived.Test.YtcbhglgbjcbegaaDoorEvD
import Derived.Lib.ItoaNum
import Derived.Lib.AtoiAll
import Derived.Lib.Bytealg
import Derived.Test.YtcbhglgbjcbegaaDoorEvB
set_option linter.unusedVariables false
set_option linter.unusedSimpArgs false
namespace Go.Ev.S
open Go Go.Ev
def strconv_Itoa.d (a0 : Int) (K : List UInt8 → Prop) : Prop := (-9223372036854775808 ≤ a0 ∧ a0 ≤ 9223372036854775807) ∧ K (Go.Lib.itoa a0)
noncomputable def strconv_Itoa : Int → (List UInt8 → Prop) → Prop := Classical.choose (⟨strconv_Itoa.d, rfl⟩ : ∃ f, f = strconv_Itoa.d)
theorem strconv_Itoa.is : strconv_Itoa = strconv_Itoa.d := Classical.choose_spec (⟨strconv_Itoa.d, rfl⟩ : ∃ f, f = strconv_Itoa.d)
def strconv_Atoi.d (a0 : List UInt8) (K : Int → Prop) (K1 : Int → Prop) : Prop := a0.length ≤ 281474976710656 ∧
  match Go.Lib.atoiAll a0 with
  | .ok v => K v
  | .range => K1 (Go.Lib.atoiSat a0)
  | _ => K1 0
noncomputable def strconv_Atoi : List UInt8 → (Int → Prop) → (Int → Prop) → Prop := Classical.choose (⟨strconv_Atoi.d, rfl⟩ : ∃ f, f = strconv_Atoi.d)
theorem strconv_Atoi.is : strconv_Atoi = strconv_Atoi.d := Classical.choose_spec (⟨strconv_Atoi.d, rfl⟩ : ∃ f, f = strconv_Atoi.d)
end Go.Ev.S

/- The functions as the evaluator has them: what each comes to. -/
set_option maxRecDepth 100000
set_option linter.unusedVariables false
set_option linter.unusedSimpArgs false
namespace Go.Ev.S
open Go Go.Ev
def shape_Check.d (a0 : Int) (K : Int → Prop) : Prop :=
  br (ltI 3 a0) (K 2) (K 0)
noncomputable def shape_Check : Int → (Int → Prop) → Prop := Classical.choose (⟨shape_Check.d, rfl⟩ : ∃ f, f = shape_Check.d)
theorem shape_Check.is : shape_Check = shape_Check.d := Classical.choose_spec (⟨shape_Check.d, rfl⟩ : ∃ f, f = shape_Check.d)
def shape_numbers.d (a0 : Int) (K : Int → Int → Int → List UInt8 → Prop) : Prop :=
  br (leI 4 (cvI IntKind.i64 a0)) (K 0 0 0 []) (br (eqI a0 0) (br (eqI a0 0) (br (eqI a0 0) (br (eqI a0 0) (K 32 24 127 [115]) (br (eqI a0 1) (K 32 24 127 [100]) (br (eqI a0 2) (K 32 24 127 [104]) (br (eqI a0 3) (K 32 24 127 [113]) False)))) (br (eqI a0 1) (br (eqI a0 0) (K 32 24 1023 [115]) (br (eqI a0 1) (K 32 24 1023 [100]) (br (eqI a0 2) (K 32 24 1023 [104]) (br (eqI a0 3) (K 32 24 1023 [113]) False)))) (br (eqI a0 2) (br (eqI a0 0) (K 32 24 15 [115]) (br (eqI a0 1) (K 32 24 15 [100]) (br (eqI a0 2) (K 32 24 15 [104]) (br (eqI a0 3) (K 32 24 15 [113]) False)))) (br (eqI a0 3) (br (eqI a0 0) (K 32 24 16383 [115]) (br (eqI a0 1) (K 32 24 16383 [100]) (br (eqI a0 2) (K 32 24 16383 [104]) (br (eqI a0 3) (K 32 24 16383 [113]) False)))) False)))) (br (eqI a0 1) (br (eqI a0 0) (br (eqI a0 0) (K 32 53 127 [115]) (br (eqI a0 1) (K 32 53 127 [100]) (br (eqI a0 2) (K 32 53 127 [104]) (br (eqI a0 3) (K 32 53 127 [113]) False)))) (br (eqI a0 1) (br (eqI a0 0) (K 32 53 1023 [115]) (br (eqI a0 1) (K 32 53 1023 [100]) (br (eqI a0 2) (K 32 53 1023 [104]) (br (eqI a0 3) (K 32 53 1023 [113]) False)))) (br (eqI a0 2) (br (eqI a0 0) (K 32 53 15 [115]) (br (eqI a0 1) (K 32 53 15 [100]) (br (eqI a0 2) (K 32 53 15 [104]) (br (eqI a0 3) (K 32 53 15 [113]) False)))) (br (eqI a0 3) (br (eqI a0 0) (K 32 53 16383 [115]) (br (eqI a0 1) (K 32 53 16383 [100]) (br (eqI a0 2) (K 32 53 16383 [104]) (br (eqI a0 3) (K 32 53 16383 [113]) False)))) False)))) (br (eqI a0 2) (br (eqI a0 0) (br (eqI a0 0) (K 32 11 127 [115]) (br (eqI a0 1) (K 32 11 127 [100]) (br (eqI a0 2) (K 32 11 127 [104]) (br (eqI a0 3) (K 32 11 127 [113]) False)))) (br (eqI a0 1) (br (eqI a0 0) (K 32 11 1023 [115]) (br (eqI a0 1) (K 32 11 1023 [100]) (br (eqI a0 2) (K 32 11 1023 [104]) (br (eqI a0 3) (K 32 11 1023 [113]) False)))) (br (eqI a0 2) (br (eqI a0 0) (K 32 11 15 [115]) (br (eqI a0 1) (K 32 11 15 [100]) (br (eqI a0 2) (K 32 11 15 [104]) (br (eqI a0 3) (K 32 11 15 [113]) False)))) (br (eqI a0 3) (br (eqI a0 0) (K 32 11 16383 [115]) (br (eqI a0 1) (K 32 11 16383 [100]) (br (eqI a0 2) (K 32 11 16383 [104]) (br (eqI a0 3) (K 32 11 16383 [113]) False)))) False)))) (br (eqI a0 3) (br (eqI a0 0) (br (eqI a0 0) (K 32 113 127 [115]) (br (eqI a0 1) (K 32 113 127 [100]) (br (eqI a0 2) (K 32 113 127 [104]) (br (eqI a0 3) (K 32 113 127 [113]) False)))) (br (eqI a0 1) (br (eqI a0 0) (K 32 113 1023 [115]) (br (eqI a0 1) (K 32 113 1023 [100]) (br (eqI a0 2) (K 32 113 1023 [104]) (br (eqI a0 3) (K 32 113 1023 [113]) False)))) (br (eqI a0 2) (br (eqI a0 0) (K 32 113 15 [115]) (br (eqI a0 1) (K 32 113 15 [100]) (br (eqI a0 2) (K 32 113 15 [104]) (br (eqI a0 3) (K 32 113 15 [113]) False)))) (br (eqI a0 3) (br (eqI a0 0) (K 32 113 16383 [115]) (br (eqI a0 1) (K 32 113 16383 [100]) (br (eqI a0 2) (K 32 113 16383 [104]) (br (eqI a0 3) (K 32 113 16383 [113]) False)))) False)))) False)))) (br (eqI a0 1) (br (eqI a0 0) (br (eqI a0 0) (br (eqI a0 0) (K 64 24 127 [115]) (br (eqI a0 1) (K 64 24 127 [100]) (br (eqI a0 2) (K 64 24 127 [104]) (br (eqI a0 3) (K 64 24 127 [113]) False)))) (br (eqI a0 1) (br (eqI a0 0) (K 64 24 1023 [115]) (br (eqI a0 1) (K 64 24 1023 [100]) (br (eqI a0 2) (K 64 24 1023 [104]) (br (eqI a0 3) (K 64 24 1023 [113]) False)))) (br (eqI a0 2) (br (eqI a0 0) (K 64 24 15 [115]) (br (eqI a0 1) (K 64 24 15 [100]) (br (eqI a0 2) (K 64 24 15 [104]) (br (eqI a0 3) (K 64 24 15 [113]) False)))) (br (eqI a0 3) (br (eqI a0 0) (K 64 24 16383 [115]) (br (eqI a0 1) (K 64 24 16383 [100]) (br (eqI a0 2) (K 64 24 16383 [104]) (br (eqI a0 3) (K 64 24 16383 [113]) False)))) False)))) (br (eqI a0 1) (br (eqI a0 0) (br (eqI a0 0) (K 64 53 127 [115]) (br (eqI a0 1) (K 64 53 127 [100]) (br (eqI a0 2) (K 64 53 127 [104]) (br (eqI a0 3) (K 64 53 127 [113]) False)))) (br (eqI a0 1) (br (eqI a0 0) (K 64 53 1023 [115]) (br (eqI a0 1) (K 64 53 1023 [100]) (br (eqI a0 2) (K 64 53 1023 [104]) (br (eqI a0 3) (K 64 53 1023 [113]) False)))) (br (eqI a0 2) (br (eqI a0 0) (K 64 53 15 [115]) (br (eqI a0 1) (K 64 53 15 [100]) (br (eqI a0 2) (K 64 53 15 [104]) (br (eqI a0 3) (K 64 53 15 [113]) False)))) (br (eqI a0 3) (br (eqI a0 0) (K 64 53 16383 [115]) (br (eqI a0 1) (K 64 53 16383 [100]) (br (eqI a0 2) (K 64 53 16383 [104]) (br (eqI a0 3) (K 64 53 16383 [113]) False)))) False)))) (br (eqI a0 2) (br (eqI a0 0) (br (eqI a0 0) (K 64 11 127 [115]) (br (eqI a0 1) (K 64 11 127 [100]) (br (eqI a0 2) (K 64 11 127 [104]) (br (eqI a0 3) (K 64 11 127 [113]) False)))) (br (eqI a0 1) (br (eqI a0 0) (K 64 11 1023 [115]) (br (eqI a0 1) (K 64 11 1023 [100]) (br (eqI a0 2) (K 64 11 1023 [104]) (br (eqI a0 3) (K 64 11 1023 [113]) False)))) (br (eqI a0 2) (br (eqI a0 0) (K 64 11 15 [115]) (br (eqI a0 1) (K 64 11 15 [100]) (br (eqI a0 2) (K 64 11 15 [104]) (br (eqI a0 3) (K 64 11 15 [113]) False)))) (br (eqI a0 3) (br (eqI a0 0) (K 64 11 16383 [115]) (br (eqI a0 1) (K 64 11 16383 [100]) (br (eqI a0 2) (K 64 11 16383 [104]) (br (eqI a0 3) (K 64 11 16383 [113]) False)))) False)))) (br (eqI a0 3) (br (eqI a0 0) (br (eqI a0 0) (K 64 113 127 [115]) (br (eqI a0 1) (K 64 113 127 [100]) (br (eqI a0 2) (K 64 113 127 [104]) (br (eqI a0 3) (K 64 113 127 [113]) False)))) (br (eqI a0 1) (br (eqI a0 0) (K 64 113 1023 [115]) (br (eqI a0 1) (K 64 113 1023 [100]) (br (eqI a0 2) (K 64 113 1023 [104]) (br (eqI a0 3) (K 64 113 1023 [113]) False)))) (br (eqI a0 2) (br (eqI a0 0) (K 64 113 15 [115]) (br (eqI a0 1) (K 64 113 15 [100]) (br (eqI a0 2) (K 64 113 15 [104]) (br (eqI a0 3) (K 64 113 15 [113]) False)))) (br (eqI a0 3) (br (eqI a0 0) (K 64 113 16383 [115]) (br (eqI a0 1) (K 64 113 16383 [100]) (br (eqI a0 2) (K 64 113 16383 [104]) (br (eqI a0 3) (K 64 113 16383 [113]) False)))) False)))) False)))) (br (eqI a0 2) (br (eqI a0 0) (br (eqI a0 0) (br (eqI a0 0) (K 16 24 127 [115]) (br (eqI a0 1) (K 16 24 127 [100]) (br (eqI a0 2) (K 16 24 127 [104]) (br (eqI a0 3) (K 16 24 127 [113]) False)))) (br (eqI a0 1) (br (eqI a0 0) (K 16 24 1023 [115]) (br (eqI a0 1) (K 16 24 1023 [100]) (br (eqI a0 2) (K 16 24 1023 [104]) (br (eqI a0 3) (K 16 24 1023 [113]) False)))) (br (eqI a0 2) (br (eqI a0 0) (K 16 24 15 [115]) (br (eqI a0 1) (K 16 24 15 [100]) (br (eqI a0 2) (K 16 24 15 [104]) (br (eqI a0 3) (K 16 24 15 [113]) False)))) (br (eqI a0 3) (br (eqI a0 0) (K 16 24 16383 [115]) (br (eqI a0 1) (K 16 24 16383 [100]) (br (eqI a0 2) (K 16 24 16383 [104]) (br (eqI a0 3) (K 16 24 16383 [113]) False)))) False)))) (br (eqI a0 1) (br (eqI a0 0) (br (eqI a0 0) (K 16 53 127 [115]) (br (eqI a0 1) (K 16 53 127 [100]) (br (eqI a0 2) (K 16 53 127 [104]) (br (eqI a0 3) (K 16 53 127 [113]) False)))) (br (eqI a0 1) (br (eqI a0 0) (K 16 53 1023 [115]) (br (eqI a0 1) (K 16 53 1023 [100]) (br (eqI a0 2) (K 16 53 1023 [104]) (br (eqI a0 3) (K 16 53 1023 [113]) False)))) (br (eqI a0 2) (br (eqI a0 0) (K 16 53 15 [115]) (br (eqI a0 1) (K 16 53 15 [100]) (br (eqI a0 2) (K 16 53 15 [104]) (br (eqI a0 3) (K 16 53 15 [113]) False)))) (br (eqI a0 3) (br (eqI a0 0) (K 16 53 16383 [115]) (br (eqI a0 1) (K 16 53 16383 [100]) (br (eqI a0 2) (K 16 53 16383 [104]) (br (eqI a0 3) (K 16 53 16383 [113]) False)))) False)))) (br (eqI a0 2) (br (eqI a0 0) (br (eqI a0 0) (K 16 11 127 [115]) (br (eqI a0 1) (K 16 11 127 [100]) (br (eqI a0 2) (K 16 11 127 [104]) (br (eqI a0 3) (K 16 11 127 [113]) False)))) (br (eqI a0 1) (br (eqI a0 0) (K 16 11 1023 [115]) (br (eqI a0 1) (K 16 11 1023 [100]) (br (eqI a0 2) (K 16 11 1023 [104]) (br (eqI a0 3) (K 16 11 1023 [113]) False)))) (br (eqI a0 2) (br (eqI a0 0) (K 16 11 15 [115]) (br (eqI a0 1) (K 16 11 15 [100]) (br (eqI a0 2) (K 16 11 15 [104]) (br (eqI a0 3) (K 16 11 15 [113]) False)))) (br (eqI a0 3) (br (eqI a0 0) (K 16 11 16383 [115]) (br (eqI a0 1) (K 16 11 16383 [100]) (br (eqI a0 2) (K 16 11 16383 [104]) (br (eqI a0 3) (K 16 11 16383 [113]) False)))) False)))) (br (eqI a0 3) (br (eqI a0 0) (br (eqI a0 0) (K 16 113 127 [115]) (br (eqI a0 1) (K 16 113 127 [100]) (br (eqI a0 2) (K 16 113 127 [104]) (br (eqI a0 3) (K 16 113 127 [113]) False)))) (br (eqI a0 1) (br (eqI a0 0) (K 16 113 1023 [115]) (br (eqI a0 1) (K 16 113 1023 [100]) (br (eqI a0 2) (K 16 113 1023 [104]) (br (eqI a0 3) (K 16 113 1023 [113]) False)))) (br (eqI a0 2) (br (eqI a0 0) (K 16 113 15 [115]) (br (eqI a0 1) (K 16 113 15 [100]) (br (eqI a0 2) (K 16 113 15 [104]) (br (eqI a0 3) (K 16 113 15 [113]) False)))) (br (eqI a0 3) (br (eqI a0 0) (K 16 113 16383 [115]) (br (eqI a0 1) (K 16 113 16383 [100]) (br (eqI a0 2) (K 16 113 16383 [104]) (br (eqI a0 3) (K 16 113 16383 [113]) False)))) False)))) False)))) (br (eqI a0 3) (br (eqI a0 0) (br (eqI a0 0) (br (eqI a0 0) (K 128 24 127 [115]) (br (eqI a0 1) (K 128 24 127 [100]) (br (eqI a0 2) (K 128 24 127 [104]) (br (eqI a0 3) (K 128 24 127 [113]) False)))) (br (eqI a0 1) (br (eqI a0 0) (K 128 24 1023 [115]) (br (eqI a0 1) (K 128 24 1023 [100]) (br (eqI a0 2) (K 128 24 1023 [104]) (br (eqI a0 3) (K 128 24 1023 [113]) False)))) (br (eqI a0 2) (br (eqI a0 0) (K 128 24 15 [115]) (br (eqI a0 1) (K 128 24 15 [100]) (br (eqI a0 2) (K 128 24 15 [104]) (br (eqI a0 3) (K 128 24 15 [113]) False)))) (br (eqI a0 3) (br (eqI a0 0) (K 128 24 16383 [115]) (br (eqI a0 1) (K 128 24 16383 [100]) (br (eqI a0 2) (K 128 24 16383 [104]) (br (eqI a0 3) (K 128 24 16383 [113]) False)))) False)))) (br (eqI a0 1) (br (eqI a0 0) (br (eqI a0 0) (K 128 53 127 [115]) (br (eqI a0 1) (K 128 53 127 [100]) (br (eqI a0 2) (K 128 53 127 [104]) (br (eqI a0 3) (K 128 53 127 [113]) False)))) (br (eqI a0 1) (br (eqI a0 0) (K 128 53 1023 [115]) (br (eqI a0 1) (K 128 53 1023 [100]) (br (eqI a0 2) (K 128 53 1023 [104]) (br (eqI a0 3) (K 128 53 1023 [113]) False)))) (br (eqI a0 2) (br (eqI a0 0) (K 128 53 15 [115]) (br (eqI a0 1) (K 128 53 15 [100]) (br (eqI a0 2) (K 128 53 15 [104]) (br (eqI a0 3) (K 128 53 15 [113]) False)))) (br (eqI a0 3) (br (eqI a0 0) (K 128 53 16383 [115]) (br (eqI a0 1) (K 128 53 16383 [100]) (br (eqI a0 2) (K 128 53 16383 [104]) (br (eqI a0 3) (K 128 53 16383 [113]) False)))) False)))) (br (eqI a0 2) (br (eqI a0 0) (br (eqI a0 0) (K 128 11 127 [115]) (br (eqI a0 1) (K 128 11 127 [100]) (br (eqI a0 2) (K 128 11 127 [104]) (br (eqI a0 3) (K 128 11 127 [113]) False)))) (br (eqI a0 1) (br (eqI a0 0) (K 128 11 1023 [115]) (br (eqI a0 1) (K 128 11 1023 [100]) (br (eqI a0 2) (K 128 11 1023 [104]) (br (eqI a0 3) (K 128 11 1023 [113]) False)))) (br (eqI a0 2) (br (eqI a0 0) (K 128 11 15 [115]) (br (eqI a0 1) (K 128 11 15 [100]) (br (eqI a0 2) (K 128 11 15 [104]) (br (eqI a0 3) (K 128 11 15 [113]) False)))) (br (eqI a0 3) (br (eqI a0 0) (K 128 11 16383 [115]) (br (eqI a0 1) (K 128 11 16383 [100]) (br (eqI a0 2) (K 128 11 16383 [104]) (br (eqI a0 3) (K 128 11 16383 [113]) False)))) False)))) (br (eqI a0 3) (br (eqI a0 0) (br (eqI a0 0) (K 128 113 127 [115]) (br (eqI a0 1) (K 128 113 127 [100]) (br (eqI a0 2) (K 128 113 127 [104]) (br (eqI a0 3) (K 128 113 127 [113]) False)))) (br (eqI a0 1) (br (eqI a0 0) (K 128 113 1023 [115]) (br (eqI a0 1) (K 128 113 1023 [100]) (br (eqI a0 2) (K 128 113 1023 [104]) (br (eqI a0 3) (K 128 113 1023 [113]) False)))) (br (eqI a0 2) (br (eqI a0 0) (K 128 113 15 [115]) (br (eqI a0 1) (K 128 113 15 [100]) (br (eqI a0 2) (K 128 113 15 [104]) (br (eqI a0 3) (K 128 113 15 [113]) False)))) (br (eqI a0 3) (br (eqI a0 0) (K 128 113 16383 [115]) (br (eqI a0 1) (K 128 113 16383 [100]) (br (eqI a0 2) (K 128 113 16383 [104]) (br (eqI a0 3) (K 128 113 16383 [113]) False)))) False)))) False)))) False))))
noncomputable def shape_numbers : Int → (Int → Int → Int → List UInt8 → Prop) → Prop := Classical.choose (⟨shape_numbers.d, rfl⟩ : ∃ f, f = shape_numbers.d)
theorem shape_numbers.is : shape_numbers = shape_numbers.d := Classical.choose_spec (⟨shape_numbers.d, rfl⟩ : ∃ f, f = shape_numbers.d)
def shape_Emax.d (a0 : Int) (K : Int → Prop) : Prop :=
  shape_numbers a0 fun y0 y1 y2 y3 => K y2
noncomputable def shape_Emax : Int → (Int → Prop) → Prop := Classical.choose (⟨shape_Emax.d, rfl⟩ : ∃ f, f = shape_Emax.d)
theorem shape_Emax.is : shape_Emax = shape_Emax.d := Classical.choose_spec (⟨shape_Emax.d, rfl⟩ : ∃ f, f = shape_Emax.d)
def shape_Width.d (a0 : Int) (K : Int → Prop) : Prop :=
  shape_numbers a0 fun y0 y1 y2 y3 => K y0
noncomputable def shape_Width : Int → (Int → Prop) → Prop := Classical.choose (⟨shape_Width.d, rfl⟩ : ∃ f, f = shape_Width.d)
theorem shape_Width.is : shape_Width = shape_Width.d := Classical.choose_spec (⟨shape_Width.d, rfl⟩ : ∃ f, f = shape_Width.d)
def shape_Fits.d (a0 : Int) (a1_0 : Int) (a1_1 : Int) (K : Bool → Prop) : Prop :=
  br (eqI a0 3) (K true) (br (eqI a0 1) (K (eqI a1_0 0)) (br (eqI a0 0) (br (eqI a0 0) (br (eqI a1_0 0) (shape_Width a0 fun y0 => gd (!ltI (cvI IntKind.u64 y0) 0) (K (eqI (shrI IntKind.u64 a1_1 (cvI IntKind.u64 y0)) 0))) (K false)) (K false)) (br (eqI a0 2) (br (eqI a1_0 0) (shape_Width a0 fun y0 => gd (!ltI (cvI IntKind.u64 y0) 0) (K (eqI (shrI IntKind.u64 a1_1 (cvI IntKind.u64 y0)) 0))) (K false)) (K false))))
noncomputable def shape_Fits : Int → Int → Int → (Bool → Prop) → Prop := Classical.choose (⟨shape_Fits.d, rfl⟩ : ∃ f, f = shape_Fits.d)
theorem shape_Fits.is : shape_Fits = shape_Fits.d := Classical.choose_spec (⟨shape_Fits.d, rfl⟩ : ∃ f, f = shape_Fits.d)
def shape_Precision.d (a0 : Int) (K : Int → Prop) : Prop :=
  shape_numbers a0 fun y0 y1 y2 y3 => K y1
noncomputable def shape_Precision : Int → (Int → Prop) → Prop := Classical.choose (⟨shape_Precision.d, rfl⟩ : ∃ f, f = shape_Precision.d)
theorem shape_Precision.is : shape_Precision = shape_Precision.d := Classical.choose_spec (⟨shape_Precision.d, rfl⟩ : ∃ f, f = shape_Precision.d)
def shape_at.d (a0 : Int) (a1 : Int) (K : Int → Int → Prop) : Prop :=
  br (leI 64 a1) (gd (!ltI (cvI IntKind.u64 (subI IntKind.i64 a1 64)) 0) (K (shlI IntKind.u64 a0 (cvI IntKind.u64 (subI IntKind.i64 a1 64))) 0)) (gd (!ltI (cvI IntKind.u64 a1) 0) (br (ltI 0 a1) (gd (!ltI (cvI IntKind.u64 (subI IntKind.i64 64 a1)) 0) (K (shrI IntKind.u64 a0 (cvI IntKind.u64 (subI IntKind.i64 64 a1))) (shlI IntKind.u64 a0 (cvI IntKind.u64 a1)))) (K 0 (shlI IntKind.u64 a0 (cvI IntKind.u64 a1)))))
noncomputable def shape_at : Int → Int → (Int → Int → Prop) → Prop := Classical.choose (⟨shape_at.d, rfl⟩ : ∃ f, f = shape_at.d)
theorem shape_at.is : shape_at = shape_at.d := Classical.choose_spec (⟨shape_at.d, rfl⟩ : ∃ f, f = shape_at.d)
def shape_NaN.d (a0 : Int) (K : Int → Int → Prop) : Prop :=
  shape_Check a0 fun y0 => br (!eqI y0 0) (K 0 0) (shape_Emax a0 fun y0 => shape_Precision a0 fun y0_1 => shape_at (cvI IntKind.u64 (addI IntKind.i64 (mulI IntKind.i64 4 y0) 3)) (subI IntKind.i64 y0_1 2) fun y0 y1 => K y0 y1)
noncomputable def shape_NaN : Int → (Int → Int → Prop) → Prop := Classical.choose (⟨shape_NaN.d, rfl⟩ : ∃ f, f = shape_NaN.d)
theorem shape_NaN.is : shape_NaN = shape_NaN.d := Classical.choose_spec (⟨shape_NaN.d, rfl⟩ : ∃ f, f = shape_NaN.d)
end Go.Ev.S

/- The functions as the evaluator has them: what each comes to. -/
set_option maxRecDepth 100000
set_option linter.unusedVariables false
set_option linter.unusedSimpArgs false
namespace Go.Ev.S
open Go Go.Ev
def box_above.d (a0 : Int) (K : Int → Int → Prop) : Prop :=
  br (eqI a0 0) (K 18446744073709551615 18446744069414584320) (br (eqI a0 1) (K 18446744073709551615 0) (br (eqI a0 2) (K 18446744073709551615 18446744073709486080) (br (eqI a0 3) (K 0 0) False)))
noncomputable def box_above : Int → (Int → Int → Prop) → Prop := Classical.choose (⟨box_above.d, rfl⟩ : ∃ f, f = box_above.d)
theorem box_above.is : box_above = box_above.d := Classical.choose_spec (⟨box_above.d, rfl⟩ : ∃ f, f = box_above.d)
def box_Above.d (a0 : Int) (K : Int → Int → Int → Prop) : Prop :=
  shape_Check a0 fun y0 => br (!eqI y0 0) (K 0 0 2) (box_above a0 fun y0 y1 => K y0 y1 0)
noncomputable def box_Above : Int → (Int → Int → Int → Prop) → Prop := Classical.choose (⟨box_Above.d, rfl⟩ : ∃ f, f = box_Above.d)
theorem box_Above.is : box_Above = box_Above.d := Classical.choose_spec (⟨box_Above.d, rfl⟩ : ∃ f, f = box_Above.d)
def box_Box.d (a0 : Int) (a1_0 : Int) (a1_1 : Int) (K : Int → Int → Int → Prop) : Prop :=
  shape_Fits a0 a1_0 a1_1 fun y0 => br (!y0) (K 0 0 2) (box_above a0 fun y0 y1 => K (orI IntKind.u64 a1_0 y0) (orI IntKind.u64 a1_1 y1) 0)
noncomputable def box_Box : Int → Int → Int → (Int → Int → Int → Prop) → Prop := Classical.choose (⟨box_Box.d, rfl⟩ : ∃ f, f = box_Box.d)
theorem box_Box.is : box_Box = box_Box.d := Classical.choose_spec (⟨box_Box.d, rfl⟩ : ∃ f, f = box_Box.d)
def box_IsBoxed.d (a0 : Int) (a1_0 : Int) (a1_1 : Int) (K : Bool → Prop) : Prop :=
  box_Above a0 fun y0 y1 y2 => br (eqI y2 0) (K (eqI (andI IntKind.u64 a1_0 y0) y0 && eqI (andI IntKind.u64 a1_1 y1) y1)) (K false)
noncomputable def box_IsBoxed : Int → Int → Int → (Bool → Prop) → Prop := Classical.choose (⟨box_IsBoxed.d, rfl⟩ : ∃ f, f = box_IsBoxed.d)
theorem box_IsBoxed.is : box_IsBoxed = box_IsBoxed.d := Classical.choose_spec (⟨box_IsBoxed.d, rfl⟩ : ∃ f, f = box_IsBoxed.d)
def box_Low.d (a0 : Int) (a1_0 : Int) (a1_1 : Int) (K : Int → Int → Int → Prop) : Prop :=
  box_Above a0 fun y0 y1 y2 => br (!eqI y2 0) (K 0 0 y2) (K (andNotI IntKind.u64 a1_0 y0) (andNotI IntKind.u64 a1_1 y1) 0)
noncomputable def box_Low : Int → Int → Int → (Int → Int → Int → Prop) → Prop := Classical.choose (⟨box_Low.d, rfl⟩ : ∃ f, f = box_Low.d)
theorem box_Low.is : box_Low = box_Low.d := Classical.choose_spec (⟨box_Low.d, rfl⟩ : ∃ f, f = box_Low.d)
def box_Unbox.d (a0 : Int) (a1_0 : Int) (a1_1 : Int) (K : Int → Int → Int → Prop) : Prop :=
  box_Low a0 a1_0 a1_1 fun y0 y1 y2 => br (!eqI y2 0) (K 0 0 y2) (box_IsBoxed a0 a1_0 a1_1 fun y0_1 => br (!y0_1) (shape_NaN a0 fun y0 y1 => K y0 y1 0) (K y0 y1 0))
noncomputable def box_Unbox : Int → Int → Int → (Int → Int → Int → Prop) → Prop := Classical.choose (⟨box_Unbox.d, rfl⟩ : ∃ f, f = box_Unbox.d)
theorem box_Unbox.is : box_Unbox = box_Unbox.d := Classical.choose_spec (⟨box_Unbox.d, rfl⟩ : ∃ f, f = box_Unbox.d)
end Go.Ev.S

/- The functions as the evaluator has them: what each comes to. -/
set_option maxRecDepth 100000
set_option linter.unusedVariables false
set_option linter.unusedSimpArgs false
namespace Go.Ev.S
open Go Go.Ev
def regs_Name.d (a0 : Bool) (a1 : Int) (K : List UInt8 → Int → Prop) : Prop :=
  br (ltI a1 0) (K [] 2) (br (ltI 31 a1) (K [] 2) (br a0 (strconv_Itoa a1 fun y0 => gd (leI (1 + ↑(List.length y0)) 9223372036854775807) (K ([102] ++ y0) 0)) (strconv_Itoa a1 fun y0 => gd (leI (1 + ↑(List.length y0)) 9223372036854775807) (K ([120] ++ y0) 0))))
noncomputable def regs_Name : Bool → Int → (List UInt8 → Int → Prop) → Prop := Classical.choose (⟨regs_Name.d, rfl⟩ : ∃ f, f = regs_Name.d)
theorem regs_Name.is : regs_Name = regs_Name.d := Classical.choose_spec (⟨regs_Name.d, rfl⟩ : ∃ f, f = regs_Name.d)
def regs_Named.d (a0 : List UInt8) (K : Bool → Int → Int → Prop) : Prop :=
  br (ltI (↑(List.length a0)) 2) (K false 0 230) (br (ltI 3 ↑(List.length a0)) (K false 0 230) (gd (leI 1 ↑(List.length a0) && leI ↑(List.length a0) ↑(List.length a0)) (strconv_Atoi (subS a0 1 (Int.toNat ↑(List.length a0))) (fun y0 => br (ltI y0 0) (K false 0 230) (br (ltI 31 y0) (K false 0 230) (gd (ltI 0 ↑(List.length a0)) (regs_Name (eqI (byteAt a0 0) 102) y0 fun y0_1 y1 => br (!eqS y0_1 a0) (K false 0 230) (K (eqI (byteAt a0 0) 102) y0 0))))) fun y0 => K false 0 230)))
noncomputable def regs_Named : List UInt8 → (Bool → Int → Int → Prop) → Prop := Classical.choose (⟨regs_Named.d, rfl⟩ : ∃ f, f = regs_Named.d)
theorem regs_Named.is : regs_Named = regs_Named.d := Classical.choose_spec (⟨regs_Named.d, rfl⟩ : ∃ f, f = regs_Named.d)
def regs_Regs_none.d (a0_0 : Bool) (a0_1 : Nat → Int) (a0_2 : Nat → Nat → Lf) (K : Bool → Bool → (Nat → Int) → (Nat → Nat → Lf) → Prop) : Prop :=
  K (!a0_0) a0_0 a0_1 a0_2
noncomputable def regs_Regs_none : Bool → (Nat → Int) → (Nat → Nat → Lf) → (Bool → Bool → (Nat → Int) → (Nat → Nat → Lf) → Prop) → Prop := Classical.choose (⟨regs_Regs_none.d, rfl⟩ : ∃ f, f = regs_Regs_none.d)
theorem regs_Regs_none.is : regs_Regs_none = regs_Regs_none.d := Classical.choose_spec (⟨regs_Regs_none.d, rfl⟩ : ∃ f, f = regs_Regs_none.d)
def regs_Regs_word.d (a0_0 : Bool) (a0_1 : Nat → Int) (a0_2 : Nat → Nat → Lf) (a1 : Int) (K0 : Bool → (Nat → Int) → (Nat → Nat → Lf) → Prop) (K1 : Nat → Bool → (Nat → Int) → (Nat → Nat → Lf) → Prop) : Prop :=
  br (ltI a1 0) (K0 a0_0 a0_1 a0_2) (br (leI 32 a1) (K0 a0_0 a0_1 a0_2) (gd (leI 0 a1 && ltI a1 32) (K1 (Int.toNat a1) a0_0 a0_1 a0_2)))
noncomputable def regs_Regs_word : Bool → (Nat → Int) → (Nat → Nat → Lf) → Int → (Bool → (Nat → Int) → (Nat → Nat → Lf) → Prop) → (Nat → Bool → (Nat → Int) → (Nat → Nat → Lf) → Prop) → Prop := Classical.choose (⟨regs_Regs_word.d, rfl⟩ : ∃ f, f = regs_Regs_word.d)
theorem regs_Regs_word.is : regs_Regs_word = regs_Regs_word.d := Classical.choose_spec (⟨regs_Regs_word.d, rfl⟩ : ∃ f, f = regs_Regs_word.d)
def regs_Regs_X.d (a0_0 : Bool) (a0_1 : Nat → Int) (a0_2 : Nat → Nat → Lf) (a1 : Int) (K : Int → Int → Bool → (Nat → Int) → (Nat → Nat → Lf) → Prop) : Prop :=
  regs_Regs_none a0_0 a0_1 a0_2 fun y0 y1 y2 y3 => br y0 (K 0 1 y1 y2 y3) (regs_Regs_word y1 y2 y3 a1 (fun y0 y1 y2 => K 0 2 y0 y1 y2) fun y0 y1 y2 y3 => K (y2 y0) 0 y1 y2 y3)
noncomputable def regs_Regs_X : Bool → (Nat → Int) → (Nat → Nat → Lf) → Int → (Int → Int → Bool → (Nat → Int) → (Nat → Nat → Lf) → Prop) → Prop := Classical.choose (⟨regs_Regs_X.d, rfl⟩ : ∃ f, f = regs_Regs_X.d)
theorem regs_Regs_X.is : regs_Regs_X = regs_Regs_X.d := Classical.choose_spec (⟨regs_Regs_X.d, rfl⟩ : ∃ f, f = regs_Regs_X.d)
def regs_Regs_bits.d (a0_0 : Bool) (a0_1 : Nat → Int) (a0_2 : Nat → Nat → Lf) (a1 : Int) (K0 : Bool → (Nat → Int) → (Nat → Nat → Lf) → Prop) (K1 : Nat → Bool → (Nat → Int) → (Nat → Nat → Lf) → Prop) : Prop :=
  br (ltI a1 0) (K0 a0_0 a0_1 a0_2) (br (leI 32 a1) (K0 a0_0 a0_1 a0_2) (gd (leI 0 a1 && ltI a1 32) (K1 (Int.toNat a1) a0_0 a0_1 a0_2)))
noncomputable def regs_Regs_bits : Bool → (Nat → Int) → (Nat → Nat → Lf) → Int → (Bool → (Nat → Int) → (Nat → Nat → Lf) → Prop) → (Nat → Bool → (Nat → Int) → (Nat → Nat → Lf) → Prop) → Prop := Classical.choose (⟨regs_Regs_bits.d, rfl⟩ : ∃ f, f = regs_Regs_bits.d)
theorem regs_Regs_bits.is : regs_Regs_bits = regs_Regs_bits.d := Classical.choose_spec (⟨regs_Regs_bits.d, rfl⟩ : ∃ f, f = regs_Regs_bits.d)
def regs_Regs_F.d (a0_0 : Bool) (a0_1 : Nat → Int) (a0_2 : Nat → Nat → Lf) (a1 : Int) (K : Int → Int → Int → Bool → (Nat → Int) → (Nat → Nat → Lf) → Prop) : Prop :=
  regs_Regs_none a0_0 a0_1 a0_2 fun y0 y1 y2 y3 => br y0 (K 0 0 1 y1 y2 y3) (regs_Regs_bits y1 y2 y3 a1 (fun y0 y1 y2 => K 0 0 2 y0 y1 y2) fun y0 y1 y2 y3 => K (Lf.toI (y3 y0 0)) (Lf.toI (y3 y0 1)) 0 y1 y2 y3)
noncomputable def regs_Regs_F : Bool → (Nat → Int) → (Nat → Nat → Lf) → Int → (Int → Int → Int → Bool → (Nat → Int) → (Nat → Nat → Lf) → Prop) → Prop := Classical.choose (⟨regs_Regs_F.d, rfl⟩ : ∃ f, f = regs_Regs_F.d)
theorem regs_Regs_F.is : regs_Regs_F = regs_Regs_F.d := Classical.choose_spec (⟨regs_Regs_F.d, rfl⟩ : ∃ f, f = regs_Regs_F.d)
def regs_New.d (K : Bool → (Nat → Int) → (Nat → Nat → Lf) → Prop) : Prop :=
  K true (fun x => 0) z2
noncomputable def regs_New : (Bool → (Nat → Int) → (Nat → Nat → Lf) → Prop) → Prop := Classical.choose (⟨regs_New.d, rfl⟩ : ∃ f, f = regs_New.d)
theorem regs_New.is : regs_New = regs_New.d := Classical.choose_spec (⟨regs_New.d, rfl⟩ : ∃ f, f = regs_New.d)
def regs_Regs_SetX.d (a0_0 : Bool) (a0_1 : Nat → Int) (a0_2 : Nat → Nat → Lf) (a1 : Int) (a2 : Int) (K : Int → Bool → (Nat → Int) → (Nat → Nat → Lf) → Prop) : Prop :=
  regs_Regs_none a0_0 a0_1 a0_2 fun y0 y1 y2 y3 => br y0 (K 1 y1 y2 y3) (regs_Regs_word y1 y2 y3 a1 (fun y0 y1 y2 => K 2 y0 y1 y2) fun y0 y1 y2 y3 => K 0 y1 (upd (upd y2 y0 a2) 0 0) y3)
noncomputable def regs_Regs_SetX : Bool → (Nat → Int) → (Nat → Nat → Lf) → Int → Int → (Int → Bool → (Nat → Int) → (Nat → Nat → Lf) → Prop) → Prop := Classical.choose (⟨regs_Regs_SetX.d, rfl⟩ : ∃ f, f = regs_Regs_SetX.d)
theorem regs_Regs_SetX.is : regs_Regs_SetX = regs_Regs_SetX.d := Classical.choose_spec (⟨regs_Regs_SetX.d, rfl⟩ : ∃ f, f = regs_Regs_SetX.d)
def regs_Regs_SetF.d (a0_0 : Bool) (a0_1 : Nat → Int) (a0_2 : Nat → Nat → Lf) (a1 : Int) (a2_0 : Int) (a2_1 : Int) (K : Int → Bool → (Nat → Int) → (Nat → Nat → Lf) → Prop) : Prop :=
  regs_Regs_none a0_0 a0_1 a0_2 fun y0 y1 y2 y3 => br y0 (K 1 y1 y2 y3) (regs_Regs_bits y1 y2 y3 a1 (fun y0 y1 y2 => K 2 y0 y1 y2) fun y0 y1 y2 y3 => K 0 y1 y2 (upd2 (upd2 y3 y0 0 (Lf.z a2_0)) y0 1 (Lf.z a2_1)))
noncomputable def regs_Regs_SetF : Bool → (Nat → Int) → (Nat → Nat → Lf) → Int → Int → Int → (Int → Bool → (Nat → Int) → (Nat → Nat → Lf) → Prop) → Prop := Classical.choose (⟨regs_Regs_SetF.d, rfl⟩ : ∃ f, f = regs_Regs_SetF.d)
theorem regs_Regs_SetF.is : regs_Regs_SetF = regs_Regs_SetF.d := Classical.choose_spec (⟨regs_Regs_SetF.d, rfl⟩ : ∃ f, f = regs_Regs_SetF.d)
def regs_Regs_Put.d (a0_0 : Bool) (a0_1 : Nat → Int) (a0_2 : Nat → Nat → Lf) (a1 : Int) (a2 : Int) (a3_0 : Int) (a3_1 : Int) (K : Int → Bool → (Nat → Int) → (Nat → Nat → Lf) → Prop) : Prop :=
  regs_Regs_none a0_0 a0_1 a0_2 fun y0 y1 y2 y3 => br y0 (K 1 y1 y2 y3) (box_Box a1 a3_0 a3_1 fun y0 y1_1 y2_1 => br (!eqI y2_1 0) (K y2_1 y1 y2 y3) (regs_Regs_SetF y1 y2 y3 a2 y0 y1_1 fun y0 y1 y2 y3 => K y0 y1 y2 y3))
noncomputable def regs_Regs_Put : Bool → (Nat → Int) → (Nat → Nat → Lf) → Int → Int → Int → Int → (Int → Bool → (Nat → Int) → (Nat → Nat → Lf) → Prop) → Prop := Classical.choose (⟨regs_Regs_Put.d, rfl⟩ : ∃ f, f = regs_Regs_Put.d)
theorem regs_Regs_Put.is : regs_Regs_Put = regs_Regs_Put.d := Classical.choose_spec (⟨regs_Regs_Put.d, rfl⟩ : ∃ f, f = regs_Regs_Put.d)
def law23_lives.d (K : Bool → Prop) : Prop :=
  regs_New fun y0 y1 y2 => regs_Regs_SetX y0 y1 y2 0 7 fun y0 y1 y2 y3 => regs_Regs_X y1 y2 y3 0 fun y0_1 y1 y2 y3 y4 => regs_Regs_SetX y2 y3 y4 5 7 fun y0_2 y1_1 y2 y3 => regs_Regs_X y1_1 y2 y3 5 fun y0_3 y1_2 y2 y3 y4 => regs_Regs_X y2 y3 y4 32 fun y0_4 y1_3 y2 y3 y4 => regs_Regs_Put y2 y3 y4 2 3 0 15360 fun y0_5 y1_4 y2 y3 => regs_Regs_F y1_4 y2 y3 3 fun y0_6 y1_5 y2 y3 y4 y5 => regs_Named [102, 51, 49] fun y0_7 y1_6 y2_1 => br (eqI y0 0) (br (eqI y0_1 0) (br (eqI y1 0) (br (eqI y0_2 0) (br (eqI y0_3 7) (br (eqI y1_2 0) (br (eqI y1_3 2) (br (eqI y0_5 0) (br (eqI y1_5 18446744073709501440) (br (eqI y2 0) (br y0_7 (br (eqI y1_6 31) (K (eqI y2_1 0)) (K false)) (K false)) (K false)) (K false)) (K false)) (K false)) (K false)) (K false)) (K false)) (K false)) (K false)) (K false)
noncomputable def law23_lives : (Bool → Prop) → Prop := Classical.choose (⟨law23_lives.d, rfl⟩ : ∃ f, f = law23_lives.d)
theorem law23_lives.is : law23_lives = law23_lives.d := Classical.choose_spec (⟨law23_lives.d, rfl⟩ : ∃ f, f = law23_lives.d)
def regs_Regs_Get.d (a0_0 : Bool) (a0_1 : Nat → Int) (a0_2 : Nat → Nat → Lf) (a1 : Int) (a2 : Int) (K : Int → Int → Int → Bool → (Nat → Int) → (Nat → Nat → Lf) → Prop) : Prop :=
  regs_Regs_F a0_0 a0_1 a0_2 a2 fun y0 y1 y2 y3 y4 y5 => br (!eqI y2 0) (K 0 0 y2 y3 y4 y5) (box_Unbox a1 y0 y1 fun y0 y1 y2 => K y0 y1 y2 y3 y4 y5)
noncomputable def regs_Regs_Get : Bool → (Nat → Int) → (Nat → Nat → Lf) → Int → Int → (Int → Int → Int → Bool → (Nat → Int) → (Nat → Nat → Lf) → Prop) → Prop := Classical.choose (⟨regs_Regs_Get.d, rfl⟩ : ∃ f, f = regs_Regs_Get.d)
theorem regs_Regs_Get.is : regs_Regs_Get = regs_Regs_Get.d := Classical.choose_spec (⟨regs_Regs_Get.d, rfl⟩ : ∃ f, f = regs_Regs_Get.d)
def regs_Regs_Low.d (a0_0 : Bool) (a0_1 : Nat → Int) (a0_2 : Nat → Nat → Lf) (a1 : Int) (a2 : Int) (K : Int → Int → Int → Bool → (Nat → Int) → (Nat → Nat → Lf) → Prop) : Prop :=
  regs_Regs_F a0_0 a0_1 a0_2 a2 fun y0 y1 y2 y3 y4 y5 => br (!eqI y2 0) (K 0 0 y2 y3 y4 y5) (box_Low a1 y0 y1 fun y0 y1 y2 => K y0 y1 y2 y3 y4 y5)
noncomputable def regs_Regs_Low : Bool → (Nat → Int) → (Nat → Nat → Lf) → Int → Int → (Int → Int → Int → Bool → (Nat → Int) → (Nat → Nat → Lf) → Prop) → Prop := Classical.choose (⟨regs_Regs_Low.d, rfl⟩ : ∃ f, f = regs_Regs_Low.d)
theorem regs_Regs_Low.is : regs_Regs_Low = regs_Regs_Low.d := Classical.choose_spec (⟨regs_Regs_Low.d, rfl⟩ : ∃ f, f = regs_Regs_Low.d)
def regs_Changed.l5h1.step (again : Nat → (Nat → Int) → Int → Bool → (Nat → Int) → (Nat → Nat → Lf) → Bool → (Nat → Int) → (Nat → Nat → Lf) → Nat → (Nat → Nat → Lf) → Prop) (k0 : Nat → Bool → (Nat → Int) → (Nat → Nat → Lf) → Bool → (Nat → Int) → (Nat → Nat → Lf) → Nat → (Nat → Nat → Lf) → Prop) (x0 : Nat) (x1 : Nat → Int) (x2 : Int) (x3 : Bool) (x4 : Nat → Int) (x5 : Nat → Nat → Lf) (x6 : Bool) (x7 : Nat → Int) (x8 : Nat → Nat → Lf) (x9 : Nat) (x10 : Nat → Nat → Lf) : Prop :=
  br (ltI x2 32) (gd (leI 0 x2 && ltI x2 32) (gd (leI 0 x2 && ltI x2 32) (br (!eqI (x4 (Int.toNat x2)) (x1 (Int.toNat x2))) (gd (leN ((x0 + 1) * 40) 140737488355328) (again (x0 + 1) x1 (addI IntKind.i64 x2 1) x3 x4 x5 x6 x7 x8 (x0 + 1) (appT x0 x10 (upd2 (upd2 (upd2 (upd2 (upd2 z2 0 0 (Lf.z 0)) 0 1 (Lf.z x2)) 0 2 (Lf.z (x1 (Int.toNat x2)))) 0 3 (Lf.z 0)) 0 4 (Lf.z 0))))) (again x0 x1 (addI IntKind.i64 x2 1) x3 x4 x5 x6 x7 x8 x9 x10)))) (k0 x0 x3 x4 x5 x6 x7 x8 x9 x10)
def regs_Changed.l5h1 (k0 : Nat → Bool → (Nat → Int) → (Nat → Nat → Lf) → Bool → (Nat → Int) → (Nat → Nat → Lf) → Nat → (Nat → Nat → Lf) → Prop) : Nat → Nat → (Nat → Int) → Int → Bool → (Nat → Int) → (Nat → Nat → Lf) → Bool → (Nat → Int) → (Nat → Nat → Lf) → Nat → (Nat → Nat → Lf) → Prop
  | 0 => fun _ _ _ _ _ _ _ _ _ _ _ => False
  | n + 1 => regs_Changed.l5h1.step (regs_Changed.l5h1 k0 n) k0
def regs_Changed.l5.step (again : (Nat → Int) → Int → Bool → (Nat → Int) → (Nat → Nat → Lf) → Bool → (Nat → Int) → (Nat → Nat → Lf) → Prop) (again0 : Nat → (Nat → Int) → Int → Bool → (Nat → Int) → (Nat → Nat → Lf) → Bool → (Nat → Int) → (Nat → Nat → Lf) → Nat → (Nat → Nat → Lf) → Prop) (k0 : Bool → (Nat → Int) → (Nat → Nat → Lf) → Bool → (Nat → Int) → (Nat → Nat → Lf) → Prop) (k1 : Nat → Bool → (Nat → Int) → (Nat → Nat → Lf) → Bool → (Nat → Int) → (Nat → Nat → Lf) → Nat → (Nat → Nat → Lf) → Prop) (x0 : Nat → Int) (x1 : Int) (x2 : Bool) (x3 : Nat → Int) (x4 : Nat → Nat → Lf) (x5 : Bool) (x6 : Nat → Int) (x7 : Nat → Nat → Lf) : Prop :=
  br (ltI x1 32) (gd (leI 0 x1 && ltI x1 32) (gd (leI 0 x1 && ltI x1 32) (br (!eqI (x3 (Int.toNat x1)) (x0 (Int.toNat x1))) (again0 1 x0 (addI IntKind.i64 x1 1) x2 x3 x4 x5 x6 x7 1 (upd2 (upd2 (upd2 (upd2 (upd2 z2 0 0 (Lf.z 0)) 0 1 (Lf.z x1)) 0 2 (Lf.z (x0 (Int.toNat x1)))) 0 3 (Lf.z 0)) 0 4 (Lf.z 0))) (again x0 (addI IntKind.i64 x1 1) x2 x3 x4 x5 x6 x7)))) (k0 x2 x3 x4 x5 x6 x7)
def regs_Changed.l5 (k0 : Bool → (Nat → Int) → (Nat → Nat → Lf) → Bool → (Nat → Int) → (Nat → Nat → Lf) → Prop) (k1 : Nat → Bool → (Nat → Int) → (Nat → Nat → Lf) → Bool → (Nat → Int) → (Nat → Nat → Lf) → Nat → (Nat → Nat → Lf) → Prop) : Nat → (Nat → Int) → Int → Bool → (Nat → Int) → (Nat → Nat → Lf) → Bool → (Nat → Int) → (Nat → Nat → Lf) → Prop
  | 0 => fun _ _ _ _ _ _ _ _ => False
  | n + 1 => regs_Changed.l5.step (regs_Changed.l5 k0 k1 n) (regs_Changed.l5h1 k1 n) k0 k1
def regs_Changed.l11h1.step (again : Nat → (Nat → Nat → Lf) → Int → Bool → (Nat → Int) → (Nat → Nat → Lf) → Bool → (Nat → Int) → (Nat → Nat → Lf) → Nat → (Nat → Nat → Lf) → Prop) (k0 : Nat → Bool → (Nat → Int) → (Nat → Nat → Lf) → Bool → (Nat → Int) → (Nat → Nat → Lf) → Nat → (Nat → Nat → Lf) → Prop) (x0 : Nat) (x1 : Nat → Nat → Lf) (x2 : Int) (x3 : Bool) (x4 : Nat → Int) (x5 : Nat → Nat → Lf) (x6 : Bool) (x7 : Nat → Int) (x8 : Nat → Nat → Lf) (x9 : Nat) (x10 : Nat → Nat → Lf) : Prop :=
  br (ltI x2 32) (gd (leI 0 x2 && ltI x2 32) (gd (leI 0 x2 && ltI x2 32) (br (!(eqI (Lf.toI (x5 (Int.toNat x2) 0)) (Lf.toI (x1 (Int.toNat x2) 0)) && eqI (Lf.toI (x5 (Int.toNat x2) 1)) (Lf.toI (x1 (Int.toNat x2) 1)))) (gd (leN ((x0 + 1) * 40) 140737488355328) (again (x0 + 1) x1 (addI IntKind.i64 x2 1) x3 x4 x5 x6 x7 x8 (x0 + 1) (appT x0 x10 (upd2 (upd2 (upd2 (upd2 (upd2 z2 0 0 (Lf.z 1)) 0 1 (Lf.z x2)) 0 2 (Lf.z 0)) 0 3 (Lf.z (Lf.toI (x1 (Int.toNat x2) 0)))) 0 4 (Lf.z (Lf.toI (x1 (Int.toNat x2) 1))))))) (again x0 x1 (addI IntKind.i64 x2 1) x3 x4 x5 x6 x7 x8 x9 x10)))) (k0 x0 x3 x4 x5 x6 x7 x8 x9 x10)
def regs_Changed.l11h1 (k0 : Nat → Bool → (Nat → Int) → (Nat → Nat → Lf) → Bool → (Nat → Int) → (Nat → Nat → Lf) → Nat → (Nat → Nat → Lf) → Prop) : Nat → Nat → (Nat → Nat → Lf) → Int → Bool → (Nat → Int) → (Nat → Nat → Lf) → Bool → (Nat → Int) → (Nat → Nat → Lf) → Nat → (Nat → Nat → Lf) → Prop
  | 0 => fun _ _ _ _ _ _ _ _ _ _ _ => False
  | n + 1 => regs_Changed.l11h1.step (regs_Changed.l11h1 k0 n) k0
def regs_Changed.l11.step (again : (Nat → Nat → Lf) → Int → Bool → (Nat → Int) → (Nat → Nat → Lf) → Bool → (Nat → Int) → (Nat → Nat → Lf) → Prop) (again0 : Nat → (Nat → Nat → Lf) → Int → Bool → (Nat → Int) → (Nat → Nat → Lf) → Bool → (Nat → Int) → (Nat → Nat → Lf) → Nat → (Nat → Nat → Lf) → Prop) (k0 : Bool → (Nat → Int) → (Nat → Nat → Lf) → Bool → (Nat → Int) → (Nat → Nat → Lf) → Prop) (k1 : Nat → Bool → (Nat → Int) → (Nat → Nat → Lf) → Bool → (Nat → Int) → (Nat → Nat → Lf) → Nat → (Nat → Nat → Lf) → Prop) (x0 : Nat → Nat → Lf) (x1 : Int) (x2 : Bool) (x3 : Nat → Int) (x4 : Nat → Nat → Lf) (x5 : Bool) (x6 : Nat → Int) (x7 : Nat → Nat → Lf) : Prop :=
  br (ltI x1 32) (gd (leI 0 x1 && ltI x1 32) (gd (leI 0 x1 && ltI x1 32) (br (!(eqI (Lf.toI (x4 (Int.toNat x1) 0)) (Lf.toI (x0 (Int.toNat x1) 0)) && eqI (Lf.toI (x4 (Int.toNat x1) 1)) (Lf.toI (x0 (Int.toNat x1) 1)))) (again0 1 x0 (addI IntKind.i64 x1 1) x2 x3 x4 x5 x6 x7 1 (upd2 (upd2 (upd2 (upd2 (upd2 z2 0 0 (Lf.z 1)) 0 1 (Lf.z x1)) 0 2 (Lf.z 0)) 0 3 (Lf.z (Lf.toI (x0 (Int.toNat x1) 0)))) 0 4 (Lf.z (Lf.toI (x0 (Int.toNat x1) 1))))) (again x0 (addI IntKind.i64 x1 1) x2 x3 x4 x5 x6 x7)))) (k0 x2 x3 x4 x5 x6 x7)
def regs_Changed.l11 (k0 : Bool → (Nat → Int) → (Nat → Nat → Lf) → Bool → (Nat → Int) → (Nat → Nat → Lf) → Prop) (k1 : Nat → Bool → (Nat → Int) → (Nat → Nat → Lf) → Bool → (Nat → Int) → (Nat → Nat → Lf) → Nat → (Nat → Nat → Lf) → Prop) : Nat → (Nat → Nat → Lf) → Int → Bool → (Nat → Int) → (Nat → Nat → Lf) → Bool → (Nat → Int) → (Nat → Nat → Lf) → Prop
  | 0 => fun _ _ _ _ _ _ _ _ => False
  | n + 1 => regs_Changed.l11.step (regs_Changed.l11 k0 k1 n) (regs_Changed.l11h1 k1 n) k0 k1
def regs_Changed.l5.entry : LoopEntry := ⟨LV.mk 67 [(0, 67)] 48 2 true, 2, 64, fun vs H K => match vs, H with
  | [EV.ptr 0 [], EV.ptr 1 [], EV.slice 2 0 x0 none 5, EV.arr IntKind.u64 32 x1, EV.int IntKind.i64 x2], [some (EV.agg [EV.bool x3, EV.arr IntKind.u64 32 x4, EV.arrT 32 (Sk.agg [Sk.int IntKind.u64, Sk.int IntKind.u64]) x5]), some (EV.agg [EV.bool x6, EV.arr IntKind.u64 32 x7, EV.arrT 32 (Sk.agg [Sk.int IntKind.u64, Sk.int IntKind.u64]) x8]), some (EV.arrT x9 (Sk.agg [Sk.bool, Sk.int IntKind.i64, Sk.int IntKind.u64, Sk.agg [Sk.int IntKind.u64, Sk.int IntKind.u64]]) x10)] => ∃ n, regs_Changed.l5h1 (fun y0 y1 y2 y3 y4 y5 y6 y7 y8 => K (.exit 0) [EV.ptr 0 [], EV.ptr 1 [], EV.slice 2 0 y0 none 5] [some (EV.agg [EV.bool y1, EV.arr IntKind.u64 32 y2, EV.arrT 32 (Sk.agg [Sk.int IntKind.u64, Sk.int IntKind.u64]) y3]), some (EV.agg [EV.bool y4, EV.arr IntKind.u64 32 y5, EV.arrT 32 (Sk.agg [Sk.int IntKind.u64, Sk.int IntKind.u64]) y6]), some (EV.arrT y7 (Sk.agg [Sk.bool, Sk.int IntKind.i64, Sk.int IntKind.u64, Sk.agg [Sk.int IntKind.u64, Sk.int IntKind.u64]]) y8)]) n x0 x1 x2 x3 x4 x5 x6 x7 x8 x9 x10
  | [EV.ptr 0 [], EV.ptr 1 [], EV.nilSlice, EV.arr IntKind.u64 32 x0, EV.int IntKind.i64 x1], [some (EV.agg [EV.bool x2, EV.arr IntKind.u64 32 x3, EV.arrT 32 (Sk.agg [Sk.int IntKind.u64, Sk.int IntKind.u64]) x4]), some (EV.agg [EV.bool x5, EV.arr IntKind.u64 32 x6, EV.arrT 32 (Sk.agg [Sk.int IntKind.u64, Sk.int IntKind.u64]) x7])] => ∃ n, regs_Changed.l5 (fun y0 y1 y2 y3 y4 y5 => K (.exit 0) [EV.ptr 0 [], EV.ptr 1 [], EV.nilSlice] [some (EV.agg [EV.bool y0, EV.arr IntKind.u64 32 y1, EV.arrT 32 (Sk.agg [Sk.int IntKind.u64, Sk.int IntKind.u64]) y2]), some (EV.agg [EV.bool y3, EV.arr IntKind.u64 32 y4, EV.arrT 32 (Sk.agg [Sk.int IntKind.u64, Sk.int IntKind.u64]) y5])]) (fun y0 y1 y2 y3 y4 y5 y6 y7 y8 => K (.exit 0) [EV.ptr 0 [], EV.ptr 1 [], EV.slice 2 0 y0 none 5] [some (EV.agg [EV.bool y1, EV.arr IntKind.u64 32 y2, EV.arrT 32 (Sk.agg [Sk.int IntKind.u64, Sk.int IntKind.u64]) y3]), some (EV.agg [EV.bool y4, EV.arr IntKind.u64 32 y5, EV.arrT 32 (Sk.agg [Sk.int IntKind.u64, Sk.int IntKind.u64]) y6]), some (EV.arrT y7 (Sk.agg [Sk.bool, Sk.int IntKind.i64, Sk.int IntKind.u64, Sk.agg [Sk.int IntKind.u64, Sk.int IntKind.u64]]) y8)]) n x0 x1 x2 x3 x4 x5 x6 x7
  | _, _ => False⟩
def regs_Changed.l11.entry : LoopEntry := ⟨LV.mk 64 [(2, 64)] 48 2 true, 2, 64, fun vs H K => match vs, H with
  | [EV.ptr 0 [], EV.slice 2 0 x0 none 5, EV.arrT 32 (Sk.agg [Sk.int IntKind.u64, Sk.int IntKind.u64]) x1, EV.int IntKind.i64 x2], [some (EV.agg [EV.bool x3, EV.arr IntKind.u64 32 x4, EV.arrT 32 (Sk.agg [Sk.int IntKind.u64, Sk.int IntKind.u64]) x5]), some (EV.agg [EV.bool x6, EV.arr IntKind.u64 32 x7, EV.arrT 32 (Sk.agg [Sk.int IntKind.u64, Sk.int IntKind.u64]) x8]), some (EV.arrT x9 (Sk.agg [Sk.bool, Sk.int IntKind.i64, Sk.int IntKind.u64, Sk.agg [Sk.int IntKind.u64, Sk.int IntKind.u64]]) x10)] => ∃ n, regs_Changed.l11h1 (fun y0 y1 y2 y3 y4 y5 y6 y7 y8 => K (.exit 2) [EV.slice 2 0 y0 none 5] [some (EV.agg [EV.bool y1, EV.arr IntKind.u64 32 y2, EV.arrT 32 (Sk.agg [Sk.int IntKind.u64, Sk.int IntKind.u64]) y3]), some (EV.agg [EV.bool y4, EV.arr IntKind.u64 32 y5, EV.arrT 32 (Sk.agg [Sk.int IntKind.u64, Sk.int IntKind.u64]) y6]), some (EV.arrT y7 (Sk.agg [Sk.bool, Sk.int IntKind.i64, Sk.int IntKind.u64, Sk.agg [Sk.int IntKind.u64, Sk.int IntKind.u64]]) y8)]) n x0 x1 x2 x3 x4 x5 x6 x7 x8 x9 x10
  | [EV.ptr 0 [], EV.nilSlice, EV.arrT 32 (Sk.agg [Sk.int IntKind.u64, Sk.int IntKind.u64]) x0, EV.int IntKind.i64 x1], [some (EV.agg [EV.bool x2, EV.arr IntKind.u64 32 x3, EV.arrT 32 (Sk.agg [Sk.int IntKind.u64, Sk.int IntKind.u64]) x4]), some (EV.agg [EV.bool x5, EV.arr IntKind.u64 32 x6, EV.arrT 32 (Sk.agg [Sk.int IntKind.u64, Sk.int IntKind.u64]) x7])] => ∃ n, regs_Changed.l11 (fun y0 y1 y2 y3 y4 y5 => K (.exit 2) [EV.nilSlice] [some (EV.agg [EV.bool y0, EV.arr IntKind.u64 32 y1, EV.arrT 32 (Sk.agg [Sk.int IntKind.u64, Sk.int IntKind.u64]) y2]), some (EV.agg [EV.bool y3, EV.arr IntKind.u64 32 y4, EV.arrT 32 (Sk.agg [Sk.int IntKind.u64, Sk.int IntKind.u64]) y5])]) (fun y0 y1 y2 y3 y4 y5 y6 y7 y8 => K (.exit 2) [EV.slice 2 0 y0 none 5] [some (EV.agg [EV.bool y1, EV.arr IntKind.u64 32 y2, EV.arrT 32 (Sk.agg [Sk.int IntKind.u64, Sk.int IntKind.u64]) y3]), some (EV.agg [EV.bool y4, EV.arr IntKind.u64 32 y5, EV.arrT 32 (Sk.agg [Sk.int IntKind.u64, Sk.int IntKind.u64]) y6]), some (EV.arrT y7 (Sk.agg [Sk.bool, Sk.int IntKind.i64, Sk.int IntKind.u64, Sk.agg [Sk.int IntKind.u64, Sk.int IntKind.u64]]) y8)]) n x0 x1 x2 x3 x4 x5 x6 x7
  | _, _ => False⟩
def regs_Changed.d (a0_0 : Bool) (a0_1 : Nat → Int) (a0_2 : Nat → Nat → Lf) (a1_0 : Bool) (a1_1 : Nat → Int) (a1_2 : Nat → Nat → Lf) (K : Nat → (Nat → Nat → Lf) → Int → Bool → (Nat → Int) → (Nat → Nat → Lf) → Bool → (Nat → Int) → (Nat → Nat → Lf) → Prop) : Prop :=
  regs_Regs_none a0_0 a0_1 a0_2 fun y0 y1 y2 y3 => br y0 (K 0 z2 1 y1 y2 y3 a1_0 a1_1 a1_2) (regs_Regs_none a1_0 a1_1 a1_2 fun y0 y1_1 y2_1 y3_1 => br y0 (K 0 z2 1 y1 y2 y3 y1_1 y2_1 y3_1) (∃ n, regs_Changed.l5 (fun y0 y1 y2 y3 y4 y5 => ∃ n, regs_Changed.l11 (fun y0 y1 y2 y3 y4 y5 => K 0 z2 0 y0 y1 y2 y3 y4 y5) (fun y0 y1 y2 y3 y4 y5 y6 y7 y8 => K y0 y8 0 y1 y2 y3 y4 y5 y6) n y5 0 y0 y1 y2 y3 y4 y5) (fun y0 y1 y2 y3 y4 y5 y6 y7 y8 => ∃ n, regs_Changed.l11h1 (fun y0 y1 y2 y3 y4 y5 y6 y7 y8 => K y0 y8 0 y1 y2 y3 y4 y5 y6) n y0 y6 0 y1 y2 y3 y4 y5 y6 y7 y8) n y2_1 0 y1 y2 y3 y1_1 y2_1 y3_1))
noncomputable def regs_Changed : Bool → (Nat → Int) → (Nat → Nat → Lf) → Bool → (Nat → Int) → (Nat → Nat → Lf) → (Nat → (Nat → Nat → Lf) → Int → Bool → (Nat → Int) → (Nat → Nat → Lf) → Bool → (Nat → Int) → (Nat → Nat → Lf) → Prop) → Prop := Classical.choose (⟨regs_Changed.d, rfl⟩ : ∃ f, f = regs_Changed.d)
theorem regs_Changed.is : regs_Changed = regs_Changed.d := Classical.choose_spec (⟨regs_Changed.d, rfl⟩ : ∃ f, f = regs_Changed.d)
def regs_Regs_Change.l5.step (again : Nat → (Nat → Nat → Lf) → Int → Int → Bool → (Nat → Int) → (Nat → Nat → Lf) → Bool → (Nat → Int) → (Nat → Nat → Lf) → Prop) (k0 : Int → Bool → (Nat → Int) → (Nat → Nat → Lf) → Prop) (k1 : Bool → (Nat → Int) → (Nat → Nat → Lf) → Bool → (Nat → Int) → (Nat → Nat → Lf) → Prop) (x0 : Nat) (x1 : Nat → Nat → Lf) (x2 : Int) (x3 : Int) (x4 : Bool) (x5 : Nat → Int) (x6 : Nat → Nat → Lf) (x7 : Bool) (x8 : Nat → Int) (x9 : Nat → Nat → Lf) : Prop :=
  br (ltI x3 x2) (gd (leI 0 x3 && ltI x3 ↑x0) (br (isT (Lf.toI (x1 (Int.toNat x3) 0))) (br (!eqI (Lf.toI (x1 (Int.toNat x3) 2)) 0) (br (!eqI (Lf.toI (x1 (Int.toNat x3) 2)) 0) (k0 2 x4 x5 x6) (br (isT (Lf.toI (x1 (Int.toNat x3) 0))) (regs_Regs_SetF x7 x8 x9 (Lf.toI (x1 (Int.toNat x3) 1)) (Lf.toI (x1 (Int.toNat x3) 3)) (Lf.toI (x1 (Int.toNat x3) 4)) fun y0 y1 y2 y3 => br (!eqI y0 0) (k0 y0 x4 x5 x6) (again x0 x1 x2 (addI IntKind.i64 x3 1) x4 x5 x6 y1 y2 y3)) (regs_Regs_SetX x7 x8 x9 (Lf.toI (x1 (Int.toNat x3) 1)) (Lf.toI (x1 (Int.toNat x3) 2)) fun y0 y1 y2 y3 => br (!eqI y0 0) (k0 y0 x4 x5 x6) (again x0 x1 x2 (addI IntKind.i64 x3 1) x4 x5 x6 y1 y2 y3)))) (br (!isT (Lf.toI (x1 (Int.toNat x3) 0))) (br (!(eqI (Lf.toI (x1 (Int.toNat x3) 3)) 0 && eqI (Lf.toI (x1 (Int.toNat x3) 4)) 0)) (k0 2 x4 x5 x6) (br (isT (Lf.toI (x1 (Int.toNat x3) 0))) (regs_Regs_SetF x7 x8 x9 (Lf.toI (x1 (Int.toNat x3) 1)) (Lf.toI (x1 (Int.toNat x3) 3)) (Lf.toI (x1 (Int.toNat x3) 4)) fun y0 y1 y2 y3 => br (!eqI y0 0) (k0 y0 x4 x5 x6) (again x0 x1 x2 (addI IntKind.i64 x3 1) x4 x5 x6 y1 y2 y3)) (regs_Regs_SetX x7 x8 x9 (Lf.toI (x1 (Int.toNat x3) 1)) (Lf.toI (x1 (Int.toNat x3) 2)) fun y0 y1 y2 y3 => br (!eqI y0 0) (k0 y0 x4 x5 x6) (again x0 x1 x2 (addI IntKind.i64 x3 1) x4 x5 x6 y1 y2 y3)))) (br (isT (Lf.toI (x1 (Int.toNat x3) 0))) (regs_Regs_SetF x7 x8 x9 (Lf.toI (x1 (Int.toNat x3) 1)) (Lf.toI (x1 (Int.toNat x3) 3)) (Lf.toI (x1 (Int.toNat x3) 4)) fun y0 y1 y2 y3 => br (!eqI y0 0) (k0 y0 x4 x5 x6) (again x0 x1 x2 (addI IntKind.i64 x3 1) x4 x5 x6 y1 y2 y3)) (regs_Regs_SetX x7 x8 x9 (Lf.toI (x1 (Int.toNat x3) 1)) (Lf.toI (x1 (Int.toNat x3) 2)) fun y0 y1 y2 y3 => br (!eqI y0 0) (k0 y0 x4 x5 x6) (again x0 x1 x2 (addI IntKind.i64 x3 1) x4 x5 x6 y1 y2 y3))))) (br (!isT (Lf.toI (x1 (Int.toNat x3) 0))) (br (!(eqI (Lf.toI (x1 (Int.toNat x3) 3)) 0 && eqI (Lf.toI (x1 (Int.toNat x3) 4)) 0)) (k0 2 x4 x5 x6) (br (isT (Lf.toI (x1 (Int.toNat x3) 0))) (regs_Regs_SetF x7 x8 x9 (Lf.toI (x1 (Int.toNat x3) 1)) (Lf.toI (x1 (Int.toNat x3) 3)) (Lf.toI (x1 (Int.toNat x3) 4)) fun y0 y1 y2 y3 => br (!eqI y0 0) (k0 y0 x4 x5 x6) (again x0 x1 x2 (addI IntKind.i64 x3 1) x4 x5 x6 y1 y2 y3)) (regs_Regs_SetX x7 x8 x9 (Lf.toI (x1 (Int.toNat x3) 1)) (Lf.toI (x1 (Int.toNat x3) 2)) fun y0 y1 y2 y3 => br (!eqI y0 0) (k0 y0 x4 x5 x6) (again x0 x1 x2 (addI IntKind.i64 x3 1) x4 x5 x6 y1 y2 y3)))) (br (isT (Lf.toI (x1 (Int.toNat x3) 0))) (regs_Regs_SetF x7 x8 x9 (Lf.toI (x1 (Int.toNat x3) 1)) (Lf.toI (x1 (Int.toNat x3) 3)) (Lf.toI (x1 (Int.toNat x3) 4)) fun y0 y1 y2 y3 => br (!eqI y0 0) (k0 y0 x4 x5 x6) (again x0 x1 x2 (addI IntKind.i64 x3 1) x4 x5 x6 y1 y2 y3)) (regs_Regs_SetX x7 x8 x9 (Lf.toI (x1 (Int.toNat x3) 1)) (Lf.toI (x1 (Int.toNat x3) 2)) fun y0 y1 y2 y3 => br (!eqI y0 0) (k0 y0 x4 x5 x6) (again x0 x1 x2 (addI IntKind.i64 x3 1) x4 x5 x6 y1 y2 y3)))))) (k1 x4 x5 x6 x7 x8 x9)
def regs_Regs_Change.l5 (k0 : Int → Bool → (Nat → Int) → (Nat → Nat → Lf) → Prop) (k1 : Bool → (Nat → Int) → (Nat → Nat → Lf) → Bool → (Nat → Int) → (Nat → Nat → Lf) → Prop) : Nat → Nat → (Nat → Nat → Lf) → Int → Int → Bool → (Nat → Int) → (Nat → Nat → Lf) → Bool → (Nat → Int) → (Nat → Nat → Lf) → Prop
  | 0 => fun _ _ _ _ _ _ _ _ _ _ => False
  | n + 1 => regs_Regs_Change.l5.step (regs_Regs_Change.l5 k0 k1 n) k0 k1
def regs_Regs_Change.l5.entry : LoopEntry := ⟨LV.mk 33 [(0, 33)] 16 1 false, 1, 57, fun vs H K => match vs, H with
  | [EV.ptr 0 [], EV.ptr 1 [], EV.rsT x0 (Sk.agg [Sk.bool, Sk.int IntKind.i64, Sk.int IntKind.u64, Sk.agg [Sk.int IntKind.u64, Sk.int IntKind.u64]]) x1, EV.int IntKind.i64 x2, EV.int IntKind.i64 x3], [some (EV.agg [EV.bool x4, EV.arr IntKind.u64 32 x5, EV.arrT 32 (Sk.agg [Sk.int IntKind.u64, Sk.int IntKind.u64]) x6]), some (EV.agg [EV.bool x7, EV.arr IntKind.u64 32 x8, EV.arrT 32 (Sk.agg [Sk.int IntKind.u64, Sk.int IntKind.u64]) x9])] => ∃ n, regs_Regs_Change.l5 (fun y0 y1 y2 y3 => K .ret [EV.int IntKind.i64 y0] [some (EV.agg [EV.bool y1, EV.arr IntKind.u64 32 y2, EV.arrT 32 (Sk.agg [Sk.int IntKind.u64, Sk.int IntKind.u64]) y3])]) (fun y0 y1 y2 y3 y4 y5 => K (.exit 0) [EV.ptr 0 [], EV.ptr 1 []] [some (EV.agg [EV.bool y0, EV.arr IntKind.u64 32 y1, EV.arrT 32 (Sk.agg [Sk.int IntKind.u64, Sk.int IntKind.u64]) y2]), some (EV.agg [EV.bool y3, EV.arr IntKind.u64 32 y4, EV.arrT 32 (Sk.agg [Sk.int IntKind.u64, Sk.int IntKind.u64]) y5])]) n x0 x1 x2 x3 x4 x5 x6 x7 x8 x9
  | _, _ => False⟩
def regs_Regs_Change.d (a0_0 : Bool) (a0_1 : Nat → Int) (a0_2 : Nat → Nat → Lf) (a1n : Nat) (a1 : Nat → Nat → Lf) (K : Int → Bool → (Nat → Int) → (Nat → Nat → Lf) → Prop) : Prop :=
  regs_Regs_none a0_0 a0_1 a0_2 fun y0 y1 y2 y3 => br y0 (K 1 y1 y2 y3) (∃ n, regs_Regs_Change.l5 (fun y0 y1 y2 y3 => K y0 y1 y2 y3) (fun y0 y1 y2 y3 y4 y5 => K 0 y3 y4 y5) n a1n a1 (↑a1n) 0 y1 y2 y3 y1 y2 y3)
noncomputable def regs_Regs_Change : Bool → (Nat → Int) → (Nat → Nat → Lf) → Nat → (Nat → Nat → Lf) → (Int → Bool → (Nat → Int) → (Nat → Nat → Lf) → Prop) → Prop := Classical.choose (⟨regs_Regs_Change.d, rfl⟩ : ∃ f, f = regs_Regs_Change.d)
theorem regs_Regs_Change.is : regs_Regs_Change = regs_Regs_Change.d := Classical.choose_spec (⟨regs_Regs_Change.d, rfl⟩ : ∃ f, f = regs_Regs_Change.d)
def regs_Regs_Copy.d (a0_0 : Bool) (a0_1 : Nat → Int) (a0_2 : Nat → Nat → Lf) (K0 : Bool → (Nat → Int) → (Nat → Nat → Lf) → Prop) (K1 : Bool → (Nat → Int) → (Nat → Nat → Lf) → Bool → (Nat → Int) → (Nat → Nat → Lf) → Prop) : Prop :=
  regs_Regs_none a0_0 a0_1 a0_2 fun y0 y1 y2 y3 => br y0 (K0 y1 y2 y3) (K1 y1 y2 y3 y1 y2 y3)
noncomputable def regs_Regs_Copy : Bool → (Nat → Int) → (Nat → Nat → Lf) → (Bool → (Nat → Int) → (Nat → Nat → Lf) → Prop) → (Bool → (Nat → Int) → (Nat → Nat → Lf) → Bool → (Nat → Int) → (Nat → Nat → Lf) → Prop) → Prop := Classical.choose (⟨regs_Regs_Copy.d, rfl⟩ : ∃ f, f = regs_Regs_Copy.d)
theorem regs_Regs_Copy.is : regs_Regs_Copy = regs_Regs_Copy.d := Classical.choose_spec (⟨regs_Regs_Copy.d, rfl⟩ : ∃ f, f = regs_Regs_Copy.d)
def regs_Regs_Tell.d (a0_0 : Bool) (a0_1 : Nat → Int) (a0_2 : Nat → Nat → Lf) (K : (Nat → Int) → (Nat → Nat → Lf) → Bool → (Nat → Int) → (Nat → Nat → Lf) → Prop) : Prop :=
  regs_Regs_none a0_0 a0_1 a0_2 fun y0 y1 y2 y3 => br y0 (K (fun x => 0) z2 y1 y2 y3) (K y2 y3 y1 y2 y3)
noncomputable def regs_Regs_Tell : Bool → (Nat → Int) → (Nat → Nat → Lf) → ((Nat → Int) → (Nat → Nat → Lf) → Bool → (Nat → Int) → (Nat → Nat → Lf) → Prop) → Prop := Classical.choose (⟨regs_Regs_Tell.d, rfl⟩ : ∃ f, f = regs_Regs_Tell.d)
theorem regs_Regs_Tell.is : regs_Regs_Tell = regs_Regs_Tell.d := Classical.choose_spec (⟨regs_Regs_Tell.d, rfl⟩ : ∃ f, f = regs_Regs_Tell.d)
def regs_Same.d (a0_0 : Bool) (a0_1 : Nat → Int) (a0_2 : Nat → Nat → Lf) (a1_0 : Bool) (a1_1 : Nat → Int) (a1_2 : Nat → Nat → Lf) (K : Bool → Bool → (Nat → Int) → (Nat → Nat → Lf) → Bool → (Nat → Int) → (Nat → Nat → Lf) → Prop) : Prop :=
  regs_Regs_none a0_0 a0_1 a0_2 fun y0 y1 y2 y3 => br (!y0) (regs_Regs_none a1_0 a1_1 a1_2 fun y0 y1_1 y2_1 y3_1 => br (!y0) (K (beqB y1 y1_1 && (eqN 32 y2 y2_1 && eqTb (Sk.agg [Sk.int IntKind.u64, Sk.int IntKind.u64]) 32 y3 y3_1)) y1 y2 y3 y1_1 y2_1 y3_1) (K false y1 y2 y3 y1_1 y2_1 y3_1)) (K false y1 y2 y3 a1_0 a1_1 a1_2)
noncomputable def regs_Same : Bool → (Nat → Int) → (Nat → Nat → Lf) → Bool → (Nat → Int) → (Nat → Nat → Lf) → (Bool → Bool → (Nat → Int) → (Nat → Nat → Lf) → Bool → (Nat → Int) → (Nat → Nat → Lf) → Prop) → Prop := Classical.choose (⟨regs_Same.d, rfl⟩ : ∃ f, f = regs_Same.d)
theorem regs_Same.is : regs_Same = regs_Same.d := Classical.choose_spec (⟨regs_Same.d, rfl⟩ : ∃ f, f = regs_Same.d)
def regs_From.d (a0_0 : Nat → Int) (a0_1 : Nat → Nat → Lf) (K : Bool → (Nat → Int) → (Nat → Nat → Lf) → Prop) : Prop :=
  K true (upd a0_0 0 0) a0_1
noncomputable def regs_From : (Nat → Int) → (Nat → Nat → Lf) → (Bool → (Nat → Int) → (Nat → Nat → Lf) → Prop) → Prop := Classical.choose (⟨regs_From.d, rfl⟩ : ∃ f, f = regs_From.d)
theorem regs_From.is : regs_From = regs_From.d := Classical.choose_spec (⟨regs_From.d, rfl⟩ : ∃ f, f = regs_From.d)
end Go.Ev.S

/- The functions as the evaluator has them: what each comes to. -/
set_option maxRecDepth 100000
set_option linter.unusedVariables false
set_option linter.unusedSimpArgs false
namespace Go.Ev.S
open Go Go.Ev
def r22_Width.d (a0 : Int) (K : Int → Prop) : Prop :=
  br (eqI a0 2) (K 16) (br (eqI a0 0) (K 32) (br (eqI a0 1) (K 64) (br (eqI a0 3) (K 128) (K 0))))
noncomputable def r22_Width : Int → (Int → Prop) → Prop := Classical.choose (⟨r22_Width.d, rfl⟩ : ∃ f, f = r22_Width.d)
theorem r22_Width.is : r22_Width = r22_Width.d := Classical.choose_spec (⟨r22_Width.d, rfl⟩ : ∃ f, f = r22_Width.d)
def r22_with.d (a0_0 : Int) (a0_1 : Int) (a1 : Int) (K : Int → Int → Prop) : Prop :=
  br (ltI a1 64) (gd (!ltI a1 0) (K a0_0 (orI IntKind.u64 a0_1 (shlI IntKind.u64 1 a1)))) (gd (!ltI (subI IntKind.i64 a1 64) 0) (K (orI IntKind.u64 a0_0 (shlI IntKind.u64 1 (subI IntKind.i64 a1 64))) a0_1))
noncomputable def r22_with : Int → Int → Int → (Int → Int → Prop) → Prop := Classical.choose (⟨r22_with.d, rfl⟩ : ∃ f, f = r22_with.d)
theorem r22_with.is : r22_with = r22_with.d := Classical.choose_spec (⟨r22_with.d, rfl⟩ : ∃ f, f = r22_with.d)
def r22_Above.l3.step (again : Int → Int → Int → Int → Int → Prop) (k0 : Int → Int → Int → Int → Prop) (x0 : Int) (x1 : Int) (x2 : Int) (x3 : Int) (x4 : Int) : Prop :=
  br (ltI x0 128) (r22_with x3 x4 x0 fun y0 y1 => again (addI IntKind.i64 x0 1) x1 x2 y0 y1) (k0 x1 x2 x3 x4)
def r22_Above.l3 (k0 : Int → Int → Int → Int → Prop) : Nat → Int → Int → Int → Int → Int → Prop
  | 0 => fun _ _ _ _ _ => False
  | n + 1 => r22_Above.l3.step (r22_Above.l3 k0 n) k0
def r22_Above.l3.entry : LoopEntry := ⟨LV.mk 12 [(0, 12)] 4 0 false, 0, 15, fun vs H K => match vs, H with
  | [EV.ptr 0 [], EV.ptr 1 [], EV.int IntKind.i64 x0], [some (EV.agg [EV.int IntKind.u64 x1, EV.int IntKind.u64 x2]), some (EV.agg [EV.int IntKind.u64 x3, EV.int IntKind.u64 x4])] => ∃ n, r22_Above.l3 (fun y0 y1 y2 y3 => K (.exit 0) [EV.ptr 0 [], EV.ptr 1 []] [some (EV.agg [EV.int IntKind.u64 y0, EV.int IntKind.u64 y1]), some (EV.agg [EV.int IntKind.u64 y2, EV.int IntKind.u64 y3])]) n x0 x1 x2 x3 x4
  | _, _ => False⟩
def r22_Above.d (a0 : Int) (K : Int → Int → Prop) : Prop :=
  r22_Width a0 fun y0 => ∃ n, r22_Above.l3 (fun y0 y1 y2 y3 => K y2 y3) n y0 0 0 0 0
noncomputable def r22_Above : Int → (Int → Int → Prop) → Prop := Classical.choose (⟨r22_Above.d, rfl⟩ : ∃ f, f = r22_Above.d)
def r22_Bit.d (a0_0 : Int) (a0_1 : Int) (a1 : Int) (K : Bool → Prop) : Prop :=
  br (ltI a1 64) (gd (!ltI a1 0) (K (eqI (andI IntKind.u64 (shrI IntKind.u64 a0_1 a1) 1) 1))) (gd (!ltI (subI IntKind.i64 a1 64) 0) (K (eqI (andI IntKind.u64 (shrI IntKind.u64 a0_0 (subI IntKind.i64 a1 64)) 1) 1)))
noncomputable def r22_Bit : Int → Int → Int → (Bool → Prop) → Prop := Classical.choose (⟨r22_Bit.d, rfl⟩ : ∃ f, f = r22_Bit.d)
theorem r22_Bit.is : r22_Bit = r22_Bit.d := Classical.choose_spec (⟨r22_Bit.d, rfl⟩ : ∃ f, f = r22_Bit.d)
def r22_Box.l2.step (again : Int → Int → Int → Int → Int → Prop) (k0 : Int → Int → Int → Int → Prop) (x0 : Int) (x1 : Int) (x2 : Int) (x3 : Int) (x4 : Int) : Prop :=
  br (ltI x0 128) (r22_with x1 x2 x0 fun y0 y1 => again (addI IntKind.i64 x0 1) y0 y1 x3 x4) (k0 x1 x2 x3 x4)
def r22_Box.l2 (k0 : Int → Int → Int → Int → Prop) : Nat → Int → Int → Int → Int → Int → Prop
  | 0 => fun _ _ _ _ _ => False
  | n + 1 => r22_Box.l2.step (r22_Box.l2 k0 n) k0
def r22_Box.l2.entry : LoopEntry := ⟨LV.mk 24 [(0, 24)] 16 0 false, 0, 16, fun vs H K => match vs, H with
  | [EV.ptr 0 [], EV.ptr 1 [], EV.int IntKind.i64 x0], [some (EV.agg [EV.int IntKind.u64 x1, EV.int IntKind.u64 x2]), some (EV.agg [EV.int IntKind.u64 x3, EV.int IntKind.u64 x4])] => ∃ n, r22_Box.l2 (fun y0 y1 y2 y3 => K (.exit 0) [EV.ptr 0 [], EV.ptr 1 []] [some (EV.agg [EV.int IntKind.u64 y0, EV.int IntKind.u64 y1]), some (EV.agg [EV.int IntKind.u64 y2, EV.int IntKind.u64 y3])]) n x0 x1 x2 x3 x4
  | _, _ => False⟩
def r22_Box.d (a0 : Int) (a1_0 : Int) (a1_1 : Int) (K : Int → Int → Prop) : Prop :=
  r22_Width a0 fun y0 => ∃ n, r22_Box.l2 (fun y0 y1 y2 y3 => K y0 y1) n y0 a1_0 a1_1 0 0
noncomputable def r22_Box : Int → Int → Int → (Int → Int → Prop) → Prop := Classical.choose (⟨r22_Box.d, rfl⟩ : ∃ f, f = r22_Box.d)
theorem r22_Box.is : r22_Box = r22_Box.d := Classical.choose_spec (⟨r22_Box.d, rfl⟩ : ∃ f, f = r22_Box.d)
def r22_Fits.l2.step (again : Int → Int → Int → Int → Prop) (k0 : Bool → Prop) (k1 : Int → Prop) (x0 : Int) (x1 : Int) (x2 : Int) (x3 : Int) : Prop :=
  br (ltI x1 128) (r22_Bit x2 x3 x1 fun y0 => br y0 (k0 false) (again x0 (addI IntKind.i64 x1 1) x2 x3)) (k1 x0)
def r22_Fits.l2 (k0 : Bool → Prop) (k1 : Int → Prop) : Nat → Int → Int → Int → Int → Prop
  | 0 => fun _ _ _ _ => False
  | n + 1 => r22_Fits.l2.step (r22_Fits.l2 k0 k1 n) k0 k1
def r22_Fits.l2.entry : LoopEntry := ⟨LV.mk 1 [(0, 1)] 16 0 false, 0, 18, fun vs H K => match vs, H with
  | [EV.int IntKind.u8 x0, EV.ptr 0 [], EV.int IntKind.i64 x1], [some (EV.agg [EV.int IntKind.u64 x2, EV.int IntKind.u64 x3])] => ∃ n, r22_Fits.l2 (fun y0 => K .ret [EV.bool y0] []) (fun y0 => K (.exit 0) [EV.int IntKind.u8 y0] []) n x0 x1 x2 x3
  | _, _ => False⟩
def r22_Fits.d (a0 : Int) (a1_0 : Int) (a1_1 : Int) (K : Bool → Prop) : Prop :=
  r22_Width a0 fun y0 => ∃ n, r22_Fits.l2 (fun y0 => K y0) (fun y0 => r22_Width y0 fun y0 => K (ltI 0 y0)) n a0 y0 a1_0 a1_1
noncomputable def r22_Fits : Int → Int → Int → (Bool → Prop) → Prop := Classical.choose (⟨r22_Fits.d, rfl⟩ : ∃ f, f = r22_Fits.d)
theorem r22_Fits.is : r22_Fits = r22_Fits.d := Classical.choose_spec (⟨r22_Fits.d, rfl⟩ : ∃ f, f = r22_Fits.d)
def r22_IsBoxed.l2.step (again : Int → Int → Int → Int → Prop) (k0 : Bool → Prop) (k1 : Int → Prop) (x0 : Int) (x1 : Int) (x2 : Int) (x3 : Int) : Prop :=
  br (ltI x1 128) (r22_Bit x2 x3 x1 fun y0 => br (!y0) (k0 false) (again x0 (addI IntKind.i64 x1 1) x2 x3)) (k1 x0)
def r22_IsBoxed.l2 (k0 : Bool → Prop) (k1 : Int → Prop) : Nat → Int → Int → Int → Int → Prop
  | 0 => fun _ _ _ _ => False
  | n + 1 => r22_IsBoxed.l2.step (r22_IsBoxed.l2 k0 k1 n) k0 k1
def r22_IsBoxed.l2.entry : LoopEntry := ⟨LV.mk 1 [(0, 1)] 16 0 false, 0, 19, fun vs H K => match vs, H with
  | [EV.int IntKind.u8 x0, EV.ptr 0 [], EV.int IntKind.i64 x1], [some (EV.agg [EV.int IntKind.u64 x2, EV.int IntKind.u64 x3])] => ∃ n, r22_IsBoxed.l2 (fun y0 => K .ret [EV.bool y0] []) (fun y0 => K (.exit 0) [EV.int IntKind.u8 y0] []) n x0 x1 x2 x3
  | _, _ => False⟩
def r22_IsBoxed.d (a0 : Int) (a1_0 : Int) (a1_1 : Int) (K : Bool → Prop) : Prop :=
  r22_Width a0 fun y0 => ∃ n, r22_IsBoxed.l2 (fun y0 => K y0) (fun y0 => r22_Width y0 fun y0 => K (ltI 0 y0)) n a0 y0 a1_0 a1_1
noncomputable def r22_IsBoxed : Int → Int → Int → (Bool → Prop) → Prop := Classical.choose (⟨r22_IsBoxed.d, rfl⟩ : ∃ f, f = r22_IsBoxed.d)
theorem r22_IsBoxed.is : r22_IsBoxed = r22_IsBoxed.d := Classical.choose_spec (⟨r22_IsBoxed.d, rfl⟩ : ∃ f, f = r22_IsBoxed.d)
def r22_Low.l3.step (again : Int → Int → Int → Int → Int → Int → Int → Int → Prop) (k0 : Int → Int → Int → Int → Prop) (x0 : Int) (x1 : Int) (x2 : Int) (x3 : Int) (x4 : Int) (x5 : Int) (x6 : Int) (x7 : Int) : Prop :=
  r22_Width x0 fun y0 => br (ltI x1 y0) (r22_Bit x2 x3 x1 fun y0 => br y0 (r22_with x6 x7 x1 fun y0 y1 => again x0 (addI IntKind.i64 x1 1) x2 x3 x4 x5 y0 y1) (again x0 (addI IntKind.i64 x1 1) x2 x3 x4 x5 x6 x7)) (k0 x4 x5 x6 x7)
def r22_Low.l3 (k0 : Int → Int → Int → Int → Prop) : Nat → Int → Int → Int → Int → Int → Int → Int → Int → Prop
  | 0 => fun _ _ _ _ _ _ _ _ => False
  | n + 1 => r22_Low.l3.step (r22_Low.l3 k0 n) k0
def r22_Low.l3.entry : LoopEntry := ⟨LV.mk 48 [(0, 48)] 16 0 false, 0, 20, fun vs H K => match vs, H with
  | [EV.int IntKind.u8 x0, EV.ptr 0 [], EV.ptr 1 [], EV.ptr 2 [], EV.int IntKind.i64 x1], [some (EV.agg [EV.int IntKind.u64 x2, EV.int IntKind.u64 x3]), some (EV.agg [EV.int IntKind.u64 x4, EV.int IntKind.u64 x5]), some (EV.agg [EV.int IntKind.u64 x6, EV.int IntKind.u64 x7])] => ∃ n, r22_Low.l3 (fun y0 y1 y2 y3 => K (.exit 0) [EV.ptr 0 [], EV.ptr 1 []] [some (EV.agg [EV.int IntKind.u64 y0, EV.int IntKind.u64 y1]), some (EV.agg [EV.int IntKind.u64 y2, EV.int IntKind.u64 y3])]) n x0 x1 x2 x3 x4 x5 x6 x7
  | _, _ => False⟩
def r22_Low.d (a0 : Int) (a1_0 : Int) (a1_1 : Int) (K : Int → Int → Prop) : Prop :=
  ∃ n, r22_Low.l3 (fun y0 y1 y2 y3 => K y2 y3) n a0 0 a1_0 a1_1 0 0 0 0
noncomputable def r22_Low : Int → Int → Int → (Int → Int → Prop) → Prop := Classical.choose (⟨r22_Low.d, rfl⟩ : ∃ f, f = r22_Low.d)
theorem r22_Low.is : r22_Low = r22_Low.d := Classical.choose_spec (⟨r22_Low.d, rfl⟩ : ∃ f, f = r22_Low.d)
def r22_NaN.l11.step (again : Int → Int → Int → Int → Int → Int → Prop) (k0 : Int → Int → Int → Int → Prop) (x0 : Int) (x1 : Int) (x2 : Int) (x3 : Int) (x4 : Int) (x5 : Int) : Prop :=
  r22_Width x0 fun y0 => br (ltI x1 (subI IntKind.i64 y0 1)) (r22_with x4 x5 x1 fun y0 y1 => again x0 (addI IntKind.i64 x1 1) x2 x3 y0 y1) (k0 x2 x3 x4 x5)
def r22_NaN.l11 (k0 : Int → Int → Int → Int → Prop) : Nat → Int → Int → Int → Int → Int → Int → Prop
  | 0 => fun _ _ _ _ _ _ => False
  | n + 1 => r22_NaN.l11.step (r22_NaN.l11 k0 n) k0
def r22_NaN.l11.entry : LoopEntry := ⟨LV.mk 20 [(1, 20)] 4 0 false, 0, 26, fun vs H K => match vs, H with
  | [EV.int IntKind.u8 x0, EV.ptr 0 [], EV.ptr 1 [], EV.int IntKind.i64 x1], [some (EV.agg [EV.int IntKind.u64 x2, EV.int IntKind.u64 x3]), some (EV.agg [EV.int IntKind.u64 x4, EV.int IntKind.u64 x5])] => ∃ n, r22_NaN.l11 (fun y0 y1 y2 y3 => K (.exit 1) [EV.ptr 0 [], EV.ptr 1 []] [some (EV.agg [EV.int IntKind.u64 y0, EV.int IntKind.u64 y1]), some (EV.agg [EV.int IntKind.u64 y2, EV.int IntKind.u64 y3])]) n x0 x1 x2 x3 x4 x5
  | _, _ => False⟩
def r22_NaN.d (a0 : Int) (K : Int → Int → Prop) : Prop :=
  br (eqI a0 0) (∃ n, r22_NaN.l11 (fun y0 y1 y2 y3 => K y2 y3) n a0 22 0 0 0 0) (br (eqI a0 1) (∃ n, r22_NaN.l11 (fun y0 y1 y2 y3 => K y2 y3) n a0 51 0 0 0 0) (br (eqI a0 3) (∃ n, r22_NaN.l11 (fun y0 y1 y2 y3 => K y2 y3) n a0 111 0 0 0 0) (∃ n, r22_NaN.l11 (fun y0 y1 y2 y3 => K y2 y3) n a0 9 0 0 0 0)))
noncomputable def r22_NaN : Int → (Int → Int → Prop) → Prop := Classical.choose (⟨r22_NaN.d, rfl⟩ : ∃ f, f = r22_NaN.d)
theorem r22_NaN.is : r22_NaN = r22_NaN.d := Classical.choose_spec (⟨r22_NaN.d, rfl⟩ : ∃ f, f = r22_NaN.d)
def r22_Unbox.d (a0 : Int) (a1_0 : Int) (a1_1 : Int) (K : Int → Int → Prop) : Prop :=
  r22_IsBoxed a0 a1_0 a1_1 fun y0 => br y0 (r22_Low a0 a1_0 a1_1 fun y0 y1 => K y0 y1) (r22_NaN a0 fun y0 y1 => K y0 y1)
noncomputable def r22_Unbox : Int → Int → Int → (Int → Int → Prop) → Prop := Classical.choose (⟨r22_Unbox.d, rfl⟩ : ∃ f, f = r22_Unbox.d)
theorem r22_Unbox.is : r22_Unbox = r22_Unbox.d := Classical.choose_spec (⟨r22_Unbox.d, rfl⟩ : ∃ f, f = r22_Unbox.d)
end Go.Ev.S

/- The functions as the evaluator has them: what each comes to. -/
set_option maxRecDepth 100000
set_option linter.unusedVariables false
set_option linter.unusedSimpArgs false
namespace Go.Ev.S
open Go Go.Ev
end Go.Ev.S

/- The functions as the evaluator has them: what each comes to. -/
set_option maxRecDepth 100000
set_option linter.unusedVariables false
set_option linter.unusedSimpArgs false
namespace Go.Ev.S
open Go Go.Ev
end Go.Ev.S

/- The functions as the evaluator has them: what each comes to. -/
set_option maxRecDepth 100000
set_option linter.unusedVariables false
set_option linter.unusedSimpArgs false
namespace Go.Ev.S
open Go Go.Ev
end Go.Ev.S

/- The functions as the evaluator has them: what each comes to. -/
set_option maxRecDepth 100000
set_option linter.unusedVariables false
set_option linter.unusedSimpArgs false
namespace Go.Ev.S
open Go Go.Ev
end Go.Ev.S

/- The functions as the evaluator has them: what each comes to. -/
set_option maxRecDepth 100000
set_option linter.unusedVariables false
set_option linter.unusedSimpArgs false
namespace Go.Ev.S
open Go Go.Ev
def r23_From.d (a0_0 : Nat → Int) (a0_1 : Nat → Nat → Lf) (K : (Nat → Int) → (Nat → Nat → Lf) → Prop) : Prop :=
  K (upd a0_0 0 0) a0_1
noncomputable def r23_From : (Nat → Int) → (Nat → Nat → Lf) → ((Nat → Int) → (Nat → Nat → Lf) → Prop) → Prop := Classical.choose (⟨r23_From.d, rfl⟩ : ∃ f, f = r23_From.d)
theorem r23_From.is : r23_From = r23_From.d := Classical.choose_spec (⟨r23_From.d, rfl⟩ : ∃ f, f = r23_From.d)
def r23_is.d (a0 : Int) (K : Bool → Prop) : Prop :=
  br (leI 0 a0) (K (ltI a0 32)) (K false)
noncomputable def r23_is : Int → (Bool → Prop) → Prop := Classical.choose (⟨r23_is.d, rfl⟩ : ∃ f, f = r23_is.d)
theorem r23_is.is : r23_is = r23_is.d := Classical.choose_spec (⟨r23_is.d, rfl⟩ : ∃ f, f = r23_is.d)
def r23_SetX.d (a0_0 : Nat → Int) (a0_1 : Nat → Nat → Lf) (a1 : Int) (a2 : Int) (K : (Nat → Int) → (Nat → Nat → Lf) → Int → Prop) : Prop :=
  r23_is a1 fun y0 => br (!y0) (K a0_0 a0_1 2) (br (ltI 0 a1) (gd (leI 0 a1 && ltI a1 32) (K (upd a0_0 (Int.toNat a1) a2) a0_1 0)) (K a0_0 a0_1 0))
noncomputable def r23_SetX : (Nat → Int) → (Nat → Nat → Lf) → Int → Int → ((Nat → Int) → (Nat → Nat → Lf) → Int → Prop) → Prop := Classical.choose (⟨r23_SetX.d, rfl⟩ : ∃ f, f = r23_SetX.d)
theorem r23_SetX.is : r23_SetX = r23_SetX.d := Classical.choose_spec (⟨r23_SetX.d, rfl⟩ : ∃ f, f = r23_SetX.d)
def r23_SetF.d (a0_0 : Nat → Int) (a0_1 : Nat → Nat → Lf) (a1 : Int) (a2_0 : Int) (a2_1 : Int) (K : (Nat → Int) → (Nat → Nat → Lf) → Int → Prop) : Prop :=
  r23_is a1 fun y0 => br (!y0) (K a0_0 a0_1 2) (gd (leI 0 a1 && ltI a1 32) (K a0_0 (upd2 (upd2 a0_1 (Int.toNat a1) 0 (Lf.z a2_0)) (Int.toNat a1) 1 (Lf.z a2_1)) 0))
noncomputable def r23_SetF : (Nat → Int) → (Nat → Nat → Lf) → Int → Int → Int → ((Nat → Int) → (Nat → Nat → Lf) → Int → Prop) → Prop := Classical.choose (⟨r23_SetF.d, rfl⟩ : ∃ f, f = r23_SetF.d)
theorem r23_SetF.is : r23_SetF = r23_SetF.d := Classical.choose_spec (⟨r23_SetF.d, rfl⟩ : ∃ f, f = r23_SetF.d)
def r23_Put.d (a0_0 : Nat → Int) (a0_1 : Nat → Nat → Lf) (a1 : Int) (a2 : Int) (a3_0 : Int) (a3_1 : Int) (K : (Nat → Int) → (Nat → Nat → Lf) → Int → Prop) : Prop :=
  r23_is a2 fun y0 => br (!y0) (K a0_0 a0_1 2) (r22_Fits a1 a3_0 a3_1 fun y0 => br (!y0) (K a0_0 a0_1 2) (r22_Box a1 a3_0 a3_1 fun y0 y1 => gd (leI 0 a2 && ltI a2 32) (K a0_0 (upd2 (upd2 a0_1 (Int.toNat a2) 0 (Lf.z y0)) (Int.toNat a2) 1 (Lf.z y1)) 0)))
noncomputable def r23_Put : (Nat → Int) → (Nat → Nat → Lf) → Int → Int → Int → Int → ((Nat → Int) → (Nat → Nat → Lf) → Int → Prop) → Prop := Classical.choose (⟨r23_Put.d, rfl⟩ : ∃ f, f = r23_Put.d)
theorem r23_Put.is : r23_Put = r23_Put.d := Classical.choose_spec (⟨r23_Put.d, rfl⟩ : ∃ f, f = r23_Put.d)
def r23_X.d (a0_0 : Nat → Int) (a0_1 : Nat → Nat → Lf) (a1 : Int) (K : Int → Int → Prop) : Prop :=
  r23_is a1 fun y0 => br (!y0) (K 0 2) (gd (leI 0 a1 && ltI a1 32) (K (a0_0 (Int.toNat a1)) 0))
noncomputable def r23_X : (Nat → Int) → (Nat → Nat → Lf) → Int → (Int → Int → Prop) → Prop := Classical.choose (⟨r23_X.d, rfl⟩ : ∃ f, f = r23_X.d)
theorem r23_X.is : r23_X = r23_X.d := Classical.choose_spec (⟨r23_X.d, rfl⟩ : ∃ f, f = r23_X.d)
def r23_F.d (a0_0 : Nat → Int) (a0_1 : Nat → Nat → Lf) (a1 : Int) (K : Int → Int → Int → Prop) : Prop :=
  r23_is a1 fun y0 => br (!y0) (K 0 0 2) (gd (leI 0 a1 && ltI a1 32) (K (Lf.toI (a0_1 (Int.toNat a1) 0)) (Lf.toI (a0_1 (Int.toNat a1) 1)) 0))
noncomputable def r23_F : (Nat → Int) → (Nat → Nat → Lf) → Int → (Int → Int → Int → Prop) → Prop := Classical.choose (⟨r23_F.d, rfl⟩ : ∃ f, f = r23_F.d)
theorem r23_F.is : r23_F = r23_F.d := Classical.choose_spec (⟨r23_F.d, rfl⟩ : ∃ f, f = r23_F.d)
def r23_Get.d (a0_0 : Nat → Int) (a0_1 : Nat → Nat → Lf) (a1 : Int) (a2 : Int) (K : Int → Int → Int → Prop) : Prop :=
  r23_is a2 fun y0 => br (!y0) (K 0 0 2) (r22_Width a1 fun y0 => br (eqI y0 0) (K 0 0 2) (gd (leI 0 a2 && ltI a2 32) (r22_Unbox a1 (Lf.toI (a0_1 (Int.toNat a2) 0)) (Lf.toI (a0_1 (Int.toNat a2) 1)) fun y0 y1 => K y0 y1 0)))
noncomputable def r23_Get : (Nat → Int) → (Nat → Nat → Lf) → Int → Int → (Int → Int → Int → Prop) → Prop := Classical.choose (⟨r23_Get.d, rfl⟩ : ∃ f, f = r23_Get.d)
theorem r23_Get.is : r23_Get = r23_Get.d := Classical.choose_spec (⟨r23_Get.d, rfl⟩ : ∃ f, f = r23_Get.d)
def r23_Low.d (a0_0 : Nat → Int) (a0_1 : Nat → Nat → Lf) (a1 : Int) (a2 : Int) (K : Int → Int → Int → Prop) : Prop :=
  r23_is a2 fun y0 => br (!y0) (K 0 0 2) (r22_Width a1 fun y0 => br (eqI y0 0) (K 0 0 2) (gd (leI 0 a2 && ltI a2 32) (r22_Low a1 (Lf.toI (a0_1 (Int.toNat a2) 0)) (Lf.toI (a0_1 (Int.toNat a2) 1)) fun y0 y1 => K y0 y1 0)))
noncomputable def r23_Low : (Nat → Int) → (Nat → Nat → Lf) → Int → Int → (Int → Int → Int → Prop) → Prop := Classical.choose (⟨r23_Low.d, rfl⟩ : ∃ f, f = r23_Low.d)
theorem r23_Low.is : r23_Low = r23_Low.d := Classical.choose_spec (⟨r23_Low.d, rfl⟩ : ∃ f, f = r23_Low.d)
def r23_Change.l3.step (again : Nat → (Nat → Nat → Lf) → Int → (Nat → Int) → (Nat → Nat → Lf) → (Nat → Int) → (Nat → Nat → Lf) → (Nat → Int) → (Nat → Nat → Lf) → Prop) (k0 : Int → (Nat → Int) → (Nat → Nat → Lf) → Prop) (k1 : (Nat → Int) → (Nat → Nat → Lf) → (Nat → Int) → (Nat → Nat → Lf) → Prop) (x0 : Nat) (x1 : Nat → Nat → Lf) (x2 : Int) (x3 : Nat → Int) (x4 : Nat → Nat → Lf) (x5 : Nat → Int) (x6 : Nat → Nat → Lf) (x7 : Nat → Int) (x8 : Nat → Nat → Lf) : Prop :=
  br (ltI x2 ↑x0) (gd (leI 0 x2 && ltI x2 ↑x0) (r23_is (Lf.toI (x1 (Int.toNat x2) 1)) fun y0 => br (!y0) (k0 2 x7 x8) (br (isT (Lf.toI (x1 (Int.toNat x2) 0))) (br (!eqI (Lf.toI (x1 (Int.toNat x2) 2)) 0) (k0 2 x7 x8) (br (!isT (Lf.toI (x1 (Int.toNat x2) 0))) (br (!(eqI (Lf.toI (x1 (Int.toNat x2) 3)) 0 && eqI (Lf.toI (x1 (Int.toNat x2) 4)) 0)) (k0 2 x7 x8) (br (isT (Lf.toI (x1 (Int.toNat x2) 0))) (r23_SetF x3 x4 (Lf.toI (x1 (Int.toNat x2) 1)) (Lf.toI (x1 (Int.toNat x2) 3)) (Lf.toI (x1 (Int.toNat x2) 4)) fun y0 y1 y2 => again x0 x1 (addI IntKind.i64 x2 1) y0 y1 x5 x6 x7 x8) (r23_SetX x3 x4 (Lf.toI (x1 (Int.toNat x2) 1)) (Lf.toI (x1 (Int.toNat x2) 2)) fun y0 y1 y2 => again x0 x1 (addI IntKind.i64 x2 1) y0 y1 x5 x6 x7 x8))) (br (isT (Lf.toI (x1 (Int.toNat x2) 0))) (r23_SetF x3 x4 (Lf.toI (x1 (Int.toNat x2) 1)) (Lf.toI (x1 (Int.toNat x2) 3)) (Lf.toI (x1 (Int.toNat x2) 4)) fun y0 y1 y2 => again x0 x1 (addI IntKind.i64 x2 1) y0 y1 x5 x6 x7 x8) (r23_SetX x3 x4 (Lf.toI (x1 (Int.toNat x2) 1)) (Lf.toI (x1 (Int.toNat x2) 2)) fun y0 y1 y2 => again x0 x1 (addI IntKind.i64 x2 1) y0 y1 x5 x6 x7 x8)))) (br (!isT (Lf.toI (x1 (Int.toNat x2) 0))) (br (!(eqI (Lf.toI (x1 (Int.toNat x2) 3)) 0 && eqI (Lf.toI (x1 (Int.toNat x2) 4)) 0)) (k0 2 x7 x8) (br (isT (Lf.toI (x1 (Int.toNat x2) 0))) (r23_SetF x3 x4 (Lf.toI (x1 (Int.toNat x2) 1)) (Lf.toI (x1 (Int.toNat x2) 3)) (Lf.toI (x1 (Int.toNat x2) 4)) fun y0 y1 y2 => again x0 x1 (addI IntKind.i64 x2 1) y0 y1 x5 x6 x7 x8) (r23_SetX x3 x4 (Lf.toI (x1 (Int.toNat x2) 1)) (Lf.toI (x1 (Int.toNat x2) 2)) fun y0 y1 y2 => again x0 x1 (addI IntKind.i64 x2 1) y0 y1 x5 x6 x7 x8))) (br (isT (Lf.toI (x1 (Int.toNat x2) 0))) (r23_SetF x3 x4 (Lf.toI (x1 (Int.toNat x2) 1)) (Lf.toI (x1 (Int.toNat x2) 3)) (Lf.toI (x1 (Int.toNat x2) 4)) fun y0 y1 y2 => again x0 x1 (addI IntKind.i64 x2 1) y0 y1 x5 x6 x7 x8) (r23_SetX x3 x4 (Lf.toI (x1 (Int.toNat x2) 1)) (Lf.toI (x1 (Int.toNat x2) 2)) fun y0 y1 y2 => again x0 x1 (addI IntKind.i64 x2 1) y0 y1 x5 x6 x7 x8)))))) (k1 x3 x4 x5 x6)
def r23_Change.l3 (k0 : Int → (Nat → Int) → (Nat → Nat → Lf) → Prop) (k1 : (Nat → Int) → (Nat → Nat → Lf) → (Nat → Int) → (Nat → Nat → Lf) → Prop) : Nat → Nat → (Nat → Nat → Lf) → Int → (Nat → Int) → (Nat → Nat → Lf) → (Nat → Int) → (Nat → Nat → Lf) → (Nat → Int) → (Nat → Nat → Lf) → Prop
  | 0 => fun _ _ _ _ _ _ _ _ _ => False
  | n + 1 => r23_Change.l3.step (r23_Change.l3 k0 k1 n) k0 k1
def r23_Change.l3.entry : LoopEntry := ⟨LV.mk 20 [(0, 20)] 48 0 false, 0, 66, fun vs H K => match vs, H with
  | [EV.rsT x0 (Sk.agg [Sk.bool, Sk.int IntKind.i64, Sk.int IntKind.u64, Sk.agg [Sk.int IntKind.u64, Sk.int IntKind.u64]]) x1, EV.ptr 0 [], EV.ptr 1 [], EV.ptr 2 [], EV.int IntKind.i64 x2], [some (EV.agg [EV.arr IntKind.u64 32 x3, EV.arrT 32 (Sk.agg [Sk.int IntKind.u64, Sk.int IntKind.u64]) x4]), some (EV.agg [EV.arr IntKind.u64 32 x5, EV.arrT 32 (Sk.agg [Sk.int IntKind.u64, Sk.int IntKind.u64]) x6]), some (EV.agg [EV.arr IntKind.u64 32 x7, EV.arrT 32 (Sk.agg [Sk.int IntKind.u64, Sk.int IntKind.u64]) x8])] => ∃ n, r23_Change.l3 (fun y0 y1 y2 => K .ret [EV.ptr 0 [], EV.int IntKind.i64 y0] [some (EV.agg [EV.arr IntKind.u64 32 y1, EV.arrT 32 (Sk.agg [Sk.int IntKind.u64, Sk.int IntKind.u64]) y2])]) (fun y0 y1 y2 y3 => K (.exit 0) [EV.ptr 0 [], EV.ptr 1 []] [some (EV.agg [EV.arr IntKind.u64 32 y0, EV.arrT 32 (Sk.agg [Sk.int IntKind.u64, Sk.int IntKind.u64]) y1]), some (EV.agg [EV.arr IntKind.u64 32 y2, EV.arrT 32 (Sk.agg [Sk.int IntKind.u64, Sk.int IntKind.u64]) y3])]) n x0 x1 x2 x3 x4 x5 x6 x7 x8
  | _, _ => False⟩
def r23_Change.d (a0_0 : Nat → Int) (a0_1 : Nat → Nat → Lf) (a1n : Nat) (a1 : Nat → Nat → Lf) (K : (Nat → Int) → (Nat → Nat → Lf) → Int → Prop) : Prop :=
  ∃ n, r23_Change.l3 (fun y0 y1 y2 => K y1 y2 y0) (fun y0 y1 y2 y3 => K y0 y1 0) n a1n a1 0 a0_0 a0_1 (fun x => 0) z2 a0_0 a0_1
noncomputable def r23_Change : (Nat → Int) → (Nat → Nat → Lf) → Nat → (Nat → Nat → Lf) → ((Nat → Int) → (Nat → Nat → Lf) → Int → Prop) → Prop := Classical.choose (⟨r23_Change.d, rfl⟩ : ∃ f, f = r23_Change.d)
theorem r23_Change.is : r23_Change = r23_Change.d := Classical.choose_spec (⟨r23_Change.d, rfl⟩ : ∃ f, f = r23_Change.d)
def law23_both.l31.step (again : Int → Nat → Int → Int → Bool → (Nat → Int) → (Nat → Nat → Lf) → Int → Int → Int → Int → Int → Int → Int → Nat → (Nat → Nat → Lf) → (Nat → Int) → (Nat → Nat → Lf) → (Nat → Int) → (Nat → Nat → Lf) → Nat → (Nat → Nat → Lf) → Prop) (k0 : Bool → Bool → (Nat → Int) → (Nat → Nat → Lf) → (Nat → Int) → (Nat → Nat → Lf) → Prop) (k1 : Int → Nat → Int → Bool → (Nat → Int) → (Nat → Nat → Lf) → Int → Int → Int → Int → Int → Int → Int → Nat → (Nat → Nat → Lf) → (Nat → Int) → (Nat → Nat → Lf) → (Nat → Int) → (Nat → Nat → Lf) → Nat → (Nat → Nat → Lf) → Prop) (x0 : Int) (x1 : Nat) (x2 : Int) (x3 : Int) (x4 : Bool) (x5 : Nat → Int) (x6 : Nat → Nat → Lf) (x7 : Int) (x8 : Int) (x9 : Int) (x10 : Int) (x11 : Int) (x12 : Int) (x13 : Int) (x14 : Nat) (x15 : Nat → Nat → Lf) (x16 : Nat → Int) (x17 : Nat → Nat → Lf) (x18 : Nat → Int) (x19 : Nat → Nat → Lf) (x20 : Nat) (x21 : Nat → Nat → Lf) : Prop :=
  br (ltI x3 ↑x14) (gd (leI 0 x3 && ltI x3 ↑x1) (gd (leI 0 x3 && ltI x3 ↑x14) (br (!(beqB (isT (Lf.toI (x21 (Int.toNat x3) 0))) (isT (Lf.toI (x15 (Int.toNat x3) 0))) && (eqI (Lf.toI (x21 (Int.toNat x3) 1)) (Lf.toI (x15 (Int.toNat x3) 1)) && (eqI (Lf.toI (x21 (Int.toNat x3) 2)) (Lf.toI (x15 (Int.toNat x3) 2)) && (eqI (Lf.toI (x21 (Int.toNat x3) 3)) (Lf.toI (x15 (Int.toNat x3) 3)) && eqI (Lf.toI (x21 (Int.toNat x3) 4)) (Lf.toI (x15 (Int.toNat x3) 4))))))) (k0 false x4 x5 x6 x18 x19) (again x0 x1 x2 (addI IntKind.i64 x3 1) x4 x5 x6 x7 x8 x9 x10 x11 x12 x13 x14 x15 x16 x17 x18 x19 x20 x21)))) (k1 x0 x1 x2 x4 x5 x6 x7 x8 x9 x10 x11 x12 x13 x14 x15 x16 x17 x18 x19 x20 x21)
def law23_both.l31 (k0 : Bool → Bool → (Nat → Int) → (Nat → Nat → Lf) → (Nat → Int) → (Nat → Nat → Lf) → Prop) (k1 : Int → Nat → Int → Bool → (Nat → Int) → (Nat → Nat → Lf) → Int → Int → Int → Int → Int → Int → Int → Nat → (Nat → Nat → Lf) → (Nat → Int) → (Nat → Nat → Lf) → (Nat → Int) → (Nat → Nat → Lf) → Nat → (Nat → Nat → Lf) → Prop) : Nat → Int → Nat → Int → Int → Bool → (Nat → Int) → (Nat → Nat → Lf) → Int → Int → Int → Int → Int → Int → Int → Nat → (Nat → Nat → Lf) → (Nat → Int) → (Nat → Nat → Lf) → (Nat → Int) → (Nat → Nat → Lf) → Nat → (Nat → Nat → Lf) → Prop
  | 0 => fun _ _ _ _ _ _ _ _ _ _ _ _ _ _ _ _ _ _ _ _ _ _ => False
  | n + 1 => law23_both.l31.step (law23_both.l31 k0 k1 n) k0 k1
def law23_both.l31.entry : LoopEntry := ⟨LV.mk 16106127456 [(1, 16106127456)] 192 1 false, 1, 261, fun vs H K => match vs, H with
  | [EV.ptr 1 [], EV.ptr 2 [], EV.ptr 3 [], EV.int IntKind.i64 x0, EV.slice 4 0 x1 none 5, EV.int IntKind.i64 x2, EV.int IntKind.i64 x3], [some (EV.agg [EV.bool x4, EV.arr IntKind.u64 32 x5, EV.arrT 32 (Sk.agg [Sk.int IntKind.u64, Sk.int IntKind.u64]) x6]), some (EV.agg [EV.int IntKind.i64 x7, EV.int IntKind.i64 x8, EV.int IntKind.i64 x9, EV.int IntKind.u64 x10, EV.agg [EV.int IntKind.u64 x11, EV.int IntKind.u64 x12], EV.int IntKind.u8 x13, EV.rsT x14 (Sk.agg [Sk.bool, Sk.int IntKind.i64, Sk.int IntKind.u64, Sk.agg [Sk.int IntKind.u64, Sk.int IntKind.u64]]) x15]), some (EV.agg [EV.arr IntKind.u64 32 x16, EV.arrT 32 (Sk.agg [Sk.int IntKind.u64, Sk.int IntKind.u64]) x17]), some (EV.agg [EV.arr IntKind.u64 32 x18, EV.arrT 32 (Sk.agg [Sk.int IntKind.u64, Sk.int IntKind.u64]) x19]), some (EV.arrT x20 (Sk.agg [Sk.bool, Sk.int IntKind.i64, Sk.int IntKind.u64, Sk.agg [Sk.int IntKind.u64, Sk.int IntKind.u64]]) x21)] => ∃ n, law23_both.l31 (fun y0 y1 y2 y3 y4 y5 => K .ret [EV.ptr 1 [], EV.bool y0] [some (EV.agg [EV.bool y1, EV.arr IntKind.u64 32 y2, EV.arrT 32 (Sk.agg [Sk.int IntKind.u64, Sk.int IntKind.u64]) y3]), some (EV.agg [EV.arr IntKind.u64 32 y4, EV.arrT 32 (Sk.agg [Sk.int IntKind.u64, Sk.int IntKind.u64]) y5])]) (fun y0 y1 y2 y3 y4 y5 y6 y7 y8 y9 y10 y11 y12 y13 y14 y15 y16 y17 y18 y19 y20 => K (.exit 1) [EV.ptr 1 [], EV.ptr 2 [], EV.ptr 3 [], EV.int IntKind.i64 y0, EV.slice 4 0 y1 none 5, EV.int IntKind.i64 y2] [some (EV.agg [EV.bool y3, EV.arr IntKind.u64 32 y4, EV.arrT 32 (Sk.agg [Sk.int IntKind.u64, Sk.int IntKind.u64]) y5]), some (EV.agg [EV.int IntKind.i64 y6, EV.int IntKind.i64 y7, EV.int IntKind.i64 y8, EV.int IntKind.u64 y9, EV.agg [EV.int IntKind.u64 y10, EV.int IntKind.u64 y11], EV.int IntKind.u8 y12, EV.rsT y13 (Sk.agg [Sk.bool, Sk.int IntKind.i64, Sk.int IntKind.u64, Sk.agg [Sk.int IntKind.u64, Sk.int IntKind.u64]]) y14]), some (EV.agg [EV.arr IntKind.u64 32 y15, EV.arrT 32 (Sk.agg [Sk.int IntKind.u64, Sk.int IntKind.u64]) y16]), some (EV.agg [EV.arr IntKind.u64 32 y17, EV.arrT 32 (Sk.agg [Sk.int IntKind.u64, Sk.int IntKind.u64]) y18]), some (EV.arrT y19 (Sk.agg [Sk.bool, Sk.int IntKind.i64, Sk.int IntKind.u64, Sk.agg [Sk.int IntKind.u64, Sk.int IntKind.u64]]) y20)]) n x0 x1 x2 x3 x4 x5 x6 x7 x8 x9 x10 x11 x12 x13 x14 x15 x16 x17 x18 x19 x20 x21
  | _, _ => False⟩
def law23_both.d (a0_0 : Bool) (a0_1 : Nat → Int) (a0_2 : Nat → Nat → Lf) (a1_0 : Nat → Int) (a1_1 : Nat → Nat → Lf) (a2_0 : Int) (a2_1 : Int) (a2_2 : Int) (a2_3 : Int) (a2_4_0 : Int) (a2_4_1 : Int) (a2_5 : Int) (a2_6n : Nat) (a2_6 : Nat → Nat → Lf) (K : (Nat → Int) → (Nat → Nat → Lf) → Bool → Bool → (Nat → Int) → (Nat → Nat → Lf) → Prop) : Prop :=
  br (eqI a2_0 0) (r23_SetX a1_0 a1_1 a2_2 a2_3 fun y0 y1 y2 => regs_Regs_SetX a0_0 a0_1 a0_2 a2_2 a2_3 fun y0_1 y1_1 y2_1 y3 => K y0 y1 (eqI y0_1 y2) y1_1 y2_1 y3) (br (eqI a2_0 1) (r23_SetF a1_0 a1_1 a2_2 a2_4_0 a2_4_1 fun y0 y1 y2 => regs_Regs_SetF a0_0 a0_1 a0_2 a2_2 a2_4_0 a2_4_1 fun y0_1 y1_1 y2_1 y3 => K y0 y1 (eqI y0_1 y2) y1_1 y2_1 y3) (br (eqI a2_0 2) (r23_Put a1_0 a1_1 a2_5 a2_2 a2_4_0 a2_4_1 fun y0 y1 y2 => regs_Regs_Put a0_0 a0_1 a0_2 a2_5 a2_2 a2_4_0 a2_4_1 fun y0_1 y1_1 y2_1 y3 => K y0 y1 (eqI y0_1 y2) y1_1 y2_1 y3) (br (eqI a2_0 3) (regs_Regs_X a0_0 a0_1 a0_2 a2_2 fun y0 y1 y2 y3 y4 => r23_X a1_0 a1_1 a2_2 fun y0_1 y1_1 => br (eqI y0 y0_1) (K a1_0 a1_1 (eqI y1 y1_1) y2 y3 y4) (K a1_0 a1_1 false y2 y3 y4)) (br (eqI a2_0 4) (regs_Regs_F a0_0 a0_1 a0_2 a2_2 fun y0 y1 y2 y3 y4 y5 => r23_F a1_0 a1_1 a2_2 fun y0_1 y1_1 y2_1 => br (eqI y0 y0_1 && eqI y1 y1_1) (K a1_0 a1_1 (eqI y2 y2_1) y3 y4 y5) (K a1_0 a1_1 false y3 y4 y5)) (br (eqI a2_0 5) (regs_Regs_Get a0_0 a0_1 a0_2 a2_5 a2_2 fun y0 y1 y2 y3 y4 y5 => r23_Get a1_0 a1_1 a2_5 a2_2 fun y0_1 y1_1 y2_1 => br (eqI y0 y0_1 && eqI y1 y1_1) (K a1_0 a1_1 (eqI y2 y2_1) y3 y4 y5) (K a1_0 a1_1 false y3 y4 y5)) (br (eqI a2_0 6) (regs_Regs_Low a0_0 a0_1 a0_2 a2_5 a2_2 fun y0 y1 y2 y3 y4 y5 => r23_Low a1_0 a1_1 a2_5 a2_2 fun y0_1 y1_1 y2_1 => br (eqI y0 y0_1 && eqI y1 y1_1) (K a1_0 a1_1 (eqI y2 y2_1) y3 y4 y5) (K a1_0 a1_1 false y3 y4 y5)) (r23_Change a1_0 a1_1 a2_6n a2_6 fun y0 y1 y2 => gd (leN (a2_6n * 40) 140737488355328) (br (isZ a2_6n) (gd (leI 0 ↑a2_6n && leI (↑a2_6n) 1) (regs_Regs_Change a0_0 a0_1 a0_2 (Int.toNat ↑a2_6n - 0) (upd2 (upd2 (upd2 (upd2 (upd2 z2 0 0 (Lf.z 0)) 0 1 (Lf.z 77)) 0 2 (Lf.z 0)) 0 3 (Lf.z 0)) 0 4 (Lf.z 0)) fun y0_1 y1_1 y2_1 y3 => ∃ n, law23_both.l31 (fun y0 y1 y2 y3 y4 y5 => K y4 y5 y0 y1 y2 y3) (fun y0 y1 y2 y3 y4 y5 y6 y7 y8 y9 y10 y11 y12 y13 y14 y15 y16 y17 y18 y19 y20 => br (eqI y0 y2) (gd (leI 0 ↑y13 && ltI ↑y13 ↑y1) (K y17 y18 (eqI (Lf.toI (y20 (Int.toNat ↑y13) 1)) 77) y3 y4 y5)) (K y17 y18 false y3 y4 y5)) n y2 1 y0_1 0 y1_1 y2_1 y3 a2_0 a2_1 a2_2 a2_3 a2_4_0 a2_4_1 a2_5 a2_6n a2_6 (fun x => 0) z2 y0 y1 1 (upd2 (upd2 (upd2 (upd2 (upd2 z2 0 0 (Lf.z 0)) 0 1 (Lf.z 77)) 0 2 (Lf.z 0)) 0 3 (Lf.z 0)) 0 4 (Lf.z 0)))) (gd (leN ((a2_6n + 1) * 40) 140737488355328) (gd (leI 0 ↑a2_6n && leI ↑a2_6n ↑(a2_6n + 1)) (regs_Regs_Change a0_0 a0_1 a0_2 (Int.toNat ↑a2_6n - 0) (appT a2_6n a2_6 (upd2 (upd2 (upd2 (upd2 (upd2 z2 0 0 (Lf.z 0)) 0 1 (Lf.z 77)) 0 2 (Lf.z 0)) 0 3 (Lf.z 0)) 0 4 (Lf.z 0))) fun y0_1 y1_1 y2_1 y3 => ∃ n, law23_both.l31 (fun y0 y1 y2 y3 y4 y5 => K y4 y5 y0 y1 y2 y3) (fun y0 y1 y2 y3 y4 y5 y6 y7 y8 y9 y10 y11 y12 y13 y14 y15 y16 y17 y18 y19 y20 => br (eqI y0 y2) (gd (leI 0 ↑y13 && ltI ↑y13 ↑y1) (K y17 y18 (eqI (Lf.toI (y20 (Int.toNat ↑y13) 1)) 77) y3 y4 y5)) (K y17 y18 false y3 y4 y5)) n y2 (a2_6n + 1) y0_1 0 y1_1 y2_1 y3 a2_0 a2_1 a2_2 a2_3 a2_4_0 a2_4_1 a2_5 a2_6n a2_6 (fun x => 0) z2 y0 y1 (a2_6n + 1) (appT a2_6n a2_6 (upd2 (upd2 (upd2 (upd2 (upd2 z2 0 0 (Lf.z 0)) 0 1 (Lf.z 77)) 0 2 (Lf.z 0)) 0 3 (Lf.z 0)) 0 4 (Lf.z 0))))))))))))))
noncomputable def law23_both : Bool → (Nat → Int) → (Nat → Nat → Lf) → (Nat → Int) → (Nat → Nat → Lf) → Int → Int → Int → Int → Int → Int → Int → Nat → (Nat → Nat → Lf) → ((Nat → Int) → (Nat → Nat → Lf) → Bool → Bool → (Nat → Int) → (Nat → Nat → Lf) → Prop) → Prop := Classical.choose (⟨law23_both.d, rfl⟩ : ∃ f, f = law23_both.d)
theorem law23_both.is : law23_both = law23_both.d := Classical.choose_spec (⟨law23_both.d, rfl⟩ : ∃ f, f = law23_both.d)
def r23_Changed.l3h1.step (again : Nat → Int → (Nat → Int) → (Nat → Nat → Lf) → (Nat → Int) → (Nat → Nat → Lf) → Nat → (Nat → Nat → Lf) → Prop) (k0 : Nat → (Nat → Int) → (Nat → Nat → Lf) → (Nat → Int) → (Nat → Nat → Lf) → Nat → (Nat → Nat → Lf) → Prop) (x0 : Nat) (x1 : Int) (x2 : Nat → Int) (x3 : Nat → Nat → Lf) (x4 : Nat → Int) (x5 : Nat → Nat → Lf) (x6 : Nat) (x7 : Nat → Nat → Lf) : Prop :=
  br (ltI x1 32) (gd (leI 0 x1 && ltI x1 32) (gd (leI 0 x1 && ltI x1 32) (br (!eqI (x2 (Int.toNat x1)) (x4 (Int.toNat x1))) (gd (leI 0 x1 && ltI x1 32) (gd (leN ((x0 + 1) * 40) 140737488355328) (again (x0 + 1) (addI IntKind.i64 x1 1) x2 x3 x4 x5 (x0 + 1) (appT x0 x7 (upd2 (upd2 (upd2 (upd2 (upd2 z2 0 0 (Lf.z 0)) 0 1 (Lf.z x1)) 0 2 (Lf.z (x4 (Int.toNat x1)))) 0 3 (Lf.z 0)) 0 4 (Lf.z 0)))))) (again x0 (addI IntKind.i64 x1 1) x2 x3 x4 x5 x6 x7)))) (k0 x0 x2 x3 x4 x5 x6 x7)
def r23_Changed.l3h1 (k0 : Nat → (Nat → Int) → (Nat → Nat → Lf) → (Nat → Int) → (Nat → Nat → Lf) → Nat → (Nat → Nat → Lf) → Prop) : Nat → Nat → Int → (Nat → Int) → (Nat → Nat → Lf) → (Nat → Int) → (Nat → Nat → Lf) → Nat → (Nat → Nat → Lf) → Prop
  | 0 => fun _ _ _ _ _ _ _ _ => False
  | n + 1 => r23_Changed.l3h1.step (r23_Changed.l3h1 k0 n) k0
def r23_Changed.l3.step (again : Int → (Nat → Int) → (Nat → Nat → Lf) → (Nat → Int) → (Nat → Nat → Lf) → Prop) (again0 : Nat → Int → (Nat → Int) → (Nat → Nat → Lf) → (Nat → Int) → (Nat → Nat → Lf) → Nat → (Nat → Nat → Lf) → Prop) (k0 : (Nat → Int) → (Nat → Nat → Lf) → (Nat → Int) → (Nat → Nat → Lf) → Prop) (k1 : Nat → (Nat → Int) → (Nat → Nat → Lf) → (Nat → Int) → (Nat → Nat → Lf) → Nat → (Nat → Nat → Lf) → Prop) (x0 : Int) (x1 : Nat → Int) (x2 : Nat → Nat → Lf) (x3 : Nat → Int) (x4 : Nat → Nat → Lf) : Prop :=
  br (ltI x0 32) (gd (leI 0 x0 && ltI x0 32) (gd (leI 0 x0 && ltI x0 32) (br (!eqI (x1 (Int.toNat x0)) (x3 (Int.toNat x0))) (gd (leI 0 x0 && ltI x0 32) (again0 1 (addI IntKind.i64 x0 1) x1 x2 x3 x4 1 (upd2 (upd2 (upd2 (upd2 (upd2 z2 0 0 (Lf.z 0)) 0 1 (Lf.z x0)) 0 2 (Lf.z (x3 (Int.toNat x0)))) 0 3 (Lf.z 0)) 0 4 (Lf.z 0)))) (again (addI IntKind.i64 x0 1) x1 x2 x3 x4)))) (k0 x1 x2 x3 x4)
def r23_Changed.l3 (k0 : (Nat → Int) → (Nat → Nat → Lf) → (Nat → Int) → (Nat → Nat → Lf) → Prop) (k1 : Nat → (Nat → Int) → (Nat → Nat → Lf) → (Nat → Int) → (Nat → Nat → Lf) → Nat → (Nat → Nat → Lf) → Prop) : Nat → Int → (Nat → Int) → (Nat → Nat → Lf) → (Nat → Int) → (Nat → Nat → Lf) → Prop
  | 0 => fun _ _ _ _ _ => False
  | n + 1 => r23_Changed.l3.step (r23_Changed.l3 k0 k1 n) (r23_Changed.l3h1 k1 n) k0 k1
def r23_Changed.l8h1.step (again : Nat → Int → (Nat → Int) → (Nat → Nat → Lf) → (Nat → Int) → (Nat → Nat → Lf) → Nat → (Nat → Nat → Lf) → Prop) (k0 : Nat → Nat → (Nat → Nat → Lf) → Prop) (x0 : Nat) (x1 : Int) (x2 : Nat → Int) (x3 : Nat → Nat → Lf) (x4 : Nat → Int) (x5 : Nat → Nat → Lf) (x6 : Nat) (x7 : Nat → Nat → Lf) : Prop :=
  br (ltI x1 32) (gd (leI 0 x1 && ltI x1 32) (gd (leI 0 x1 && ltI x1 32) (br (!(eqI (Lf.toI (x3 (Int.toNat x1) 0)) (Lf.toI (x5 (Int.toNat x1) 0)) && eqI (Lf.toI (x3 (Int.toNat x1) 1)) (Lf.toI (x5 (Int.toNat x1) 1)))) (gd (leI 0 x1 && ltI x1 32) (gd (leN ((x0 + 1) * 40) 140737488355328) (again (x0 + 1) (addI IntKind.i64 x1 1) x2 x3 x4 x5 (x0 + 1) (appT x0 x7 (upd2 (upd2 (upd2 (upd2 (upd2 z2 0 0 (Lf.z 1)) 0 1 (Lf.z x1)) 0 2 (Lf.z 0)) 0 3 (Lf.z (Lf.toI (x5 (Int.toNat x1) 0)))) 0 4 (Lf.z (Lf.toI (x5 (Int.toNat x1) 1)))))))) (again x0 (addI IntKind.i64 x1 1) x2 x3 x4 x5 x6 x7)))) (k0 x0 x6 x7)
def r23_Changed.l8h1 (k0 : Nat → Nat → (Nat → Nat → Lf) → Prop) : Nat → Nat → Int → (Nat → Int) → (Nat → Nat → Lf) → (Nat → Int) → (Nat → Nat → Lf) → Nat → (Nat → Nat → Lf) → Prop
  | 0 => fun _ _ _ _ _ _ _ _ => False
  | n + 1 => r23_Changed.l8h1.step (r23_Changed.l8h1 k0 n) k0
def r23_Changed.l8.step (again : Int → (Nat → Int) → (Nat → Nat → Lf) → (Nat → Int) → (Nat → Nat → Lf) → Prop) (again0 : Nat → Int → (Nat → Int) → (Nat → Nat → Lf) → (Nat → Int) → (Nat → Nat → Lf) → Nat → (Nat → Nat → Lf) → Prop) (k0 : Prop) (k1 : Nat → Nat → (Nat → Nat → Lf) → Prop) (x0 : Int) (x1 : Nat → Int) (x2 : Nat → Nat → Lf) (x3 : Nat → Int) (x4 : Nat → Nat → Lf) : Prop :=
  br (ltI x0 32) (gd (leI 0 x0 && ltI x0 32) (gd (leI 0 x0 && ltI x0 32) (br (!(eqI (Lf.toI (x2 (Int.toNat x0) 0)) (Lf.toI (x4 (Int.toNat x0) 0)) && eqI (Lf.toI (x2 (Int.toNat x0) 1)) (Lf.toI (x4 (Int.toNat x0) 1)))) (gd (leI 0 x0 && ltI x0 32) (again0 1 (addI IntKind.i64 x0 1) x1 x2 x3 x4 1 (upd2 (upd2 (upd2 (upd2 (upd2 z2 0 0 (Lf.z 1)) 0 1 (Lf.z x0)) 0 2 (Lf.z 0)) 0 3 (Lf.z (Lf.toI (x4 (Int.toNat x0) 0)))) 0 4 (Lf.z (Lf.toI (x4 (Int.toNat x0) 1)))))) (again (addI IntKind.i64 x0 1) x1 x2 x3 x4)))) k0
def r23_Changed.l8 (k0 : Prop) (k1 : Nat → Nat → (Nat → Nat → Lf) → Prop) : Nat → Int → (Nat → Int) → (Nat → Nat → Lf) → (Nat → Int) → (Nat → Nat → Lf) → Prop
  | 0 => fun _ _ _ _ _ => False
  | n + 1 => r23_Changed.l8.step (r23_Changed.l8 k0 k1 n) (r23_Changed.l8h1 k1 n) k0 k1
def r23_Changed.l3.entry : LoopEntry := ⟨LV.mk 44 [(0, 44)] 16 0 false, 0, 53, fun vs H K => match vs, H with
  | [EV.ptr 0 [], EV.ptr 1 [], EV.slice 2 0 x0 none 5, EV.int IntKind.i64 x1], [some (EV.agg [EV.arr IntKind.u64 32 x2, EV.arrT 32 (Sk.agg [Sk.int IntKind.u64, Sk.int IntKind.u64]) x3]), some (EV.agg [EV.arr IntKind.u64 32 x4, EV.arrT 32 (Sk.agg [Sk.int IntKind.u64, Sk.int IntKind.u64]) x5]), some (EV.arrT x6 (Sk.agg [Sk.bool, Sk.int IntKind.i64, Sk.int IntKind.u64, Sk.agg [Sk.int IntKind.u64, Sk.int IntKind.u64]]) x7)] => ∃ n, r23_Changed.l3h1 (fun y0 y1 y2 y3 y4 y5 y6 => K (.exit 0) [EV.ptr 0 [], EV.ptr 1 [], EV.slice 2 0 y0 none 5] [some (EV.agg [EV.arr IntKind.u64 32 y1, EV.arrT 32 (Sk.agg [Sk.int IntKind.u64, Sk.int IntKind.u64]) y2]), some (EV.agg [EV.arr IntKind.u64 32 y3, EV.arrT 32 (Sk.agg [Sk.int IntKind.u64, Sk.int IntKind.u64]) y4]), some (EV.arrT y5 (Sk.agg [Sk.bool, Sk.int IntKind.i64, Sk.int IntKind.u64, Sk.agg [Sk.int IntKind.u64, Sk.int IntKind.u64]]) y6)]) n x0 x1 x2 x3 x4 x5 x6 x7
  | [EV.ptr 0 [], EV.ptr 1 [], EV.nilSlice, EV.int IntKind.i64 x0], [some (EV.agg [EV.arr IntKind.u64 32 x1, EV.arrT 32 (Sk.agg [Sk.int IntKind.u64, Sk.int IntKind.u64]) x2]), some (EV.agg [EV.arr IntKind.u64 32 x3, EV.arrT 32 (Sk.agg [Sk.int IntKind.u64, Sk.int IntKind.u64]) x4])] => ∃ n, r23_Changed.l3 (fun y0 y1 y2 y3 => K (.exit 0) [EV.ptr 0 [], EV.ptr 1 [], EV.nilSlice] [some (EV.agg [EV.arr IntKind.u64 32 y0, EV.arrT 32 (Sk.agg [Sk.int IntKind.u64, Sk.int IntKind.u64]) y1]), some (EV.agg [EV.arr IntKind.u64 32 y2, EV.arrT 32 (Sk.agg [Sk.int IntKind.u64, Sk.int IntKind.u64]) y3])]) (fun y0 y1 y2 y3 y4 y5 y6 => K (.exit 0) [EV.ptr 0 [], EV.ptr 1 [], EV.slice 2 0 y0 none 5] [some (EV.agg [EV.arr IntKind.u64 32 y1, EV.arrT 32 (Sk.agg [Sk.int IntKind.u64, Sk.int IntKind.u64]) y2]), some (EV.agg [EV.arr IntKind.u64 32 y3, EV.arrT 32 (Sk.agg [Sk.int IntKind.u64, Sk.int IntKind.u64]) y4]), some (EV.arrT y5 (Sk.agg [Sk.bool, Sk.int IntKind.i64, Sk.int IntKind.u64, Sk.agg [Sk.int IntKind.u64, Sk.int IntKind.u64]]) y6)]) n x0 x1 x2 x3 x4
  | _, _ => False⟩
def r23_Changed.l8.entry : LoopEntry := ⟨LV.mk 32 [(2, 32)] 16 0 false, 0, 53, fun vs H K => match vs, H with
  | [EV.ptr 0 [], EV.ptr 1 [], EV.slice 2 0 x0 none 5, EV.int IntKind.i64 x1], [some (EV.agg [EV.arr IntKind.u64 32 x2, EV.arrT 32 (Sk.agg [Sk.int IntKind.u64, Sk.int IntKind.u64]) x3]), some (EV.agg [EV.arr IntKind.u64 32 x4, EV.arrT 32 (Sk.agg [Sk.int IntKind.u64, Sk.int IntKind.u64]) x5]), some (EV.arrT x6 (Sk.agg [Sk.bool, Sk.int IntKind.i64, Sk.int IntKind.u64, Sk.agg [Sk.int IntKind.u64, Sk.int IntKind.u64]]) x7)] => ∃ n, r23_Changed.l8h1 (fun y0 y1 y2 => K (.exit 2) [EV.slice 0 0 y0 none 5] [some (EV.arrT y1 (Sk.agg [Sk.bool, Sk.int IntKind.i64, Sk.int IntKind.u64, Sk.agg [Sk.int IntKind.u64, Sk.int IntKind.u64]]) y2)]) n x0 x1 x2 x3 x4 x5 x6 x7
  | [EV.ptr 0 [], EV.ptr 1 [], EV.nilSlice, EV.int IntKind.i64 x0], [some (EV.agg [EV.arr IntKind.u64 32 x1, EV.arrT 32 (Sk.agg [Sk.int IntKind.u64, Sk.int IntKind.u64]) x2]), some (EV.agg [EV.arr IntKind.u64 32 x3, EV.arrT 32 (Sk.agg [Sk.int IntKind.u64, Sk.int IntKind.u64]) x4])] => ∃ n, r23_Changed.l8 (K (.exit 2) [EV.nilSlice] []) (fun y0 y1 y2 => K (.exit 2) [EV.slice 0 0 y0 none 5] [some (EV.arrT y1 (Sk.agg [Sk.bool, Sk.int IntKind.i64, Sk.int IntKind.u64, Sk.agg [Sk.int IntKind.u64, Sk.int IntKind.u64]]) y2)]) n x0 x1 x2 x3 x4
  | _, _ => False⟩
def r23_Changed.d (a0_0 : Nat → Int) (a0_1 : Nat → Nat → Lf) (a1_0 : Nat → Int) (a1_1 : Nat → Nat → Lf) (K : Nat → (Nat → Nat → Lf) → Prop) : Prop :=
  ∃ n, r23_Changed.l3 (fun y0 y1 y2 y3 => ∃ n, r23_Changed.l8 (K 0 z2) (fun y0 y1 y2 => K y0 y2) n 0 y0 y1 y2 y3) (fun y0 y1 y2 y3 y4 y5 y6 => ∃ n, r23_Changed.l8h1 (fun y0 y1 y2 => K y0 y2) n y0 0 y1 y2 y3 y4 y5 y6) n 0 a0_0 a0_1 a1_0 a1_1
noncomputable def r23_Changed : (Nat → Int) → (Nat → Nat → Lf) → (Nat → Int) → (Nat → Nat → Lf) → (Nat → (Nat → Nat → Lf) → Prop) → Prop := Classical.choose (⟨r23_Changed.d, rfl⟩ : ∃ f, f = r23_Changed.d)
theorem r23_Changed.is : r23_Changed = r23_Changed.d := Classical.choose_spec (⟨r23_Changed.d, rfl⟩ : ∃ f, f = r23_Changed.d)
def law23_RegsPlays.l6.step (again : Nat → (Nat → Nat → Lf) → Int → (Nat → Int) → (Nat → Nat → Lf) → (Nat → Int) → (Nat → Nat → Lf) → Bool → (Nat → Int) → (Nat → Nat → Lf) → Bool → (Nat → Int) → (Nat → Nat → Lf) → Prop) (k0 : Bool → Prop) (k1 : (Nat → Int) → (Nat → Nat → Lf) → (Nat → Int) → (Nat → Nat → Lf) → Bool → (Nat → Int) → (Nat → Nat → Lf) → Bool → (Nat → Int) → (Nat → Nat → Lf) → Prop) (x0 : Nat) (x1 : Nat → Nat → Lf) (x2 : Int) (x3 : Nat → Int) (x4 : Nat → Nat → Lf) (x5 : Nat → Int) (x6 : Nat → Nat → Lf) (x7 : Bool) (x8 : Nat → Int) (x9 : Nat → Nat → Lf) (x10 : Bool) (x11 : Nat → Int) (x12 : Nat → Nat → Lf) : Prop :=
  br (ltI x2 ↑x0) (gd (leI 0 x2 && ltI x2 ↑x0) (br (eqI (andI IntKind.i64 (Lf.toI (x1 (Int.toNat x2) 1)) 1) 0) (gd (leI 0 x2 && ltI x2 ↑x0) (br (eqI (Lf.toI (x1 (Int.toNat x2) 0)) 8) (regs_Regs_Copy x10 x11 x12 (fun y0 y1 y2 => False) fun y0 y1 y2 y3 y4 y5 => regs_Regs_Tell y3 y4 y5 fun y0_1 y1_1 y2_1 y3_1 y4_1 => keepH [some (EV.agg [EV.ptr 4 [], EV.ptr 3 []]), some (EV.agg [EV.agg [EV.arr IntKind.u64 32 x5, EV.arrT 32 (Sk.agg [Sk.int IntKind.u64, Sk.int IntKind.u64]) x6], EV.agg [EV.arr IntKind.u64 32 x5, EV.arrT 32 (Sk.agg [Sk.int IntKind.u64, Sk.int IntKind.u64]) x6]]), some (EV.agg [EV.bool x7, EV.arr IntKind.u64 32 x8, EV.arrT 32 (Sk.agg [Sk.int IntKind.u64, Sk.int IntKind.u64]) x9]), some (EV.agg [EV.bool y0, EV.arr IntKind.u64 32 y1, EV.arrT 32 (Sk.agg [Sk.int IntKind.u64, Sk.int IntKind.u64]) y2]), some (EV.agg [EV.bool y2_1, EV.arr IntKind.u64 32 y3_1, EV.arrT 32 (Sk.agg [Sk.int IntKind.u64, Sk.int IntKind.u64]) y4_1])] [some (EV.agg [EV.ptr 4 [], EV.ptr 3 []]), some (EV.agg [EV.agg [EV.arr IntKind.u64 32 x5, EV.arrT 32 (Sk.agg [Sk.int IntKind.u64, Sk.int IntKind.u64]) x6], EV.agg [EV.arr IntKind.u64 32 x5, EV.arrT 32 (Sk.agg [Sk.int IntKind.u64, Sk.int IntKind.u64]) x6]]), some (EV.agg [EV.bool x7, EV.arr IntKind.u64 32 x8, EV.arrT 32 (Sk.agg [Sk.int IntKind.u64, Sk.int IntKind.u64]) x9]), some (EV.agg [EV.bool y0, EV.arr IntKind.u64 32 y1, EV.arrT 32 (Sk.agg [Sk.int IntKind.u64, Sk.int IntKind.u64]) y2]), some (EV.agg [EV.bool y3, EV.arr IntKind.u64 32 y4, EV.arrT 32 (Sk.agg [Sk.int IntKind.u64, Sk.int IntKind.u64]) y5])] ∧ br (!(eqN 32 y0_1 x5 && eqTb (Sk.agg [Sk.int IntKind.u64, Sk.int IntKind.u64]) 32 y1_1 x6)) (k0 false) (regs_Regs_Tell y0 y1 y2 fun y0_2 y1_2 y2_2 y3_2 y4_2 => keepH [some (EV.agg [EV.ptr 4 [], EV.ptr 3 []]), some (EV.agg [EV.agg [EV.arr IntKind.u64 32 x5, EV.arrT 32 (Sk.agg [Sk.int IntKind.u64, Sk.int IntKind.u64]) x6], EV.agg [EV.arr IntKind.u64 32 x5, EV.arrT 32 (Sk.agg [Sk.int IntKind.u64, Sk.int IntKind.u64]) x6]]), some (EV.agg [EV.bool x7, EV.arr IntKind.u64 32 x8, EV.arrT 32 (Sk.agg [Sk.int IntKind.u64, Sk.int IntKind.u64]) x9]), some (EV.agg [EV.bool y2_2, EV.arr IntKind.u64 32 y3_2, EV.arrT 32 (Sk.agg [Sk.int IntKind.u64, Sk.int IntKind.u64]) y4_2]), some (EV.agg [EV.bool y3, EV.arr IntKind.u64 32 y4, EV.arrT 32 (Sk.agg [Sk.int IntKind.u64, Sk.int IntKind.u64]) y5])] [some (EV.agg [EV.ptr 4 [], EV.ptr 3 []]), some (EV.agg [EV.agg [EV.arr IntKind.u64 32 x5, EV.arrT 32 (Sk.agg [Sk.int IntKind.u64, Sk.int IntKind.u64]) x6], EV.agg [EV.arr IntKind.u64 32 x5, EV.arrT 32 (Sk.agg [Sk.int IntKind.u64, Sk.int IntKind.u64]) x6]]), some (EV.agg [EV.bool x7, EV.arr IntKind.u64 32 x8, EV.arrT 32 (Sk.agg [Sk.int IntKind.u64, Sk.int IntKind.u64]) x9]), some (EV.agg [EV.bool y0, EV.arr IntKind.u64 32 y1, EV.arrT 32 (Sk.agg [Sk.int IntKind.u64, Sk.int IntKind.u64]) y2]), some (EV.agg [EV.bool y3, EV.arr IntKind.u64 32 y4, EV.arrT 32 (Sk.agg [Sk.int IntKind.u64, Sk.int IntKind.u64]) y5])] ∧ br (!(eqN 32 y0_2 x5 && eqTb (Sk.agg [Sk.int IntKind.u64, Sk.int IntKind.u64]) 32 y1_2 x6)) (k0 false) (regs_Same y3 y4 y5 y0 y1 y2 fun y0_3 y1_3 y2_3 y3_3 y4_3 y5_1 y6 => keepH [some (EV.agg [EV.ptr 4 [], EV.ptr 3 []]), some (EV.agg [EV.agg [EV.arr IntKind.u64 32 x5, EV.arrT 32 (Sk.agg [Sk.int IntKind.u64, Sk.int IntKind.u64]) x6], EV.agg [EV.arr IntKind.u64 32 x5, EV.arrT 32 (Sk.agg [Sk.int IntKind.u64, Sk.int IntKind.u64]) x6]]), some (EV.agg [EV.bool x7, EV.arr IntKind.u64 32 x8, EV.arrT 32 (Sk.agg [Sk.int IntKind.u64, Sk.int IntKind.u64]) x9]), some (EV.agg [EV.bool y4_3, EV.arr IntKind.u64 32 y5_1, EV.arrT 32 (Sk.agg [Sk.int IntKind.u64, Sk.int IntKind.u64]) y6]), some (EV.agg [EV.bool y1_3, EV.arr IntKind.u64 32 y2_3, EV.arrT 32 (Sk.agg [Sk.int IntKind.u64, Sk.int IntKind.u64]) y3_3])] [some (EV.agg [EV.ptr 4 [], EV.ptr 3 []]), some (EV.agg [EV.agg [EV.arr IntKind.u64 32 x5, EV.arrT 32 (Sk.agg [Sk.int IntKind.u64, Sk.int IntKind.u64]) x6], EV.agg [EV.arr IntKind.u64 32 x5, EV.arrT 32 (Sk.agg [Sk.int IntKind.u64, Sk.int IntKind.u64]) x6]]), some (EV.agg [EV.bool x7, EV.arr IntKind.u64 32 x8, EV.arrT 32 (Sk.agg [Sk.int IntKind.u64, Sk.int IntKind.u64]) x9]), some (EV.agg [EV.bool y0, EV.arr IntKind.u64 32 y1, EV.arrT 32 (Sk.agg [Sk.int IntKind.u64, Sk.int IntKind.u64]) y2]), some (EV.agg [EV.bool y3, EV.arr IntKind.u64 32 y4, EV.arrT 32 (Sk.agg [Sk.int IntKind.u64, Sk.int IntKind.u64]) y5])] ∧ br (!beqB y0_3 (eqN 32 x5 x5 && eqTb (Sk.agg [Sk.int IntKind.u64, Sk.int IntKind.u64]) 32 x6 x6)) (k0 false) (again x0 x1 (addI IntKind.i64 x2 1) x5 x6 x5 x6 y3 y4 y5 y0 y1 y2)))) (gd (leI 0 x2 && ltI x2 ↑x0) (law23_both x7 x8 x9 x3 x4 (Lf.toI (x1 (Int.toNat x2) 0)) (Lf.toI (x1 (Int.toNat x2) 1)) (Lf.toI (x1 (Int.toNat x2) 2)) (Lf.toI (x1 (Int.toNat x2) 3)) (Lf.toI (x1 (Int.toNat x2) 4)) (Lf.toI (x1 (Int.toNat x2) 5)) (Lf.toI (x1 (Int.toNat x2) 6)) (Lf.len (x1 (Int.toNat x2) 7)) (Lf.row (x1 (Int.toNat x2) 7)) fun y0 y1 y2 y3 y4 y5 => br (!y2) (k0 false) (regs_Regs_Tell y3 y4 y5 fun y0_1 y1_1 y2 y3_1 y4_1 => keepH [some (EV.agg [EV.ptr 2 [], EV.ptr 3 []]), some (EV.agg [EV.agg [EV.arr IntKind.u64 32 y0, EV.arrT 32 (Sk.agg [Sk.int IntKind.u64, Sk.int IntKind.u64]) y1], EV.agg [EV.arr IntKind.u64 32 x5, EV.arrT 32 (Sk.agg [Sk.int IntKind.u64, Sk.int IntKind.u64]) x6]]), some (EV.agg [EV.bool y2, EV.arr IntKind.u64 32 y3_1, EV.arrT 32 (Sk.agg [Sk.int IntKind.u64, Sk.int IntKind.u64]) y4_1]), some (EV.agg [EV.bool x10, EV.arr IntKind.u64 32 x11, EV.arrT 32 (Sk.agg [Sk.int IntKind.u64, Sk.int IntKind.u64]) x12])] [some (EV.agg [EV.ptr 2 [], EV.ptr 3 []]), some (EV.agg [EV.agg [EV.arr IntKind.u64 32 y0, EV.arrT 32 (Sk.agg [Sk.int IntKind.u64, Sk.int IntKind.u64]) y1], EV.agg [EV.arr IntKind.u64 32 x5, EV.arrT 32 (Sk.agg [Sk.int IntKind.u64, Sk.int IntKind.u64]) x6]]), some (EV.agg [EV.bool y3, EV.arr IntKind.u64 32 y4, EV.arrT 32 (Sk.agg [Sk.int IntKind.u64, Sk.int IntKind.u64]) y5]), some (EV.agg [EV.bool x10, EV.arr IntKind.u64 32 x11, EV.arrT 32 (Sk.agg [Sk.int IntKind.u64, Sk.int IntKind.u64]) x12])] ∧ br (!(eqN 32 y0_1 y0 && eqTb (Sk.agg [Sk.int IntKind.u64, Sk.int IntKind.u64]) 32 y1_1 y1)) (k0 false) (regs_Regs_Tell x10 x11 x12 fun y0_2 y1_2 y2 y3_2 y4_2 => keepH [some (EV.agg [EV.ptr 2 [], EV.ptr 3 []]), some (EV.agg [EV.agg [EV.arr IntKind.u64 32 y0, EV.arrT 32 (Sk.agg [Sk.int IntKind.u64, Sk.int IntKind.u64]) y1], EV.agg [EV.arr IntKind.u64 32 x5, EV.arrT 32 (Sk.agg [Sk.int IntKind.u64, Sk.int IntKind.u64]) x6]]), some (EV.agg [EV.bool y3, EV.arr IntKind.u64 32 y4, EV.arrT 32 (Sk.agg [Sk.int IntKind.u64, Sk.int IntKind.u64]) y5]), some (EV.agg [EV.bool y2, EV.arr IntKind.u64 32 y3_2, EV.arrT 32 (Sk.agg [Sk.int IntKind.u64, Sk.int IntKind.u64]) y4_2])] [some (EV.agg [EV.ptr 2 [], EV.ptr 3 []]), some (EV.agg [EV.agg [EV.arr IntKind.u64 32 y0, EV.arrT 32 (Sk.agg [Sk.int IntKind.u64, Sk.int IntKind.u64]) y1], EV.agg [EV.arr IntKind.u64 32 x5, EV.arrT 32 (Sk.agg [Sk.int IntKind.u64, Sk.int IntKind.u64]) x6]]), some (EV.agg [EV.bool y3, EV.arr IntKind.u64 32 y4, EV.arrT 32 (Sk.agg [Sk.int IntKind.u64, Sk.int IntKind.u64]) y5]), some (EV.agg [EV.bool x10, EV.arr IntKind.u64 32 x11, EV.arrT 32 (Sk.agg [Sk.int IntKind.u64, Sk.int IntKind.u64]) x12])] ∧ br (!(eqN 32 y0_2 x5 && eqTb (Sk.agg [Sk.int IntKind.u64, Sk.int IntKind.u64]) 32 y1_2 x6)) (k0 false) (regs_Same y3 y4 y5 x10 x11 x12 fun y0_3 y1_3 y2 y3_3 y4_3 y5_1 y6 => keepH [some (EV.agg [EV.ptr 2 [], EV.ptr 3 []]), some (EV.agg [EV.agg [EV.arr IntKind.u64 32 y0, EV.arrT 32 (Sk.agg [Sk.int IntKind.u64, Sk.int IntKind.u64]) y1], EV.agg [EV.arr IntKind.u64 32 x5, EV.arrT 32 (Sk.agg [Sk.int IntKind.u64, Sk.int IntKind.u64]) x6]]), some (EV.agg [EV.bool y1_3, EV.arr IntKind.u64 32 y2, EV.arrT 32 (Sk.agg [Sk.int IntKind.u64, Sk.int IntKind.u64]) y3_3]), some (EV.agg [EV.bool y4_3, EV.arr IntKind.u64 32 y5_1, EV.arrT 32 (Sk.agg [Sk.int IntKind.u64, Sk.int IntKind.u64]) y6])] [some (EV.agg [EV.ptr 2 [], EV.ptr 3 []]), some (EV.agg [EV.agg [EV.arr IntKind.u64 32 y0, EV.arrT 32 (Sk.agg [Sk.int IntKind.u64, Sk.int IntKind.u64]) y1], EV.agg [EV.arr IntKind.u64 32 x5, EV.arrT 32 (Sk.agg [Sk.int IntKind.u64, Sk.int IntKind.u64]) x6]]), some (EV.agg [EV.bool y3, EV.arr IntKind.u64 32 y4, EV.arrT 32 (Sk.agg [Sk.int IntKind.u64, Sk.int IntKind.u64]) y5]), some (EV.agg [EV.bool x10, EV.arr IntKind.u64 32 x11, EV.arrT 32 (Sk.agg [Sk.int IntKind.u64, Sk.int IntKind.u64]) x12])] ∧ br (!beqB y0_3 (eqN 32 y0 x5 && eqTb (Sk.agg [Sk.int IntKind.u64, Sk.int IntKind.u64]) 32 y1 x6)) (k0 false) (again x0 x1 (addI IntKind.i64 x2 1) y0 y1 x5 x6 y3 y4 y5 x10 x11 x12)))))))) (br (eqI (andI IntKind.i64 (Lf.toI (x1 (Int.toNat x2) 1)) 1) 1) (gd (leI 0 x2 && ltI x2 ↑x0) (br (eqI (Lf.toI (x1 (Int.toNat x2) 0)) 8) (regs_Regs_Copy x7 x8 x9 (fun y0 y1 y2 => False) fun y0 y1 y2 y3 y4 y5 => regs_Regs_Tell y3 y4 y5 fun y0_1 y1_1 y2_1 y3_1 y4_1 => keepH [some (EV.agg [EV.ptr 2 [], EV.ptr 4 []]), some (EV.agg [EV.agg [EV.arr IntKind.u64 32 x3, EV.arrT 32 (Sk.agg [Sk.int IntKind.u64, Sk.int IntKind.u64]) x4], EV.agg [EV.arr IntKind.u64 32 x3, EV.arrT 32 (Sk.agg [Sk.int IntKind.u64, Sk.int IntKind.u64]) x4]]), some (EV.agg [EV.bool y0, EV.arr IntKind.u64 32 y1, EV.arrT 32 (Sk.agg [Sk.int IntKind.u64, Sk.int IntKind.u64]) y2]), some (EV.agg [EV.bool x10, EV.arr IntKind.u64 32 x11, EV.arrT 32 (Sk.agg [Sk.int IntKind.u64, Sk.int IntKind.u64]) x12]), some (EV.agg [EV.bool y2_1, EV.arr IntKind.u64 32 y3_1, EV.arrT 32 (Sk.agg [Sk.int IntKind.u64, Sk.int IntKind.u64]) y4_1])] [some (EV.agg [EV.ptr 2 [], EV.ptr 4 []]), some (EV.agg [EV.agg [EV.arr IntKind.u64 32 x3, EV.arrT 32 (Sk.agg [Sk.int IntKind.u64, Sk.int IntKind.u64]) x4], EV.agg [EV.arr IntKind.u64 32 x3, EV.arrT 32 (Sk.agg [Sk.int IntKind.u64, Sk.int IntKind.u64]) x4]]), some (EV.agg [EV.bool y0, EV.arr IntKind.u64 32 y1, EV.arrT 32 (Sk.agg [Sk.int IntKind.u64, Sk.int IntKind.u64]) y2]), some (EV.agg [EV.bool x10, EV.arr IntKind.u64 32 x11, EV.arrT 32 (Sk.agg [Sk.int IntKind.u64, Sk.int IntKind.u64]) x12]), some (EV.agg [EV.bool y3, EV.arr IntKind.u64 32 y4, EV.arrT 32 (Sk.agg [Sk.int IntKind.u64, Sk.int IntKind.u64]) y5])] ∧ br (!(eqN 32 y0_1 x3 && eqTb (Sk.agg [Sk.int IntKind.u64, Sk.int IntKind.u64]) 32 y1_1 x4)) (k0 false) (regs_Regs_Tell y0 y1 y2 fun y0_2 y1_2 y2_2 y3_2 y4_2 => keepH [some (EV.agg [EV.ptr 2 [], EV.ptr 4 []]), some (EV.agg [EV.agg [EV.arr IntKind.u64 32 x3, EV.arrT 32 (Sk.agg [Sk.int IntKind.u64, Sk.int IntKind.u64]) x4], EV.agg [EV.arr IntKind.u64 32 x3, EV.arrT 32 (Sk.agg [Sk.int IntKind.u64, Sk.int IntKind.u64]) x4]]), some (EV.agg [EV.bool y2_2, EV.arr IntKind.u64 32 y3_2, EV.arrT 32 (Sk.agg [Sk.int IntKind.u64, Sk.int IntKind.u64]) y4_2]), some (EV.agg [EV.bool x10, EV.arr IntKind.u64 32 x11, EV.arrT 32 (Sk.agg [Sk.int IntKind.u64, Sk.int IntKind.u64]) x12]), some (EV.agg [EV.bool y3, EV.arr IntKind.u64 32 y4, EV.arrT 32 (Sk.agg [Sk.int IntKind.u64, Sk.int IntKind.u64]) y5])] [some (EV.agg [EV.ptr 2 [], EV.ptr 4 []]), some (EV.agg [EV.agg [EV.arr IntKind.u64 32 x3, EV.arrT 32 (Sk.agg [Sk.int IntKind.u64, Sk.int IntKind.u64]) x4], EV.agg [EV.arr IntKind.u64 32 x3, EV.arrT 32 (Sk.agg [Sk.int IntKind.u64, Sk.int IntKind.u64]) x4]]), some (EV.agg [EV.bool y0, EV.arr IntKind.u64 32 y1, EV.arrT 32 (Sk.agg [Sk.int IntKind.u64, Sk.int IntKind.u64]) y2]), some (EV.agg [EV.bool x10, EV.arr IntKind.u64 32 x11, EV.arrT 32 (Sk.agg [Sk.int IntKind.u64, Sk.int IntKind.u64]) x12]), some (EV.agg [EV.bool y3, EV.arr IntKind.u64 32 y4, EV.arrT 32 (Sk.agg [Sk.int IntKind.u64, Sk.int IntKind.u64]) y5])] ∧ br (!(eqN 32 y0_2 x3 && eqTb (Sk.agg [Sk.int IntKind.u64, Sk.int IntKind.u64]) 32 y1_2 x4)) (k0 false) (regs_Same y0 y1 y2 y3 y4 y5 fun y0_3 y1_3 y2_3 y3_3 y4_3 y5_1 y6 => keepH [some (EV.agg [EV.ptr 2 [], EV.ptr 4 []]), some (EV.agg [EV.agg [EV.arr IntKind.u64 32 x3, EV.arrT 32 (Sk.agg [Sk.int IntKind.u64, Sk.int IntKind.u64]) x4], EV.agg [EV.arr IntKind.u64 32 x3, EV.arrT 32 (Sk.agg [Sk.int IntKind.u64, Sk.int IntKind.u64]) x4]]), some (EV.agg [EV.bool y1_3, EV.arr IntKind.u64 32 y2_3, EV.arrT 32 (Sk.agg [Sk.int IntKind.u64, Sk.int IntKind.u64]) y3_3]), some (EV.agg [EV.bool x10, EV.arr IntKind.u64 32 x11, EV.arrT 32 (Sk.agg [Sk.int IntKind.u64, Sk.int IntKind.u64]) x12]), some (EV.agg [EV.bool y4_3, EV.arr IntKind.u64 32 y5_1, EV.arrT 32 (Sk.agg [Sk.int IntKind.u64, Sk.int IntKind.u64]) y6])] [some (EV.agg [EV.ptr 2 [], EV.ptr 4 []]), some (EV.agg [EV.agg [EV.arr IntKind.u64 32 x3, EV.arrT 32 (Sk.agg [Sk.int IntKind.u64, Sk.int IntKind.u64]) x4], EV.agg [EV.arr IntKind.u64 32 x3, EV.arrT 32 (Sk.agg [Sk.int IntKind.u64, Sk.int IntKind.u64]) x4]]), some (EV.agg [EV.bool y0, EV.arr IntKind.u64 32 y1, EV.arrT 32 (Sk.agg [Sk.int IntKind.u64, Sk.int IntKind.u64]) y2]), some (EV.agg [EV.bool x10, EV.arr IntKind.u64 32 x11, EV.arrT 32 (Sk.agg [Sk.int IntKind.u64, Sk.int IntKind.u64]) x12]), some (EV.agg [EV.bool y3, EV.arr IntKind.u64 32 y4, EV.arrT 32 (Sk.agg [Sk.int IntKind.u64, Sk.int IntKind.u64]) y5])] ∧ br (!beqB y0_3 (eqN 32 x3 x3 && eqTb (Sk.agg [Sk.int IntKind.u64, Sk.int IntKind.u64]) 32 x4 x4)) (k0 false) (again x0 x1 (addI IntKind.i64 x2 1) x3 x4 x3 x4 y0 y1 y2 y3 y4 y5)))) (gd (leI 0 x2 && ltI x2 ↑x0) (law23_both x10 x11 x12 x5 x6 (Lf.toI (x1 (Int.toNat x2) 0)) (Lf.toI (x1 (Int.toNat x2) 1)) (Lf.toI (x1 (Int.toNat x2) 2)) (Lf.toI (x1 (Int.toNat x2) 3)) (Lf.toI (x1 (Int.toNat x2) 4)) (Lf.toI (x1 (Int.toNat x2) 5)) (Lf.toI (x1 (Int.toNat x2) 6)) (Lf.len (x1 (Int.toNat x2) 7)) (Lf.row (x1 (Int.toNat x2) 7)) fun y0 y1 y2 y3 y4 y5 => br (!y2) (k0 false) (regs_Regs_Tell y3 y4 y5 fun y0_1 y1_1 y2 y3_1 y4_1 => keepH [some (EV.agg [EV.ptr 2 [], EV.ptr 3 []]), some (EV.agg [EV.agg [EV.arr IntKind.u64 32 x3, EV.arrT 32 (Sk.agg [Sk.int IntKind.u64, Sk.int IntKind.u64]) x4], EV.agg [EV.arr IntKind.u64 32 y0, EV.arrT 32 (Sk.agg [Sk.int IntKind.u64, Sk.int IntKind.u64]) y1]]), some (EV.agg [EV.bool x7, EV.arr IntKind.u64 32 x8, EV.arrT 32 (Sk.agg [Sk.int IntKind.u64, Sk.int IntKind.u64]) x9]), some (EV.agg [EV.bool y2, EV.arr IntKind.u64 32 y3_1, EV.arrT 32 (Sk.agg [Sk.int IntKind.u64, Sk.int IntKind.u64]) y4_1])] [some (EV.agg [EV.ptr 2 [], EV.ptr 3 []]), some (EV.agg [EV.agg [EV.arr IntKind.u64 32 x3, EV.arrT 32 (Sk.agg [Sk.int IntKind.u64, Sk.int IntKind.u64]) x4], EV.agg [EV.arr IntKind.u64 32 y0, EV.arrT 32 (Sk.agg [Sk.int IntKind.u64, Sk.int IntKind.u64]) y1]]), some (EV.agg [EV.bool x7, EV.arr IntKind.u64 32 x8, EV.arrT 32 (Sk.agg [Sk.int IntKind.u64, Sk.int IntKind.u64]) x9]), some (EV.agg [EV.bool y3, EV.arr IntKind.u64 32 y4, EV.arrT 32 (Sk.agg [Sk.int IntKind.u64, Sk.int IntKind.u64]) y5])] ∧ br (!(eqN 32 y0_1 y0 && eqTb (Sk.agg [Sk.int IntKind.u64, Sk.int IntKind.u64]) 32 y1_1 y1)) (k0 false) (regs_Regs_Tell x7 x8 x9 fun y0_2 y1_2 y2 y3_2 y4_2 => keepH [some (EV.agg [EV.ptr 2 [], EV.ptr 3 []]), some (EV.agg [EV.agg [EV.arr IntKind.u64 32 x3, EV.arrT 32 (Sk.agg [Sk.int IntKind.u64, Sk.int IntKind.u64]) x4], EV.agg [EV.arr IntKind.u64 32 y0, EV.arrT 32 (Sk.agg [Sk.int IntKind.u64, Sk.int IntKind.u64]) y1]]), some (EV.agg [EV.bool y2, EV.arr IntKind.u64 32 y3_2, EV.arrT 32 (Sk.agg [Sk.int IntKind.u64, Sk.int IntKind.u64]) y4_2]), some (EV.agg [EV.bool y3, EV.arr IntKind.u64 32 y4, EV.arrT 32 (Sk.agg [Sk.int IntKind.u64, Sk.int IntKind.u64]) y5])] [some (EV.agg [EV.ptr 2 [], EV.ptr 3 []]), some (EV.agg [EV.agg [EV.arr IntKind.u64 32 x3, EV.arrT 32 (Sk.agg [Sk.int IntKind.u64, Sk.int IntKind.u64]) x4], EV.agg [EV.arr IntKind.u64 32 y0, EV.arrT 32 (Sk.agg [Sk.int IntKind.u64, Sk.int IntKind.u64]) y1]]), some (EV.agg [EV.bool x7, EV.arr IntKind.u64 32 x8, EV.arrT 32 (Sk.agg [Sk.int IntKind.u64, Sk.int IntKind.u64]) x9]), some (EV.agg [EV.bool y3, EV.arr IntKind.u64 32 y4, EV.arrT 32 (Sk.agg [Sk.int IntKind.u64, Sk.int IntKind.u64]) y5])] ∧ br (!(eqN 32 y0_2 x3 && eqTb (Sk.agg [Sk.int IntKind.u64, Sk.int IntKind.u64]) 32 y1_2 x4)) (k0 false) (regs_Same x7 x8 x9 y3 y4 y5 fun y0_3 y1_3 y2 y3_3 y4_3 y5_1 y6 => keepH [some (EV.agg [EV.ptr 2 [], EV.ptr 3 []]), some (EV.agg [EV.agg [EV.arr IntKind.u64 32 x3, EV.arrT 32 (Sk.agg [Sk.int IntKind.u64, Sk.int IntKind.u64]) x4], EV.agg [EV.arr IntKind.u64 32 y0, EV.arrT 32 (Sk.agg [Sk.int IntKind.u64, Sk.int IntKind.u64]) y1]]), some (EV.agg [EV.bool y1_3, EV.arr IntKind.u64 32 y2, EV.arrT 32 (Sk.agg [Sk.int IntKind.u64, Sk.int IntKind.u64]) y3_3]), some (EV.agg [EV.bool y4_3, EV.arr IntKind.u64 32 y5_1, EV.arrT 32 (Sk.agg [Sk.int IntKind.u64, Sk.int IntKind.u64]) y6])] [some (EV.agg [EV.ptr 2 [], EV.ptr 3 []]), some (EV.agg [EV.agg [EV.arr IntKind.u64 32 x3, EV.arrT 32 (Sk.agg [Sk.int IntKind.u64, Sk.int IntKind.u64]) x4], EV.agg [EV.arr IntKind.u64 32 y0, EV.arrT 32 (Sk.agg [Sk.int IntKind.u64, Sk.int IntKind.u64]) y1]]), some (EV.agg [EV.bool x7, EV.arr IntKind.u64 32 x8, EV.arrT 32 (Sk.agg [Sk.int IntKind.u64, Sk.int IntKind.u64]) x9]), some (EV.agg [EV.bool y3, EV.arr IntKind.u64 32 y4, EV.arrT 32 (Sk.agg [Sk.int IntKind.u64, Sk.int IntKind.u64]) y5])] ∧ br (!beqB y0_3 (eqN 32 x3 y0 && eqTb (Sk.agg [Sk.int IntKind.u64, Sk.int IntKind.u64]) 32 x4 y1)) (k0 false) (again x0 x1 (addI IntKind.i64 x2 1) x3 x4 y0 y1 x7 x8 x9 y3 y4 y5)))))))) False))) (k1 x3 x4 x5 x6 x7 x8 x9 x10 x11 x12)
def law23_RegsPlays.l6 (k0 : Bool → Prop) (k1 : (Nat → Int) → (Nat → Nat → Lf) → (Nat → Int) → (Nat → Nat → Lf) → Bool → (Nat → Int) → (Nat → Nat → Lf) → Bool → (Nat → Int) → (Nat → Nat → Lf) → Prop) : Nat → Nat → (Nat → Nat → Lf) → Int → (Nat → Int) → (Nat → Nat → Lf) → (Nat → Int) → (Nat → Nat → Lf) → Bool → (Nat → Int) → (Nat → Nat → Lf) → Bool → (Nat → Int) → (Nat → Nat → Lf) → Prop
  | 0 => fun _ _ _ _ _ _ _ _ _ _ _ _ _ => False
  | n + 1 => law23_RegsPlays.l6.step (law23_RegsPlays.l6 k0 k1 n) k0 k1
def law23_RegsPlays.l21.step (again : Nat → (Nat → Nat → Lf) → Nat → (Nat → Nat → Lf) → Int → Prop) (k0 : Bool → Prop) (k1 : Prop) (x0 : Nat) (x1 : Nat → Nat → Lf) (x2 : Nat) (x3 : Nat → Nat → Lf) (x4 : Int) : Prop :=
  br (ltI x4 ↑x2) (gd (leI 0 x4 && ltI x4 ↑x0) (gd (leI 0 x4 && ltI x4 ↑x2) (br (!(beqB (isT (Lf.toI (x1 (Int.toNat x4) 0))) (isT (Lf.toI (x3 (Int.toNat x4) 0))) && (eqI (Lf.toI (x1 (Int.toNat x4) 1)) (Lf.toI (x3 (Int.toNat x4) 1)) && (eqI (Lf.toI (x1 (Int.toNat x4) 2)) (Lf.toI (x3 (Int.toNat x4) 2)) && (eqI (Lf.toI (x1 (Int.toNat x4) 3)) (Lf.toI (x3 (Int.toNat x4) 3)) && eqI (Lf.toI (x1 (Int.toNat x4) 4)) (Lf.toI (x3 (Int.toNat x4) 4))))))) (k0 false) (again x0 x1 x2 x3 (addI IntKind.i64 x4 1))))) k1
def law23_RegsPlays.l21 (k0 : Bool → Prop) (k1 : Prop) : Nat → Nat → (Nat → Nat → Lf) → Nat → (Nat → Nat → Lf) → Int → Prop
  | 0 => fun _ _ _ _ _ => False
  | n + 1 => law23_RegsPlays.l21.step (law23_RegsPlays.l21 k0 k1 n) k0 k1
def law23_RegsPlays.l6.entry : LoopEntry := ⟨LV.mk 384 [(0, 384)] 64 0 false, 0, 172, fun vs H K => match vs, H with
  | [EV.rsT x0 (Sk.agg [Sk.int IntKind.i64, Sk.int IntKind.i64, Sk.int IntKind.i64, Sk.int IntKind.u64, Sk.agg [Sk.int IntKind.u64, Sk.int IntKind.u64], Sk.int IntKind.u8, Sk.sl (Sk.agg [Sk.bool, Sk.int IntKind.i64, Sk.int IntKind.u64, Sk.agg [Sk.int IntKind.u64, Sk.int IntKind.u64]])]) x1, EV.ptr 0 [], EV.ptr 1 [], EV.int IntKind.i64 x2], [some (EV.agg [EV.ptr 2 [], EV.ptr 3 []]), some (EV.agg [EV.agg [EV.arr IntKind.u64 32 x3, EV.arrT 32 (Sk.agg [Sk.int IntKind.u64, Sk.int IntKind.u64]) x4], EV.agg [EV.arr IntKind.u64 32 x5, EV.arrT 32 (Sk.agg [Sk.int IntKind.u64, Sk.int IntKind.u64]) x6]]), some (EV.agg [EV.bool x7, EV.arr IntKind.u64 32 x8, EV.arrT 32 (Sk.agg [Sk.int IntKind.u64, Sk.int IntKind.u64]) x9]), some (EV.agg [EV.bool x10, EV.arr IntKind.u64 32 x11, EV.arrT 32 (Sk.agg [Sk.int IntKind.u64, Sk.int IntKind.u64]) x12])] => ∃ n, law23_RegsPlays.l6 (fun y0 => K .ret [EV.bool y0] []) (fun y0 y1 y2 y3 y4 y5 y6 y7 y8 y9 => K (.exit 0) [EV.ptr 0 [], EV.ptr 1 []] [some (EV.agg [EV.ptr 2 [], EV.ptr 3 []]), some (EV.agg [EV.agg [EV.arr IntKind.u64 32 y0, EV.arrT 32 (Sk.agg [Sk.int IntKind.u64, Sk.int IntKind.u64]) y1], EV.agg [EV.arr IntKind.u64 32 y2, EV.arrT 32 (Sk.agg [Sk.int IntKind.u64, Sk.int IntKind.u64]) y3]]), some (EV.agg [EV.bool y4, EV.arr IntKind.u64 32 y5, EV.arrT 32 (Sk.agg [Sk.int IntKind.u64, Sk.int IntKind.u64]) y6]), some (EV.agg [EV.bool y7, EV.arr IntKind.u64 32 y8, EV.arrT 32 (Sk.agg [Sk.int IntKind.u64, Sk.int IntKind.u64]) y9])]) n x0 x1 x2 x3 x4 x5 x6 x7 x8 x9 x10 x11 x12
  | _, _ => False⟩
def law23_RegsPlays.l21.entry : LoopEntry := ⟨LV.mk 0 [(2, 0)] 64 0 false, 0, 172, fun vs H K => match vs, H with
  | [EV.rsT x0 (Sk.agg [Sk.bool, Sk.int IntKind.i64, Sk.int IntKind.u64, Sk.agg [Sk.int IntKind.u64, Sk.int IntKind.u64]]) x1, EV.rsT x2 (Sk.agg [Sk.bool, Sk.int IntKind.i64, Sk.int IntKind.u64, Sk.agg [Sk.int IntKind.u64, Sk.int IntKind.u64]]) x3, EV.int IntKind.i64 x4], [] => ∃ n, law23_RegsPlays.l21 (fun y0 => K .ret [EV.bool y0] []) (K (.exit 2) [] []) n x0 x1 x2 x3 x4
  | _, _ => False⟩
def law23_RegsPlays.d (a0_0 : Nat → Int) (a0_1 : Nat → Nat → Lf) (a1_0 : Nat → Int) (a1_1 : Nat → Nat → Lf) (a2n : Nat) (a2 : Nat → Nat → Lf) (K : Bool → Prop) : Prop :=
  regs_From a0_0 a0_1 fun y0 y1 y2 => regs_From a1_0 a1_1 fun y0_1 y1_1 y2_1 => r23_From a0_0 a0_1 fun y0_2 y1_2 => r23_From a1_0 a1_1 fun y0_3 y1_3 => br (ltI 300 ↑a2n) (law23_lives fun y0 => K y0) (∃ n, law23_RegsPlays.l6 (fun y0 => K y0) (fun y0 y1 y2 y3 y4 y5 y6 y7 y8 y9 => regs_Changed y4 y5 y6 y7 y8 y9 fun y0_4 y1_4 y2_2 y3_1 y4 y5 y6 y7 y8 => r23_Changed y0 y1 y2 y3 fun y0 y1 => br (!eqI y2_2 0) (K false) (br (!eqI ↑y0_4 ↑y0) (K false) (∃ n, law23_RegsPlays.l21 (fun y0 => K y0) (law23_lives fun y0 => K y0) n y0_4 y1_4 y0 y1 0))) n a2n a2 0 y0_2 y1_2 y0_3 y1_3 y0 y1 y2 y0_1 y1_1 y2_1)
noncomputable def law23_RegsPlays : (Nat → Int) → (Nat → Nat → Lf) → (Nat → Int) → (Nat → Nat → Lf) → Nat → (Nat → Nat → Lf) → (Bool → Prop) → Prop := Classical.choose (⟨law23_RegsPlays.d, rfl⟩ : ∃ f, f = law23_RegsPlays.d)
theorem law23_RegsPlays.is : law23_RegsPlays = law23_RegsPlays.d := Classical.choose_spec (⟨law23_RegsPlays.d, rfl⟩ : ∃ f, f = law23_RegsPlays.d)
end Go.Ev.S

/- The functions as the evaluator has them: what each comes to. -/
set_option maxRecDepth 100000
set_option linter.unusedVariables false
set_option linter.unusedSimpArgs false
namespace Go.Ev.S
open Go Go.Ev
end Go.Ev.S

/- The functions as the evaluator has them: what each comes to. -/
set_option maxRecDepth 100000
set_option linter.unusedVariables false
set_option linter.unusedSimpArgs false
namespace Go.Ev.S
open Go Go.Ev
end Go.Ev.S

/- The functions as the evaluator has them: what each comes to. -/
set_option maxRecDepth 100000
set_option linter.unusedVariables false
set_option linter.unusedSimpArgs false
namespace Go.Ev.S
open Go Go.Ev
end Go.Ev.S

/- The functions as the evaluator has them: what each comes to. -/
set_option maxRecDepth 100000
set_option linter.unusedVariables false
set_option linter.unusedSimpArgs false
namespace Go.Ev.S
open Go Go.Ev
end Go.Ev.S

/- The functions as the evaluator has them: what each comes to. -/
set_option maxRecDepth 100000
set_option linter.unusedVariables false
set_option linter.unusedSimpArgs false
namespace Go.Ev.S
open Go Go.Ev
end Go.Ev.S

/- The functions as the evaluator has them: what each comes to. -/
set_option maxRecDepth 100000
set_option linter.unusedVariables false
set_option linter.unusedSimpArgs false
namespace Go.Ev.S
open Go Go.Ev
end Go.Ev.S

/- The functions as the evaluator has them: what each comes to. -/
set_option maxRecDepth 100000
set_option linter.unusedVariables false
set_option linter.unusedSimpArgs false
namespace Go.Ev.S
open Go Go.Ev
end Go.Ev.S

/- The functions as the evaluator has them: what each comes to. -/
set_option maxRecDepth 100000
set_option linter.unusedVariables false
set_option linter.unusedSimpArgs false
namespace Go.Ev.S
open Go Go.Ev
end Go.Ev.S

/- The functions as the evaluator has them: what each comes to. -/
set_option maxRecDepth 100000
set_option linter.unusedVariables false
set_option linter.unusedSimpArgs false
namespace Go.Ev.S
open Go Go.Ev
end Go.Ev.S

/- The functions as the evaluator has them: what each comes to. -/
set_option maxRecDepth 100000
set_option linter.unusedVariables false
set_option linter.unusedSimpArgs false
namespace Go.Ev.S
open Go Go.Ev
end Go.Ev.S

/- The functions as the evaluator has them: what each comes to. -/
set_option maxRecDepth 100000
set_option linter.unusedVariables false
set_option linter.unusedSimpArgs false
namespace Go.Ev.S
open Go Go.Ev
end Go.Ev.S

/- The functions as the evaluator has them: what each comes to. -/
set_option maxRecDepth 100000
set_option linter.unusedVariables false
set_option linter.unusedSimpArgs false
namespace Go.Ev.S
open Go Go.Ev
end Go.Ev.S

/- The functions as the evaluator has them: what each comes to. -/
set_option maxRecDepth 100000
set_option linter.unusedVariables false
set_option linter.unusedSimpArgs false
namespace Go.Ev.S
open Go Go.Ev
end Go.Ev.S

/- The functions as the evaluator has them: what each comes to. -/
set_option maxRecDepth 100000
set_option linter.unusedVariables false
set_option linter.unusedSimpArgs false
namespace Go.Ev.S
open Go Go.Ev
end Go.Ev.S

/- The functions as the evaluator has them: what each comes to. -/
set_option maxRecDepth 100000
set_option linter.unusedVariables false
set_option linter.unusedSimpArgs false
namespace Go.Ev.S
open Go Go.Ev
end Go.Ev.S

/- The functions as the evaluator has them: what each comes to. -/
set_option maxRecDepth 100000
set_option linter.unusedVariables false
set_option linter.unusedSimpArgs false
namespace Go.Ev.S
open Go Go.Ev
end Go.Ev.S

/- The functions as the evaluator has them: what each comes to. -/
set_option maxRecDepth 100000
set_option linter.unusedVariables false
set_option linter.unusedSimpArgs false
namespace Go.Ev.S
open Go Go.Ev
end Go.Ev.S

/- The functions as the evaluator has them: what each comes to. -/
set_option maxRecDepth 100000
set_option linter.unusedVariables false
set_option linter.unusedSimpArgs false
namespace Go.Ev.S
open Go Go.Ev
end Go.Ev.S

/- The functions as the evaluator has them: what each comes to. -/
set_option maxRecDepth 100000
set_option linter.unusedVariables false
set_option linter.unusedSimpArgs false
namespace Go.Ev.S
open Go Go.Ev
end Go.Ev.S

/- The functions as the evaluator has them: what each comes to. -/
set_option maxRecDepth 100000
set_option linter.unusedVariables false
set_option linter.unusedSimpArgs false
namespace Go.Ev.S
open Go Go.Ev
end Go.Ev.S

/- The functions as the evaluator has them: what each comes to. -/
set_option maxRecDepth 100000
set_option linter.unusedVariables false
set_option linter.unusedSimpArgs false
namespace Go.Ev.S
open Go Go.Ev
end Go.Ev.S
