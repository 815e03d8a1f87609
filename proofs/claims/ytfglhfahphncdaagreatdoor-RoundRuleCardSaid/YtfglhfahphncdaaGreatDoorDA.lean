/- The functions as the evaluator has them: what each comes to. -/
import Derived.Test.YtfglhfahphncdaaGreatDoorEvC
import Derived.Lib.ItoaNum
import Derived.Lib.AtoiAll
import Derived.Lib.Bytealg
set_option maxRecDepth 100000
set_option linter.unusedVariables false
set_option linter.unusedSimpArgs false
namespace Go.Ev.S
open Go Go.Ev
noncomputable def shut {α : Type} (d : α) : α := Classical.choose (⟨d, rfl⟩ : ∃ f, f = d)
theorem shut_is {α : Type} (d : α) : shut d = d := Classical.choose_spec (⟨d, rfl⟩ : ∃ f, f = d)
def zbr.d (a0 : Int) (a1 : Int) (K : Bool → Prop) : Prop :=
  br (leI 0 a1) (br (ltI a1 64) (gd (!ltI (cvI .u64 a1) 0) (K (eqI (yh5 .u64 (ya1 .u64 a0 (cvI .u64 a1)) 1) 1))) (K false)) (K false)
noncomputable def zbr := shut zbr.d
theorem zbr.is : zbr = zbr.d := shut_is _
def r01_Add.l3.step (again : Int → Int → Bool → Int → Int → Prop) (k0 : Bool → Int → Prop) (x0 : Int) (x1 : Int) (x2 : Bool) (x3 : Int) (x4 : Int) : Prop :=
  br (ltI x4 64) (zbr x0 x4 fun y0 => zbr x1 x4 fun y0_1 => br (!ydF (!ydF y0 y0_1) x2) (gd (!ltI (cvI .u64 x4) 0) (br y0 (br y0_1 (again x0 x1 true (orI .u64 x3 (ybM .u64 1 (cvI .u64 x4))) (yai .i64 x4 1)) (br y0 (br x2 (again x0 x1 true (orI .u64 x3 (ybM .u64 1 (cvI .u64 x4))) (yai .i64 x4 1)) (br y0_1 (again x0 x1 x2 (orI .u64 x3 (ybM .u64 1 (cvI .u64 x4))) (yai .i64 x4 1)) (again x0 x1 false (orI .u64 x3 (ybM .u64 1 (cvI .u64 x4))) (yai .i64 x4 1)))) (br y0_1 (again x0 x1 x2 (orI .u64 x3 (ybM .u64 1 (cvI .u64 x4))) (yai .i64 x4 1)) (again x0 x1 false (orI .u64 x3 (ybM .u64 1 (cvI .u64 x4))) (yai .i64 x4 1))))) (br y0 (br x2 (again x0 x1 true (orI .u64 x3 (ybM .u64 1 (cvI .u64 x4))) (yai .i64 x4 1)) (br y0_1 (again x0 x1 x2 (orI .u64 x3 (ybM .u64 1 (cvI .u64 x4))) (yai .i64 x4 1)) (again x0 x1 false (orI .u64 x3 (ybM .u64 1 (cvI .u64 x4))) (yai .i64 x4 1)))) (br y0_1 (again x0 x1 x2 (orI .u64 x3 (ybM .u64 1 (cvI .u64 x4))) (yai .i64 x4 1)) (again x0 x1 false (orI .u64 x3 (ybM .u64 1 (cvI .u64 x4))) (yai .i64 x4 1)))))) (br y0 (br y0_1 (again x0 x1 true x3 (yai .i64 x4 1)) (br y0 (br x2 (again x0 x1 true x3 (yai .i64 x4 1)) (br y0_1 (again x0 x1 x2 x3 (yai .i64 x4 1)) (again x0 x1 false x3 (yai .i64 x4 1)))) (br y0_1 (again x0 x1 x2 x3 (yai .i64 x4 1)) (again x0 x1 false x3 (yai .i64 x4 1))))) (br y0 (br x2 (again x0 x1 true x3 (yai .i64 x4 1)) (br y0_1 (again x0 x1 x2 x3 (yai .i64 x4 1)) (again x0 x1 false x3 (yai .i64 x4 1)))) (br y0_1 (again x0 x1 x2 x3 (yai .i64 x4 1)) (again x0 x1 false x3 (yai .i64 x4 1)))))) (k0 x2 x3)
def r01_Add.l3 (k0 : Bool → Int → Prop) : Nat → Int → Int → Bool → Int → Int → Prop
  | 0 => fun _ _ _ _ _ => False
  | n + 1 => r01_Add.l3.step (r01_Add.l3 k0 n) k0
def r01_Add.l3.entry : yao := ⟨LV.mk 260 [(0, 260)] 192 0 false, 0, 50, fun vs H K => match vs, H with
  | [EV.int .u64 x0, EV.int .u64 x1, EV.bool x2, EV.int .u64 x3, EV.int .i64 x4], [] => ∃ n, r01_Add.l3 (fun y0 y1 => K (.exit 0) [EV.bool y0, EV.int .u64 y1] []) n x0 x1 x2 x3 x4
  | _, _ => False⟩
def r01_Add.d (a0 : Int) (a1 : Int) (a2 : Bool) (K : Int → Bool → Prop) : Prop :=
  ∃ n, r01_Add.l3 (fun y0 y1 => K y1 y0) n a0 a1 a2 0 0
noncomputable def r01_Add : Int → Int → Bool → (Int → Bool → Prop) → Prop := Classical.choose (⟨r01_Add.d, rfl⟩ : ∃ f, f = r01_Add.d)
def r01_count.d (a0 : Int) (K : Int → Prop) : Prop :=
  br (ltI a0 0) (K 0) (br (ltI 64 a0) (K 64) (K a0))
noncomputable def r01_count : Int → (Int → Prop) → Prop := Classical.choose (⟨r01_count.d, rfl⟩ : ∃ f, f = r01_count.d)
def r01_Left.l2.step (again : Int → Int → Prop) (k0 : Int → Prop) (x0 : Int) (x1 : Int) : Prop :=
  br (ltI 0 x1) (again (ycj .u64 x0 2) (yan .i64 x1 1)) (k0 x0)
def r01_Left.l2 (k0 : Int → Prop) : Nat → Int → Int → Prop
  | 0 => fun _ _ => False
  | n + 1 => r01_Left.l2.step (r01_Left.l2 k0 n) k0
def r01_Left.l2.entry : yao := ⟨LV.mk 1 [(0, 1)] 16 0 false, 0, 15, fun vs H K => match vs, H with
  | [EV.int .u64 x0, EV.int .i64 x1], [] => ∃ n, r01_Left.l2 (fun y0 => K (.exit 0) [EV.int .u64 y0] []) n x0 x1
  | _, _ => False⟩
def r01_Left.d (a0 : Int) (a1 : Int) (K : Int → Prop) : Prop :=
  r01_count a1 fun y0 => ∃ n, r01_Left.l2 (fun y0 => K y0) n a0 y0
noncomputable def r01_Left : Int → Int → (Int → Prop) → Prop := Classical.choose (⟨r01_Left.d, rfl⟩ : ∃ f, f = r01_Left.d)
def zbs.l3.step (again : Int → Int → Int → Prop) (k0 : Int → Prop) (x0 : Int) (x1 : Int) (x2 : Int) : Prop :=
  br (ltI x2 64) (zbr x0 x2 fun y0 => br y0 (again x0 (yai .i64 x2 1) (yai .i64 x2 1)) (again x0 x1 (yai .i64 x2 1))) (k0 x1)
def zbs.l3 (k0 : Int → Prop) : Nat → Int → Int → Int → Prop
  | 0 => fun _ _ _ => False
  | n + 1 => zbs.l3.step (zbs.l3 k0 n) k0
def zbs.l3.entry : yao := ⟨LV.mk 8 [(0, 8)] 4 0 false, 0, 15, fun vs H K => match vs, H with
  | [EV.int .u64 x0, EV.int .i64 x1, EV.int .i64 x2], [] => ∃ n, zbs.l3 (fun y0 => K (.exit 0) [EV.int .i64 y0] []) n x0 x1 x2
  | _, _ => False⟩
def zbs.d (a0 : Int) (K : Int → Prop) : Prop :=
  ∃ n, zbs.l3 (fun y0 => K y0) n a0 0 0
noncomputable def zbs := shut zbs.d
theorem zbs.is : zbs = zbs.d := shut_is _
def zbt.l2.step (again : Int → Int → Prop) (k0 : Int → Prop) (k1 : Prop) (x0 : Int) (x1 : Int) : Prop :=
  br (ltI x1 64) (zbr x0 x1 fun y0 => br y0 (k0 x1) (again x0 (yai .i64 x1 1))) k1
def zbt.l2 (k0 : Int → Prop) (k1 : Prop) : Nat → Int → Int → Prop
  | 0 => fun _ _ => False
  | n + 1 => zbt.l2.step (zbt.l2 k0 k1 n) k0 k1
def zbt.l2.entry : yao := ⟨LV.mk 0 [(0, 0)] 4 0 false, 0, 12, fun vs H K => match vs, H with
  | [EV.int .u64 x0, EV.int .i64 x1], [] => ∃ n, zbt.l2 (fun y0 => K .ret [EV.int .i64 y0] []) (K (.exit 0) [] []) n x0 x1
  | _, _ => False⟩
def zbt.d (a0 : Int) (K : Int → Prop) : Prop :=
  ∃ n, zbt.l2 (fun y0 => K y0) (K 64) n a0 0
noncomputable def zbt := shut zbt.d
theorem zbt.is : zbt = zbt.d := shut_is _
end Go.Ev.S

/- The functions as the evaluator has them: what each comes to. -/
set_option maxRecDepth 100000
set_option linter.unusedVariables false
set_option linter.unusedSimpArgs false
namespace Go.Ev.S
open Go Go.Ev
def r02_Add.l4.step (again : Bool → Int → (Nat → Int) → (Nat → Int) → (Nat → Int) → (Nat → Int) → Prop) (k0 : Bool → (Nat → Int) → (Nat → Int) → Prop) (x0 : Bool) (x1 : Int) (x2 : Nat → Int) (x3 : Nat → Int) (x4 : Nat → Int) (x5 : Nat → Int) : Prop :=
  br (ltI x1 6) (gd (leI 0 x1 && ltI x1 6) (gd (leI 0 x1 && ltI x1 6) (r01_Add (x2 (Int.toNat x1)) (x3 (Int.toNat x1)) x0 fun y0 y1 => gd (leI 0 x1 && ltI x1 6) (again y1 (yai .i64 x1 1) x2 x3 x4 (upd x5 (Int.toNat x1) y0))))) (k0 x0 x4 x5)
def r02_Add.l4 (k0 : Bool → (Nat → Int) → (Nat → Int) → Prop) : Nat → Bool → Int → (Nat → Int) → (Nat → Int) → (Nat → Int) → (Nat → Int) → Prop
  | 0 => fun _ _ _ _ _ _ => False
  | n + 1 => r02_Add.l4.step (r02_Add.l4 k0 n) k0
def r02_Add.l4.entry : yao := ⟨LV.mk 208 [(0, 208)] 48 0 false, 0, 32, fun vs H K => match vs, H with
  | [EV.ptr 0 [], EV.ptr 1 [], EV.ptr 2 [], EV.ptr 3 [], EV.bool x0, EV.int .i64 x1], [some (EV.arr .u64 6 x2), some (EV.arr .u64 6 x3), some (EV.arr .u64 6 x4), some (EV.arr .u64 6 x5)] => ∃ n, r02_Add.l4 (fun y0 y1 y2 => K (.exit 0) [EV.ptr 0 [], EV.ptr 1 [], EV.bool y0] [some (EV.arr .u64 6 y1), some (EV.arr .u64 6 y2)]) n x0 x1 x2 x3 x4 x5
  | _, _ => False⟩
def r02_Add.d (a0 : Nat → Int) (a1 : Nat → Int) (K : (Nat → Int) → Bool → Prop) : Prop :=
  ∃ n, r02_Add.l4 (fun y0 y1 y2 => K y2 y0) n false 0 a0 a1 (fun x => 0) fun x => 0
noncomputable def r02_Add : (Nat → Int) → (Nat → Int) → ((Nat → Int) → Bool → Prop) → Prop := Classical.choose (⟨r02_Add.d, rfl⟩ : ∃ f, f = r02_Add.d)
def zbu.l2.step (again : Int → (Nat → Int) → Prop) (k0 : Int → Prop) (k1 : Prop) (x0 : Int) (x1 : Nat → Int) : Prop :=
  br (leI 0 x0) (gd (leI 0 x0 && ltI x0 6) (br (!eqI (x1 (Int.toNat x0)) 0) (gd (leI 0 x0 && ltI x0 6) (zbs (x1 (Int.toNat x0)) fun y0 => k0 (yai .i64 (ycj .i64 64 x0) y0))) (again (yan .i64 x0 1) x1))) k1
def zbu.l2 (k0 : Int → Prop) (k1 : Prop) : Nat → Int → (Nat → Int) → Prop
  | 0 => fun _ _ => False
  | n + 1 => zbu.l2.step (zbu.l2 k0 k1 n) k0 k1
def zbu.l2.entry : yao := ⟨LV.mk 0 [(0, 0)] 4 0 false, 0, 19, fun vs H K => match vs, H with
  | [EV.ptr 0 [], EV.int .i64 x0], [some (EV.arr .u64 6 x1)] => ∃ n, zbu.l2 (fun y0 => K .ret [EV.int .i64 y0] []) (K (.exit 0) [] []) n x0 x1
  | _, _ => False⟩
def zbu.d (a0 : Nat → Int) (K : Int → Prop) : Prop :=
  ∃ n, zbu.l2 (fun y0 => K y0) (K 0) n 5 a0
noncomputable def zbu := shut zbu.d
theorem zbu.is : zbu = zbu.d := shut_is _
end Go.Ev.S

/- The functions as the evaluator has them: what each comes to. -/
set_option maxRecDepth 100000
set_option linter.unusedVariables false
set_option linter.unusedSimpArgs false
namespace Go.Ev.S
open Go Go.Ev
def zch.d (a0 : List UInt8) (a1 : Int) (K : Int → Prop) : Prop :=
  br (leI (↑(List.length a0)) a1) (K 0) (gd (leI 0 (yan .i64 (yan .i64 (↑(List.length a0)) 1) a1) && ltI (yan .i64 (yan .i64 (↑(List.length a0)) 1) a1) ↑(List.length a0)) (K (cvI .i64 (ybm a0 (Int.toNat (yan .i64 (yan .i64 (↑(List.length a0)) 1) a1))))))
noncomputable def zch := shut zch.d
theorem zch.is : zch = zch.d := shut_is _
def zck.l2.step (again : Nat → (Nat → Int) → Int → Prop) (k0 : Nat → (Nat → Int) → Int → Prop) (x0 : Nat) (x1 : Nat → Int) (x2 : Int) : Prop :=
  br (ltI 0 x2) (gd (leI 0 (yan .i64 x2 1) && ltI (yan .i64 x2 1) ↑x0) (br (eqI (x1 (Int.toNat (yan .i64 x2 1))) 0) (again x0 x1 (yan .i64 x2 1)) (k0 x0 x1 x2))) (k0 x0 x1 x2)
def zck.l2 (k0 : Nat → (Nat → Int) → Int → Prop) : Nat → Nat → (Nat → Int) → Int → Prop
  | 0 => fun _ _ _ => False
  | n + 1 => zck.l2.step (zck.l2 k0 n) k0
def zck.l2.entry : yao := ⟨LV.mk 9 [(0, 9)] 4 0 false, 0, 39, fun vs H K => match vs, H with
  | [EV.rsI .u8 x0 x1, EV.int .i64 x2], [] => ∃ n, zck.l2 (fun y0 y1 y2 => K (.exit 0) [EV.rsI .u8 y0 y1, EV.int .i64 y2] []) n x0 x1 x2
  | _, _ => False⟩
def zck.l6.step (again : Nat → (Nat → Int) → Int → Nat → Nat → Int → Nat → (Nat → Int) → Prop) (k0 : Nat → Nat → Nat → (Nat → Int) → Prop) (x0 : Nat) (x1 : Nat → Int) (x2 : Int) (x3 : Nat) (x4 : Nat) (x5 : Int) (x6 : Nat) (x7 : Nat → Int) : Prop :=
  br (ltI x5 x2) (gd (leI 0 x5 && ltI x5 ↑x0) (gd (leI 0 (yan .i64 (yan .i64 x2 1) x5) && ltI (yan .i64 (yan .i64 x2 1) x5) ↑x3) (again x0 x1 x2 x3 x4 (yai .i64 x5 1) x6 (upd x7 (Int.toNat (yan .i64 (yan .i64 x2 1) x5)) (x1 (Int.toNat x5)))))) (k0 x3 x4 x6 x7)
def zck.l6 (k0 : Nat → Nat → Nat → (Nat → Int) → Prop) : Nat → Nat → (Nat → Int) → Int → Nat → Nat → Int → Nat → (Nat → Int) → Prop
  | 0 => fun _ _ _ _ _ _ _ _ => False
  | n + 1 => zck.l6.step (zck.l6 k0 n) k0
def zck.l6.entry : yao := ⟨LV.mk 16 [(2, 16)] 4 0 false, 0, 39, fun vs H K => match vs, H with
  | [EV.rsI .u8 x0 x1, EV.int .i64 x2, EV.slice 0 0 x3 (some x4) 1, EV.int .i64 x5], [some (EV.arr .u8 x6 x7)] => ∃ n, zck.l6 (fun y0 y1 y2 y3 => K (.exit 2) [EV.slice 0 0 y0 (some y1) 1] [some (EV.arr .u8 y2 y3)]) n x0 x1 x2 x3 x4 x5 x6 x7
  | _, _ => False⟩
def zck.d (a0n : Nat) (a0 : Nat → Int) (K : List UInt8 → Prop) : Prop :=
  ∃ n, zck.l2 (fun y0 y1 y2 => gd (leI 0 y2 && (leI y2 y2 && leI y2 1099511627776)) (∃ n, zck.l6 (fun y0 y1 y2 y3 => K (ybD y0 y3)) n y0 y1 y2 (Int.toNat y2) (Int.toNat y2) 0 (Int.toNat y2) fun x => 0)) n a0n a0 ↑a0n
noncomputable def zck := shut zck.d
theorem zck.is : zck = zck.d := shut_is _
def zcg.l7.step (again : List UInt8 → List UInt8 → Int → Nat → Nat → Int → Int → Nat → (Nat → Int) → Prop) (k0 : Nat → Nat → Nat → (Nat → Int) → Prop) (x0 : List UInt8) (x1 : List UInt8) (x2 : Int) (x3 : Nat) (x4 : Nat) (x5 : Int) (x6 : Int) (x7 : Nat) (x8 : Nat → Int) : Prop :=
  br (leI x6 x2) (zch x0 x6 fun y0 => zch x1 x6 fun y0_1 => gd (leI 0 x6 && ltI x6 ↑x3) (again x0 x1 x2 x3 x4 (ya1 .i64 (yai .i64 (yai .i64 x5 y0) y0_1) 8) (yai .i64 x6 1) x7 (upd x8 (Int.toNat x6) (cvI .u8 (yai .i64 (yai .i64 x5 y0) y0_1))))) (k0 x3 x4 x7 x8)
def zcg.l7 (k0 : Nat → Nat → Nat → (Nat → Int) → Prop) : Nat → List UInt8 → List UInt8 → Int → Nat → Nat → Int → Int → Nat → (Nat → Int) → Prop
  | 0 => fun _ _ _ _ _ _ _ _ _ => False
  | n + 1 => zcg.l7.step (zcg.l7 k0 n) k0
def zcg.l7.entry : yao := ⟨LV.mk 64 [(0, 64)] 16 0 false, 0, 43, fun vs H K => match vs, H with
  | [EV.str x0, EV.str x1, EV.int .i64 x2, EV.slice 0 0 x3 (some x4) 1, EV.int .i64 x5, EV.int .i64 x6], [some (EV.arr .u8 x7 x8)] => ∃ n, zcg.l7 (fun y0 y1 y2 y3 => K (.exit 0) [EV.slice 0 0 y0 (some y1) 1] [some (EV.arr .u8 y2 y3)]) n x0 x1 x2 x3 x4 x5 x6 x7 x8
  | _, _ => False⟩
def zcg.d (a0 : List UInt8) (a1 : List UInt8) (K : List UInt8 → Prop) : Prop :=
  br (ltI ↑(List.length a0) ↑(List.length a1)) (gd (leI 0 (yai .i64 (↑(List.length a1)) 1) && (leI (yai .i64 (↑(List.length a1)) 1) (yai .i64 (↑(List.length a1)) 1) && leI (yai .i64 (↑(List.length a1)) 1) 1099511627776)) (∃ n, zcg.l7 (fun y0 y1 y2 y3 => zck y0 y3 fun y0 => K y0) n a0 a1 (↑(List.length a1)) (Int.toNat (yai .i64 (↑(List.length a1)) 1)) (Int.toNat (yai .i64 (↑(List.length a1)) 1)) 0 0 (Int.toNat (yai .i64 (↑(List.length a1)) 1)) fun x => 0)) (gd (leI 0 (yai .i64 (↑(List.length a0)) 1) && (leI (yai .i64 (↑(List.length a0)) 1) (yai .i64 (↑(List.length a0)) 1) && leI (yai .i64 (↑(List.length a0)) 1) 1099511627776)) (∃ n, zcg.l7 (fun y0 y1 y2 y3 => zck y0 y3 fun y0 => K y0) n a0 a1 (↑(List.length a0)) (Int.toNat (yai .i64 (↑(List.length a0)) 1)) (Int.toNat (yai .i64 (↑(List.length a0)) 1)) 0 0 (Int.toNat (yai .i64 (↑(List.length a0)) 1)) fun x => 0))
noncomputable def zcg := shut zcg.d
theorem zcg.is : zcg = zcg.d := shut_is _
def zcl.d (a0 : List UInt8) (K : List UInt8 → Int → Prop) : Prop :=
  br (ltI 16384 ↑(List.length a0)) (K [] 4) (K a0 0)
noncomputable def zcl := shut zcl.d
theorem zcl.is : zcl = zcl.d := shut_is _
def zbv.d (a0 : List UInt8) (a1 : List UInt8) (K : List UInt8 → Int → Prop) : Prop :=
  zcg a0 a1 fun y0 => zcl y0 fun y0 y1 => K y0 y1
noncomputable def zbv := shut zbv.d
theorem zbv.is : zbv = zbv.d := shut_is _
def zbw.d (a0 : List UInt8) (a1 : List UInt8) (K : Int → Prop) : Prop :=
  br (!eqI ↑(List.length a0) ↑(List.length a1)) (br (ltI ↑(List.length a0) ↑(List.length a1)) (K (-1)) (K 1)) (br (ltS a0 a1) (K (-1)) (br (!(ltS a0 a1 || eqS a0 a1)) (K 1) (K 0)))
noncomputable def zbw := shut zbw.d
theorem zbw.is : zbw = zbw.d := shut_is _
def zcc.d (a0 : List UInt8) (K : Bool → Prop) : Prop :=
  br (leI (↑(List.length a0)) 16384) (br (eqS a0 []) (K true) (gd (ltI 0 ↑(List.length a0)) (K !eqI (ybm a0 0) 0))) (K false)
noncomputable def zcc := shut zcc.d
theorem zcc.is : zcc = zcc.d := shut_is _
def zca.d (a0 : List UInt8) (K : Int → Prop) : Prop :=
  zcc a0 fun y0 => br (!y0) (K 0) (br (eqS a0 []) (K 0) (gd (ltI 0 ↑(List.length a0)) (zbs (cvI .u64 (ybm a0 0)) fun y0 => K (yai .i64 (ycj .i64 8 (yan .i64 (↑(List.length a0)) 1)) y0))))
noncomputable def zca := shut zca.d
theorem zca.is : zca = zca.d := shut_is _
def zcb.l4.step (again : List UInt8 → Int → Prop) (k0 : Int → Prop) (k1 : Prop) (x0 : List UInt8) (x1 : Int) : Prop :=
  br (ltI x1 ↑(List.length x0)) (zch x0 x1 fun y0 => br (!eqI y0 0) (zch x0 x1 fun y0 => zbt (cvI .u64 y0) fun y0 => k0 (yai .i64 (ycj .i64 8 x1) y0)) (again x0 (yai .i64 x1 1))) k1
def zcb.l4 (k0 : Int → Prop) (k1 : Prop) : Nat → List UInt8 → Int → Prop
  | 0 => fun _ _ => False
  | n + 1 => zcb.l4.step (zcb.l4 k0 k1 n) k0 k1
def zcb.l4.entry : yao := ⟨LV.mk 0 [(0, 0)] 4 0 false, 0, 25, fun vs H K => match vs, H with
  | [EV.str x0, EV.int .i64 x1], [] => ∃ n, zcb.l4 (fun y0 => K .ret [EV.int .i64 y0] []) (K (.exit 0) [] []) n x0 x1
  | _, _ => False⟩
def zcb.d (a0 : List UInt8) (K : Int → Prop) : Prop :=
  zcc a0 fun y0 => br (!y0) (K 0) (∃ n, zcb.l4 (fun y0 => K y0) (K 0) n a0 0)
noncomputable def zcb := shut zcb.d
theorem zcb.is : zcb = zcb.d := shut_is _
def zcf.l11.step (again : List UInt8 → Int → Bool → Int → Nat → Nat → Int → Nat → (Nat → Int) → Prop) (k0 : Bool → Nat → Nat → Nat → (Nat → Int) → Prop) (x0 : List UInt8) (x1 : Int) (x2 : Bool) (x3 : Int) (x4 : Nat) (x5 : Nat) (x6 : Int) (x7 : Nat) (x8 : Nat → Int) : Prop :=
  br (ltI x6 x3) (zch x0 (yai .i64 x6 (yaI .i64 x1 8)) fun y0 => zch x0 (yai .i64 (yai .i64 x6 (yaI .i64 x1 8)) 1) fun y0_1 => gd (!ltI (cvI .u64 (ycm .i64 x1 8)) 0) (gd (leI 0 x6 && ltI x6 ↑x4) (again x0 x1 x2 x3 x4 x5 (yai .i64 x6 1) x7 (upd x8 (Int.toNat x6) (cvI .u8 (ya1 .i64 (orI .i64 y0 (ybM .i64 y0_1 8)) (cvI .u64 (ycm .i64 x1 8)))))))) (k0 x2 x4 x5 x7 x8)
def zcf.l11 (k0 : Bool → Nat → Nat → Nat → (Nat → Int) → Prop) : Nat → List UInt8 → Int → Bool → Int → Nat → Nat → Int → Nat → (Nat → Int) → Prop
  | 0 => fun _ _ _ _ _ _ _ _ _ => False
  | n + 1 => zcf.l11.step (zcf.l11 k0 n) k0
def zcf.l11.entry : yao := ⟨LV.mk 640 [(0, 640)] 112 0 false, 0, 65, fun vs H K => match vs, H with
  | [EV.str x0, EV.int .i64 x1, EV.bool x2, EV.int .i64 x3, EV.slice 0 0 x4 (some x5) 1, EV.int .i64 x6], [some (EV.arr .u8 x7 x8)] => ∃ n, zcf.l11 (fun y0 y1 y2 y3 y4 => K (.exit 0) [EV.bool y0, EV.slice 0 0 y1 (some y2) 1] [some (EV.arr .u8 y3 y4)]) n x0 x1 x2 x3 x4 x5 x6 x7 x8
  | _, _ => False⟩
def zcf.d (a0 : List UInt8) (a1 : Int) (K : List UInt8 → Bool → Int → Prop) : Prop :=
  br (ltI a1 0) (K [] false 2) (br (eqS a0 []) (K [] false 0) (zcb a0 fun y0 => br (leI (ycj .i64 8 ↑(List.length a0)) a1) (K [] (ltI y0 a1) 0) (gd (leI 0 (yan .i64 (↑(List.length a0)) (yaI .i64 a1 8)) && (leI (yan .i64 (↑(List.length a0)) (yaI .i64 a1 8)) (yan .i64 (↑(List.length a0)) (yaI .i64 a1 8)) && leI (yan .i64 (↑(List.length a0)) (yaI .i64 a1 8)) 1099511627776)) (∃ n, zcf.l11 (fun y0 y1 y2 y3 y4 => zck y1 y4 fun y0_1 => K y0_1 y0 0) n a0 a1 (ltI y0 a1) (yan .i64 (↑(List.length a0)) (yaI .i64 a1 8)) (Int.toNat (yan .i64 (↑(List.length a0)) (yaI .i64 a1 8))) (Int.toNat (yan .i64 (↑(List.length a0)) (yaI .i64 a1 8))) 0 (Int.toNat (yan .i64 (↑(List.length a0)) (yaI .i64 a1 8))) fun x => 0))))
noncomputable def zcf := shut zcf.d
theorem zcf.is : zcf = zcf.d := shut_is _
def zci.d (a0 : List UInt8) (a1 : Int) (K : Int → Prop) : Prop :=
  zch a0 (yaI .i64 a1 8) fun y0 => gd (!ltI (cvI .u64 (ycm .i64 a1 8)) 0) (K (yh5 .i64 (ya1 .i64 y0 (cvI .u64 (ycm .i64 a1 8))) 1))
noncomputable def zci := shut zci.d
theorem zci.is : zci = zci.d := shut_is _
def zcj.l4.step (again : List UInt8 → Nat → Nat → Int → Int → Nat → (Nat → Int) → Prop) (k0 : Nat → Nat → Nat → (Nat → Int) → Prop) (x0 : List UInt8) (x1 : Nat) (x2 : Nat) (x3 : Int) (x4 : Int) (x5 : Nat) (x6 : Nat → Int) : Prop :=
  br (leI x4 ↑(List.length x0)) (zch x0 x4 fun y0 => gd (leI 0 x4 && ltI x4 ↑x1) (again x0 x1 x2 (ya1 .i64 (yai .i64 x3 (ycj .i64 2 y0)) 8) (yai .i64 x4 1) x5 (upd x6 (Int.toNat x4) (cvI .u8 (yai .i64 x3 (ycj .i64 2 y0)))))) (k0 x1 x2 x5 x6)
def zcj.l4 (k0 : Nat → Nat → Nat → (Nat → Int) → Prop) : Nat → List UInt8 → Nat → Nat → Int → Int → Nat → (Nat → Int) → Prop
  | 0 => fun _ _ _ _ _ _ _ => False
  | n + 1 => zcj.l4.step (zcj.l4 k0 n) k0
def zcj.l4.entry : yao := ⟨LV.mk 32 [(0, 32)] 16 0 false, 0, 34, fun vs H K => match vs, H with
  | [EV.str x0, EV.slice 0 0 x1 (some x2) 1, EV.int .i64 x3, EV.int .i64 x4], [some (EV.arr .u8 x5 x6)] => ∃ n, zcj.l4 (fun y0 y1 y2 y3 => K (.exit 0) [EV.slice 0 0 y0 (some y1) 1] [some (EV.arr .u8 y2 y3)]) n x0 x1 x2 x3 x4 x5 x6
  | _, _ => False⟩
def zcj.d (a0 : List UInt8) (a1 : Int) (K : List UInt8 → Prop) : Prop :=
  gd (leI 0 (yai .i64 (↑(List.length a0)) 1) && (leI (yai .i64 (↑(List.length a0)) 1) (yai .i64 (↑(List.length a0)) 1) && leI (yai .i64 (↑(List.length a0)) 1) 1099511627776)) (∃ n, zcj.l4 (fun y0 y1 y2 y3 => zck y0 y3 fun y0 => K y0) n a0 (Int.toNat (yai .i64 (↑(List.length a0)) 1)) (Int.toNat (yai .i64 (↑(List.length a0)) 1)) a1 0 (Int.toNat (yai .i64 (↑(List.length a0)) 1)) fun x => 0)
noncomputable def zcj := shut zcj.d
theorem zcj.is : zcj = zcj.d := shut_is _
def zcm.l4.step (again : List UInt8 → List UInt8 → Nat → Nat → Int → Int → Nat → (Nat → Int) → Prop) (k0 : Nat → Nat → Nat → (Nat → Int) → Prop) (x0 : List UInt8) (x1 : List UInt8) (x2 : Nat) (x3 : Nat) (x4 : Int) (x5 : Int) (x6 : Nat) (x7 : Nat → Int) : Prop :=
  br (ltI x5 ↑(List.length x0)) (zch x0 x5 fun y0 => zch x1 x5 fun y0_1 => gd (leI 0 x5 && ltI x5 ↑x2) (br (ltI (yan .i64 (yan .i64 y0 y0_1) x4) 0) (again x0 x1 x2 x3 1 (yai .i64 x5 1) x6 (upd x7 (Int.toNat x5) (cvI .u8 (yan .i64 (yan .i64 y0 y0_1) x4)))) (again x0 x1 x2 x3 0 (yai .i64 x5 1) x6 (upd x7 (Int.toNat x5) (cvI .u8 (yan .i64 (yan .i64 y0 y0_1) x4)))))) (k0 x2 x3 x6 x7)
def zcm.l4 (k0 : Nat → Nat → Nat → (Nat → Int) → Prop) : Nat → List UInt8 → List UInt8 → Nat → Nat → Int → Int → Nat → (Nat → Int) → Prop
  | 0 => fun _ _ _ _ _ _ _ _ => False
  | n + 1 => zcm.l4.step (zcm.l4 k0 n) k0
def zcm.l4.entry : yao := ⟨LV.mk 32 [(0, 32)] 16 0 false, 0, 35, fun vs H K => match vs, H with
  | [EV.str x0, EV.str x1, EV.slice 0 0 x2 (some x3) 1, EV.int .i64 x4, EV.int .i64 x5], [some (EV.arr .u8 x6 x7)] => ∃ n, zcm.l4 (fun y0 y1 y2 y3 => K (.exit 0) [EV.slice 0 0 y0 (some y1) 1] [some (EV.arr .u8 y2 y3)]) n x0 x1 x2 x3 x4 x5 x6 x7
  | _, _ => False⟩
def zcm.d (a0 : List UInt8) (a1 : List UInt8) (K : List UInt8 → Prop) : Prop :=
  gd (leI 0 ↑(List.length a0) && (leI ↑(List.length a0) ↑(List.length a0) && leI (↑(List.length a0)) 1099511627776)) (∃ n, zcm.l4 (fun y0 y1 y2 y3 => zck y0 y3 fun y0 => K y0) n a0 a1 (Int.toNat ↑(List.length a0)) (Int.toNat ↑(List.length a0)) 0 0 (Int.toNat ↑(List.length a0)) fun x => 0)
noncomputable def zcm := shut zcm.d
theorem zcm.is : zcm = zcm.d := shut_is _
def zbx.l10.step (again : List UInt8 → List UInt8 → List UInt8 → Nat → Nat → Int → Nat → (Nat → Int) → Prop) (k0 : List UInt8 → Nat → Nat → Nat → (Nat → Int) → Prop) (x0 : List UInt8) (x1 : List UInt8) (x2 : List UInt8) (x3 : Nat) (x4 : Nat) (x5 : Int) (x6 : Nat) (x7 : Nat → Int) : Prop :=
  br (leI 0 x5) (zci x0 x5 fun y0 => zcj x2 y0 fun y0 => zbw y0 x1 fun y0_1 => br (leI 0 y0_1) (zcm y0 x1 fun y0 => gd (leI 0 (yaI .i64 x5 8) && ltI (yaI .i64 x5 8) ↑x3) (gd (!ltI (cvI .u64 (ycm .i64 x5 8)) 0) (gd (leI 0 (yaI .i64 x5 8) && ltI (yaI .i64 x5 8) ↑x3) (again x0 x1 y0 x3 x4 (yan .i64 x5 1) x6 (upd x7 (Int.toNat (yaI .i64 x5 8)) (orI .u8 (x7 (Int.toNat (yaI .i64 x5 8))) (ybM .u8 1 (cvI .u64 (ycm .i64 x5 8))))))))) (again x0 x1 y0 x3 x4 (yan .i64 x5 1) x6 x7)) (k0 x2 x3 x4 x6 x7)
def zbx.l10 (k0 : List UInt8 → Nat → Nat → Nat → (Nat → Int) → Prop) : Nat → List UInt8 → List UInt8 → List UInt8 → Nat → Nat → Int → Nat → (Nat → Int) → Prop
  | 0 => fun _ _ _ _ _ _ _ _ => False
  | n + 1 => zbx.l10.step (zbx.l10 k0 n) k0
def zbx.l10.entry : yao := ⟨LV.mk 4608 [(0, 4608)] 112 0 false, 0, 76, fun vs H K => match vs, H with
  | [EV.str x0, EV.str x1, EV.str x2, EV.slice 0 0 x3 (some x4) 1, EV.int .i64 x5], [some (EV.arr .u8 x6 x7)] => ∃ n, zbx.l10 (fun y0 y1 y2 y3 y4 => K (.exit 0) [EV.str y0, EV.slice 0 0 y1 (some y2) 1] [some (EV.arr .u8 y3 y4)]) n x0 x1 x2 x3 x4 x5 x6 x7
  | _, _ => False⟩
def zbx.d (a0 : List UInt8) (a1 : List UInt8) (K : List UInt8 → List UInt8 → Int → Prop) : Prop :=
  br (eqS a1 []) (K [] [] 2) (zbw a0 a1 fun y0 => br (ltI y0 0) (K [] a0 0) (zca a0 fun y0 => zca a1 fun y0_1 => zcf a0 (yan .i64 y0 (yan .i64 y0_1 1)) fun y0_2 y1 y2 => gd (leI 0 (yai .i64 (↑(List.length a0)) 1) && (leI (yai .i64 (↑(List.length a0)) 1) (yai .i64 (↑(List.length a0)) 1) && leI (yai .i64 (↑(List.length a0)) 1) 1099511627776)) (∃ n, zbx.l10 (fun y0 y1 y2 y3 y4 => zck y1 y4 fun y0_3 => K y0_3 y0 0) n a0 a1 y0_2 (Int.toNat (yai .i64 (↑(List.length a0)) 1)) (Int.toNat (yai .i64 (↑(List.length a0)) 1)) (yan .i64 (yan .i64 y0 (yan .i64 y0_1 1)) 1) (Int.toNat (yai .i64 (↑(List.length a0)) 1)) fun x => 0)))
noncomputable def zbx := shut zbx.d
theorem zbx.is : zbx = zbx.d := shut_is _
def zby.l1.step (again : List UInt8 → List UInt8 → Prop) (k0 : List UInt8 → Prop) (x0 : List UInt8) (x1 : List UInt8) : Prop :=
  br (!eqS x1 []) (zbx x0 x1 fun y0 y1 y2 => again x1 y1) (k0 x0)
def zby.l1 (k0 : List UInt8 → Prop) : Nat → List UInt8 → List UInt8 → Prop
  | 0 => fun _ _ => False
  | n + 1 => zby.l1.step (zby.l1 k0 n) k0
def zby.l1.entry : yao := ⟨LV.mk 1 [(0, 1)] 16 0 false, 0, 20, fun vs H K => match vs, H with
  | [EV.str x0, EV.str x1], [] => ∃ n, zby.l1 (fun y0 => K (.exit 0) [EV.str y0] []) n x0 x1
  | _, _ => False⟩
def zby.d (a0 : List UInt8) (a1 : List UInt8) (K : List UInt8 → Prop) : Prop :=
  ∃ n, zby.l1 (fun y0 => K y0) n a0 a1
noncomputable def zby := shut zby.d
theorem zby.is : zby = zby.d := shut_is _
def zbz.l9.step (again : List UInt8 → Int → Nat → Nat → Int → Nat → (Nat → Int) → Prop) (k0 : Nat → Nat → Nat → (Nat → Int) → Prop) (x0 : List UInt8) (x1 : Int) (x2 : Nat) (x3 : Nat) (x4 : Int) (x5 : Nat) (x6 : Nat → Int) : Prop :=
  br (ltI x4 ↑(List.length x0)) (zch x0 x4 fun y0 => gd (!ltI (cvI .u64 (ycm .i64 x1 8)) 0) (gd (leI 0 (yai .i64 x4 (yaI .i64 x1 8)) && ltI (yai .i64 x4 (yaI .i64 x1 8)) ↑x2) (gd (leI 0 (yai .i64 x4 (yaI .i64 x1 8)) && ltI (yai .i64 x4 (yaI .i64 x1 8)) ↑x2) (gd (leI 0 (yai .i64 (yai .i64 x4 (yaI .i64 x1 8)) 1) && ltI (yai .i64 (yai .i64 x4 (yaI .i64 x1 8)) 1) ↑x2) (again x0 x1 x2 x3 (yai .i64 x4 1) x5 (upd (upd x6 (Int.toNat (yai .i64 x4 (yaI .i64 x1 8))) (orI .u8 (x6 (Int.toNat (yai .i64 x4 (yaI .i64 x1 8)))) (cvI .u8 (ybM .i64 y0 (cvI .u64 (ycm .i64 x1 8)))))) (Int.toNat (yai .i64 (yai .i64 x4 (yaI .i64 x1 8)) 1)) (cvI .u8 (ya1 .i64 (ybM .i64 y0 (cvI .u64 (ycm .i64 x1 8))) 8)))))))) (k0 x2 x3 x5 x6)
def zbz.l9 (k0 : Nat → Nat → Nat → (Nat → Int) → Prop) : Nat → List UInt8 → Int → Nat → Nat → Int → Nat → (Nat → Int) → Prop
  | 0 => fun _ _ _ _ _ _ _ => False
  | n + 1 => zbz.l9.step (zbz.l9 k0 n) k0
def zbz.l9.entry : yao := ⟨LV.mk 64 [(0, 64)] 48 0 false, 0, 70, fun vs H K => match vs, H with
  | [EV.str x0, EV.int .i64 x1, EV.slice 0 0 x2 (some x3) 1, EV.int .i64 x4], [some (EV.arr .u8 x5 x6)] => ∃ n, zbz.l9 (fun y0 y1 y2 y3 => K (.exit 0) [EV.slice 0 0 y0 (some y1) 1] [some (EV.arr .u8 y2 y3)]) n x0 x1 x2 x3 x4 x5 x6
  | _, _ => False⟩
def zbz.d (a0 : List UInt8) (a1 : Int) (K : List UInt8 → Int → Prop) : Prop :=
  br (ltI a1 0) (K [] 2) (br (eqS a0 []) (K [] 0) (br (ltI 131072 a1) (K [] 4) (zca a0 fun y0 => br (ltI 131072 (yai .i64 y0 a1)) (K [] 4) (gd (leI 0 (yai .i64 (yai .i64 (↑(List.length a0)) (yaI .i64 a1 8)) 1) && (leI (yai .i64 (yai .i64 (↑(List.length a0)) (yaI .i64 a1 8)) 1) (yai .i64 (yai .i64 (↑(List.length a0)) (yaI .i64 a1 8)) 1) && leI (yai .i64 (yai .i64 (↑(List.length a0)) (yaI .i64 a1 8)) 1) 1099511627776)) (∃ n, zbz.l9 (fun y0 y1 y2 y3 => zck y0 y3 fun y0 => K y0 0) n a0 a1 (Int.toNat (yai .i64 (yai .i64 (↑(List.length a0)) (yaI .i64 a1 8)) 1)) (Int.toNat (yai .i64 (yai .i64 (↑(List.length a0)) (yaI .i64 a1 8)) 1)) 0 (Int.toNat (yai .i64 (yai .i64 (↑(List.length a0)) (yaI .i64 a1 8)) 1)) fun x => 0)))))
noncomputable def zbz := shut zbz.d
theorem zbz.is : zbz = zbz.d := shut_is _
def zcd.l3.step (again : Int → Int → (Nat → Int) → Prop) (k0 : (Nat → Int) → Prop) (x0 : Int) (x1 : Int) (x2 : Nat → Int) : Prop :=
  br (ltI x1 8) (gd (!ltI (cvI .u64 (ycj .i64 8 x1)) 0) (gd (leI 0 x1 && ltI x1 8) (again x0 (yai .i64 x1 1) (upd x2 (Int.toNat x1) (cvI .u8 (ya1 .u64 x0 (cvI .u64 (ycj .i64 8 x1)))))))) (k0 x2)
def zcd.l3 (k0 : (Nat → Int) → Prop) : Nat → Int → Int → (Nat → Int) → Prop
  | 0 => fun _ _ _ => False
  | n + 1 => zcd.l3.step (zcd.l3 k0 n) k0
def zcd.l3.entry : yao := ⟨LV.mk 8 [(0, 8)] 4 0 false, 0, 21, fun vs H K => match vs, H with
  | [EV.int .u64 x0, EV.slice 0 0 8 (some 8) 1, EV.int .i64 x1], [some (EV.arr .u8 8 x2)] => ∃ n, zcd.l3 (fun y0 => K (.exit 0) [EV.slice 0 0 8 (some 8) 1] [some (EV.arr .u8 8 y0)]) n x0 x1 x2
  | _, _ => False⟩
def zcd.d (a0 : Int) (K : List UInt8 → Prop) : Prop :=
  ∃ n, zcd.l3 (fun y0 => zck 8 y0 fun y0 => K y0) n a0 0 fun x => 0
noncomputable def zcd := shut zcd.d
theorem zcd.is : zcd = zcd.d := shut_is _
def zce.l3.step (again : Int → (Nat → Int) → (Nat → Int) → Prop) (k0 : (Nat → Int) → Prop) (x0 : Int) (x1 : Nat → Int) (x2 : Nat → Int) : Prop :=
  br (ltI x0 48) (gd (leI 0 (yaI .i64 x0 8) && ltI (yaI .i64 x0 8) 6) (gd (!ltI (cvI .u64 (ycj .i64 8 (ycm .i64 x0 8))) 0) (gd (leI 0 x0 && ltI x0 48) (again (yai .i64 x0 1) x1 (upd x2 (Int.toNat x0) (cvI .u8 (ya1 .u64 (x1 (Int.toNat (yaI .i64 x0 8))) (cvI .u64 (ycj .i64 8 (ycm .i64 x0 8)))))))))) (k0 x2)
def zce.l3 (k0 : (Nat → Int) → Prop) : Nat → Int → (Nat → Int) → (Nat → Int) → Prop
  | 0 => fun _ _ _ => False
  | n + 1 => zce.l3.step (zce.l3 k0 n) k0
def zce.l3.entry : yao := ⟨LV.mk 8 [(0, 8)] 4 0 false, 0, 25, fun vs H K => match vs, H with
  | [EV.ptr 0 [], EV.slice 1 0 48 (some 48) 1, EV.int .i64 x0], [some (EV.arr .u64 6 x1), some (EV.arr .u8 48 x2)] => ∃ n, zce.l3 (fun y0 => K (.exit 0) [EV.slice 0 0 48 (some 48) 1] [some (EV.arr .u8 48 y0)]) n x0 x1 x2
  | _, _ => False⟩
def zce.d (a0 : Nat → Int) (K : List UInt8 → Prop) : Prop :=
  ∃ n, zce.l3 (fun y0 => zck 48 y0 fun y0 => K y0) n 0 a0 fun x => 0
noncomputable def zce := shut zce.d
theorem zce.is : zce = zce.d := shut_is _
end Go.Ev.S

/- The functions as the evaluator has them: what each comes to. -/
set_option maxRecDepth 100000
set_option linter.unusedVariables false
set_option linter.unusedSimpArgs false
namespace Go.Ev.S
open Go Go.Ev
def zco.d (K : Bool → List UInt8 → List UInt8 → Int → Prop) : Prop :=
  K false [] [1] 0
noncomputable def zco := shut zco.d
theorem zco.is : zco = zco.d := shut_is _
def zcn.d (a0 : Bool) (a1 : List UInt8) (a2 : List UInt8) (a3 : Int) (K : Bool → List UInt8 → List UInt8 → Int → Int → Prop) : Prop :=
  zcc a1 fun y0 => br (!y0) (K false [] [] 0 2) (zcc a2 fun y0 => br (!y0) (K false [] [] 0 2) (br (eqS a2 []) (K false [] [] 0 2) (br (ltI a3 (-1048576)) (K false [] [] 0 2) (br (ltI 1048576 a3) (K false [] [] 0 2) (br (eqS a1 []) (zco fun y0 y1 y2 y3 => K y0 y1 y2 y3 0) (zcb a1 fun y0 => zcb a2 fun y0_1 => zcf a1 y0 fun y0_2 y1 y2 => zcf a2 y0_1 fun y0_3 y1 y2 => zby y0_2 y0_3 fun y0_4 => br (!eqS y0_4 [1]) (zbx y0_2 y0_4 fun y0_5 y1 y2 => zbx y0_3 y0_4 fun y0_6 y1 y2 => br (ltI (yan .i64 (yai .i64 a3 y0) y0_1) (-1048576)) (K false [] [] 0 4) (br (ltI 1048576 (yan .i64 (yai .i64 a3 y0) y0_1)) (K false [] [] 0 4) (K a0 y0_5 y0_6 (yan .i64 (yai .i64 a3 y0) y0_1) 0))) (br (ltI (yan .i64 (yai .i64 a3 y0) y0_1) (-1048576)) (K false [] [] 0 4) (br (ltI 1048576 (yan .i64 (yai .i64 a3 y0) y0_1)) (K false [] [] 0 4) (K a0 y0_2 y0_3 (yan .i64 (yai .i64 a3 y0) y0_1) 0)))))))))
noncomputable def zcn := shut zcn.d
theorem zcn.is : zcn = zcn.d := shut_is _
end Go.Ev.S

/- The functions as the evaluator has them: what each comes to. -/
set_option maxRecDepth 100000
set_option linter.unusedVariables false
set_option linter.unusedSimpArgs false
namespace Go.Ev.S
open Go Go.Ev
def zcp.d (a0 : Int) (K : Int → Prop) : Prop :=
  br (eqI a0 2) (K 11) (br (eqI a0 0) (K 24) (br (eqI a0 1) (K 53) (br (eqI a0 3) (K 113) (K 0))))
noncomputable def zcp := shut zcp.d
theorem zcp.is : zcp = zcp.d := shut_is _
def zcq.d (a0 : Int) (K : Bool → Prop) : Prop :=
  K (leI a0 3)
noncomputable def zcq := shut zcq.d
theorem zcq.is : zcq = zcq.d := shut_is _
def zcr.d (a0 : Int) (K : Bool → Prop) : Prop :=
  K (leI a0 4)
noncomputable def zcr := shut zcr.d
theorem zcr.is : zcr = zcr.d := shut_is _
end Go.Ev.S

/- The functions as the evaluator has them: what each comes to. -/
set_option maxRecDepth 100000
set_option linter.unusedVariables false
set_option linter.unusedSimpArgs false
namespace Go.Ev.S
open Go Go.Ev
end Go.Ev.S

/- The functions as the evaluator has them: what each comes to. -/
set_option maxRecDepth 100000
set_option linter.unusedVariables false
set_option linter.unusedSimpArgs false
namespace Go.Ev.S
open Go Go.Ev
end Go.Ev.S

/- The functions as the evaluator has them: what each comes to. -/
set_option maxRecDepth 100000
set_option linter.unusedVariables false
set_option linter.unusedSimpArgs false
namespace Go.Ev.S
open Go Go.Ev
def zcs.d (a0 : Int) (a1_0 : Bool) (a1_1 : Nat → Int) (a1_2 : Int) (a1_3 : Bool) (K : Bool → Prop) : Prop :=
  br (leI (-1048576) a1_2) (br (leI a1_2 1048576) (br (!a1_3) (K true) (zbu a1_1 fun y0 => zcp a0 fun y0_1 => K (leI (yai .i64 y0_1 2) y0))) (K false)) (K false)
noncomputable def zcs := shut zcs.d
theorem zcs.is : zcs = zcs.d := shut_is _
end Go.Ev.S

/- The functions as the evaluator has them: what each comes to. -/
set_option maxRecDepth 100000
set_option linter.unusedVariables false
set_option linter.unusedSimpArgs false
namespace Go.Ev.S
open Go Go.Ev
def zaa.d (a0 : Int) (K : Int → Prop) : Prop :=
  br (leI 4294967296 a0) (br (leI 65536 (ya1 .u64 a0 32)) (br (leI 256 (ya1 .u64 (ya1 .u64 a0 32) 16)) (gd (leI 0 (cvI .u8 (ya1 .u64 (ya1 .u64 (ya1 .u64 a0 32) 16) 8)) && ltI (cvI .u8 (ya1 .u64 (ya1 .u64 (ya1 .u64 a0 32) 16) 8)) 256) (K (yai .i64 56 (cvI .i64 (ybm [0, 1, 2, 2, 3, 3, 3, 3, 4, 4, 4, 4, 4, 4, 4, 4, 5, 5, 5, 5, 5, 5, 5, 5, 5, 5, 5, 5, 5, 5, 5, 5, 6, 6, 6, 6, 6, 6, 6, 6, 6, 6, 6, 6, 6, 6, 6, 6, 6, 6, 6, 6, 6, 6, 6, 6, 6, 6, 6, 6, 6, 6, 6, 6, 7, 7, 7, 7, 7, 7, 7, 7, 7, 7, 7, 7, 7, 7, 7, 7, 7, 7, 7, 7, 7, 7, 7, 7, 7, 7, 7, 7, 7, 7, 7, 7, 7, 7, 7, 7, 7, 7, 7, 7, 7, 7, 7, 7, 7, 7, 7, 7, 7, 7, 7, 7, 7, 7, 7, 7, 7, 7, 7, 7, 7, 7, 7, 7, 8, 8, 8, 8, 8, 8, 8, 8, 8, 8, 8, 8, 8, 8, 8, 8, 8, 8, 8, 8, 8, 8, 8, 8, 8, 8, 8, 8, 8, 8, 8, 8, 8, 8, 8, 8, 8, 8, 8, 8, 8, 8, 8, 8, 8, 8, 8, 8, 8, 8, 8, 8, 8, 8, 8, 8, 8, 8, 8, 8, 8, 8, 8, 8, 8, 8, 8, 8, 8, 8, 8, 8, 8, 8, 8, 8, 8, 8, 8, 8, 8, 8, 8, 8, 8, 8, 8, 8, 8, 8, 8, 8, 8, 8, 8, 8, 8, 8, 8, 8, 8, 8, 8, 8, 8, 8, 8, 8, 8, 8, 8, 8, 8, 8, 8, 8, 8, 8, 8, 8, 8, 8, 8, 8, 8, 8, 8, 8] (Int.toNat (cvI .u8 (ya1 .u64 (ya1 .u64 (ya1 .u64 a0 32) 16) 8)))))))) (gd (leI 0 (cvI .u8 (ya1 .u64 (ya1 .u64 a0 32) 16)) && ltI (cvI .u8 (ya1 .u64 (ya1 .u64 a0 32) 16)) 256) (K (yai .i64 48 (cvI .i64 (ybm [0, 1, 2, 2, 3, 3, 3, 3, 4, 4, 4, 4, 4, 4, 4, 4, 5, 5, 5, 5, 5, 5, 5, 5, 5, 5, 5, 5, 5, 5, 5, 5, 6, 6, 6, 6, 6, 6, 6, 6, 6, 6, 6, 6, 6, 6, 6, 6, 6, 6, 6, 6, 6, 6, 6, 6, 6, 6, 6, 6, 6, 6, 6, 6, 7, 7, 7, 7, 7, 7, 7, 7, 7, 7, 7, 7, 7, 7, 7, 7, 7, 7, 7, 7, 7, 7, 7, 7, 7, 7, 7, 7, 7, 7, 7, 7, 7, 7, 7, 7, 7, 7, 7, 7, 7, 7, 7, 7, 7, 7, 7, 7, 7, 7, 7, 7, 7, 7, 7, 7, 7, 7, 7, 7, 7, 7, 7, 7, 8, 8, 8, 8, 8, 8, 8, 8, 8, 8, 8, 8, 8, 8, 8, 8, 8, 8, 8, 8, 8, 8, 8, 8, 8, 8, 8, 8, 8, 8, 8, 8, 8, 8, 8, 8, 8, 8, 8, 8, 8, 8, 8, 8, 8, 8, 8, 8, 8, 8, 8, 8, 8, 8, 8, 8, 8, 8, 8, 8, 8, 8, 8, 8, 8, 8, 8, 8, 8, 8, 8, 8, 8, 8, 8, 8, 8, 8, 8, 8, 8, 8, 8, 8, 8, 8, 8, 8, 8, 8, 8, 8, 8, 8, 8, 8, 8, 8, 8, 8, 8, 8, 8, 8, 8, 8, 8, 8, 8, 8, 8, 8, 8, 8, 8, 8, 8, 8, 8, 8, 8, 8, 8, 8, 8, 8, 8, 8] (Int.toNat (cvI .u8 (ya1 .u64 (ya1 .u64 a0 32) 16))))))))) (br (leI 256 (ya1 .u64 a0 32)) (gd (leI 0 (cvI .u8 (ya1 .u64 (ya1 .u64 a0 32) 8)) && ltI (cvI .u8 (ya1 .u64 (ya1 .u64 a0 32) 8)) 256) (K (yai .i64 40 (cvI .i64 (ybm [0, 1, 2, 2, 3, 3, 3, 3, 4, 4, 4, 4, 4, 4, 4, 4, 5, 5, 5, 5, 5, 5, 5, 5, 5, 5, 5, 5, 5, 5, 5, 5, 6, 6, 6, 6, 6, 6, 6, 6, 6, 6, 6, 6, 6, 6, 6, 6, 6, 6, 6, 6, 6, 6, 6, 6, 6, 6, 6, 6, 6, 6, 6, 6, 7, 7, 7, 7, 7, 7, 7, 7, 7, 7, 7, 7, 7, 7, 7, 7, 7, 7, 7, 7, 7, 7, 7, 7, 7, 7, 7, 7, 7, 7, 7, 7, 7, 7, 7, 7, 7, 7, 7, 7, 7, 7, 7, 7, 7, 7, 7, 7, 7, 7, 7, 7, 7, 7, 7, 7, 7, 7, 7, 7, 7, 7, 7, 7, 8, 8, 8, 8, 8, 8, 8, 8, 8, 8, 8, 8, 8, 8, 8, 8, 8, 8, 8, 8, 8, 8, 8, 8, 8, 8, 8, 8, 8, 8, 8, 8, 8, 8, 8, 8, 8, 8, 8, 8, 8, 8, 8, 8, 8, 8, 8, 8, 8, 8, 8, 8, 8, 8, 8, 8, 8, 8, 8, 8, 8, 8, 8, 8, 8, 8, 8, 8, 8, 8, 8, 8, 8, 8, 8, 8, 8, 8, 8, 8, 8, 8, 8, 8, 8, 8, 8, 8, 8, 8, 8, 8, 8, 8, 8, 8, 8, 8, 8, 8, 8, 8, 8, 8, 8, 8, 8, 8, 8, 8, 8, 8, 8, 8, 8, 8, 8, 8, 8, 8, 8, 8, 8, 8, 8, 8, 8, 8] (Int.toNat (cvI .u8 (ya1 .u64 (ya1 .u64 a0 32) 8)))))))) (gd (leI 0 (cvI .u8 (ya1 .u64 a0 32)) && ltI (cvI .u8 (ya1 .u64 a0 32)) 256) (K (yai .i64 32 (cvI .i64 (ybm [0, 1, 2, 2, 3, 3, 3, 3, 4, 4, 4, 4, 4, 4, 4, 4, 5, 5, 5, 5, 5, 5, 5, 5, 5, 5, 5, 5, 5, 5, 5, 5, 6, 6, 6, 6, 6, 6, 6, 6, 6, 6, 6, 6, 6, 6, 6, 6, 6, 6, 6, 6, 6, 6, 6, 6, 6, 6, 6, 6, 6, 6, 6, 6, 7, 7, 7, 7, 7, 7, 7, 7, 7, 7, 7, 7, 7, 7, 7, 7, 7, 7, 7, 7, 7, 7, 7, 7, 7, 7, 7, 7, 7, 7, 7, 7, 7, 7, 7, 7, 7, 7, 7, 7, 7, 7, 7, 7, 7, 7, 7, 7, 7, 7, 7, 7, 7, 7, 7, 7, 7, 7, 7, 7, 7, 7, 7, 7, 8, 8, 8, 8, 8, 8, 8, 8, 8, 8, 8, 8, 8, 8, 8, 8, 8, 8, 8, 8, 8, 8, 8, 8, 8, 8, 8, 8, 8, 8, 8, 8, 8, 8, 8, 8, 8, 8, 8, 8, 8, 8, 8, 8, 8, 8, 8, 8, 8, 8, 8, 8, 8, 8, 8, 8, 8, 8, 8, 8, 8, 8, 8, 8, 8, 8, 8, 8, 8, 8, 8, 8, 8, 8, 8, 8, 8, 8, 8, 8, 8, 8, 8, 8, 8, 8, 8, 8, 8, 8, 8, 8, 8, 8, 8, 8, 8, 8, 8, 8, 8, 8, 8, 8, 8, 8, 8, 8, 8, 8, 8, 8, 8, 8, 8, 8, 8, 8, 8, 8, 8, 8, 8, 8, 8, 8, 8, 8] (Int.toNat (cvI .u8 (ya1 .u64 a0 32)))))))))) (br (leI 65536 a0) (br (leI 256 (ya1 .u64 a0 16)) (gd (leI 0 (cvI .u8 (ya1 .u64 (ya1 .u64 a0 16) 8)) && ltI (cvI .u8 (ya1 .u64 (ya1 .u64 a0 16) 8)) 256) (K (yai .i64 24 (cvI .i64 (ybm [0, 1, 2, 2, 3, 3, 3, 3, 4, 4, 4, 4, 4, 4, 4, 4, 5, 5, 5, 5, 5, 5, 5, 5, 5, 5, 5, 5, 5, 5, 5, 5, 6, 6, 6, 6, 6, 6, 6, 6, 6, 6, 6, 6, 6, 6, 6, 6, 6, 6, 6, 6, 6, 6, 6, 6, 6, 6, 6, 6, 6, 6, 6, 6, 7, 7, 7, 7, 7, 7, 7, 7, 7, 7, 7, 7, 7, 7, 7, 7, 7, 7, 7, 7, 7, 7, 7, 7, 7, 7, 7, 7, 7, 7, 7, 7, 7, 7, 7, 7, 7, 7, 7, 7, 7, 7, 7, 7, 7, 7, 7, 7, 7, 7, 7, 7, 7, 7, 7, 7, 7, 7, 7, 7, 7, 7, 7, 7, 8, 8, 8, 8, 8, 8, 8, 8, 8, 8, 8, 8, 8, 8, 8, 8, 8, 8, 8, 8, 8, 8, 8, 8, 8, 8, 8, 8, 8, 8, 8, 8, 8, 8, 8, 8, 8, 8, 8, 8, 8, 8, 8, 8, 8, 8, 8, 8, 8, 8, 8, 8, 8, 8, 8, 8, 8, 8, 8, 8, 8, 8, 8, 8, 8, 8, 8, 8, 8, 8, 8, 8, 8, 8, 8, 8, 8, 8, 8, 8, 8, 8, 8, 8, 8, 8, 8, 8, 8, 8, 8, 8, 8, 8, 8, 8, 8, 8, 8, 8, 8, 8, 8, 8, 8, 8, 8, 8, 8, 8, 8, 8, 8, 8, 8, 8, 8, 8, 8, 8, 8, 8, 8, 8, 8, 8, 8, 8] (Int.toNat (cvI .u8 (ya1 .u64 (ya1 .u64 a0 16) 8)))))))) (gd (leI 0 (cvI .u8 (ya1 .u64 a0 16)) && ltI (cvI .u8 (ya1 .u64 a0 16)) 256) (K (yai .i64 16 (cvI .i64 (ybm [0, 1, 2, 2, 3, 3, 3, 3, 4, 4, 4, 4, 4, 4, 4, 4, 5, 5, 5, 5, 5, 5, 5, 5, 5, 5, 5, 5, 5, 5, 5, 5, 6, 6, 6, 6, 6, 6, 6, 6, 6, 6, 6, 6, 6, 6, 6, 6, 6, 6, 6, 6, 6, 6, 6, 6, 6, 6, 6, 6, 6, 6, 6, 6, 7, 7, 7, 7, 7, 7, 7, 7, 7, 7, 7, 7, 7, 7, 7, 7, 7, 7, 7, 7, 7, 7, 7, 7, 7, 7, 7, 7, 7, 7, 7, 7, 7, 7, 7, 7, 7, 7, 7, 7, 7, 7, 7, 7, 7, 7, 7, 7, 7, 7, 7, 7, 7, 7, 7, 7, 7, 7, 7, 7, 7, 7, 7, 7, 8, 8, 8, 8, 8, 8, 8, 8, 8, 8, 8, 8, 8, 8, 8, 8, 8, 8, 8, 8, 8, 8, 8, 8, 8, 8, 8, 8, 8, 8, 8, 8, 8, 8, 8, 8, 8, 8, 8, 8, 8, 8, 8, 8, 8, 8, 8, 8, 8, 8, 8, 8, 8, 8, 8, 8, 8, 8, 8, 8, 8, 8, 8, 8, 8, 8, 8, 8, 8, 8, 8, 8, 8, 8, 8, 8, 8, 8, 8, 8, 8, 8, 8, 8, 8, 8, 8, 8, 8, 8, 8, 8, 8, 8, 8, 8, 8, 8, 8, 8, 8, 8, 8, 8, 8, 8, 8, 8, 8, 8, 8, 8, 8, 8, 8, 8, 8, 8, 8, 8, 8, 8, 8, 8, 8, 8, 8, 8] (Int.toNat (cvI .u8 (ya1 .u64 a0 16))))))))) (br (leI 256 a0) (gd (leI 0 (cvI .u8 (ya1 .u64 a0 8)) && ltI (cvI .u8 (ya1 .u64 a0 8)) 256) (K (yai .i64 8 (cvI .i64 (ybm [0, 1, 2, 2, 3, 3, 3, 3, 4, 4, 4, 4, 4, 4, 4, 4, 5, 5, 5, 5, 5, 5, 5, 5, 5, 5, 5, 5, 5, 5, 5, 5, 6, 6, 6, 6, 6, 6, 6, 6, 6, 6, 6, 6, 6, 6, 6, 6, 6, 6, 6, 6, 6, 6, 6, 6, 6, 6, 6, 6, 6, 6, 6, 6, 7, 7, 7, 7, 7, 7, 7, 7, 7, 7, 7, 7, 7, 7, 7, 7, 7, 7, 7, 7, 7, 7, 7, 7, 7, 7, 7, 7, 7, 7, 7, 7, 7, 7, 7, 7, 7, 7, 7, 7, 7, 7, 7, 7, 7, 7, 7, 7, 7, 7, 7, 7, 7, 7, 7, 7, 7, 7, 7, 7, 7, 7, 7, 7, 8, 8, 8, 8, 8, 8, 8, 8, 8, 8, 8, 8, 8, 8, 8, 8, 8, 8, 8, 8, 8, 8, 8, 8, 8, 8, 8, 8, 8, 8, 8, 8, 8, 8, 8, 8, 8, 8, 8, 8, 8, 8, 8, 8, 8, 8, 8, 8, 8, 8, 8, 8, 8, 8, 8, 8, 8, 8, 8, 8, 8, 8, 8, 8, 8, 8, 8, 8, 8, 8, 8, 8, 8, 8, 8, 8, 8, 8, 8, 8, 8, 8, 8, 8, 8, 8, 8, 8, 8, 8, 8, 8, 8, 8, 8, 8, 8, 8, 8, 8, 8, 8, 8, 8, 8, 8, 8, 8, 8, 8, 8, 8, 8, 8, 8, 8, 8, 8, 8, 8, 8, 8, 8, 8, 8, 8, 8, 8] (Int.toNat (cvI .u8 (ya1 .u64 a0 8)))))))) (gd (leI 0 (cvI .u8 a0) && ltI (cvI .u8 a0) 256) (K (yai .i64 0 (cvI .i64 (ybm [0, 1, 2, 2, 3, 3, 3, 3, 4, 4, 4, 4, 4, 4, 4, 4, 5, 5, 5, 5, 5, 5, 5, 5, 5, 5, 5, 5, 5, 5, 5, 5, 6, 6, 6, 6, 6, 6, 6, 6, 6, 6, 6, 6, 6, 6, 6, 6, 6, 6, 6, 6, 6, 6, 6, 6, 6, 6, 6, 6, 6, 6, 6, 6, 7, 7, 7, 7, 7, 7, 7, 7, 7, 7, 7, 7, 7, 7, 7, 7, 7, 7, 7, 7, 7, 7, 7, 7, 7, 7, 7, 7, 7, 7, 7, 7, 7, 7, 7, 7, 7, 7, 7, 7, 7, 7, 7, 7, 7, 7, 7, 7, 7, 7, 7, 7, 7, 7, 7, 7, 7, 7, 7, 7, 7, 7, 7, 7, 8, 8, 8, 8, 8, 8, 8, 8, 8, 8, 8, 8, 8, 8, 8, 8, 8, 8, 8, 8, 8, 8, 8, 8, 8, 8, 8, 8, 8, 8, 8, 8, 8, 8, 8, 8, 8, 8, 8, 8, 8, 8, 8, 8, 8, 8, 8, 8, 8, 8, 8, 8, 8, 8, 8, 8, 8, 8, 8, 8, 8, 8, 8, 8, 8, 8, 8, 8, 8, 8, 8, 8, 8, 8, 8, 8, 8, 8, 8, 8, 8, 8, 8, 8, 8, 8, 8, 8, 8, 8, 8, 8, 8, 8, 8, 8, 8, 8, 8, 8, 8, 8, 8, 8, 8, 8, 8, 8, 8, 8, 8, 8, 8, 8, 8, 8, 8, 8, 8, 8, 8, 8, 8, 8, 8, 8, 8, 8] (Int.toNat (cvI .u8 a0)))))))))
noncomputable def zaa := shut zaa.d
theorem zaa.is : zaa = zaa.d := shut_is _
def zab.d (a0 : Int) (K : Int → Prop) : Prop :=
  br (eqI a0 0) (K 64) ((leI 0 (ya1 .u64 (ycj .u64 (yh5 .u64 a0 (yqh .u64 a0)) 285870213051353865) 58) && ltI (ya1 .u64 (ycj .u64 (yh5 .u64 a0 (yqh .u64 a0)) 285870213051353865) 58) 64) = true ∧ K (cvI .i64 (ybi (Int.toNat (ya1 .u64 (ycj .u64 (yh5 .u64 a0 (yqh .u64 a0)) 285870213051353865) 58)))))
noncomputable def zab := shut zab.d
theorem zab.is : zab = zab.d := shut_is _
end Go.Ev.S

/- The functions as the evaluator has them: what each comes to. -/
set_option maxRecDepth 100000
set_option linter.unusedVariables false
set_option linter.unusedSimpArgs false
namespace Go.Ev.S
open Go Go.Ev
def zel.d (a0 : Bool) (K : Int → Prop) : Prop :=
  br a0 (K 1) (K 0)
noncomputable def zel := shut zel.d
theorem zel.is : zel = zel.d := shut_is _
def zeg.d (a0 : Int) (a1 : Int) (a2 : Bool) (K : Int → Bool → Prop) : Prop :=
  zel a2 fun y0 => br (ltI (yai .u64 a0 a1) a0) (K (yai .u64 (yai .u64 a0 a1) y0) true) (br a2 (K (yai .u64 (yai .u64 a0 a1) y0) (eqI (yai .u64 (yai .u64 a0 a1) y0) 0)) (K (yai .u64 (yai .u64 a0 a1) y0) false))
noncomputable def zeg := shut zeg.d
theorem zeg.is : zeg = zeg.d := shut_is _
def zeh.d (a0 : Int) (K : Int → Prop) : Prop :=
  zaa a0 fun y0 => K y0
noncomputable def zeh := shut zeh.d
theorem zeh.is : zeh = zeh.d := shut_is _
def zei.d (a0 : Int) (K : Int → Prop) : Prop :=
  zab a0 fun y0 => K y0
noncomputable def zei := shut zei.d
theorem zei.is : zei = zei.d := shut_is _
def zek.d (a0 : Int) (K : Int → Prop) : Prop :=
  K (cvI .u64 (yiP (ycF a0 0) 64))
noncomputable def zek := shut zek.d
theorem zek.is : zek = zek.d := shut_is _
def zej.d (a0 : Int) (K : Int → Prop) : Prop :=
  zek a0 fun y0 => gd (!ltI y0 0) (K (yan .u64 (ybM .u64 1 y0) 1))
noncomputable def zej := shut zej.d
theorem zej.is : zej = zej.d := shut_is _
end Go.Ev.S

/- The functions as the evaluator has them: what each comes to. -/
set_option maxRecDepth 100000
set_option linter.unusedVariables false
set_option linter.unusedSimpArgs false
namespace Go.Ev.S
open Go Go.Ev
def zdu.l2.step (again : Bool → Int → (Nat → Int) → (Nat → Int) → (Nat → Int) → Prop) (k0 : Bool → (Nat → Int) → Prop) (x0 : Bool) (x1 : Int) (x2 : Nat → Int) (x3 : Nat → Int) (x4 : Nat → Int) : Prop :=
  br (ltI x1 6) (gd (leI 0 x1 && ltI x1 6) (gd (leI 0 x1 && ltI x1 6) (zeg (x2 (Int.toNat x1)) (x3 (Int.toNat x1)) x0 fun y0 y1 => gd (leI 0 x1 && ltI x1 6) (again y1 (yai .i64 x1 1) x2 x3 (upd x4 (Int.toNat x1) y0))))) (k0 x0 x4)
def zdu.l2 (k0 : Bool → (Nat → Int) → Prop) : Nat → Bool → Int → (Nat → Int) → (Nat → Int) → (Nat → Int) → Prop
  | 0 => fun _ _ _ _ _ => False
  | n + 1 => zdu.l2.step (zdu.l2 k0 n) k0
def zdu.l2.entry : yao := ⟨LV.mk 48 [(0, 48)] 48 0 false, 0, 26, fun vs H K => match vs, H with
  | [EV.ptr 0 [], EV.ptr 1 [], EV.ptr 2 [], EV.bool x0, EV.int .i64 x1], [some (EV.arr .u64 6 x2), some (EV.arr .u64 6 x3), some (EV.arr .u64 6 x4)] => ∃ n, zdu.l2 (fun y0 y1 => K (.exit 0) [EV.ptr 0 [], EV.bool y0] [some (EV.arr .u64 6 y1)]) n x0 x1 x2 x3 x4
  | _, _ => False⟩
def zdu.d (a0 : Nat → Int) (a1 : Nat → Int) (K : (Nat → Int) → Bool → Prop) : Prop :=
  ∃ n, zdu.l2 (fun y0 y1 => K y1 y0) n false 0 a0 a1 fun x => 0
noncomputable def zdu := shut zdu.d
theorem zdu.is : zdu = zdu.d := shut_is _
def zdv.l2.step (again : Int → (Nat → Int) → (Nat → Int) → (Nat → Int) → Prop) (k0 : (Nat → Int) → (Nat → Int) → Prop) (x0 : Int) (x1 : Nat → Int) (x2 : Nat → Int) (x3 : Nat → Int) : Prop :=
  br (ltI x0 6) (gd (leI 0 x0 && ltI x0 6) (gd (leI 0 x0 && ltI x0 6) (gd (leI 0 x0 && ltI x0 6) (again (yai .i64 x0 1) (upd x1 (Int.toNat x0) (yh5 .u64 (x1 (Int.toNat x0)) (x2 (Int.toNat x0)))) x2 x3)))) (k0 x1 x3)
def zdv.l2 (k0 : (Nat → Int) → (Nat → Int) → Prop) : Nat → Int → (Nat → Int) → (Nat → Int) → (Nat → Int) → Prop
  | 0 => fun _ _ _ _ => False
  | n + 1 => zdv.l2.step (zdv.l2 k0 n) k0
def zdv.l2.entry : yao := ⟨LV.mk 20 [(0, 20)] 16 0 false, 0, 19, fun vs H K => match vs, H with
  | [EV.ptr 0 [], EV.ptr 1 [], EV.ptr 2 [], EV.int .i64 x0], [some (EV.arr .u64 6 x1), some (EV.arr .u64 6 x2), some (EV.arr .u64 6 x3)] => ∃ n, zdv.l2 (fun y0 y1 => K (.exit 0) [EV.ptr 0 [], EV.ptr 1 []] [some (EV.arr .u64 6 y0), some (EV.arr .u64 6 y1)]) n x0 x1 x2 x3
  | _, _ => False⟩
def zdv.d (a0 : Nat → Int) (a1 : Nat → Int) (K : (Nat → Int) → Prop) : Prop :=
  ∃ n, zdv.l2 (fun y0 y1 => K y0) n 0 a0 a1 fun x => 0
noncomputable def zdv := shut zdv.d
theorem zdv.is : zdv = zdv.d := shut_is _
def zdw.d (a0 : Nat → Int) (a1 : Int) (K : Bool → Prop) : Prop :=
  br (leI 0 a1) (br (ltI a1 384) (gd (leI 0 (yaI .i64 a1 64) && ltI (yaI .i64 a1 64) 6) (gd (!ltI (cvI .u64 (ycm .i64 a1 64)) 0) (K (eqI (yh5 .u64 (ya1 .u64 (a0 (Int.toNat (yaI .i64 a1 64))) (cvI .u64 (ycm .i64 a1 64))) 1) 1)))) (K false)) (K false)
noncomputable def zdw := shut zdw.d
theorem zdw.is : zdw = zdw.d := shut_is _
def zdy.l2.step (again : Int → (Nat → Int) → Prop) (k0 : Int → Prop) (k1 : Prop) (x0 : Int) (x1 : Nat → Int) : Prop :=
  br (leI 0 x0) (gd (leI 0 x0 && ltI x0 6) (br (!eqI (x1 (Int.toNat x0)) 0) (gd (leI 0 x0 && ltI x0 6) (zeh (x1 (Int.toNat x0)) fun y0 => k0 (yai .i64 (ycj .i64 64 x0) y0))) (again (yan .i64 x0 1) x1))) k1
def zdy.l2 (k0 : Int → Prop) (k1 : Prop) : Nat → Int → (Nat → Int) → Prop
  | 0 => fun _ _ => False
  | n + 1 => zdy.l2.step (zdy.l2 k0 k1 n) k0 k1
def zdy.l2.entry : yao := ⟨LV.mk 0 [(0, 0)] 4 0 false, 0, 19, fun vs H K => match vs, H with
  | [EV.ptr 0 [], EV.int .i64 x0], [some (EV.arr .u64 6 x1)] => ∃ n, zdy.l2 (fun y0 => K .ret [EV.int .i64 y0] []) (K (.exit 0) [] []) n x0 x1
  | _, _ => False⟩
def zdy.d (a0 : Nat → Int) (K : Int → Prop) : Prop :=
  ∃ n, zdy.l2 (fun y0 => K y0) (K 0) n 5 a0
noncomputable def zdy := shut zdy.d
theorem zdy.is : zdy = zdy.d := shut_is _
def zef.d (a0 : Int) (K : Int → Prop) : Prop :=
  K (yiP (ycF a0 0) 384)
noncomputable def zef := shut zef.d
theorem zef.is : zef = zef.d := shut_is _
def zdx.l5.step (again : Bool → Int → Int → Int → (Nat → Int) → (Nat → Int) → Prop) (k0 : Bool → (Nat → Int) → Prop) (x0 : Bool) (x1 : Int) (x2 : Int) (x3 : Int) (x4 : Nat → Int) (x5 : Nat → Int) : Prop :=
  br (leI x1 x3) (gd (leI 0 (yan .i64 x3 x1) && ltI (yan .i64 x3 x1) 6) (gd (!ltI x2 0) (gd (leI 0 x3 && ltI x3 6) (br (ltI x1 x3) (gd (leI 0 x3 && ltI x3 6) (gd (leI 0 (yan .i64 (yan .i64 x3 x1) 1) && ltI (yan .i64 (yan .i64 x3 x1) 1) 6) (gd (!ltI (yan .u64 64 x2) 0) (gd (leI 0 x3 && ltI x3 6) (again x0 x1 x2 (yan .i64 x3 1) x4 (upd (upd x5 (Int.toNat x3) (ybM .u64 (x4 (Int.toNat (yan .i64 x3 x1))) x2)) (Int.toNat x3) (orI .u64 (upd x5 (Int.toNat x3) (ybM .u64 (x4 (Int.toNat (yan .i64 x3 x1))) x2) (Int.toNat x3)) (ya1 .u64 (x4 (Int.toNat (yan .i64 (yan .i64 x3 x1) 1))) (yan .u64 64 x2))))))))) (again x0 x1 x2 (yan .i64 x3 1) x4 (upd x5 (Int.toNat x3) (ybM .u64 (x4 (Int.toNat (yan .i64 x3 x1))) x2))))))) (k0 x0 x5)
def zdx.l5 (k0 : Bool → (Nat → Int) → Prop) : Nat → Bool → Int → Int → Int → (Nat → Int) → (Nat → Int) → Prop
  | 0 => fun _ _ _ _ _ _ => False
  | n + 1 => zdx.l5.step (zdx.l5 k0 n) k0
def zdx.l5.entry : yao := ⟨LV.mk 48 [(0, 48)] 48 0 false, 0, 59, fun vs H K => match vs, H with
  | [EV.ptr 0 [], EV.ptr 1 [], EV.bool x0, EV.int .i64 x1, EV.int .u64 x2, EV.int .i64 x3], [some (EV.arr .u64 6 x4), some (EV.arr .u64 6 x5)] => ∃ n, zdx.l5 (fun y0 y1 => K (.exit 0) [EV.ptr 0 [], EV.bool y0] [some (EV.arr .u64 6 y1)]) n x0 x1 x2 x3 x4 x5
  | _, _ => False⟩
def zdx.d (a0 : Nat → Int) (a1 : Int) (K : (Nat → Int) → Bool → Prop) : Prop :=
  zef a1 fun y0 => zdy a0 fun y0_1 => br (ltI 384 (yai .i64 y0_1 y0)) (∃ n, zdx.l5 (fun y0 y1 => K y1 y0) n (!eqN 6 a0 fun x => 0) (yaI .i64 y0 64) (cvI .u64 (ycm .i64 y0 64)) 5 a0 fun x => 0) (∃ n, zdx.l5 (fun y0 y1 => K y1 y0) n false (yaI .i64 y0 64) (cvI .u64 (ycm .i64 y0 64)) 5 a0 fun x => 0)
noncomputable def zdx := shut zdx.d
theorem zdx.is : zdx = zdx.d := shut_is _
def zdz.l2.step (again : (Nat → Int) → Int → Prop) (k0 : Int → Prop) (k1 : Prop) (x0 : Nat → Int) (x1 : Int) : Prop :=
  br (ltI x1 6) (gd (leI 0 x1 && ltI x1 6) (br (!eqI (x0 (Int.toNat x1)) 0) (zei (x0 (Int.toNat x1)) fun y0 => k0 (yai .i64 (ycj .i64 64 x1) y0)) (again x0 (yai .i64 x1 1)))) k1
def zdz.l2 (k0 : Int → Prop) (k1 : Prop) : Nat → (Nat → Int) → Int → Prop
  | 0 => fun _ _ => False
  | n + 1 => zdz.l2.step (zdz.l2 k0 k1 n) k0 k1
def zdz.l2.entry : yao := ⟨LV.mk 0 [(0, 0)] 4 0 false, 0, 18, fun vs H K => match vs, H with
  | [EV.arr .u64 6 x0, EV.int .i64 x1], [] => ∃ n, zdz.l2 (fun y0 => K .ret [EV.int .i64 y0] []) (K (.exit 0) [] []) n x0 x1
  | _, _ => False⟩
def zdz.d (a0 : Nat → Int) (K : Int → Prop) : Prop :=
  ∃ n, zdz.l2 (fun y0 => K y0) (K 384) n a0 0
noncomputable def zdz := shut zdz.d
theorem zdz.is : zdz = zdz.d := shut_is _
def zea.l4.step (again : Int → Int → (Nat → Int) → (Nat → Int) → Prop) (k0 : (Nat → Int) → (Nat → Int) → Prop) (x0 : Int) (x1 : Int) (x2 : Nat → Int) (x3 : Nat → Int) : Prop :=
  br (ltI x1 6) (zej (yan .i64 x0 (ycj .i64 64 x1)) fun y0 => gd (leI 0 x1 && ltI x1 6) (again x0 (yai .i64 x1 1) x2 (upd x3 (Int.toNat x1) y0))) (k0 x2 x3)
def zea.l4 (k0 : (Nat → Int) → (Nat → Int) → Prop) : Nat → Int → Int → (Nat → Int) → (Nat → Int) → Prop
  | 0 => fun _ _ _ _ => False
  | n + 1 => zea.l4.step (zea.l4 k0 n) k0
def zea.l4.entry : yao := ⟨LV.mk 12 [(0, 12)] 4 0 false, 0, 19, fun vs H K => match vs, H with
  | [EV.int .i64 x0, EV.ptr 0 [], EV.ptr 1 [], EV.int .i64 x1], [some (EV.arr .u64 6 x2), some (EV.arr .u64 6 x3)] => ∃ n, zea.l4 (fun y0 y1 => K (.exit 0) [EV.ptr 0 [], EV.ptr 1 []] [some (EV.arr .u64 6 y0), some (EV.arr .u64 6 y1)]) n x0 x1 x2 x3
  | _, _ => False⟩
def zea.d (a0 : Int) (K : (Nat → Int) → Prop) : Prop :=
  zef a0 fun y0 => ∃ n, zea.l4 (fun y0 y1 => K y1) n y0 0 (fun x => 0) fun x => 0
noncomputable def zea := shut zea.d
theorem zea.is : zea = zea.d := shut_is _
def zeb.d (a0 : Int) (K : (Nat → Int) → Prop) : Prop :=
  K (upd (fun x => 0) 0 a0)
noncomputable def zeb := shut zeb.d
theorem zeb.is : zeb = zeb.d := shut_is _
def zec.l2.step (again : Int → (Nat → Int) → (Nat → Int) → (Nat → Int) → Prop) (k0 : (Nat → Int) → (Nat → Int) → Prop) (x0 : Int) (x1 : Nat → Int) (x2 : Nat → Int) (x3 : Nat → Int) : Prop :=
  br (ltI x0 6) (gd (leI 0 x0 && ltI x0 6) (gd (leI 0 x0 && ltI x0 6) (gd (leI 0 x0 && ltI x0 6) (again (yai .i64 x0 1) (upd x1 (Int.toNat x0) (orI .u64 (x1 (Int.toNat x0)) (x2 (Int.toNat x0)))) x2 x3)))) (k0 x1 x3)
def zec.l2 (k0 : (Nat → Int) → (Nat → Int) → Prop) : Nat → Int → (Nat → Int) → (Nat → Int) → (Nat → Int) → Prop
  | 0 => fun _ _ _ _ => False
  | n + 1 => zec.l2.step (zec.l2 k0 n) k0
def zec.l2.entry : yao := ⟨LV.mk 20 [(0, 20)] 16 0 false, 0, 19, fun vs H K => match vs, H with
  | [EV.ptr 0 [], EV.ptr 1 [], EV.ptr 2 [], EV.int .i64 x0], [some (EV.arr .u64 6 x1), some (EV.arr .u64 6 x2), some (EV.arr .u64 6 x3)] => ∃ n, zec.l2 (fun y0 y1 => K (.exit 0) [EV.ptr 0 [], EV.ptr 1 []] [some (EV.arr .u64 6 y0), some (EV.arr .u64 6 y1)]) n x0 x1 x2 x3
  | _, _ => False⟩
def zec.d (a0 : Nat → Int) (a1 : Nat → Int) (K : (Nat → Int) → Prop) : Prop :=
  ∃ n, zec.l2 (fun y0 y1 => K y0) n 0 a0 a1 fun x => 0
noncomputable def zec := shut zec.d
theorem zec.is : zec = zec.d := shut_is _
def zed.l5.step (again : Bool → Int → Int → Int → (Nat → Int) → (Nat → Int) → Prop) (k0 : Bool → (Nat → Int) → Prop) (x0 : Bool) (x1 : Int) (x2 : Int) (x3 : Int) (x4 : Nat → Int) (x5 : Nat → Int) : Prop :=
  br (ltI (yai .i64 x3 x1) 6) (gd (leI 0 (yai .i64 x3 x1) && ltI (yai .i64 x3 x1) 6) (gd (!ltI x2 0) (gd (leI 0 x3 && ltI x3 6) (br (ltI (yai .i64 x3 x1) 5) (gd (leI 0 x3 && ltI x3 6) (gd (leI 0 (yai .i64 (yai .i64 x3 x1) 1) && ltI (yai .i64 (yai .i64 x3 x1) 1) 6) (gd (!ltI (yan .u64 64 x2) 0) (gd (leI 0 x3 && ltI x3 6) (again x0 x1 x2 (yai .i64 x3 1) x4 (upd (upd x5 (Int.toNat x3) (ya1 .u64 (x4 (Int.toNat (yai .i64 x3 x1))) x2)) (Int.toNat x3) (orI .u64 (upd x5 (Int.toNat x3) (ya1 .u64 (x4 (Int.toNat (yai .i64 x3 x1))) x2) (Int.toNat x3)) (ybM .u64 (x4 (Int.toNat (yai .i64 (yai .i64 x3 x1) 1))) (yan .u64 64 x2))))))))) (again x0 x1 x2 (yai .i64 x3 1) x4 (upd x5 (Int.toNat x3) (ya1 .u64 (x4 (Int.toNat (yai .i64 x3 x1))) x2))))))) (k0 x0 x5)
def zed.l5 (k0 : Bool → (Nat → Int) → Prop) : Nat → Bool → Int → Int → Int → (Nat → Int) → (Nat → Int) → Prop
  | 0 => fun _ _ _ _ _ _ => False
  | n + 1 => zed.l5.step (zed.l5 k0 n) k0
def zed.l5.entry : yao := ⟨LV.mk 48 [(0, 48)] 48 0 false, 0, 60, fun vs H K => match vs, H with
  | [EV.ptr 0 [], EV.ptr 1 [], EV.bool x0, EV.int .i64 x1, EV.int .u64 x2, EV.int .i64 x3], [some (EV.arr .u64 6 x4), some (EV.arr .u64 6 x5)] => ∃ n, zed.l5 (fun y0 y1 => K (.exit 0) [EV.ptr 0 [], EV.bool y0] [some (EV.arr .u64 6 y1)]) n x0 x1 x2 x3 x4 x5
  | _, _ => False⟩
def zed.d (a0 : Nat → Int) (a1 : Int) (K : (Nat → Int) → Bool → Prop) : Prop :=
  zef a1 fun y0 => br (!eqN 6 a0 fun x => 0) (zdz a0 fun y0_1 => ∃ n, zed.l5 (fun y0 y1 => K y1 y0) n (ltI y0_1 y0) (yaI .i64 y0 64) (cvI .u64 (ycm .i64 y0 64)) 0 a0 fun x => 0) (∃ n, zed.l5 (fun y0 y1 => K y1 y0) n false (yaI .i64 y0 64) (cvI .u64 (ycm .i64 y0 64)) 0 a0 fun x => 0)
noncomputable def zed := shut zed.d
theorem zed.is : zed = zed.d := shut_is _
def zee.d (a0 : Nat → Int) (K : Int → Int → Bool → Prop) : Prop :=
  br (!eqI (orI .u64 (orI .u64 (orI .u64 (a0 2) (a0 3)) (a0 4)) (a0 5)) 0) (K 0 0 false) (K (a0 1) (a0 0) true)
noncomputable def zee := shut zee.d
theorem zee.is : zee = zee.d := shut_is _
end Go.Ev.S

/- The functions as the evaluator has them: what each comes to. -/
set_option maxRecDepth 100000
set_option linter.unusedVariables false
set_option linter.unusedSimpArgs false
namespace Go.Ev.S
open Go Go.Ev
def zal.d (a0 : Nat → Int) (a1 : Int) (K : (Nat → Int) → Int → Bool → Prop) : Prop :=
  zed a0 (yiP (ycF a1 0) 385) fun y0 y1 => br (eqI (yiP (ycF a1 0) 385) 0) (K y0 (-1) !y1) (br (eqI (yiP (ycF a1 0) 385) 385) (K y0 (-1) !y1) (zdw a0 (yan .i64 (yiP (ycF a1 0) 385) 1) fun y0_1 => br (!y0_1) (K y0 (-1) !y1) (zea (yan .i64 (yiP (ycF a1 0) 385) 1) fun y0_2 => zdv a0 y0_2 fun y0_3 => br (!eqN 6 y0_3 fun x => 0) (K y0 1 !y1) (K y0 0 !y1))))
noncomputable def zal := shut zal.d
theorem zal.is : zal = zal.d := shut_is _
end Go.Ev.S

/- The functions as the evaluator has them: what each comes to. -/
set_option maxRecDepth 100000
set_option linter.unusedVariables false
set_option linter.unusedSimpArgs false
namespace Go.Ev.S
open Go Go.Ev
def zdh.d (a0 : Int) (K : Int → Prop) : Prop :=
  br (ltI 3 a0) (K 2) (K 0)
noncomputable def zdh := shut zdh.d
theorem zdh.is : zdh = zdh.d := shut_is _
def zdi.d (a0 : Int) (K : Int → Prop) : Prop :=
  br (ltI 4 a0) (K 2) (K 0)
noncomputable def zdi := shut zdi.d
theorem zdi.is : zdi = zdi.d := shut_is _
def zds.d (a0 : Int) (K : Int → Int → Int → List UInt8 → Prop) : Prop :=
  br (leI 4 (cvI .i64 a0)) (K 0 0 0 []) (br (eqI a0 0) (br (eqI a0 0) (br (eqI a0 0) (br (eqI a0 0) (K 32 24 127 [115]) (br (eqI a0 1) (K 32 24 127 [100]) (br (eqI a0 2) (K 32 24 127 [104]) (br (eqI a0 3) (K 32 24 127 [113]) False)))) (br (eqI a0 1) (br (eqI a0 0) (K 32 24 1023 [115]) (br (eqI a0 1) (K 32 24 1023 [100]) (br (eqI a0 2) (K 32 24 1023 [104]) (br (eqI a0 3) (K 32 24 1023 [113]) False)))) (br (eqI a0 2) (br (eqI a0 0) (K 32 24 15 [115]) (br (eqI a0 1) (K 32 24 15 [100]) (br (eqI a0 2) (K 32 24 15 [104]) (br (eqI a0 3) (K 32 24 15 [113]) False)))) (br (eqI a0 3) (br (eqI a0 0) (K 32 24 16383 [115]) (br (eqI a0 1) (K 32 24 16383 [100]) (br (eqI a0 2) (K 32 24 16383 [104]) (br (eqI a0 3) (K 32 24 16383 [113]) False)))) False)))) (br (eqI a0 1) (br (eqI a0 0) (br (eqI a0 0) (K 32 53 127 [115]) (br (eqI a0 1) (K 32 53 127 [100]) (br (eqI a0 2) (K 32 53 127 [104]) (br (eqI a0 3) (K 32 53 127 [113]) False)))) (br (eqI a0 1) (br (eqI a0 0) (K 32 53 1023 [115]) (br (eqI a0 1) (K 32 53 1023 [100]) (br (eqI a0 2) (K 32 53 1023 [104]) (br (eqI a0 3) (K 32 53 1023 [113]) False)))) (br (eqI a0 2) (br (eqI a0 0) (K 32 53 15 [115]) (br (eqI a0 1) (K 32 53 15 [100]) (br (eqI a0 2) (K 32 53 15 [104]) (br (eqI a0 3) (K 32 53 15 [113]) False)))) (br (eqI a0 3) (br (eqI a0 0) (K 32 53 16383 [115]) (br (eqI a0 1) (K 32 53 16383 [100]) (br (eqI a0 2) (K 32 53 16383 [104]) (br (eqI a0 3) (K 32 53 16383 [113]) False)))) False)))) (br (eqI a0 2) (br (eqI a0 0) (br (eqI a0 0) (K 32 11 127 [115]) (br (eqI a0 1) (K 32 11 127 [100]) (br (eqI a0 2) (K 32 11 127 [104]) (br (eqI a0 3) (K 32 11 127 [113]) False)))) (br (eqI a0 1) (br (eqI a0 0) (K 32 11 1023 [115]) (br (eqI a0 1) (K 32 11 1023 [100]) (br (eqI a0 2) (K 32 11 1023 [104]) (br (eqI a0 3) (K 32 11 1023 [113]) False)))) (br (eqI a0 2) (br (eqI a0 0) (K 32 11 15 [115]) (br (eqI a0 1) (K 32 11 15 [100]) (br (eqI a0 2) (K 32 11 15 [104]) (br (eqI a0 3) (K 32 11 15 [113]) False)))) (br (eqI a0 3) (br (eqI a0 0) (K 32 11 16383 [115]) (br (eqI a0 1) (K 32 11 16383 [100]) (br (eqI a0 2) (K 32 11 16383 [104]) (br (eqI a0 3) (K 32 11 16383 [113]) False)))) False)))) (br (eqI a0 3) (br (eqI a0 0) (br (eqI a0 0) (K 32 113 127 [115]) (br (eqI a0 1) (K 32 113 127 [100]) (br (eqI a0 2) (K 32 113 127 [104]) (br (eqI a0 3) (K 32 113 127 [113]) False)))) (br (eqI a0 1) (br (eqI a0 0) (K 32 113 1023 [115]) (br (eqI a0 1) (K 32 113 1023 [100]) (br (eqI a0 2) (K 32 113 1023 [104]) (br (eqI a0 3) (K 32 113 1023 [113]) False)))) (br (eqI a0 2) (br (eqI a0 0) (K 32 113 15 [115]) (br (eqI a0 1) (K 32 113 15 [100]) (br (eqI a0 2) (K 32 113 15 [104]) (br (eqI a0 3) (K 32 113 15 [113]) False)))) (br (eqI a0 3) (br (eqI a0 0) (K 32 113 16383 [115]) (br (eqI a0 1) (K 32 113 16383 [100]) (br (eqI a0 2) (K 32 113 16383 [104]) (br (eqI a0 3) (K 32 113 16383 [113]) False)))) False)))) False)))) (br (eqI a0 1) (br (eqI a0 0) (br (eqI a0 0) (br (eqI a0 0) (K 64 24 127 [115]) (br (eqI a0 1) (K 64 24 127 [100]) (br (eqI a0 2) (K 64 24 127 [104]) (br (eqI a0 3) (K 64 24 127 [113]) False)))) (br (eqI a0 1) (br (eqI a0 0) (K 64 24 1023 [115]) (br (eqI a0 1) (K 64 24 1023 [100]) (br (eqI a0 2) (K 64 24 1023 [104]) (br (eqI a0 3) (K 64 24 1023 [113]) False)))) (br (eqI a0 2) (br (eqI a0 0) (K 64 24 15 [115]) (br (eqI a0 1) (K 64 24 15 [100]) (br (eqI a0 2) (K 64 24 15 [104]) (br (eqI a0 3) (K 64 24 15 [113]) False)))) (br (eqI a0 3) (br (eqI a0 0) (K 64 24 16383 [115]) (br (eqI a0 1) (K 64 24 16383 [100]) (br (eqI a0 2) (K 64 24 16383 [104]) (br (eqI a0 3) (K 64 24 16383 [113]) False)))) False)))) (br (eqI a0 1) (br (eqI a0 0) (br (eqI a0 0) (K 64 53 127 [115]) (br (eqI a0 1) (K 64 53 127 [100]) (br (eqI a0 2) (K 64 53 127 [104]) (br (eqI a0 3) (K 64 53 127 [113]) False)))) (br (eqI a0 1) (br (eqI a0 0) (K 64 53 1023 [115]) (br (eqI a0 1) (K 64 53 1023 [100]) (br (eqI a0 2) (K 64 53 1023 [104]) (br (eqI a0 3) (K 64 53 1023 [113]) False)))) (br (eqI a0 2) (br (eqI a0 0) (K 64 53 15 [115]) (br (eqI a0 1) (K 64 53 15 [100]) (br (eqI a0 2) (K 64 53 15 [104]) (br (eqI a0 3) (K 64 53 15 [113]) False)))) (br (eqI a0 3) (br (eqI a0 0) (K 64 53 16383 [115]) (br (eqI a0 1) (K 64 53 16383 [100]) (br (eqI a0 2) (K 64 53 16383 [104]) (br (eqI a0 3) (K 64 53 16383 [113]) False)))) False)))) (br (eqI a0 2) (br (eqI a0 0) (br (eqI a0 0) (K 64 11 127 [115]) (br (eqI a0 1) (K 64 11 127 [100]) (br (eqI a0 2) (K 64 11 127 [104]) (br (eqI a0 3) (K 64 11 127 [113]) False)))) (br (eqI a0 1) (br (eqI a0 0) (K 64 11 1023 [115]) (br (eqI a0 1) (K 64 11 1023 [100]) (br (eqI a0 2) (K 64 11 1023 [104]) (br (eqI a0 3) (K 64 11 1023 [113]) False)))) (br (eqI a0 2) (br (eqI a0 0) (K 64 11 15 [115]) (br (eqI a0 1) (K 64 11 15 [100]) (br (eqI a0 2) (K 64 11 15 [104]) (br (eqI a0 3) (K 64 11 15 [113]) False)))) (br (eqI a0 3) (br (eqI a0 0) (K 64 11 16383 [115]) (br (eqI a0 1) (K 64 11 16383 [100]) (br (eqI a0 2) (K 64 11 16383 [104]) (br (eqI a0 3) (K 64 11 16383 [113]) False)))) False)))) (br (eqI a0 3) (br (eqI a0 0) (br (eqI a0 0) (K 64 113 127 [115]) (br (eqI a0 1) (K 64 113 127 [100]) (br (eqI a0 2) (K 64 113 127 [104]) (br (eqI a0 3) (K 64 113 127 [113]) False)))) (br (eqI a0 1) (br (eqI a0 0) (K 64 113 1023 [115]) (br (eqI a0 1) (K 64 113 1023 [100]) (br (eqI a0 2) (K 64 113 1023 [104]) (br (eqI a0 3) (K 64 113 1023 [113]) False)))) (br (eqI a0 2) (br (eqI a0 0) (K 64 113 15 [115]) (br (eqI a0 1) (K 64 113 15 [100]) (br (eqI a0 2) (K 64 113 15 [104]) (br (eqI a0 3) (K 64 113 15 [113]) False)))) (br (eqI a0 3) (br (eqI a0 0) (K 64 113 16383 [115]) (br (eqI a0 1) (K 64 113 16383 [100]) (br (eqI a0 2) (K 64 113 16383 [104]) (br (eqI a0 3) (K 64 113 16383 [113]) False)))) False)))) False)))) (br (eqI a0 2) (br (eqI a0 0) (br (eqI a0 0) (br (eqI a0 0) (K 16 24 127 [115]) (br (eqI a0 1) (K 16 24 127 [100]) (br (eqI a0 2) (K 16 24 127 [104]) (br (eqI a0 3) (K 16 24 127 [113]) False)))) (br (eqI a0 1) (br (eqI a0 0) (K 16 24 1023 [115]) (br (eqI a0 1) (K 16 24 1023 [100]) (br (eqI a0 2) (K 16 24 1023 [104]) (br (eqI a0 3) (K 16 24 1023 [113]) False)))) (br (eqI a0 2) (br (eqI a0 0) (K 16 24 15 [115]) (br (eqI a0 1) (K 16 24 15 [100]) (br (eqI a0 2) (K 16 24 15 [104]) (br (eqI a0 3) (K 16 24 15 [113]) False)))) (br (eqI a0 3) (br (eqI a0 0) (K 16 24 16383 [115]) (br (eqI a0 1) (K 16 24 16383 [100]) (br (eqI a0 2) (K 16 24 16383 [104]) (br (eqI a0 3) (K 16 24 16383 [113]) False)))) False)))) (br (eqI a0 1) (br (eqI a0 0) (br (eqI a0 0) (K 16 53 127 [115]) (br (eqI a0 1) (K 16 53 127 [100]) (br (eqI a0 2) (K 16 53 127 [104]) (br (eqI a0 3) (K 16 53 127 [113]) False)))) (br (eqI a0 1) (br (eqI a0 0) (K 16 53 1023 [115]) (br (eqI a0 1) (K 16 53 1023 [100]) (br (eqI a0 2) (K 16 53 1023 [104]) (br (eqI a0 3) (K 16 53 1023 [113]) False)))) (br (eqI a0 2) (br (eqI a0 0) (K 16 53 15 [115]) (br (eqI a0 1) (K 16 53 15 [100]) (br (eqI a0 2) (K 16 53 15 [104]) (br (eqI a0 3) (K 16 53 15 [113]) False)))) (br (eqI a0 3) (br (eqI a0 0) (K 16 53 16383 [115]) (br (eqI a0 1) (K 16 53 16383 [100]) (br (eqI a0 2) (K 16 53 16383 [104]) (br (eqI a0 3) (K 16 53 16383 [113]) False)))) False)))) (br (eqI a0 2) (br (eqI a0 0) (br (eqI a0 0) (K 16 11 127 [115]) (br (eqI a0 1) (K 16 11 127 [100]) (br (eqI a0 2) (K 16 11 127 [104]) (br (eqI a0 3) (K 16 11 127 [113]) False)))) (br (eqI a0 1) (br (eqI a0 0) (K 16 11 1023 [115]) (br (eqI a0 1) (K 16 11 1023 [100]) (br (eqI a0 2) (K 16 11 1023 [104]) (br (eqI a0 3) (K 16 11 1023 [113]) False)))) (br (eqI a0 2) (br (eqI a0 0) (K 16 11 15 [115]) (br (eqI a0 1) (K 16 11 15 [100]) (br (eqI a0 2) (K 16 11 15 [104]) (br (eqI a0 3) (K 16 11 15 [113]) False)))) (br (eqI a0 3) (br (eqI a0 0) (K 16 11 16383 [115]) (br (eqI a0 1) (K 16 11 16383 [100]) (br (eqI a0 2) (K 16 11 16383 [104]) (br (eqI a0 3) (K 16 11 16383 [113]) False)))) False)))) (br (eqI a0 3) (br (eqI a0 0) (br (eqI a0 0) (K 16 113 127 [115]) (br (eqI a0 1) (K 16 113 127 [100]) (br (eqI a0 2) (K 16 113 127 [104]) (br (eqI a0 3) (K 16 113 127 [113]) False)))) (br (eqI a0 1) (br (eqI a0 0) (K 16 113 1023 [115]) (br (eqI a0 1) (K 16 113 1023 [100]) (br (eqI a0 2) (K 16 113 1023 [104]) (br (eqI a0 3) (K 16 113 1023 [113]) False)))) (br (eqI a0 2) (br (eqI a0 0) (K 16 113 15 [115]) (br (eqI a0 1) (K 16 113 15 [100]) (br (eqI a0 2) (K 16 113 15 [104]) (br (eqI a0 3) (K 16 113 15 [113]) False)))) (br (eqI a0 3) (br (eqI a0 0) (K 16 113 16383 [115]) (br (eqI a0 1) (K 16 113 16383 [100]) (br (eqI a0 2) (K 16 113 16383 [104]) (br (eqI a0 3) (K 16 113 16383 [113]) False)))) False)))) False)))) (br (eqI a0 3) (br (eqI a0 0) (br (eqI a0 0) (br (eqI a0 0) (K 128 24 127 [115]) (br (eqI a0 1) (K 128 24 127 [100]) (br (eqI a0 2) (K 128 24 127 [104]) (br (eqI a0 3) (K 128 24 127 [113]) False)))) (br (eqI a0 1) (br (eqI a0 0) (K 128 24 1023 [115]) (br (eqI a0 1) (K 128 24 1023 [100]) (br (eqI a0 2) (K 128 24 1023 [104]) (br (eqI a0 3) (K 128 24 1023 [113]) False)))) (br (eqI a0 2) (br (eqI a0 0) (K 128 24 15 [115]) (br (eqI a0 1) (K 128 24 15 [100]) (br (eqI a0 2) (K 128 24 15 [104]) (br (eqI a0 3) (K 128 24 15 [113]) False)))) (br (eqI a0 3) (br (eqI a0 0) (K 128 24 16383 [115]) (br (eqI a0 1) (K 128 24 16383 [100]) (br (eqI a0 2) (K 128 24 16383 [104]) (br (eqI a0 3) (K 128 24 16383 [113]) False)))) False)))) (br (eqI a0 1) (br (eqI a0 0) (br (eqI a0 0) (K 128 53 127 [115]) (br (eqI a0 1) (K 128 53 127 [100]) (br (eqI a0 2) (K 128 53 127 [104]) (br (eqI a0 3) (K 128 53 127 [113]) False)))) (br (eqI a0 1) (br (eqI a0 0) (K 128 53 1023 [115]) (br (eqI a0 1) (K 128 53 1023 [100]) (br (eqI a0 2) (K 128 53 1023 [104]) (br (eqI a0 3) (K 128 53 1023 [113]) False)))) (br (eqI a0 2) (br (eqI a0 0) (K 128 53 15 [115]) (br (eqI a0 1) (K 128 53 15 [100]) (br (eqI a0 2) (K 128 53 15 [104]) (br (eqI a0 3) (K 128 53 15 [113]) False)))) (br (eqI a0 3) (br (eqI a0 0) (K 128 53 16383 [115]) (br (eqI a0 1) (K 128 53 16383 [100]) (br (eqI a0 2) (K 128 53 16383 [104]) (br (eqI a0 3) (K 128 53 16383 [113]) False)))) False)))) (br (eqI a0 2) (br (eqI a0 0) (br (eqI a0 0) (K 128 11 127 [115]) (br (eqI a0 1) (K 128 11 127 [100]) (br (eqI a0 2) (K 128 11 127 [104]) (br (eqI a0 3) (K 128 11 127 [113]) False)))) (br (eqI a0 1) (br (eqI a0 0) (K 128 11 1023 [115]) (br (eqI a0 1) (K 128 11 1023 [100]) (br (eqI a0 2) (K 128 11 1023 [104]) (br (eqI a0 3) (K 128 11 1023 [113]) False)))) (br (eqI a0 2) (br (eqI a0 0) (K 128 11 15 [115]) (br (eqI a0 1) (K 128 11 15 [100]) (br (eqI a0 2) (K 128 11 15 [104]) (br (eqI a0 3) (K 128 11 15 [113]) False)))) (br (eqI a0 3) (br (eqI a0 0) (K 128 11 16383 [115]) (br (eqI a0 1) (K 128 11 16383 [100]) (br (eqI a0 2) (K 128 11 16383 [104]) (br (eqI a0 3) (K 128 11 16383 [113]) False)))) False)))) (br (eqI a0 3) (br (eqI a0 0) (br (eqI a0 0) (K 128 113 127 [115]) (br (eqI a0 1) (K 128 113 127 [100]) (br (eqI a0 2) (K 128 113 127 [104]) (br (eqI a0 3) (K 128 113 127 [113]) False)))) (br (eqI a0 1) (br (eqI a0 0) (K 128 113 1023 [115]) (br (eqI a0 1) (K 128 113 1023 [100]) (br (eqI a0 2) (K 128 113 1023 [104]) (br (eqI a0 3) (K 128 113 1023 [113]) False)))) (br (eqI a0 2) (br (eqI a0 0) (K 128 113 15 [115]) (br (eqI a0 1) (K 128 113 15 [100]) (br (eqI a0 2) (K 128 113 15 [104]) (br (eqI a0 3) (K 128 113 15 [113]) False)))) (br (eqI a0 3) (br (eqI a0 0) (K 128 113 16383 [115]) (br (eqI a0 1) (K 128 113 16383 [100]) (br (eqI a0 2) (K 128 113 16383 [104]) (br (eqI a0 3) (K 128 113 16383 [113]) False)))) False)))) False)))) False))))
noncomputable def zds := shut zds.d
theorem zds.is : zds = zds.d := shut_is _
def zdj.d (a0 : Int) (K : Int → Prop) : Prop :=
  zds a0 fun y0 y1 y2 y3 => K y2
noncomputable def zdj := shut zdj.d
theorem zdj.is : zdj = zdj.d := shut_is _
def zdk.d (a0 : Int) (K : Int → Prop) : Prop :=
  zdh a0 fun y0 => br (!eqI y0 0) (K 0) (zdj a0 fun y0 => K (yan .i64 1 y0))
noncomputable def zdk := shut zdk.d
theorem zdk.is : zdk = zdk.d := shut_is _
def zdo.d (a0 : Int) (K : Int → Prop) : Prop :=
  zds a0 fun y0 y1 y2 y3 => K y0
noncomputable def zdo := shut zdo.d
theorem zdo.is : zdo = zdo.d := shut_is _
def zdn.d (a0 : Int) (K : Int → Prop) : Prop :=
  zds a0 fun y0 y1 y2 y3 => K y1
noncomputable def zdn := shut zdn.d
theorem zdn.is : zdn = zdn.d := shut_is _
def zdq.d (a0 : Int) (a1 : Int) (K : Int → Int → Prop) : Prop :=
  br (leI 64 a1) (gd (!ltI (cvI .u64 (yan .i64 a1 64)) 0) (K (ybM .u64 a0 (cvI .u64 (yan .i64 a1 64))) 0)) (gd (!ltI (cvI .u64 a1) 0) (br (ltI 0 a1) (gd (!ltI (cvI .u64 (yan .i64 64 a1)) 0) (K (ya1 .u64 a0 (cvI .u64 (yan .i64 64 a1))) (ybM .u64 a0 (cvI .u64 a1)))) (K 0 (ybM .u64 a0 (cvI .u64 a1)))))
noncomputable def zdq := shut zdq.d
theorem zdq.is : zdq = zdq.d := shut_is _
def zdr.d (a0 : Int) (a1 : Int) (K : Int → Int → Prop) : Prop :=
  zdn a0 fun y0 => zdq (cvI .u64 a1) (yan .i64 y0 1) fun y0 y1 => K y0 y1
noncomputable def zdr := shut zdr.d
theorem zdr.is : zdr = zdr.d := shut_is _
def zdt.d (a0 : Int) (a1_0 : Int) (a1_1 : Int) (a2 : Bool) (K : Int → Int → Prop) : Prop :=
  zdh a0 fun y0 => br (!eqI y0 0) (K 0 0) (br a2 (zdo a0 fun y0 => zdq 1 (yan .i64 y0 1) fun y0 y1 => K (orI .u64 a1_0 y0) (orI .u64 a1_1 y1)) (K a1_0 a1_1))
noncomputable def zdt := shut zdt.d
theorem zdt.is : zdt = zdt.d := shut_is _
def zdm.d (a0 : Int) (a1 : Bool) (K : Int → Int → Prop) : Prop :=
  zdh a0 fun y0 => br (!eqI y0 0) (K 0 0) (zdj a0 fun y0 => zdr a0 (yai .i64 (ycj .i64 2 y0) 1) fun y0 y1 => zdt a0 y0 y1 a1 fun y0 y1 => K y0 y1)
noncomputable def zdm := shut zdm.d
theorem zdm.is : zdm = zdm.d := shut_is _
def zdl.d (a0 : Int) (a1 : Bool) (K : Int → Int → Prop) : Prop :=
  zdm a0 false fun y0 y1 => br (eqI y0 0 && eqI y1 0) (K y0 y1) (br (eqI y1 0) (zdh a0 fun y0_1 => br (eqI y0_1 0) (zdo a0 fun y0_2 => br (ltI y0_2 128) (zdt a0 0 (yan .u64 y1 1) a1 fun y0 y1 => K y0 y1) (zdt a0 (yan .u64 y0 1) (yan .u64 y1 1) a1 fun y0 y1 => K y0 y1)) (zdt a0 (yan .u64 y0 1) (yan .u64 y1 1) a1 fun y0 y1 => K y0 y1)) (zdh a0 fun y0_1 => br (eqI y0_1 0) (zdo a0 fun y0_2 => br (ltI y0_2 128) (zdt a0 0 (yan .u64 y1 1) a1 fun y0 y1 => K y0 y1) (zdt a0 y0 (yan .u64 y1 1) a1 fun y0 y1 => K y0 y1)) (zdt a0 y0 (yan .u64 y1 1) a1 fun y0 y1 => K y0 y1)))
noncomputable def zdl := shut zdl.d
theorem zdl.is : zdl = zdl.d := shut_is _
def zdp.d (a0 : Int) (a1 : Bool) (K : Int → Int → Prop) : Prop :=
  zdt a0 0 0 a1 fun y0 y1 => K y0 y1
noncomputable def zdp := shut zdp.d
theorem zdp.is : zdp = zdp.d := shut_is _
end Go.Ev.S

/- The functions as the evaluator has them: what each comes to. -/
set_option maxRecDepth 100000
set_option linter.unusedVariables false
set_option linter.unusedSimpArgs false
namespace Go.Ev.S
open Go Go.Ev
def zcx.d (a0 : Int) (a1 : Int) (K : Bool → Prop) : Prop :=
  zdh a0 fun y0 => br (eqI y0 0) (zdi a1 fun y0 => K (eqI y0 0)) (K false)
noncomputable def zcx := shut zcx.d
theorem zcx.is : zcx = zcx.d := shut_is _
def zct.d (a0 : Int) (a1 : Int) (a2 : Bool) (K : Int → Int → Int → Int → Prop) : Prop :=
  zcx a0 a1 fun y0 => br (!y0) (K 0 0 0 2) (br (eqI a1 1) (br (eqI a1 1) (zdl a0 a2 fun y0 y1 => K y0 y1 5 0) (zdm a0 a2 fun y0 y1 => K y0 y1 5 0)) (br (eqI a1 2) (br (!a2) (br (!a2) (zdl a0 a2 fun y0 y1 => K y0 y1 5 0) (zdm a0 a2 fun y0 y1 => K y0 y1 5 0)) (br (eqI a1 3) (br a2 (zdl a0 a2 fun y0 y1 => K y0 y1 5 0) (zdm a0 a2 fun y0 y1 => K y0 y1 5 0)) (zdm a0 a2 fun y0 y1 => K y0 y1 5 0))) (br (eqI a1 3) (br a2 (zdl a0 a2 fun y0 y1 => K y0 y1 5 0) (zdm a0 a2 fun y0 y1 => K y0 y1 5 0)) (zdm a0 a2 fun y0 y1 => K y0 y1 5 0))))
noncomputable def zct := shut zct.d
theorem zct.is : zct = zct.d := shut_is _
def zcv.d (a0 : Int) (a1 : Bool) (a2 : Bool) (a3 : Int) (a4 : Bool) (K : Bool → Prop) : Prop :=
  br a4 (K false) (br (eqI a0 0) (br (ltI 0 a3) (K true) (br (eqI a3 0) (K a2) (K false))) (br (eqI a0 4) (K (leI 0 a3)) (br (eqI a0 2) (br (eqI a0 2) (K (ydF a1 (eqI a0 2))) (K false)) (br (eqI a0 3) (K (ydF a1 (eqI a0 2))) (K false)))))
noncomputable def zcv := shut zcv.d
theorem zcv.is : zcv = zcv.d := shut_is _
def zcw.d (a0 : Int) (a1_0 : Bool) (a1_1 : Nat → Int) (a1_2 : Int) (a1_3 : Bool) (a2 : Int) (K : (Nat → Int) → Bool → Prop) : Prop :=
  br (leI (yan .i64 a2 a1_2) 0) (zdx a1_1 (yqh .i64 (yan .i64 a2 a1_2)) fun y0 y1 => K y0 !a1_3) (zal a1_1 (yan .i64 a2 a1_2) fun y0 y1 y2 => br a1_3 (br (eqI y1 0) (zcv a0 a1_0 (eqI (yh5 .u64 (y0 0) 1) 1) 1 false fun y0_1 => br y0_1 (zeb 1 fun y0_2 => zdu y0 y0_2 fun y0 y1 => K y0 false) (K y0 false)) (zcv a0 a1_0 (eqI (yh5 .u64 (y0 0) 1) 1) y1 false fun y0_1 => br y0_1 (zeb 1 fun y0_2 => zdu y0 y0_2 fun y0 y1 => K y0 false) (K y0 false))) (zcv a0 a1_0 (eqI (yh5 .u64 (y0 0) 1) 1) y1 y2 fun y0_1 => br y0_1 (zeb 1 fun y0_2 => zdu y0 y0_2 fun y0 y1 => K y0 y2) (K y0 y2)))
noncomputable def zcw := shut zcw.d
theorem zcw.is : zcw = zcw.d := shut_is _
def zcy.d (a0 : Int) (a1 : Int) (a2_0 : Bool) (a2_1 : Nat → Int) (a2_2 : Int) (a2_3 : Bool) (a3 : Int) (K : Bool → Prop) : Prop :=
  zdk a0 fun y0 => zdn a0 fun y0_1 => br (!eqI a3 (yan .i64 y0 1)) (K (ltI a3 y0)) (zcw a1 a2_0 a2_1 a2_2 a2_3 (yai .i64 (yan .i64 a3 y0_1) 1) fun y0 y1 => zdy y0 fun y0 => K (leI y0 y0_1))
noncomputable def zcy := shut zcy.d
theorem zcy.is : zcy = zcy.d := shut_is _
def zcu.d (a0 : Int) (a1 : Int) (a2_0 : Bool) (a2_1 : Nat → Int) (a2_2 : Int) (a2_3 : Bool) (K : Int → Int → Int → Int → Prop) : Prop :=
  zdn a0 fun y0 => zcx a0 a1 fun y0_1 => br (!y0_1) (K 0 0 0 2) (br (ltI a2_2 (-1048576)) (K 0 0 0 2) (br (ltI 1048576 a2_2) (K 0 0 0 2) (br a2_3 (zdy a2_1 fun y0_2 => br (ltI y0_2 (yai .i64 y0 2)) (K 0 0 0 2) (br (eqN 6 a2_1 fun x => 0) (zdp a0 a2_0 fun y0 y1 => K y0 y1 0 0) (zdy a2_1 fun y0_3 => zdk a0 fun y0_4 => zdj a0 fun y0_5 => br (ltI y0_5 (yai .i64 (yan .i64 y0_3 1) a2_2)) (zct a0 a1 a2_0 fun y0 y1 y2 y3 => K y0 y1 y2 y3) (zcw a1 a2_0 a2_1 a2_2 a2_3 (yai .i64 (yan .i64 (ycF (yai .i64 (yan .i64 y0_3 1) a2_2) y0_4) y0) 1) fun y0_6 y1 => zdy y0_6 fun y0_7 => zdj a0 fun y0_8 => br (ltI y0_8 (yai .i64 (yan .i64 y0_7 1) (yai .i64 (yan .i64 (ycF (yai .i64 (yan .i64 y0_3 1) a2_2) y0_4) y0) 1))) (zct a0 a1 a2_0 fun y0 y1 y2 y3 => K y0 y1 y2 y3) (br (!y1) (zcy a0 a1 a2_0 a2_1 a2_2 a2_3 (yai .i64 (yan .i64 y0_3 1) a2_2) fun y0_9 => br y0_9 (zeb (cvI .u64 (yan .i64 (yai .i64 (yan .i64 (yai .i64 (yan .i64 (ycF (yai .i64 (yan .i64 y0_3 1) a2_2) y0_4) y0) 1) y0_4) y0) 1)) fun y0_10 => zdx y0_10 (yan .i64 y0 1) fun y0 y1 => zdu y0 y0_6 fun y0 y1 => zee y0 fun y0 y1 y2 => zdp a0 a2_0 fun y0_11 y1_1 => K (orI .u64 y0 y0_11) (orI .u64 y1 y1_1) 3 0) (zeb (cvI .u64 (yan .i64 (yai .i64 (yan .i64 (yai .i64 (yan .i64 (ycF (yai .i64 (yan .i64 y0_3 1) a2_2) y0_4) y0) 1) y0_4) y0) 1)) fun y0_10 => zdx y0_10 (yan .i64 y0 1) fun y0 y1 => zdu y0 y0_6 fun y0 y1 => zee y0 fun y0 y1 y2 => zdp a0 a2_0 fun y0_11 y1_1 => K (orI .u64 y0 y0_11) (orI .u64 y1 y1_1) 1 0)) (zeb (cvI .u64 (yan .i64 (yai .i64 (yan .i64 (yai .i64 (yan .i64 (ycF (yai .i64 (yan .i64 y0_3 1) a2_2) y0_4) y0) 1) y0_4) y0) 1)) fun y0_9 => zdx y0_9 (yan .i64 y0 1) fun y0 y1 => zdu y0 y0_6 fun y0 y1 => zee y0 fun y0 y1 y2 => zdp a0 a2_0 fun y0_10 y1_1 => K (orI .u64 y0 y0_10) (orI .u64 y1 y1_1) 0 0)))))) (br (eqN 6 a2_1 fun x => 0) (zdp a0 a2_0 fun y0 y1 => K y0 y1 0 0) (zdy a2_1 fun y0_2 => zdk a0 fun y0_3 => zdj a0 fun y0_4 => br (ltI y0_4 (yai .i64 (yan .i64 y0_2 1) a2_2)) (zct a0 a1 a2_0 fun y0 y1 y2 y3 => K y0 y1 y2 y3) (zcw a1 a2_0 a2_1 a2_2 a2_3 (yai .i64 (yan .i64 (ycF (yai .i64 (yan .i64 y0_2 1) a2_2) y0_3) y0) 1) fun y0_5 y1 => zdy y0_5 fun y0_6 => zdj a0 fun y0_7 => br (ltI y0_7 (yai .i64 (yan .i64 y0_6 1) (yai .i64 (yan .i64 (ycF (yai .i64 (yan .i64 y0_2 1) a2_2) y0_3) y0) 1))) (zct a0 a1 a2_0 fun y0 y1 y2 y3 => K y0 y1 y2 y3) (br (!y1) (zcy a0 a1 a2_0 a2_1 a2_2 a2_3 (yai .i64 (yan .i64 y0_2 1) a2_2) fun y0_8 => br y0_8 (zeb (cvI .u64 (yan .i64 (yai .i64 (yan .i64 (yai .i64 (yan .i64 (ycF (yai .i64 (yan .i64 y0_2 1) a2_2) y0_3) y0) 1) y0_3) y0) 1)) fun y0_9 => zdx y0_9 (yan .i64 y0 1) fun y0 y1 => zdu y0 y0_5 fun y0 y1 => zee y0 fun y0 y1 y2 => zdp a0 a2_0 fun y0_10 y1_1 => K (orI .u64 y0 y0_10) (orI .u64 y1 y1_1) 3 0) (zeb (cvI .u64 (yan .i64 (yai .i64 (yan .i64 (yai .i64 (yan .i64 (ycF (yai .i64 (yan .i64 y0_2 1) a2_2) y0_3) y0) 1) y0_3) y0) 1)) fun y0_9 => zdx y0_9 (yan .i64 y0 1) fun y0 y1 => zdu y0 y0_5 fun y0 y1 => zee y0 fun y0 y1 y2 => zdp a0 a2_0 fun y0_10 y1_1 => K (orI .u64 y0 y0_10) (orI .u64 y1 y1_1) 1 0)) (zeb (cvI .u64 (yan .i64 (yai .i64 (yan .i64 (yai .i64 (yan .i64 (ycF (yai .i64 (yan .i64 y0_2 1) a2_2) y0_3) y0) 1) y0_3) y0) 1)) fun y0_8 => zdx y0_8 (yan .i64 y0 1) fun y0 y1 => zdu y0 y0_5 fun y0 y1 => zee y0 fun y0 y1 y2 => zdp a0 a2_0 fun y0_9 y1_1 => K (orI .u64 y0 y0_9) (orI .u64 y1 y1_1) 0 0))))))))
noncomputable def zcu := shut zcu.d
theorem zcu.is : zcu = zcu.d := shut_is _
end Go.Ev.S

/- The functions as the evaluator has them: what each comes to. -/
set_option maxRecDepth 100000
set_option linter.unusedVariables false
set_option linter.unusedSimpArgs false
namespace Go.Ev.S
open Go Go.Ev
def zar.d (a0 : List UInt8) (K : Int → Prop) : Prop :=
  br (ltI 16384 ↑(List.length a0)) (K 2) (br (!eqS a0 []) (gd (ltI 0 ↑(List.length a0)) (br (eqI (ybm a0 0) 0) (K 2) (K 0))) (K 0))
noncomputable def zar := shut zar.d
theorem zar.is : zar = zar.d := shut_is _
def zbk.d (a0 : List UInt8) (a1 : List UInt8) (K : Bool → Prop) : Prop :=
  zar a0 fun y0 => br (eqI y0 0) (zar a1 fun y0 => K (eqI y0 0)) (K false)
noncomputable def zbk := shut zbk.d
theorem zbk.is : zbk = zbk.d := shut_is _
def zbd.l1.step (again : Nat → Nat → Nat → (Nat → Int) → Prop) (k0 : Nat → Nat → Nat → (Nat → Int) → Prop) (x0 : Nat) (x1 : Nat) (x2 : Nat) (x3 : Nat → Int) : Prop :=
  br (ltI 0 ↑x0) (gd (leI 0 (yan .i64 (↑x0) 1) && ltI (yan .i64 (↑x0) 1) ↑x0) (br (eqI (x3 (Int.toNat (yan .i64 (↑x0) 1))) 0) (gd (leI 0 (yan .i64 (↑x0) 1) && leI (yan .i64 (↑x0) 1) ↑x1) (again (Int.toNat (yan .i64 (↑x0) 1) - 0) (x1 - 0) x2 x3)) (k0 x0 x1 x2 x3))) (k0 x0 x1 x2 x3)
def zbd.l1 (k0 : Nat → Nat → Nat → (Nat → Int) → Prop) : Nat → Nat → Nat → Nat → (Nat → Int) → Prop
  | 0 => fun _ _ _ _ => False
  | n + 1 => zbd.l1.step (zbd.l1 k0 n) k0
def zbd.l1.entry : yao := ⟨LV.mk 1 [(0, 1)] 4 1 false, 1, 21, fun vs H K => match vs, H with
  | [EV.slice 0 0 x0 (some x1) 1], [some (EV.arr .u32 x2 x3)] => ∃ n, zbd.l1 (fun y0 y1 y2 y3 => K (.exit 0) [EV.slice 0 0 y0 (some y1) 1] [some (EV.arr .u32 y2 y3)]) n x0 x1 x2 x3
  | _, _ => False⟩
def zbd.d (a0l : Nat) (a0c : Nat) (a0n : Nat) (a0 : Nat → Int) (K : Nat → Nat → Nat → (Nat → Int) → Prop) : Prop :=
  ∃ n, zbd.l1 (fun y0 y1 y2 y3 => K y0 y1 y2 y3) n a0l a0c a0n a0
noncomputable def zbd := shut zbd.d
theorem zbd.is : zbd = zbd.d := shut_is _
def zbl.l7.step (again : Nat → (Nat → Int) → Nat → Nat → Int → Int → Nat → (Nat → Int) → Prop) (k0 : Nat → Nat → Nat → (Nat → Int) → Prop) (x0 : Nat) (x1 : Nat → Int) (x2 : Nat) (x3 : Nat) (x4 : Int) (x5 : Int) (x6 : Nat) (x7 : Nat → Int) : Prop :=
  br (ltI x5 ↑x0) (gd (leI 0 x5 && ltI x5 ↑x2) (br (ltI x5 ↑x0) (gd (leI 0 x5 && ltI x5 ↑x0) (gd (leI 0 x5 && ltI x5 ↑x2) (again x0 x1 x2 x3 (ya1 .u64 (yai .u64 (yai .u64 x4 (cvI .u64 (x7 (Int.toNat x5)))) (cvI .u64 (x1 (Int.toNat x5)))) 32) (yai .i64 x5 1) x6 (upd x7 (Int.toNat x5) (cvI .u32 (yai .u64 (yai .u64 x4 (cvI .u64 (x7 (Int.toNat x5)))) (cvI .u64 (x1 (Int.toNat x5))))))))) (gd (leI 0 x5 && ltI x5 ↑x2) (again x0 x1 x2 x3 (ya1 .u64 (yai .u64 x4 (cvI .u64 (x7 (Int.toNat x5)))) 32) (yai .i64 x5 1) x6 (upd x7 (Int.toNat x5) (cvI .u32 (yai .u64 x4 (cvI .u64 (x7 (Int.toNat x5)))))))))) (br (ltI 0 x4) (gd (leI 0 x5 && ltI x5 ↑x2) (br (ltI x5 ↑x0) (gd (leI 0 x5 && ltI x5 ↑x0) (gd (leI 0 x5 && ltI x5 ↑x2) (again x0 x1 x2 x3 (ya1 .u64 (yai .u64 (yai .u64 x4 (cvI .u64 (x7 (Int.toNat x5)))) (cvI .u64 (x1 (Int.toNat x5)))) 32) (yai .i64 x5 1) x6 (upd x7 (Int.toNat x5) (cvI .u32 (yai .u64 (yai .u64 x4 (cvI .u64 (x7 (Int.toNat x5)))) (cvI .u64 (x1 (Int.toNat x5))))))))) (gd (leI 0 x5 && ltI x5 ↑x2) (again x0 x1 x2 x3 (ya1 .u64 (yai .u64 x4 (cvI .u64 (x7 (Int.toNat x5)))) 32) (yai .i64 x5 1) x6 (upd x7 (Int.toNat x5) (cvI .u32 (yai .u64 x4 (cvI .u64 (x7 (Int.toNat x5)))))))))) (k0 x2 x3 x6 x7))
def zbl.l7 (k0 : Nat → Nat → Nat → (Nat → Int) → Prop) : Nat → Nat → (Nat → Int) → Nat → Nat → Int → Int → Nat → (Nat → Int) → Prop
  | 0 => fun _ _ _ _ _ _ _ _ => False
  | n + 1 => zbl.l7.step (zbl.l7 k0 n) k0
def zbl.l7.entry : yao := ⟨LV.mk 32 [(0, 32)] 16 0 false, 0, 59, fun vs H K => match vs, H with
  | [EV.rsI .u32 x0 x1, EV.slice 0 0 x2 (some x3) 1, EV.int .u64 x4, EV.int .i64 x5], [some (EV.arr .u32 x6 x7)] => ∃ n, zbl.l7 (fun y0 y1 y2 y3 => K (.exit 0) [EV.slice 0 0 y0 (some y1) 1] [some (EV.arr .u32 y2 y3)]) n x0 x1 x2 x3 x4 x5 x6 x7
  | _, _ => False⟩
def zbl.d (a0n : Nat) (a0 : Nat → Int) (a1n : Nat) (a1 : Nat → Int) (K : Nat → (Nat → Int) → Prop) : Prop :=
  br (ltI ↑a0n ↑a1n) (gd (leI 0 (yai .i64 (↑a1n) 1) && (leI (yai .i64 (↑a1n) 1) (yai .i64 (↑a1n) 1) && leI (yai .i64 (↑a1n) 1) 1099511627776)) (∃ n, zbl.l7 (fun y0 y1 y2 y3 => zbd y0 y1 y2 y3 fun y0 y1 y2 y3 => K y0 y3) n a0n a0 (Int.toNat (yai .i64 (↑a1n) 1)) (Int.toNat (yai .i64 (↑a1n) 1)) 0 0 (Int.toNat (yai .i64 (↑a1n) 1)) (ovl 0 (ygl a1n (Int.toNat (yai .i64 (↑a1n) 1))) a1 fun x => 0))) (gd (leI 0 (yai .i64 (↑a0n) 1) && (leI (yai .i64 (↑a0n) 1) (yai .i64 (↑a0n) 1) && leI (yai .i64 (↑a0n) 1) 1099511627776)) (∃ n, zbl.l7 (fun y0 y1 y2 y3 => zbd y0 y1 y2 y3 fun y0 y1 y2 y3 => K y0 y3) n a1n a1 (Int.toNat (yai .i64 (↑a0n) 1)) (Int.toNat (yai .i64 (↑a0n) 1)) 0 0 (Int.toNat (yai .i64 (↑a0n) 1)) (ovl 0 (ygl a0n (Int.toNat (yai .i64 (↑a0n) 1))) a0 fun x => 0)))
noncomputable def zbl := shut zbl.d
theorem zbl.is : zbl = zbl.d := shut_is _
def zbe.l1.step (again : Nat → (Nat → Int) → Prop) (k0 : Nat → (Nat → Int) → Prop) (x0 : Nat) (x1 : Nat → Int) : Prop :=
  br (ltI 0 ↑x0) (gd (leI 0 (yan .i64 (↑x0) 1) && ltI (yan .i64 (↑x0) 1) ↑x0) (br (eqI (x1 (Int.toNat (yan .i64 (↑x0) 1))) 0) (gd (leI 0 (yan .i64 (↑x0) 1) && leI (yan .i64 (↑x0) 1) ↑x0) (again (Int.toNat (yan .i64 (↑x0) 1) - 0) x1)) (k0 x0 x1))) (k0 x0 x1)
def zbe.l1 (k0 : Nat → (Nat → Int) → Prop) : Nat → Nat → (Nat → Int) → Prop
  | 0 => fun _ _ => False
  | n + 1 => zbe.l1.step (zbe.l1 k0 n) k0
def zbe.l1.entry : yao := ⟨LV.mk 1 [(0, 1)] 4 0 false, 0, 21, fun vs H K => match vs, H with
  | [EV.rsI .u32 x0 x1], [] => ∃ n, zbe.l1 (fun y0 y1 => K (.exit 0) [EV.rsI .u32 y0 y1] []) n x0 x1
  | _, _ => False⟩
def zbe.d (a0n : Nat) (a0 : Nat → Int) (K : Nat → (Nat → Int) → Prop) : Prop :=
  ∃ n, zbe.l1 (fun y0 y1 => K y0 y1) n a0n a0
noncomputable def zbe := shut zbe.d
theorem zbe.is : zbe = zbe.d := shut_is _
def zbi.l4.step (again : Nat → (Nat → Int) → Nat → Nat → Int → Int → Nat → (Nat → Int) → Prop) (k0 : Nat → Nat → Nat → (Nat → Int) → Prop) (x0 : Nat) (x1 : Nat → Int) (x2 : Nat) (x3 : Nat) (x4 : Int) (x5 : Int) (x6 : Nat) (x7 : Nat → Int) : Prop :=
  br (ltI x5 x4) (gd (leI 0 (yaI .i64 x5 4) && ltI (yaI .i64 x5 4) ↑x0) (gd (!ltI (cvI .u64 (ycj .i64 8 (ycm .i64 x5 4))) 0) (gd (leI 0 (yan .i64 (yan .i64 (↑x2) 1) x5) && ltI (yan .i64 (yan .i64 (↑x2) 1) x5) ↑x2) (again x0 x1 x2 x3 x4 (yai .i64 x5 1) x6 (upd x7 (Int.toNat (yan .i64 (yan .i64 (↑x2) 1) x5)) (cvI .u8 (ya1 .u32 (x1 (Int.toNat (yaI .i64 x5 4))) (cvI .u64 (ycj .i64 8 (ycm .i64 x5 4)))))))))) (k0 x2 x3 x6 x7)
def zbi.l4 (k0 : Nat → Nat → Nat → (Nat → Int) → Prop) : Nat → Nat → (Nat → Int) → Nat → Nat → Int → Int → Nat → (Nat → Int) → Prop
  | 0 => fun _ _ _ _ _ _ _ _ => False
  | n + 1 => zbi.l4.step (zbi.l4 k0 n) k0
def zbi.l4.entry : yao := ⟨LV.mk 8 [(0, 8)] 4 0 false, 0, 48, fun vs H K => match vs, H with
  | [EV.rsI .u32 x0 x1, EV.slice 0 0 x2 (some x3) 1, EV.int .i64 x4, EV.int .i64 x5], [some (EV.arr .u8 x6 x7)] => ∃ n, zbi.l4 (fun y0 y1 y2 y3 => K (.exit 0) [EV.slice 0 0 y0 (some y1) 1] [some (EV.arr .u8 y2 y3)]) n x0 x1 x2 x3 x4 x5 x6 x7
  | _, _ => False⟩
def zbi.l8.step (again : Nat → Nat → Nat → Nat → (Nat → Int) → Prop) (k0 : Nat → Nat → Nat → Nat → (Nat → Int) → Prop) (x0 : Nat) (x1 : Nat) (x2 : Nat) (x3 : Nat) (x4 : Nat → Int) : Prop :=
  br (ltI 0 ↑x1) (gd (ltI 0 ↑x1) (br (eqI (x4 (yhs x0 0)) 0) (gd (leI 1 ↑x1 && leI ↑x1 ↑x2) (again (yhs x0 1) (Int.toNat ↑x1 - 1) (x2 - 1) x3 x4)) (k0 x0 x1 x2 x3 x4))) (k0 x0 x1 x2 x3 x4)
def zbi.l8 (k0 : Nat → Nat → Nat → Nat → (Nat → Int) → Prop) : Nat → Nat → Nat → Nat → Nat → (Nat → Int) → Prop
  | 0 => fun _ _ _ _ _ => False
  | n + 1 => zbi.l8.step (zbi.l8 k0 n) k0
def zbi.l8.entry : yao := ⟨LV.mk 8 [(2, 8)] 4 0 false, 0, 48, fun vs H K => match vs, H with
  | [EV.slice 0 x0 x1 (some x2) 1], [some (EV.arr .u8 x3 x4)] => ∃ n, zbi.l8 (fun y0 y1 y2 y3 y4 => K (.exit 2) [EV.slice 0 y0 y1 (some y2) 1] [some (EV.arr .u8 y3 y4)]) n x0 x1 x2 x3 x4
  | _, _ => False⟩
def zbi.d (a0n : Nat) (a0 : Nat → Int) (K : List UInt8 → Prop) : Prop :=
  zbe a0n a0 fun y0 y1 => gd (leI 0 (ycj .i64 4 ↑y0) && (leI (ycj .i64 4 ↑y0) (ycj .i64 4 ↑y0) && leI (ycj .i64 4 ↑y0) 1099511627776)) (∃ n, zbi.l4 (fun y0 y1 y2 y3 => ∃ n, zbi.l8 (fun y0 y1 y2 y3 y4 => K (ybD y1 (shift y0 y4))) n 0 y0 y1 y2 y3) n y0 y1 (Int.toNat (ycj .i64 4 ↑y0)) (Int.toNat (ycj .i64 4 ↑y0)) (↑(Int.toNat (ycj .i64 4 ↑y0))) 0 (Int.toNat (ycj .i64 4 ↑y0)) fun x => 0)
noncomputable def zbi := shut zbi.d
theorem zbi.is : zbi = zbi.d := shut_is _
def zbn.d (a0n : Nat) (a0 : Nat → Int) (K : List UInt8 → Int → Prop) : Prop :=
  zbi a0n a0 fun y0 => br (ltI 16384 ↑(List.length y0)) (K [] 4) (K y0 0)
noncomputable def zbn := shut zbn.d
theorem zbn.is : zbn = zbn.d := shut_is _
def zbq.l3.step (again : List UInt8 → Nat → Nat → Int → Int → Nat → (Nat → Int) → Prop) (k0 : Nat → Nat → Nat → (Nat → Int) → Prop) (x0 : List UInt8) (x1 : Nat) (x2 : Nat) (x3 : Int) (x4 : Int) (x5 : Nat) (x6 : Nat → Int) : Prop :=
  br (ltI x4 x3) (gd (leI 0 (yaI .i64 x4 4) && ltI (yaI .i64 x4 4) ↑x1) (gd (leI 0 (yan .i64 (yan .i64 (↑(List.length x0)) 1) x4) && ltI (yan .i64 (yan .i64 (↑(List.length x0)) 1) x4) ↑(List.length x0)) (gd (!ltI (cvI .u64 (ycj .i64 8 (ycm .i64 x4 4))) 0) (gd (leI 0 (yaI .i64 x4 4) && ltI (yaI .i64 x4 4) ↑x1) (again x0 x1 x2 x3 (yai .i64 x4 1) x5 (upd x6 (Int.toNat (yaI .i64 x4 4)) (orI .u32 (x6 (Int.toNat (yaI .i64 x4 4))) (ybM .u32 (cvI .u32 (ybm x0 (Int.toNat (yan .i64 (yan .i64 (↑(List.length x0)) 1) x4)))) (cvI .u64 (ycj .i64 8 (ycm .i64 x4 4))))))))))) (k0 x1 x2 x5 x6)
def zbq.l3 (k0 : Nat → Nat → Nat → (Nat → Int) → Prop) : Nat → List UInt8 → Nat → Nat → Int → Int → Nat → (Nat → Int) → Prop
  | 0 => fun _ _ _ _ _ _ _ => False
  | n + 1 => zbq.l3.step (zbq.l3 k0 n) k0
def zbq.l3.entry : yao := ⟨LV.mk 8 [(0, 8)] 4 0 false, 0, 37, fun vs H K => match vs, H with
  | [EV.str x0, EV.slice 0 0 x1 (some x2) 1, EV.int .i64 x3, EV.int .i64 x4], [some (EV.arr .u32 x5 x6)] => ∃ n, zbq.l3 (fun y0 y1 y2 y3 => K (.exit 0) [EV.slice 0 0 y0 (some y1) 1] [some (EV.arr .u32 y2 y3)]) n x0 x1 x2 x3 x4 x5 x6
  | _, _ => False⟩
def zbq.d (a0 : List UInt8) (K : Nat → (Nat → Int) → Prop) : Prop :=
  gd (leI 0 (yaI .i64 (yai .i64 (↑(List.length a0)) 3) 4) && (leI (yaI .i64 (yai .i64 (↑(List.length a0)) 3) 4) (yaI .i64 (yai .i64 (↑(List.length a0)) 3) 4) && leI (yaI .i64 (yai .i64 (↑(List.length a0)) 3) 4) 1099511627776)) (∃ n, zbq.l3 (fun y0 y1 y2 y3 => K y0 y3) n a0 (Int.toNat (yaI .i64 (yai .i64 (↑(List.length a0)) 3) 4)) (Int.toNat (yaI .i64 (yai .i64 (↑(List.length a0)) 3) 4)) (↑(List.length a0)) 0 (Int.toNat (yaI .i64 (yai .i64 (↑(List.length a0)) 3) 4)) fun x => 0)
noncomputable def zbq := shut zbq.d
theorem zbq.is : zbq = zbq.d := shut_is _
def zaq.d (a0 : List UInt8) (a1 : List UInt8) (K : List UInt8 → Int → Prop) : Prop :=
  zbk a0 a1 fun y0 => br (!y0) (K [] 2) (zbq a0 fun y0 y1 => zbq a1 fun y0_1 y1_1 => zbl y0 y1 y0_1 y1_1 fun y0 y1 => zbn y0 y1 fun y0 y1 => K y0 y1)
noncomputable def zaq := shut zaq.d
theorem zaq.is : zaq = zaq.d := shut_is _
def zbb.l6.step (again : Nat → (Nat → Int) → Nat → (Nat → Int) → Int → Prop) (k0 : Int → Prop) (k1 : Prop) (x0 : Nat) (x1 : Nat → Int) (x2 : Nat) (x3 : Nat → Int) (x4 : Int) : Prop :=
  br (leI 0 x4) (gd (leI 0 x4 && ltI x4 ↑x0) (gd (leI 0 x4 && ltI x4 ↑x2) (br (ltI (x1 (Int.toNat x4)) (x3 (Int.toNat x4))) (k0 (-1)) (gd (leI 0 x4 && ltI x4 ↑x0) (gd (leI 0 x4 && ltI x4 ↑x2) (br (ltI (x3 (Int.toNat x4)) (x1 (Int.toNat x4))) (k0 1) (again x0 x1 x2 x3 (yan .i64 x4 1)))))))) k1
def zbb.l6 (k0 : Int → Prop) (k1 : Prop) : Nat → Nat → (Nat → Int) → Nat → (Nat → Int) → Int → Prop
  | 0 => fun _ _ _ _ _ => False
  | n + 1 => zbb.l6.step (zbb.l6 k0 k1 n) k0 k1
def zbb.l6.entry : yao := ⟨LV.mk 0 [(1, 0)] 16 0 false, 0, 45, fun vs H K => match vs, H with
  | [EV.rsI .u32 x0 x1, EV.rsI .u32 x2 x3, EV.int .i64 x4], [] => ∃ n, zbb.l6 (fun y0 => K .ret [EV.int .i64 y0] []) (K (.exit 1) [] []) n x0 x1 x2 x3 x4
  | _, _ => False⟩
def zbb.d (a0n : Nat) (a0 : Nat → Int) (a1n : Nat) (a1 : Nat → Int) (K : Int → Prop) : Prop :=
  br (ltI ↑a0n ↑a1n) (K (-1)) (br (ltI ↑a1n ↑a0n) (K 1) (∃ n, zbb.l6 (fun y0 => K y0) (K 0) n a0n a0 a1n a1 (yan .i64 (↑a0n) 1)))
noncomputable def zbb := shut zbb.d
theorem zbb.is : zbb = zbb.d := shut_is _
def zas.d (a0 : List UInt8) (a1 : List UInt8) (K : Int → Int → Prop) : Prop :=
  zbk a0 a1 fun y0 => br (!y0) (K 0 2) (zbq a0 fun y0 y1 => zbq a1 fun y0_1 y1_1 => zbb y0 y1 y0_1 y1_1 fun y0 => K y0 0)
noncomputable def zas := shut zas.d
theorem zas.is : zas = zas.d := shut_is _
def zbc.l1.step (again : Nat → Nat → (Nat → Int) → Prop) (k0 : Nat → Nat → (Nat → Int) → Prop) (x0 : Nat) (x1 : Nat) (x2 : Nat → Int) : Prop :=
  br (ltI 0 ↑x0) (gd (leI 0 (yan .i64 (↑x0) 1) && ltI (yan .i64 (↑x0) 1) ↑x0) (br (eqI (x2 (Int.toNat (yan .i64 (↑x0) 1))) 0) (gd (leI 0 (yan .i64 (↑x0) 1) && leI (yan .i64 (↑x0) 1) ↑x0) (again (Int.toNat (yan .i64 (↑x0) 1) - 0) x1 x2)) (k0 x0 x1 x2))) (k0 x0 x1 x2)
def zbc.l1 (k0 : Nat → Nat → (Nat → Int) → Prop) : Nat → Nat → Nat → (Nat → Int) → Prop
  | 0 => fun _ _ _ => False
  | n + 1 => zbc.l1.step (zbc.l1 k0 n) k0
def zbc.l1.entry : yao := ⟨LV.mk 1 [(0, 1)] 4 1 false, 1, 21, fun vs H K => match vs, H with
  | [EV.slice 0 0 x0 none 1], [some (EV.arr .u32 x1 x2)] => ∃ n, zbc.l1 (fun y0 y1 y2 => K (.exit 0) [EV.slice 0 0 y0 none 1] [some (EV.arr .u32 y1 y2)]) n x0 x1 x2
  | _, _ => False⟩
def zbc.d (a0l : Nat) (a0n : Nat) (a0 : Nat → Int) (K : Nat → Nat → (Nat → Int) → Prop) : Prop :=
  ∃ n, zbc.l1 (fun y0 y1 y2 => K y0 y1 y2) n a0l a0n a0
noncomputable def zbc := shut zbc.d
theorem zbc.is : zbc = zbc.d := shut_is _
def zbf.l5.step (again : Nat → (Nat → Int) → Int → Nat → Nat → Int → Int → Nat → (Nat → Int) → Prop) (k0 : Nat → Nat → Nat → (Nat → Int) → Prop) (x0 : Nat) (x1 : Nat → Int) (x2 : Int) (x3 : Nat) (x4 : Nat) (x5 : Int) (x6 : Int) (x7 : Nat) (x8 : Nat → Int) : Prop :=
  br (ltI x6 x5) (gd (leI 0 (yai .i64 x6 (yaI .i64 x2 32)) && ltI (yai .i64 x6 (yaI .i64 x2 32)) ↑x0) (br (ltI (yai .i64 (yai .i64 x6 (yaI .i64 x2 32)) 1) ↑x0) (gd (leI 0 (yai .i64 (yai .i64 x6 (yaI .i64 x2 32)) 1) && ltI (yai .i64 (yai .i64 x6 (yaI .i64 x2 32)) 1) ↑x0) (gd (!ltI (cvI .u64 (ycm .i64 x2 32)) 0) (gd (leI 0 x6 && ltI x6 ↑x3) (again x0 x1 x2 x3 x4 x5 (yai .i64 x6 1) x7 (upd x8 (Int.toNat x6) (cvI .u32 (ya1 .u64 (orI .u64 (cvI .u64 (x1 (Int.toNat (yai .i64 x6 (yaI .i64 x2 32))))) (ybM .u64 (cvI .u64 (x1 (Int.toNat (yai .i64 (yai .i64 x6 (yaI .i64 x2 32)) 1)))) 32)) (cvI .u64 (ycm .i64 x2 32))))))))) (gd (!ltI (cvI .u64 (ycm .i64 x2 32)) 0) (gd (leI 0 x6 && ltI x6 ↑x3) (again x0 x1 x2 x3 x4 x5 (yai .i64 x6 1) x7 (upd x8 (Int.toNat x6) (cvI .u32 (ya1 .u64 (cvI .u64 (x1 (Int.toNat (yai .i64 x6 (yaI .i64 x2 32))))) (cvI .u64 (ycm .i64 x2 32)))))))))) (k0 x3 x4 x7 x8)
def zbf.l5 (k0 : Nat → Nat → Nat → (Nat → Int) → Prop) : Nat → Nat → (Nat → Int) → Int → Nat → Nat → Int → Int → Nat → (Nat → Int) → Prop
  | 0 => fun _ _ _ _ _ _ _ _ _ => False
  | n + 1 => zbf.l5.step (zbf.l5 k0 n) k0
def zbf.l5.entry : yao := ⟨LV.mk 32 [(0, 32)] 16 0 false, 0, 64, fun vs H K => match vs, H with
  | [EV.rsI .u32 x0 x1, EV.int .i64 x2, EV.slice 0 0 x3 (some x4) 1, EV.int .i64 x5, EV.int .i64 x6], [some (EV.arr .u32 x7 x8)] => ∃ n, zbf.l5 (fun y0 y1 y2 y3 => K (.exit 0) [EV.slice 0 0 y0 (some y1) 1] [some (EV.arr .u32 y2 y3)]) n x0 x1 x2 x3 x4 x5 x6 x7 x8
  | _, _ => False⟩
def zbf.d (a0n : Nat) (a0 : Nat → Int) (a1 : Int) (K : Nat → (Nat → Int) → Prop) : Prop :=
  br (leI (↑a0n) (yaI .i64 a1 32)) (K 0 fun x => 0) (gd (leI 0 (yan .i64 (↑a0n) (yaI .i64 a1 32)) && (leI (yan .i64 (↑a0n) (yaI .i64 a1 32)) (yan .i64 (↑a0n) (yaI .i64 a1 32)) && leI (yan .i64 (↑a0n) (yaI .i64 a1 32)) 1099511627776)) (∃ n, zbf.l5 (fun y0 y1 y2 y3 => zbd y0 y1 y2 y3 fun y0 y1 y2 y3 => K y0 y3) n a0n a0 a1 (Int.toNat (yan .i64 (↑a0n) (yaI .i64 a1 32))) (Int.toNat (yan .i64 (↑a0n) (yaI .i64 a1 32))) (↑(Int.toNat (yan .i64 (↑a0n) (yaI .i64 a1 32)))) 0 (Int.toNat (yan .i64 (↑a0n) (yaI .i64 a1 32))) fun x => 0))
noncomputable def zbf := shut zbf.d
theorem zbf.is : zbf = zbf.d := shut_is _
def zbo.l5.step (again : Int → Nat → Nat → Nat → (Nat → Int) → Int → Int → Nat → (Nat → Int) → Prop) (k0 : Nat → Nat → Nat → (Nat → Int) → Prop) (x0 : Int) (x1 : Nat) (x2 : Nat) (x3 : Nat) (x4 : Nat → Int) (x5 : Int) (x6 : Int) (x7 : Nat) (x8 : Nat → Int) : Prop :=
  br (ltI x6 x5) (gd (leI 0 x6 && ltI x6 ↑x3) (gd (!ltI (cvI .u64 (ycm .i64 x0 32)) 0) (gd (leI 0 (yai .i64 x6 (yaI .i64 x0 32)) && ltI (yai .i64 x6 (yaI .i64 x0 32)) ↑x1) (gd (leI 0 (yai .i64 x6 (yaI .i64 x0 32)) && ltI (yai .i64 x6 (yaI .i64 x0 32)) ↑x1) (gd (leI 0 (yai .i64 (yai .i64 x6 (yaI .i64 x0 32)) 1) && ltI (yai .i64 (yai .i64 x6 (yaI .i64 x0 32)) 1) ↑x1) (gd (leI 0 (yai .i64 (yai .i64 x6 (yaI .i64 x0 32)) 1) && ltI (yai .i64 (yai .i64 x6 (yaI .i64 x0 32)) 1) ↑x1) (again x0 x1 x2 x3 x4 x5 (yai .i64 x6 1) x7 (upd (upd x8 (Int.toNat (yai .i64 x6 (yaI .i64 x0 32))) (orI .u32 (x8 (Int.toNat (yai .i64 x6 (yaI .i64 x0 32)))) (cvI .u32 (ybM .u64 (cvI .u64 (x4 (Int.toNat x6))) (cvI .u64 (ycm .i64 x0 32)))))) (Int.toNat (yai .i64 (yai .i64 x6 (yaI .i64 x0 32)) 1)) (orI .u32 (upd x8 (Int.toNat (yai .i64 x6 (yaI .i64 x0 32))) (orI .u32 (x8 (Int.toNat (yai .i64 x6 (yaI .i64 x0 32)))) (cvI .u32 (ybM .u64 (cvI .u64 (x4 (Int.toNat x6))) (cvI .u64 (ycm .i64 x0 32))))) (Int.toNat (yai .i64 (yai .i64 x6 (yaI .i64 x0 32)) 1))) (cvI .u32 (ya1 .u64 (ybM .u64 (cvI .u64 (x4 (Int.toNat x6))) (cvI .u64 (ycm .i64 x0 32))) 32))))))))))) (k0 x1 x2 x7 x8)
def zbo.l5 (k0 : Nat → Nat → Nat → (Nat → Int) → Prop) : Nat → Int → Nat → Nat → Nat → (Nat → Int) → Int → Int → Nat → (Nat → Int) → Prop
  | 0 => fun _ _ _ _ _ _ _ _ _ => False
  | n + 1 => zbo.l5.step (zbo.l5 k0 n) k0
def zbo.l5.entry : yao := ⟨LV.mk 32 [(0, 32)] 16 0 false, 0, 59, fun vs H K => match vs, H with
  | [EV.int .i64 x0, EV.slice 0 0 x1 (some x2) 1, EV.rsI .u32 x3 x4, EV.int .i64 x5, EV.int .i64 x6], [some (EV.arr .u32 x7 x8)] => ∃ n, zbo.l5 (fun y0 y1 y2 y3 => K (.exit 0) [EV.slice 0 0 y0 (some y1) 1] [some (EV.arr .u32 y2 y3)]) n x0 x1 x2 x3 x4 x5 x6 x7 x8
  | _, _ => False⟩
def zbo.d (a0n : Nat) (a0 : Nat → Int) (a1 : Int) (K0 : Prop) (K1 : Nat → Nat → Nat → (Nat → Int) → Prop) : Prop :=
  br (eqI (↑a0n) 0) K0 (gd (leI 0 (yai .i64 (yai .i64 (↑a0n) (yaI .i64 a1 32)) 1) && (leI (yai .i64 (yai .i64 (↑a0n) (yaI .i64 a1 32)) 1) (yai .i64 (yai .i64 (↑a0n) (yaI .i64 a1 32)) 1) && leI (yai .i64 (yai .i64 (↑a0n) (yaI .i64 a1 32)) 1) 1099511627776)) (∃ n, zbo.l5 (fun y0 y1 y2 y3 => zbd y0 y1 y2 y3 fun y0 y1 y2 y3 => K1 y0 y1 y2 y3) n a1 (Int.toNat (yai .i64 (yai .i64 (↑a0n) (yaI .i64 a1 32)) 1)) (Int.toNat (yai .i64 (yai .i64 (↑a0n) (yaI .i64 a1 32)) 1)) a0n a0 (↑a0n) 0 (Int.toNat (yai .i64 (yai .i64 (↑a0n) (yaI .i64 a1 32)) 1)) fun x => 0))
noncomputable def zbo := shut zbo.d
theorem zbo.is : zbo = zbo.d := shut_is _
def zbj.l7.step (again : Nat → (Nat → Int) → Nat → (Nat → Int) → Nat → Int → Int → Nat → (Nat → Int) → Prop) (k0 : Nat → Int → Nat → (Nat → Int) → Prop) (x0 : Nat) (x1 : Nat → Int) (x2 : Nat) (x3 : Nat → Int) (x4 : Nat) (x5 : Int) (x6 : Int) (x7 : Nat) (x8 : Nat → Int) : Prop :=
  br (leI 0 x6) (gd (leI 0 x6 && ltI x6 ↑x0) (gd (ltI 0 ↑x2) (gd (!eqI (cvI .u64 (x3 0)) 0) (gd (leI 0 x6 && ltI x6 ↑x4) (gd (ltI 0 ↑x2) (gd (!eqI (cvI .u64 (x3 0)) 0) (again x0 x1 x2 x3 x4 (ycm .u64 (orI .u64 (ybM .u64 x5 32) (cvI .u64 (x1 (Int.toNat x6)))) (cvI .u64 (x3 0))) (yan .i64 x6 1) x7 (upd x8 (Int.toNat x6) (cvI .u32 (yaI .u64 (orI .u64 (ybM .u64 x5 32) (cvI .u64 (x1 (Int.toNat x6)))) (cvI .u64 (x3 0)))))))))))) (k0 x4 x5 x7 x8)
def zbj.l7 (k0 : Nat → Int → Nat → (Nat → Int) → Prop) : Nat → Nat → (Nat → Int) → Nat → (Nat → Int) → Nat → Int → Int → Nat → (Nat → Int) → Prop
  | 0 => fun _ _ _ _ _ _ _ _ _ => False
  | n + 1 => zbj.l7.step (zbj.l7 k0 n) k0
def zbj.l7.entry : yao := ⟨LV.mk 80 [(0, 80)] 48 0 true, 0, 285, fun vs H K => match vs, H with
  | [EV.rsI .u32 x0 x1, EV.rsI .u32 x2 x3, EV.slice 0 0 x4 none 1, EV.int .u64 x5, EV.int .i64 x6], [some (EV.arr .u32 x7 x8)] => ∃ n, zbj.l7 (fun y0 y1 y2 y3 => K (.exit 0) [EV.slice 0 0 y0 none 1, EV.int .u64 y1] [some (EV.arr .u32 y2 y3)]) n x0 x1 x2 x3 x4 x5 x6 x7 x8
  | _, _ => False⟩
def zbj.l16.step (again : Nat → (Nat → Int) → Nat → Int → Nat → Nat → Nat → (Nat → Int) → Nat → (Nat → Int) → Nat → (Nat → Int) → Prop) (k0 : Nat → Int → Nat → Nat → Nat → (Nat → Int) → Nat → (Nat → Int) → Nat → (Nat → Int) → Prop) (x0 : Nat) (x1 : Nat → Int) (x2 : Nat) (x3 : Int) (x4 : Nat) (x5 : Nat) (x6 : Nat) (x7 : Nat → Int) (x8 : Nat) (x9 : Nat → Int) (x10 : Nat) (x11 : Nat → Int) : Prop :=
  br (ltI (↑x5) (yai .i64 (↑x0) 1)) (gd (leN (x5 + 1) 1099511627776) (again x0 x1 x2 x3 x4 (x5 + 1) x6 x7 x8 x9 (x5 + 1) (app x5 x11 (upd (fun x => 0) 0 0)))) (k0 x2 x3 x4 x5 x6 x7 x8 x9 x10 x11)
def zbj.l16 (k0 : Nat → Int → Nat → Nat → Nat → (Nat → Int) → Nat → (Nat → Int) → Nat → (Nat → Int) → Prop) : Nat → Nat → (Nat → Int) → Nat → Int → Nat → Nat → Nat → (Nat → Int) → Nat → (Nat → Int) → Nat → (Nat → Int) → Prop
  | 0 => fun _ _ _ _ _ _ _ _ _ _ _ _ => False
  | n + 1 => zbj.l16.step (zbj.l16 k0 n) k0
def zbj.l16.entry : yao := ⟨LV.mk 1808 [(2, 1808)] 48 0 true, 0, 285, fun vs H K => match vs, H with
  | [EV.rsI .u32 x0 x1, EV.slice 0 0 x2 none 1, EV.int .i64 x3, EV.slice 1 0 x4 none 1, EV.slice 2 0 x5 none 1], [some (EV.arr .u32 x6 x7), some (EV.arr .u32 x8 x9), some (EV.arr .u32 x10 x11)] => ∃ n, zbj.l16 (fun y0 y1 y2 y3 y4 y5 y6 y7 y8 y9 => K (.exit 2) [EV.slice 0 0 y0 none 1, EV.int .i64 y1, EV.slice 1 0 y2 none 1, EV.slice 2 0 y3 none 1] [some (EV.arr .u32 y4 y5), some (EV.arr .u32 y6 y7), some (EV.arr .u32 y8 y9)]) n x0 x1 x2 x3 x4 x5 x6 x7 x8 x9 x10 x11
  | _, _ => False⟩
def zbj.l24.step (again : Nat → Int → Nat → Nat → Int → Int → Int → Int → Nat → (Nat → Int) → Nat → (Nat → Int) → Nat → (Nat → Int) → Prop) (k0 : Nat → Int → Nat → Nat → Int → Int → Int → Nat → (Nat → Int) → Nat → (Nat → Int) → Nat → (Nat → Int) → Prop) (x0 : Nat) (x1 : Int) (x2 : Nat) (x3 : Nat) (x4 : Int) (x5 : Int) (x6 : Int) (x7 : Int) (x8 : Nat) (x9 : Nat → Int) (x10 : Nat) (x11 : Nat → Int) (x12 : Nat) (x13 : Nat → Int) : Prop :=
  br (leI 4294967296 x6) (gd (leI 0 (yan .i64 x4 1) && ltI (yan .i64 x4 1) ↑x2) (br (leI 4294967296 (yai .u64 x7 (cvI .u64 (x11 (Int.toNat (yan .i64 x4 1)))))) (k0 x0 x1 x2 x3 x4 x5 (yan .u64 x6 1) x8 x9 x10 x11 x12 x13) (again x0 x1 x2 x3 x4 x5 (yan .u64 x6 1) (yai .u64 x7 (cvI .u64 (x11 (Int.toNat (yan .i64 x4 1))))) x8 x9 x10 x11 x12 x13))) (gd (leI 0 (yan .i64 x4 2) && ltI (yan .i64 x4 2) ↑x2) (gd (leI 0 (yan .i64 (yai .i64 x5 x4) 2) && ltI (yan .i64 (yai .i64 x5 x4) 2) ↑x3) (br (ltI (orI .u64 (ybM .u64 x7 32) (cvI .u64 (x13 (Int.toNat (yan .i64 (yai .i64 x5 x4) 2))))) (ycj .u64 x6 (cvI .u64 (x11 (Int.toNat (yan .i64 x4 2)))))) (gd (leI 0 (yan .i64 x4 1) && ltI (yan .i64 x4 1) ↑x2) (br (leI 4294967296 (yai .u64 x7 (cvI .u64 (x11 (Int.toNat (yan .i64 x4 1)))))) (k0 x0 x1 x2 x3 x4 x5 (yan .u64 x6 1) x8 x9 x10 x11 x12 x13) (again x0 x1 x2 x3 x4 x5 (yan .u64 x6 1) (yai .u64 x7 (cvI .u64 (x11 (Int.toNat (yan .i64 x4 1))))) x8 x9 x10 x11 x12 x13))) (k0 x0 x1 x2 x3 x4 x5 x6 x8 x9 x10 x11 x12 x13))))
def zbj.l24 (k0 : Nat → Int → Nat → Nat → Int → Int → Int → Nat → (Nat → Int) → Nat → (Nat → Int) → Nat → (Nat → Int) → Prop) : Nat → Nat → Int → Nat → Nat → Int → Int → Int → Int → Nat → (Nat → Int) → Nat → (Nat → Int) → Nat → (Nat → Int) → Prop
  | 0 => fun _ _ _ _ _ _ _ _ _ _ _ _ _ _ => False
  | n + 1 => zbj.l24.step (zbj.l24 k0 n) k0
def zbj.l24.entry : yao := ⟨LV.mk 24336 [(6, 24336), (5, 7952), (4, 1296)] 48 0 true, 0, 285, fun vs H K => match vs, H with
  | [EV.slice 0 0 x0 none 1, EV.int .i64 x1, EV.slice 1 0 x2 none 1, EV.slice 2 0 x3 none 1, EV.int .i64 x4, EV.int .i64 x5, EV.int .u64 x6, EV.int .u64 x7], [some (EV.arr .u32 x8 x9), some (EV.arr .u32 x10 x11), some (EV.arr .u32 x12 x13)] => ∃ n, zbj.l24 (fun y0 y1 y2 y3 y4 y5 y6 y7 y8 y9 y10 y11 y12 => K (.exit 6) [EV.slice 0 0 y0 none 1, EV.int .i64 y1, EV.slice 1 0 y2 none 1, EV.slice 2 0 y3 none 1, EV.int .i64 y4, EV.int .i64 y5, EV.int .u64 y6] [some (EV.arr .u32 y7 y8), some (EV.arr .u32 y9 y10), some (EV.arr .u32 y11 y12)]) n x0 x1 x2 x3 x4 x5 x6 x7 x8 x9 x10 x11 x12 x13
  | _, _ => False⟩
def zbj.l31.step (again : Nat → Int → Nat → Nat → Int → Int → Int → Int → Int → Int → Int → Nat → (Nat → Int) → Nat → (Nat → Int) → Nat → (Nat → Int) → Prop) (k0 : Nat → Int → Nat → Nat → Int → Int → Int → Int → Int → Nat → (Nat → Int) → Nat → (Nat → Int) → Nat → (Nat → Int) → Prop) (x0 : Nat) (x1 : Int) (x2 : Nat) (x3 : Nat) (x4 : Int) (x5 : Int) (x6 : Int) (x7 : Int) (x8 : Int) (x9 : Int) (x10 : Int) (x11 : Nat) (x12 : Nat → Int) (x13 : Nat) (x14 : Nat → Int) (x15 : Nat) (x16 : Nat → Int) : Prop :=
  br (ltI x10 x9) (gd (leI 0 x10 && ltI x10 ↑x2) (gd (leI 0 (yai .i64 x5 x10) && ltI (yai .i64 x5 x10) ↑x3) (gd (leI 0 (yai .i64 x5 x10) && ltI (yai .i64 x5 x10) ↑x3) (again x0 x1 x2 x3 x4 x5 x6 (ya1 .u64 (yai .u64 x7 (ycj .u64 x6 (cvI .u64 (x14 (Int.toNat x10))))) 32) (ya1 .i64 (yai .i64 x8 (yan .i64 (cvI .i64 (x16 (Int.toNat (yai .i64 x5 x10)))) (cvI .i64 (cvI .u32 (yai .u64 x7 (ycj .u64 x6 (cvI .u64 (x14 (Int.toNat x10))))))))) 32) x9 (yai .i64 x10 1) x11 x12 x13 x14 x15 (upd x16 (Int.toNat (yai .i64 x5 x10)) (cvI .u32 (yai .i64 x8 (yan .i64 (cvI .i64 (x16 (Int.toNat (yai .i64 x5 x10)))) (cvI .i64 (cvI .u32 (yai .u64 x7 (ycj .u64 x6 (cvI .u64 (x14 (Int.toNat x10))))))))))))))) (k0 x0 x1 x2 x3 x4 x5 x6 x7 x8 x11 x12 x13 x14 x15 x16)
def zbj.l31 (k0 : Nat → Int → Nat → Nat → Int → Int → Int → Int → Int → Nat → (Nat → Int) → Nat → (Nat → Int) → Nat → (Nat → Int) → Prop) : Nat → Nat → Int → Nat → Nat → Int → Int → Int → Int → Int → Int → Int → Nat → (Nat → Int) → Nat → (Nat → Int) → Nat → (Nat → Int) → Prop
  | 0 => fun _ _ _ _ _ _ _ _ _ _ _ _ _ _ _ _ _ => False
  | n + 1 => zbj.l31.step (zbj.l31 k0 n) k0
def zbj.l31.entry : yao := ⟨LV.mk 220944 [(8, 220944), (5, 7952), (4, 1296)] 48 0 true, 0, 285, fun vs H K => match vs, H with
  | [EV.slice 0 0 x0 none 1, EV.int .i64 x1, EV.slice 1 0 x2 none 1, EV.slice 2 0 x3 none 1, EV.int .i64 x4, EV.int .i64 x5, EV.int .u64 x6, EV.int .u64 x7, EV.int .i64 x8, EV.int .i64 x9, EV.int .i64 x10], [some (EV.arr .u32 x11 x12), some (EV.arr .u32 x13 x14), some (EV.arr .u32 x15 x16)] => ∃ n, zbj.l31 (fun y0 y1 y2 y3 y4 y5 y6 y7 y8 y9 y10 y11 y12 y13 y14 => K (.exit 8) [EV.slice 0 0 y0 none 1, EV.int .i64 y1, EV.slice 1 0 y2 none 1, EV.slice 2 0 y3 none 1, EV.int .i64 y4, EV.int .i64 y5, EV.int .u64 y6, EV.int .u64 y7, EV.int .i64 y8] [some (EV.arr .u32 y9 y10), some (EV.arr .u32 y11 y12), some (EV.arr .u32 y13 y14)]) n x0 x1 x2 x3 x4 x5 x6 x7 x8 x9 x10 x11 x12 x13 x14 x15 x16
  | _, _ => False⟩
def zbj.l45.step (again : Nat → Int → Nat → Nat → Int → Int → Int → Int → Int → Int → Nat → (Nat → Int) → Nat → (Nat → Int) → Nat → (Nat → Int) → Prop) (k0 : Nat → Int → Nat → Nat → Int → Int → Int → Int → Nat → (Nat → Int) → Nat → (Nat → Int) → Nat → (Nat → Int) → Prop) (x0 : Nat) (x1 : Int) (x2 : Nat) (x3 : Nat) (x4 : Int) (x5 : Int) (x6 : Int) (x7 : Int) (x8 : Int) (x9 : Int) (x10 : Nat) (x11 : Nat → Int) (x12 : Nat) (x13 : Nat → Int) (x14 : Nat) (x15 : Nat → Int) : Prop :=
  br (ltI x9 x8) (gd (leI 0 (yai .i64 x5 x9) && ltI (yai .i64 x5 x9) ↑x3) (gd (leI 0 x9 && ltI x9 ↑x2) (gd (leI 0 (yai .i64 x5 x9) && ltI (yai .i64 x5 x9) ↑x3) (again x0 x1 x2 x3 x4 x5 x6 (ya1 .u64 (yai .u64 x7 (yai .u64 (cvI .u64 (x15 (Int.toNat (yai .i64 x5 x9)))) (cvI .u64 (x13 (Int.toNat x9))))) 32) x8 (yai .i64 x9 1) x10 x11 x12 x13 x14 (upd x15 (Int.toNat (yai .i64 x5 x9)) (cvI .u32 (yai .u64 x7 (yai .u64 (cvI .u64 (x15 (Int.toNat (yai .i64 x5 x9)))) (cvI .u64 (x13 (Int.toNat x9))))))))))) (k0 x0 x1 x2 x3 x4 x5 x6 x7 x10 x11 x12 x13 x14 x15)
def zbj.l45 (k0 : Nat → Int → Nat → Nat → Int → Int → Int → Int → Nat → (Nat → Int) → Nat → (Nat → Int) → Nat → (Nat → Int) → Prop) : Nat → Nat → Int → Nat → Nat → Int → Int → Int → Int → Int → Int → Nat → (Nat → Int) → Nat → (Nat → Int) → Nat → (Nat → Int) → Prop
  | 0 => fun _ _ _ _ _ _ _ _ _ _ _ _ _ _ _ _ => False
  | n + 1 => zbj.l45.step (zbj.l45 k0 n) k0
def zbj.l45.entry : yao := ⟨LV.mk 89872 [(10, 89872), (5, 7952), (4, 1296)] 48 0 true, 0, 285, fun vs H K => match vs, H with
  | [EV.slice 0 0 x0 none 1, EV.int .i64 x1, EV.slice 1 0 x2 none 1, EV.slice 2 0 x3 none 1, EV.int .i64 x4, EV.int .i64 x5, EV.int .u64 x6, EV.int .u64 x7, EV.int .i64 x8, EV.int .i64 x9], [some (EV.arr .u32 x10 x11), some (EV.arr .u32 x12 x13), some (EV.arr .u32 x14 x15)] => ∃ n, zbj.l45 (fun y0 y1 y2 y3 y4 y5 y6 y7 y8 y9 y10 y11 y12 y13 => K (.exit 10) [EV.slice 0 0 y0 none 1, EV.int .i64 y1, EV.slice 1 0 y2 none 1, EV.slice 2 0 y3 none 1, EV.int .i64 y4, EV.int .i64 y5, EV.int .u64 y6, EV.int .u64 y7] [some (EV.arr .u32 y8 y9), some (EV.arr .u32 y10 y11), some (EV.arr .u32 y12 y13)]) n x0 x1 x2 x3 x4 x5 x6 x7 x8 x9 x10 x11 x12 x13 x14 x15
  | _, _ => False⟩
def zbj.l20.step (again : Nat → Int → Nat → Nat → Int → Int → Nat → (Nat → Int) → Nat → (Nat → Int) → Nat → (Nat → Int) → Prop) (k0 : Nat → Int → Nat → Nat → (Nat → Int) → Nat → (Nat → Int) → Prop) (x0 : Nat) (x1 : Int) (x2 : Nat) (x3 : Nat) (x4 : Int) (x5 : Int) (x6 : Nat) (x7 : Nat → Int) (x8 : Nat) (x9 : Nat → Int) (x10 : Nat) (x11 : Nat → Int) : Prop :=
  br (leI 0 x5) (gd (leI 0 (yai .i64 x5 x4) && ltI (yai .i64 x5 x4) ↑x3) (gd (leI 0 (yan .i64 (yai .i64 x5 x4) 1) && ltI (yan .i64 (yai .i64 x5 x4) 1) ↑x3) (gd (leI 0 (yan .i64 x4 1) && ltI (yan .i64 x4 1) ↑x2) (gd (!eqI (cvI .u64 (x9 (Int.toNat (yan .i64 x4 1)))) 0) (gd (leI 0 (yan .i64 x4 1) && ltI (yan .i64 x4 1) ↑x2) (gd (!eqI (cvI .u64 (x9 (Int.toNat (yan .i64 x4 1)))) 0) (∃ n, zbj.l24 (fun y0 y1 y2 y3 y4 y5 y6 y7 y8 y9 y10 y11 y12 => ∃ n, zbj.l31 (fun y0 y1 y2 y3 y4 y5 y6 y7 y8 y9 y10 y11 y12 y13 y14 => gd (leI 0 (yai .i64 y5 y4) && ltI (yai .i64 y5 y4) ↑y3) (gd (leI 0 (yai .i64 y5 y4) && ltI (yai .i64 y5 y4) ↑y3) (br (ltI (yai .i64 y8 (yan .i64 (cvI .i64 (y14 (Int.toNat (yai .i64 y5 y4)))) (cvI .i64 y7))) 0) (∃ n, zbj.l45 (fun y0 y1 y2 y3 y4 y5 y6 y7 y8 y9 y10 y11 y12 y13 => gd (leI 0 (yai .i64 y5 y4) && ltI (yai .i64 y5 y4) ↑y3) (gd (leI 0 (yai .i64 y5 y4) && ltI (yai .i64 y5 y4) ↑y3) (gd (leI 0 y5 && ltI y5 ↑y0) (again y0 y1 y2 y3 y4 (yan .i64 y5 1) y8 (upd y9 (Int.toNat y5) (cvI .u32 y6)) y10 y11 y12 (upd y13 (Int.toNat (yai .i64 y5 y4)) (yai .u32 (y13 (Int.toNat (yai .i64 y5 y4))) (cvI .u32 y7))))))) n y0 y1 y2 y3 y4 y5 (yan .u64 y6 1) 0 y4 0 y9 y10 y11 y12 y13 (upd y14 (Int.toNat (yai .i64 y5 y4)) (cvI .u32 (yai .i64 y8 (yan .i64 (cvI .i64 (y14 (Int.toNat (yai .i64 y5 y4)))) (cvI .i64 y7)))))) (gd (leI 0 y5 && ltI y5 ↑y0) (again y0 y1 y2 y3 y4 (yan .i64 y5 1) y9 (upd y10 (Int.toNat y5) (cvI .u32 y6)) y11 y12 y13 (upd y14 (Int.toNat (yai .i64 y5 y4)) (cvI .u32 (yai .i64 y8 (yan .i64 (cvI .i64 (y14 (Int.toNat (yai .i64 y5 y4)))) (cvI .i64 y7)))))))))) n y0 y1 y2 y3 y4 y5 y6 0 0 y4 0 y7 y8 y9 y10 y11 y12) n x0 x1 x2 x3 x4 x5 (yaI .u64 (orI .u64 (ybM .u64 (cvI .u64 (x11 (Int.toNat (yai .i64 x5 x4)))) 32) (cvI .u64 (x11 (Int.toNat (yan .i64 (yai .i64 x5 x4) 1))))) (cvI .u64 (x9 (Int.toNat (yan .i64 x4 1))))) (ycm .u64 (orI .u64 (ybM .u64 (cvI .u64 (x11 (Int.toNat (yai .i64 x5 x4)))) 32) (cvI .u64 (x11 (Int.toNat (yan .i64 (yai .i64 x5 x4) 1))))) (cvI .u64 (x9 (Int.toNat (yan .i64 x4 1))))) x6 x7 x8 x9 x10 x11))))))) (k0 x0 x1 x3 x6 x7 x10 x11)
def zbj.l20 (k0 : Nat → Int → Nat → Nat → (Nat → Int) → Nat → (Nat → Int) → Prop) : Nat → Nat → Int → Nat → Nat → Int → Int → Nat → (Nat → Int) → Nat → (Nat → Int) → Nat → (Nat → Int) → Prop
  | 0 => fun _ _ _ _ _ _ _ _ _ _ _ _ => False
  | n + 1 => zbj.l20.step (zbj.l20 k0 n) k0
def zbj.l20.entry : yao := ⟨LV.mk 1296 [(4, 1296)] 48 0 true, 0, 285, fun vs H K => match vs, H with
  | [EV.slice 0 0 x0 none 1, EV.int .i64 x1, EV.slice 1 0 x2 none 1, EV.slice 2 0 x3 none 1, EV.int .i64 x4, EV.int .i64 x5], [some (EV.arr .u32 x6 x7), some (EV.arr .u32 x8 x9), some (EV.arr .u32 x10 x11)] => ∃ n, zbj.l20 (fun y0 y1 y2 y3 y4 y5 y6 => K (.exit 4) [EV.slice 0 0 y0 none 1, EV.int .i64 y1, EV.slice 1 0 y2 none 1] [some (EV.arr .u32 y3 y4), some (EV.arr .u32 y5 y6)]) n x0 x1 x2 x3 x4 x5 x6 x7 x8 x9 x10 x11
  | _, _ => False⟩
def zbj.d (a0n : Nat) (a0 : Nat → Int) (a1n : Nat) (a1 : Nat → Int) (K : Nat → (Nat → Int) → Nat → (Nat → Int) → Prop) : Prop :=
  zbb a0n a0 a1n a1 fun y0 => br (ltI y0 0) (K 0 (fun x => 0) a0n a0) (gd (leI 0 ↑a0n && (leI ↑a0n ↑a0n && leI (↑a0n) 1099511627776)) (br (eqI (↑a1n) 1) (∃ n, zbj.l7 (fun y0 y1 y2 y3 => zbc y0 y2 y3 fun y0 y1_1 y2 => zbd 1 1 1 (upd (fun x => 0) 0 (cvI .u32 y1)) fun y0_1 y1 y2_1 y3 => K y0 y2 y0_1 y3) n a0n a0 a1n a1 (Int.toNat ↑a0n) 0 (yan .i64 (↑a0n) 1) (Int.toNat ↑a0n) fun x => 0) (gd (leI 0 (yan .i64 (↑a1n) 1) && ltI (yan .i64 (↑a1n) 1) ↑a1n) (zeh (cvI .u64 (a1 (Int.toNat (yan .i64 (↑a1n) 1)))) fun y0 => zbo a1n a1 (yan .i64 32 y0) False fun y0_1 y1 y2 y3 => zbo a0n a0 (yan .i64 32 y0) False fun y0_2 y1 y2_1 y3_1 => gd (leN (y0_2 + 1) 1099511627776) (∃ n, zbj.l16 (fun y0 y1 y2 y3 y4 y5 y6 y7 y8 y9 => ∃ n, zbj.l20 (fun y0 y1 y2 y3 y4 y5 y6 => zbc y0 y3 y4 fun y0 y1_1 y2_2 => zbc y2 y5 y6 fun y0_3 y1_2 y2 => zbf y0_3 y2 y1 fun y0_4 y1 => K y0 y2_2 y0_4 y1) n y0 y1 y2 y3 (↑y2) (yan .i64 (yan .i64 ↑y3 ↑y2) 1) y4 y5 y6 y7 y8 y9) n a0n a0 (Int.toNat ↑a0n) (yan .i64 32 y0) y0_1 (y0_2 + 1) (Int.toNat ↑a0n) (fun x => 0) y2 y3 (y0_2 + 1) (app y0_2 y3_1 (upd (fun x => 0) 0 0)))))))
noncomputable def zbj := shut zbj.d
theorem zbj.is : zbj = zbj.d := shut_is _
def zat.d (a0 : List UInt8) (a1 : List UInt8) (K : List UInt8 → List UInt8 → Int → Prop) : Prop :=
  zbk a0 a1 fun y0 => br (!y0) (K [] [] 2) (br (eqS a1 []) (K [] [] 2) (zbq a0 fun y0 y1 => zbq a1 fun y0_1 y1_1 => zbj y0 y1 y0_1 y1_1 fun y0 y1 y2 y3 => zbi y0 y1 fun y0 => zbi y2 y3 fun y0_2 => K y0 y0_2 0))
noncomputable def zat := shut zat.d
theorem zat.is : zat = zat.d := shut_is _
def zau.l4.step (again : Nat → (Nat → Int) → Nat → (Nat → Int) → Prop) (k0 : Nat → (Nat → Int) → Prop) (x0 : Nat) (x1 : Nat → Int) (x2 : Nat) (x3 : Nat → Int) : Prop :=
  br (ltI 0 ↑x2) (zbj x0 x1 x2 x3 fun y0 y1 y2 y3 => again x2 x3 y2 y3) (k0 x0 x1)
def zau.l4 (k0 : Nat → (Nat → Int) → Prop) : Nat → Nat → (Nat → Int) → Nat → (Nat → Int) → Prop
  | 0 => fun _ _ _ _ => False
  | n + 1 => zau.l4.step (zau.l4 k0 n) k0
def zau.l4.entry : yao := ⟨LV.mk 64 [(0, 64)] 48 0 false, 0, 31, fun vs H K => match vs, H with
  | [EV.rsI .u32 x0 x1, EV.rsI .u32 x2 x3], [] => ∃ n, zau.l4 (fun y0 y1 => K (.exit 0) [EV.rsI .u32 y0 y1] []) n x0 x1 x2 x3
  | _, _ => False⟩
def zau.d (a0 : List UInt8) (a1 : List UInt8) (K : List UInt8 → Int → Prop) : Prop :=
  zbk a0 a1 fun y0 => br (!y0) (K [] 2) (zbq a0 fun y0 y1 => zbq a1 fun y0_1 y1_1 => ∃ n, zau.l4 (fun y0 y1 => zbi y0 y1 fun y0 => K y0 0) n y0 y1 y0_1 y1_1)
noncomputable def zau := shut zau.d
theorem zau.is : zau = zau.d := shut_is _
def zaw.d (a0 : List UInt8) (K : Int → Prop) : Prop :=
  zar a0 fun y0 => br (!eqI y0 0) (K 0) (br (eqS a0 []) (K 0) (gd (ltI 0 ↑(List.length a0)) (zeh (cvI .u64 (ybm a0 0)) fun y0 => K (yai .i64 (ycj .i64 8 (yan .i64 (↑(List.length a0)) 1)) y0))))
noncomputable def zaw := shut zaw.d
theorem zaw.is : zaw = zaw.d := shut_is _
def zav.d (a0 : List UInt8) (a1 : Int) (K : List UInt8 → Int → Prop) : Prop :=
  zar a0 fun y0 => br (!eqI y0 0) (K [] 2) (br (ltI a1 0) (K [] 2) (br (eqS a0 []) (K [] 0) (zaw a0 fun y0 => br (ltI (yan .i64 131072 y0) a1) (K [] 4) (zbq a0 fun y0 y1 => zbo y0 y1 a1 (zbn 0 (fun x => 0) fun y0 y1 => K y0 y1) fun y0 y1 y2 y3 => zbn y0 y3 fun y0 y1 => K y0 y1))))
noncomputable def zav := shut zav.d
theorem zav.is : zav = zav.d := shut_is _
def zax.l4.step (again : List UInt8 → Int → Prop) (k0 : Int → Prop) (k1 : Prop) (x0 : List UInt8) (x1 : Int) : Prop :=
  br (leI 0 x1) (gd (leI 0 x1 && ltI x1 ↑(List.length x0)) (br (!eqI (ybm x0 (Int.toNat x1)) 0) (gd (leI 0 x1 && ltI x1 ↑(List.length x0)) (zei (cvI .u64 (ybm x0 (Int.toNat x1))) fun y0 => k0 (yai .i64 (ycj .i64 8 (yan .i64 (yan .i64 (↑(List.length x0)) 1) x1)) y0))) (again x0 (yan .i64 x1 1)))) k1
def zax.l4 (k0 : Int → Prop) (k1 : Prop) : Nat → List UInt8 → Int → Prop
  | 0 => fun _ _ => False
  | n + 1 => zax.l4.step (zax.l4 k0 k1 n) k0 k1
def zax.l4.entry : yao := ⟨LV.mk 0 [(0, 0)] 4 0 false, 0, 30, fun vs H K => match vs, H with
  | [EV.str x0, EV.int .i64 x1], [] => ∃ n, zax.l4 (fun y0 => K .ret [EV.int .i64 y0] []) (K (.exit 0) [] []) n x0 x1
  | _, _ => False⟩
def zax.d (a0 : List UInt8) (K : Int → Prop) : Prop :=
  zar a0 fun y0 => br (!eqI y0 0) (K 0) (∃ n, zax.l4 (fun y0 => K y0) (K 0) n a0 (yan .i64 (↑(List.length a0)) 1))
noncomputable def zax := shut zax.d
theorem zax.is : zax = zax.d := shut_is _
def zbm.l7.step (again : Nat → (Nat → Int) → Nat → Nat → Int → Int → Int → Nat → (Nat → Int) → Int → Int → Nat → (Nat → Int) → Int → Int → Nat → (Nat → Int) → Prop) (k0 : Nat → (Nat → Int) → Nat → Nat → Int → Int → Nat → (Nat → Int) → Int → Int → Nat → (Nat → Int) → Prop) (x0 : Nat) (x1 : Nat → Int) (x2 : Nat) (x3 : Nat) (x4 : Int) (x5 : Int) (x6 : Int) (x7 : Nat) (x8 : Nat → Int) (x9 : Int) (x10 : Int) (x11 : Nat) (x12 : Nat → Int) (x13 : Int) (x14 : Int) (x15 : Nat) (x16 : Nat → Int) : Prop :=
  br (ltI x14 x13) (gd (leI 0 x14 && ltI x14 ↑x11) (gd (leI 0 (yai .i64 x4 x14) && ltI (yai .i64 x4 x14) ↑x2) (gd (leI 0 (yai .i64 x4 x14) && ltI (yai .i64 x4 x14) ↑x2) (again x0 x1 x2 x3 x4 x5 (ya1 .u64 (yai .u64 x6 (yai .u64 (ycj .u64 (cvI .u64 x5) (cvI .u64 (x12 (Int.toNat x14)))) (cvI .u64 (x16 (Int.toNat (yai .i64 x4 x14)))))) 32) x7 x8 x9 x10 x11 x12 x13 (yai .i64 x14 1) x15 (upd x16 (Int.toNat (yai .i64 x4 x14)) (cvI .u32 (yai .u64 x6 (yai .u64 (ycj .u64 (cvI .u64 x5) (cvI .u64 (x12 (Int.toNat x14)))) (cvI .u64 (x16 (Int.toNat (yai .i64 x4 x14)))))))))))) (k0 x0 x1 x2 x3 x4 x6 x7 x8 x9 x10 x15 x16)
def zbm.l7 (k0 : Nat → (Nat → Int) → Nat → Nat → Int → Int → Nat → (Nat → Int) → Int → Int → Nat → (Nat → Int) → Prop) : Nat → Nat → (Nat → Int) → Nat → Nat → Int → Int → Int → Nat → (Nat → Int) → Int → Int → Nat → (Nat → Int) → Int → Int → Nat → (Nat → Int) → Prop
  | 0 => fun _ _ _ _ _ _ _ _ _ _ _ _ _ _ _ _ _ => False
  | n + 1 => zbm.l7.step (zbm.l7 k0 n) k0
def zbm.l7.entry : yao := ⟨LV.mk 917858 [(2, 917858), (1, 917538), (0, 32)] 16 0 false, 0, 67, fun vs H K => match vs, H with
  | [EV.rsI .u32 x0 x1, EV.slice 0 0 x2 (some x3) 1, EV.int .i64 x4, EV.int .u32 x5, EV.int .u64 x6, EV.rsI .u32 x7 x8, EV.int .i64 x9, EV.int .i64 x10, EV.rsI .u32 x11 x12, EV.int .i64 x13, EV.int .i64 x14], [some (EV.arr .u32 x15 x16)] => ∃ n, zbm.l7 (fun y0 y1 y2 y3 y4 y5 y6 y7 y8 y9 y10 y11 => K (.exit 2) [EV.rsI .u32 y0 y1, EV.slice 0 0 y2 (some y3) 1, EV.int .i64 y4, EV.int .u64 y5, EV.rsI .u32 y6 y7, EV.int .i64 y8, EV.int .i64 y9] [some (EV.arr .u32 y10 y11)]) n x0 x1 x2 x3 x4 x5 x6 x7 x8 x9 x10 x11 x12 x13 x14 x15 x16
  | _, _ => False⟩
def zbm.l3.step (again : Nat → (Nat → Int) → Nat → Nat → Nat → (Nat → Int) → Int → Int → Nat → (Nat → Int) → Prop) (k0 : Nat → Nat → Nat → (Nat → Int) → Prop) (x0 : Nat) (x1 : Nat → Int) (x2 : Nat) (x3 : Nat) (x4 : Nat) (x5 : Nat → Int) (x6 : Int) (x7 : Int) (x8 : Nat) (x9 : Nat → Int) : Prop :=
  br (ltI x7 x6) (gd (leI 0 x7 && ltI x7 ↑x4) (∃ n, zbm.l7 (fun y0 y1 y2 y3 y4 y5 y6 y7 y8 y9 y10 y11 => gd (leI 0 (yai .i64 y4 ↑y0) && ltI (yai .i64 y4 ↑y0) ↑y2) (again y0 y1 y2 y3 y6 y7 y8 (yai .i64 y9 1) y10 (upd y11 (Int.toNat (yai .i64 y4 ↑y0)) (cvI .u32 y5)))) n x0 x1 x2 x3 x7 (x5 (Int.toNat x7)) 0 x4 x5 x6 x7 x0 x1 (↑x0) 0 x8 x9)) (k0 x2 x3 x8 x9)
def zbm.l3 (k0 : Nat → Nat → Nat → (Nat → Int) → Prop) : Nat → Nat → (Nat → Int) → Nat → Nat → Nat → (Nat → Int) → Int → Int → Nat → (Nat → Int) → Prop
  | 0 => fun _ _ _ _ _ _ _ _ _ _ => False
  | n + 1 => zbm.l3.step (zbm.l3 k0 n) k0
def zbm.l3.entry : yao := ⟨LV.mk 32 [(0, 32)] 16 0 false, 0, 67, fun vs H K => match vs, H with
  | [EV.rsI .u32 x0 x1, EV.slice 0 0 x2 (some x3) 1, EV.rsI .u32 x4 x5, EV.int .i64 x6, EV.int .i64 x7], [some (EV.arr .u32 x8 x9)] => ∃ n, zbm.l3 (fun y0 y1 y2 y3 => K (.exit 0) [EV.slice 0 0 y0 (some y1) 1] [some (EV.arr .u32 y2 y3)]) n x0 x1 x2 x3 x4 x5 x6 x7 x8 x9
  | _, _ => False⟩
def zbm.d (a0n : Nat) (a0 : Nat → Int) (a1n : Nat) (a1 : Nat → Int) (K : Nat → (Nat → Int) → Prop) : Prop :=
  gd (leI 0 (yai .i64 ↑a0n ↑a1n) && (leI (yai .i64 ↑a0n ↑a1n) (yai .i64 ↑a0n ↑a1n) && leI (yai .i64 ↑a0n ↑a1n) 1099511627776)) (∃ n, zbm.l3 (fun y0 y1 y2 y3 => zbd y0 y1 y2 y3 fun y0 y1 y2 y3 => K y0 y3) n a1n a1 (Int.toNat (yai .i64 ↑a0n ↑a1n)) (Int.toNat (yai .i64 ↑a0n ↑a1n)) a0n a0 (↑a0n) 0 (Int.toNat (yai .i64 ↑a0n ↑a1n)) fun x => 0)
noncomputable def zbm := shut zbm.d
theorem zbm.is : zbm = zbm.d := shut_is _
def zay.d (a0 : List UInt8) (a1 : Int) (K : List UInt8 → Bool → Int → Prop) : Prop :=
  zar a0 fun y0 => br (!eqI y0 0) (K [] false 2) (br (ltI a1 0) (K [] false 2) (br (eqS a0 []) (K [] false 0) (zbq a0 fun y0 y1 => zbf y0 y1 a1 fun y0 y1 => zbi y0 y1 fun y0 => zax a0 fun y0_1 => K y0 (ltI y0_1 a1) 0)))
noncomputable def zay := shut zay.d
theorem zay.is : zay = zay.d := shut_is _
def zbg.d (a0n : Nat) (a0 : Nat → Int) (K : Int → Prop) : Prop :=
  br (eqI (↑a0n) 0) (K 0) (gd (leI 0 (yan .i64 (↑a0n) 1) && ltI (yan .i64 (↑a0n) 1) ↑a0n) (zeh (cvI .u64 (a0 (Int.toNat (yan .i64 (↑a0n) 1)))) fun y0 => K (yai .i64 (ycj .i64 32 (yan .i64 (↑a0n) 1)) y0)))
noncomputable def zbg := shut zbg.d
theorem zbg.is : zbg = zbg.d := shut_is _
def zbh.l4.step (again : Nat → (Nat → Int) → Nat → (Nat → Int) → Nat → Nat → Int → Int → Int → Nat → (Nat → Int) → Prop) (k0 : Nat → Nat → Nat → (Nat → Int) → Prop) (x0 : Nat) (x1 : Nat → Int) (x2 : Nat) (x3 : Nat → Int) (x4 : Nat) (x5 : Nat) (x6 : Int) (x7 : Int) (x8 : Int) (x9 : Nat) (x10 : Nat → Int) : Prop :=
  br (ltI x8 x7) (gd (leI 0 x8 && ltI x8 ↑x0) (br (ltI x8 ↑x2) (gd (leI 0 x8 && ltI x8 ↑x2) (gd (leI 0 x8 && ltI x8 ↑x4) (again x0 x1 x2 x3 x4 x5 (ya1 .i64 (yan .i64 (yai .i64 x6 (cvI .i64 (x1 (Int.toNat x8)))) (cvI .i64 (x3 (Int.toNat x8)))) 32) x7 (yai .i64 x8 1) x9 (upd x10 (Int.toNat x8) (cvI .u32 (yan .i64 (yai .i64 x6 (cvI .i64 (x1 (Int.toNat x8)))) (cvI .i64 (x3 (Int.toNat x8))))))))) (gd (leI 0 x8 && ltI x8 ↑x4) (again x0 x1 x2 x3 x4 x5 (ya1 .i64 (yai .i64 x6 (cvI .i64 (x1 (Int.toNat x8)))) 32) x7 (yai .i64 x8 1) x9 (upd x10 (Int.toNat x8) (cvI .u32 (yai .i64 x6 (cvI .i64 (x1 (Int.toNat x8)))))))))) (k0 x4 x5 x9 x10)
def zbh.l4 (k0 : Nat → Nat → Nat → (Nat → Int) → Prop) : Nat → Nat → (Nat → Int) → Nat → (Nat → Int) → Nat → Nat → Int → Int → Int → Nat → (Nat → Int) → Prop
  | 0 => fun _ _ _ _ _ _ _ _ _ _ _ => False
  | n + 1 => zbh.l4.step (zbh.l4 k0 n) k0
def zbh.l4.entry : yao := ⟨LV.mk 32 [(0, 32)] 16 0 false, 0, 44, fun vs H K => match vs, H with
  | [EV.rsI .u32 x0 x1, EV.rsI .u32 x2 x3, EV.slice 0 0 x4 (some x5) 1, EV.int .i64 x6, EV.int .i64 x7, EV.int .i64 x8], [some (EV.arr .u32 x9 x10)] => ∃ n, zbh.l4 (fun y0 y1 y2 y3 => K (.exit 0) [EV.slice 0 0 y0 (some y1) 1] [some (EV.arr .u32 y2 y3)]) n x0 x1 x2 x3 x4 x5 x6 x7 x8 x9 x10
  | _, _ => False⟩
def zbh.d (a0n : Nat) (a0 : Nat → Int) (a1n : Nat) (a1 : Nat → Int) (K : Nat → (Nat → Int) → Prop) : Prop :=
  gd (leI 0 ↑a0n && (leI ↑a0n ↑a0n && leI (↑a0n) 1099511627776)) (∃ n, zbh.l4 (fun y0 y1 y2 y3 => zbd y0 y1 y2 y3 fun y0 y1 y2 y3 => K y0 y3) n a0n a0 a1n a1 (Int.toNat ↑a0n) (Int.toNat ↑a0n) 0 (↑a0n) 0 (Int.toNat ↑a0n) fun x => 0)
noncomputable def zbh := shut zbh.d
theorem zbh.is : zbh = zbh.d := shut_is _
def zbp.l5.step (again : Int → Nat → Nat → Nat → (Nat → Int) → Int → Int → Nat → (Nat → Int) → Prop) (k0 : Nat → Nat → Nat → (Nat → Int) → Prop) (x0 : Int) (x1 : Nat) (x2 : Nat) (x3 : Nat) (x4 : Nat → Int) (x5 : Int) (x6 : Int) (x7 : Nat) (x8 : Nat → Int) : Prop :=
  br (ltI x6 x5) (gd (leI 0 x6 && ltI x6 ↑x3) (gd (!ltI (cvI .u64 (ycm .i64 x0 32)) 0) (gd (leI 0 (yai .i64 x6 (yaI .i64 x0 32)) && ltI (yai .i64 x6 (yaI .i64 x0 32)) ↑x1) (gd (leI 0 (yai .i64 x6 (yaI .i64 x0 32)) && ltI (yai .i64 x6 (yaI .i64 x0 32)) ↑x1) (gd (leI 0 (yai .i64 (yai .i64 x6 (yaI .i64 x0 32)) 1) && ltI (yai .i64 (yai .i64 x6 (yaI .i64 x0 32)) 1) ↑x1) (gd (leI 0 (yai .i64 (yai .i64 x6 (yaI .i64 x0 32)) 1) && ltI (yai .i64 (yai .i64 x6 (yaI .i64 x0 32)) 1) ↑x1) (again x0 x1 x2 x3 x4 x5 (yai .i64 x6 1) x7 (upd (upd x8 (Int.toNat (yai .i64 x6 (yaI .i64 x0 32))) (orI .u32 (x8 (Int.toNat (yai .i64 x6 (yaI .i64 x0 32)))) (cvI .u32 (ybM .u64 (cvI .u64 (x4 (Int.toNat x6))) (cvI .u64 (ycm .i64 x0 32)))))) (Int.toNat (yai .i64 (yai .i64 x6 (yaI .i64 x0 32)) 1)) (orI .u32 (upd x8 (Int.toNat (yai .i64 x6 (yaI .i64 x0 32))) (orI .u32 (x8 (Int.toNat (yai .i64 x6 (yaI .i64 x0 32)))) (cvI .u32 (ybM .u64 (cvI .u64 (x4 (Int.toNat x6))) (cvI .u64 (ycm .i64 x0 32))))) (Int.toNat (yai .i64 (yai .i64 x6 (yaI .i64 x0 32)) 1))) (cvI .u32 (ya1 .u64 (ybM .u64 (cvI .u64 (x4 (Int.toNat x6))) (cvI .u64 (ycm .i64 x0 32))) 32))))))))))) (k0 x1 x2 x7 x8)
def zbp.l5 (k0 : Nat → Nat → Nat → (Nat → Int) → Prop) : Nat → Int → Nat → Nat → Nat → (Nat → Int) → Int → Int → Nat → (Nat → Int) → Prop
  | 0 => fun _ _ _ _ _ _ _ _ _ => False
  | n + 1 => zbp.l5.step (zbp.l5 k0 n) k0
def zbp.l5.entry : yao := ⟨LV.mk 32 [(0, 32)] 16 0 false, 0, 59, fun vs H K => match vs, H with
  | [EV.int .i64 x0, EV.slice 0 0 x1 (some x2) 1, EV.rsI .u32 x3 x4, EV.int .i64 x5, EV.int .i64 x6], [some (EV.arr .u32 x7 x8)] => ∃ n, zbp.l5 (fun y0 y1 y2 y3 => K (.exit 0) [EV.slice 0 0 y0 (some y1) 1] [some (EV.arr .u32 y2 y3)]) n x0 x1 x2 x3 x4 x5 x6 x7 x8
  | _, _ => False⟩
def zbp.d (a0n : Nat) (a0 : Nat → Int) (a1 : Int) (K : Nat → (Nat → Int) → Prop) : Prop :=
  br (eqI (↑a0n) 0) (K 0 fun x => 0) (gd (leI 0 (yai .i64 (yai .i64 (↑a0n) (yaI .i64 a1 32)) 1) && (leI (yai .i64 (yai .i64 (↑a0n) (yaI .i64 a1 32)) 1) (yai .i64 (yai .i64 (↑a0n) (yaI .i64 a1 32)) 1) && leI (yai .i64 (yai .i64 (↑a0n) (yaI .i64 a1 32)) 1) 1099511627776)) (∃ n, zbp.l5 (fun y0 y1 y2 y3 => zbd y0 y1 y2 y3 fun y0 y1 y2 y3 => K y0 y3) n a1 (Int.toNat (yai .i64 (yai .i64 (↑a0n) (yaI .i64 a1 32)) 1)) (Int.toNat (yai .i64 (yai .i64 (↑a0n) (yaI .i64 a1 32)) 1)) a0n a0 (↑a0n) 0 (Int.toNat (yai .i64 (yai .i64 (↑a0n) (yaI .i64 a1 32)) 1)) fun x => 0))
noncomputable def zbp := shut zbp.d
theorem zbp.is : zbp = zbp.d := shut_is _
def zaz.l7.step (again : Nat → (Nat → Int) → Nat → (Nat → Int) → Prop) (k0 : Nat → (Nat → Int) → Nat → (Nat → Int) → Prop) (x0 : Nat) (x1 : Nat → Int) (x2 : Nat) (x3 : Nat → Int) : Prop :=
  zbj x0 x1 x2 x3 fun y0 y1 y2 y3 => zbl x2 x3 y0 y1 fun y0 y1 => zbf y0 y1 1 fun y0 y1 => zbb y0 y1 x2 x3 fun y0_1 => br (leI 0 y0_1) (k0 x0 x1 x2 x3) (again x0 x1 y0 y1)
def zaz.l7 (k0 : Nat → (Nat → Int) → Nat → (Nat → Int) → Prop) : Nat → Nat → (Nat → Int) → Nat → (Nat → Int) → Prop
  | 0 => fun _ _ _ _ => False
  | n + 1 => zaz.l7.step (zaz.l7 k0 n) k0
def zaz.l7.entry : yao := ⟨LV.mk 96 [(0, 96)] 28 0 false, 0, 46, fun vs H K => match vs, H with
  | [EV.rsI .u32 x0 x1, EV.rsI .u32 x2 x3], [] => ∃ n, zaz.l7 (fun y0 y1 y2 y3 => K (.exit 0) [EV.rsI .u32 y0 y1, EV.rsI .u32 y2 y3] []) n x0 x1 x2 x3
  | _, _ => False⟩
def zaz.d (a0 : List UInt8) (K : List UInt8 → List UInt8 → Int → Prop) : Prop :=
  zar a0 fun y0 => br (!eqI y0 0) (K [] [] 2) (br (eqS a0 []) (K [] [] 0) (zbq a0 fun y0 y1 => zbg y0 y1 fun y0_1 => zbp 1 (upd (fun x => 0) 0 1) (yaI .i64 (yai .i64 y0_1 1) 2) fun y0_2 y1_1 => ∃ n, zaz.l7 (fun y0 y1 y2 y3 => zbi y2 y3 fun y0_3 => zbm y2 y3 y2 y3 fun y0_4 y1_2 => zbh y0 y1 y0_4 y1_2 fun y0 y1 => zbi y0 y1 fun y0 => K y0_3 y0 0) n y0 y1 y0_2 y1_1))
noncomputable def zaz := shut zaz.d
theorem zaz.is : zaz = zaz.d := shut_is _
def zba.l4.step (again : List UInt8 → Nat → (Nat → Int) → Int → Int → (Nat → Int) → Prop) (k0 : List UInt8 → (Nat → Int) → Prop) (x0 : List UInt8) (x1 : Nat) (x2 : Nat → Int) (x3 : Int) (x4 : Int) (x5 : Nat → Int) : Prop :=
  br (ltI x4 x3) (gd (leI 0 x4 && ltI x4 ↑x1) (gd (leI 0 (yaI .i64 x4 2) && ltI (yaI .i64 x4 2) 6) (gd (!ltI (cvI .u64 (ycj .i64 32 (ycm .i64 x4 2))) 0) (gd (leI 0 (yaI .i64 x4 2) && ltI (yaI .i64 x4 2) 6) (again x0 x1 x2 x3 (yai .i64 x4 1) (upd x5 (Int.toNat (yaI .i64 x4 2)) (orI .u64 (x5 (Int.toNat (yaI .i64 x4 2))) (ybM .u64 (cvI .u64 (x2 (Int.toNat x4))) (cvI .u64 (ycj .i64 32 (ycm .i64 x4 2))))))))))) (k0 x0 x5)
def zba.l4 (k0 : List UInt8 → (Nat → Int) → Prop) : Nat → List UInt8 → Nat → (Nat → Int) → Int → Int → (Nat → Int) → Prop
  | 0 => fun _ _ _ _ _ _ => False
  | n + 1 => zba.l4.step (zba.l4 k0 n) k0
def zba.l4.entry : yao := ⟨LV.mk 5 [(0, 5)] 12 0 false, 0, 43, fun vs H K => match vs, H with
  | [EV.str x0, EV.ptr 0 [], EV.rsI .u32 x1 x2, EV.int .i64 x3, EV.int .i64 x4], [some (EV.arr .u64 6 x5)] => ∃ n, zba.l4 (fun y0 y1 => K (.exit 0) [EV.str y0, EV.ptr 0 []] [some (EV.arr .u64 6 y1)]) n x0 x1 x2 x3 x4 x5
  | _, _ => False⟩
def zba.d (a0 : List UInt8) (K : (Nat → Int) → Bool → Prop) : Prop :=
  zar a0 fun y0 => br (!eqI y0 0) (K (fun x => 0) false) (br (ltI 48 ↑(List.length a0)) (K (fun x => 0) false) (zbq a0 fun y0 y1 => ∃ n, zba.l4 (fun y0 y1 => zdy y1 fun y0_1 => zaw y0 fun y0 => K y1 (eqI y0_1 y0)) n a0 y0 y1 (↑y0) 0 fun x => 0))
noncomputable def zba := shut zba.d
theorem zba.is : zba = zba.d := shut_is _
end Go.Ev.S

/- Numbers in decimal digits: what the library's two functions come to. -/
set_option linter.unusedVariables false
set_option linter.unusedSimpArgs false
namespace Go.Ev.S
open Go Go.Ev
end Go.Ev.S

/- The functions as the evaluator has them: what each comes to. -/
set_option maxRecDepth 100000
set_option linter.unusedVariables false
set_option linter.unusedSimpArgs false
namespace Go.Ev.S
open Go Go.Ev
def zah.d (K : Bool → List UInt8 → List UInt8 → Int → Prop) : Prop :=
  K false [] [1] 0
noncomputable def zah := shut zah.d
theorem zah.is : zah = zah.d := shut_is _
def zai.d (a0 : List UInt8) (K : Bool → Prop) : Prop :=
  br (!eqS a0 []) (gd (leI 0 (yan .i64 (↑(List.length a0)) 1) && ltI (yan .i64 (↑(List.length a0)) 1) ↑(List.length a0)) (K (eqI (yh5 .u8 (ybm a0 (Int.toNat (yan .i64 (↑(List.length a0)) 1))) 1) 1))) (K false)
noncomputable def zai := shut zai.d
theorem zai.is : zai = zai.d := shut_is _
def zak.d (a0 : Int) (K : Bool → Prop) : Prop :=
  br (leI (-1048576) a0) (K (leI a0 1048576)) (K false)
noncomputable def zak := shut zak.d
theorem zak.is : zak = zak.d := shut_is _
def zad.d (a0_0 : Bool) (a0_1 : List UInt8) (a0_2 : List UInt8) (a0_3 : Int) (K : Int → Prop) : Prop :=
  zar a0_1 fun y0 => br (!eqI y0 0) (K 2) (zar a0_2 fun y0 => br (!eqI y0 0) (K 2) (zai a0_2 fun y0 => br (!y0) (K 2) (zak a0_3 fun y0 => br (!y0) (K 2) (br (eqS a0_1 []) (zah fun y0 y1 y2 y3 => br (!(ydF a0_0 y0 && (eqS a0_1 y1 && (eqS a0_2 y2 && eqI a0_3 y3)))) (K 2) (K 0)) (zau a0_1 a0_2 fun y0 y1 => zai a0_1 fun y0_1 => br (!y0_1) (K 2) (br (!eqS y0 [1]) (K 2) (K 0)))))))
noncomputable def zad := shut zad.d
theorem zad.is : zad = zad.d := shut_is _
def zac.d (a0_0 : Bool) (a0_1 : List UInt8) (a0_2 : List UInt8) (a0_3 : Int) (K : Bool → List UInt8 → List UInt8 → Int → Prop) : Prop :=
  zad a0_0 a0_1 a0_2 a0_3 fun y0 => br (!eqI y0 0) (K false [] [] 0) (K false a0_1 a0_2 a0_3)
noncomputable def zac := shut zac.d
theorem zac.is : zac = zac.d := shut_is _
def zaf.d (a0 : Bool) (a1 : List UInt8) (a2 : List UInt8) (a3 : Int) (K : Bool → List UInt8 → List UInt8 → Int → Int → Prop) : Prop :=
  zar a1 fun y0 => br (!eqI y0 0) (K false [] [] 0 2) (zar a2 fun y0 => br (!eqI y0 0) (K false [] [] 0 2) (br (eqS a2 []) (K false [] [] 0 2) (zak a3 fun y0 => br (!y0) (K false [] [] 0 2) (br (eqS a1 []) (zah fun y0 y1 y2 y3 => K y0 y1 y2 y3 0) (zax a1 fun y0 => zax a2 fun y0_1 => zay a1 y0 fun y0_2 y1 y2 => zay a2 y0_1 fun y0_3 y1 y2 => zau y0_2 y0_3 fun y0_4 y1 => br (!eqS y0_4 [1]) (zat y0_2 y0_4 fun y0_5 y1 y2 => zat y0_3 y0_4 fun y0_6 y1 y2 => zak (yai .i64 a3 (yan .i64 y0 y0_1)) fun y0_7 => br (!y0_7) (K false [] [] 0 4) (K a0 y0_5 y0_6 (yai .i64 a3 (yan .i64 y0 y0_1)) 0)) (zak (yai .i64 a3 (yan .i64 y0 y0_1)) fun y0_5 => br (!y0_5) (K false [] [] 0 4) (K a0 y0_2 y0_3 (yai .i64 a3 (yan .i64 y0 y0_1)) 0)))))))
noncomputable def zaf := shut zaf.d
theorem zaf.is : zaf = zaf.d := shut_is _
def zaj.d (a0_0 : Bool) (a0_1 : List UInt8) (a0_2 : List UInt8) (a0_3 : Int) (K : Int → Prop) : Prop :=
  zaw a0_1 fun y0 => zaw a0_2 fun y0_1 => br (leI 0 (yan .i64 y0 y0_1)) (zav a0_2 (yan .i64 y0 y0_1) fun y0_2 y1 => zas a0_1 y0_2 fun y0_3 y1 => br (ltI y0_3 0) (K (yai .i64 (yan .i64 (yan .i64 y0 y0_1) 1) a0_3)) (K (yai .i64 (yan .i64 y0 y0_1) a0_3))) (zav a0_1 (yqh .i64 (yan .i64 y0 y0_1)) fun y0_2 y1 => zas y0_2 a0_2 fun y0_3 y1 => br (ltI y0_3 0) (K (yai .i64 (yan .i64 (yan .i64 y0 y0_1) 1) a0_3)) (K (yai .i64 (yan .i64 y0 y0_1) a0_3)))
noncomputable def zaj := shut zaj.d
theorem zaj.is : zaj = zaj.d := shut_is _
def zae.d (a0_0 : Bool) (a0_1 : List UInt8) (a0_2 : List UInt8) (a0_3 : Int) (a1 : Int) (K : List UInt8 → Bool → Int → Prop) : Prop :=
  zad a0_0 a0_1 a0_2 a0_3 fun y0 => br (!eqI y0 0) (K [] false 2) (br (ltI a1 (-2097152)) (K [] false 2) (br (ltI 2097152 a1) (K [] false 2) (br (eqS a0_1 []) (K [] true 0) (br (leI a1 a0_3) (zav a0_1 (yan .i64 a0_3 a1) fun y0 y1 => br (!eqI y1 0) (K [] false y1) (zat y0 a0_2 fun y0 y1 y2 => K y0 (eqS y1 []) 0)) (zaj a0_0 a0_1 a0_2 a0_3 fun y0 => br (ltI y0 a1) (K [] false 0) (zav a0_2 (yan .i64 a1 a0_3) fun y0 y1 => zat a0_1 y0 fun y0 y1 y2 => K y0 (eqS y1 []) 0))))))
noncomputable def zae := shut zae.d
theorem zae.is : zae = zae.d := shut_is _
def zag.d (a0_0 : Bool) (a0_1 : List UInt8) (a0_2 : List UInt8) (a0_3 : Int) (K : Int → Int → Prop) : Prop :=
  zad a0_0 a0_1 a0_2 a0_3 fun y0 => br (!eqI y0 0) (K 0 2) (br (eqS a0_1 []) (K 0 2) (zaj a0_0 a0_1 a0_2 a0_3 fun y0 => K y0 0))
noncomputable def zag := shut zag.d
theorem zag.is : zag = zag.d := shut_is _
end Go.Ev.S

/- The functions as the evaluator has them: what each comes to. -/
set_option maxRecDepth 100000
set_option linter.unusedVariables false
set_option linter.unusedSimpArgs false
namespace Go.Ev.S
open Go Go.Ev
end Go.Ev.S

/- The functions as the evaluator has them: what each comes to. -/
set_option maxRecDepth 100000
set_option linter.unusedVariables false
set_option linter.unusedSimpArgs false
namespace Go.Ev.S
open Go Go.Ev
end Go.Ev.S

/- The functions as the evaluator has them: what each comes to. -/
set_option maxRecDepth 100000
set_option linter.unusedVariables false
set_option linter.unusedSimpArgs false
namespace Go.Ev.S
open Go Go.Ev
def zan.d (a0 : Int) (a1 : Bool) (a2 : Int) (a3 : Nat → Int) (K : Int → Int → Prop) : Prop :=
  zeb (cvI .u64 a2) fun y0 => zdn a0 fun y0_1 => zdx y0 (yan .i64 y0_1 1) fun y0 y1 => zec y0 a3 fun y0 => br a1 (zdo a0 fun y0_2 => gd (leI 0 (yaI .i64 (yan .i64 y0_2 1) 64) && ltI (yaI .i64 (yan .i64 y0_2 1) 64) 6) (gd (!ltI (cvI .u64 (ycm .i64 (yan .i64 y0_2 1) 64)) 0) (gd (leI 0 (yaI .i64 (yan .i64 y0_2 1) 64) && ltI (yaI .i64 (yan .i64 y0_2 1) 64) 6) (zee (upd y0 (Int.toNat (yaI .i64 (yan .i64 y0_2 1) 64)) (orI .u64 (y0 (Int.toNat (yaI .i64 (yan .i64 y0_2 1) 64))) (ybM .u64 1 (cvI .u64 (ycm .i64 (yan .i64 y0_2 1) 64))))) fun y0 y1 y2 => K y0 y1)))) (zee y0 fun y0 y1 y2 => K y0 y1)
noncomputable def zan := shut zan.d
theorem zan.is : zan = zan.d := shut_is _
def zam.d (a0 : Int) (a1_0 : Bool) (a1_1 : List UInt8) (a1_2 : List UInt8) (a1_3 : Int) (K : Int → Int → Bool → Int → Prop) : Prop :=
  zdh a0 fun y0 => br (!eqI y0 0) (K 0 0 false 2) (zad a1_0 a1_1 a1_2 a1_3 fun y0 => br (!eqI y0 0) (K 0 0 false 2) (br (eqS a1_1 []) (K 0 0 true 0) (zdn a0 fun y0 => zag a1_0 a1_1 a1_2 a1_3 fun y0_1 y1 => zdk a0 fun y0_2 => br (!eqS a1_2 [1]) (K 0 0 false 0) (zdj a0 fun y0_3 => br (ltI y0_3 y0_1) (K 0 0 false 0) (br (ltI a1_3 (yai .i64 (yan .i64 (ycF y0_1 y0_2) y0) 1)) (K 0 0 false 0) (zae a1_0 a1_1 a1_2 a1_3 (yai .i64 (yan .i64 (ycF y0_1 y0_2) y0) 1) fun y0_4 y1 y2 => zba y0_4 fun y0_5 y1 => zdw y0_5 (yan .i64 y0 1) fun y0_6 => br y0_6 (zdk a0 fun y0_7 => zea (yan .i64 y0 1) fun y0_8 => zdv y0_5 y0_8 fun y0_9 => zan a0 a1_0 (yai .i64 (yan .i64 (yai .i64 (yan .i64 (ycF y0_1 y0_2) y0) 1) y0_7) y0) y0_9 fun y0 y1 => K y0 y1 true 0) (zea (yan .i64 y0 1) fun y0 => zdv y0_5 y0 fun y0 => zan a0 a1_0 0 y0 fun y0 y1 => K y0 y1 true 0)))))))
noncomputable def zam := shut zam.d
theorem zam.is : zam = zam.d := shut_is _
end Go.Ev.S

/- The functions as the evaluator has them: what each comes to. -/
set_option maxRecDepth 100000
set_option linter.unusedVariables false
set_option linter.unusedSimpArgs false
namespace Go.Ev.S
open Go Go.Ev
def zda.d (a0 : Int) (a1 : Int) (a2_0 : Bool) (a2_1 : List UInt8) (a2_2 : List UInt8) (a2_3 : Int) (a3 : Bool) (K : Int → Prop) : Prop :=
  zdh a0 fun y0 => br (!eqI y0 0) (K 2) (zdi a1 fun y0 => br (!eqI y0 0) (K 2) (zad a2_0 a2_1 a2_2 a2_3 fun y0 => br (!eqI y0 0) (K 2) (br a3 (br a2_0 (K 2) (br (ltI 8192 ↑(List.length a2_1)) (K 4) (br (ltI 8192 ↑(List.length a2_2)) (K 4) (K 0)))) (br (ltI 8192 ↑(List.length a2_1)) (K 4) (br (ltI 8192 ↑(List.length a2_2)) (K 4) (K 0))))))
noncomputable def zda := shut zda.d
theorem zda.is : zda = zda.d := shut_is _
def zdb.d (a0 : Int) (a1 : Int) (a2 : Bool) (K : Int → Int → Int → Int → Prop) : Prop :=
  zdm a0 a2 fun y0 y1 => br (eqI a1 1) (zdl a0 a2 fun y0 y1 => K y0 y1 5 0) (br (eqI a1 2) (br (!a2) (zdl a0 a2 fun y0 y1 => K y0 y1 5 0) (br (eqI a1 3) (br a2 (zdl a0 a2 fun y0 y1 => K y0 y1 5 0) (K y0 y1 5 0)) (K y0 y1 5 0))) (br (eqI a1 3) (br a2 (zdl a0 a2 fun y0 y1 => K y0 y1 5 0) (K y0 y1 5 0)) (K y0 y1 5 0)))
noncomputable def zdb := shut zdb.d
theorem zdb.is : zdb = zdb.d := shut_is _
def zdd.d (a0_0_0 : Bool) (a0_0_1 : List UInt8) (a0_0_2 : List UInt8) (a0_0_3 : Int) (a0_1 : Bool) (a1 : Int) (K : List UInt8 → Bool → Prop) : Prop :=
  br (!a0_1) (zae a0_0_0 a0_0_1 a0_0_2 a0_0_3 a1 fun y0 y1 y2 => K y0 y1) (zae a0_0_0 a0_0_1 a0_0_2 a0_0_3 (ycj .i64 2 a1) fun y0 y1 y2 => zaz y0 fun y0 y1_1 y2 => br y1 (K y0 (eqS y1_1 [])) (K y0 false))
noncomputable def zdd := shut zdd.d
theorem zdd.is : zdd = zdd.d := shut_is _
def zde.d (a0_0_0 : Bool) (a0_0_1 : List UInt8) (a0_0_2 : List UInt8) (a0_0_3 : Int) (a0_1 : Bool) (a1 : Int) (a2 : Bool) (a3 : Int) (K : List UInt8 → Bool → Prop) : Prop :=
  zdd a0_0_0 a0_0_1 a0_0_2 a0_0_3 a0_1 a3 fun y0 y1 => br y1 (K y0 true) (zdd a0_0_0 a0_0_1 a0_0_2 a0_0_3 a0_1 (yan .i64 a3 1) fun y0_1 y1 => br (!eqS y0 []) (zax y0 fun y0_2 => br (!eqS y0_1 []) (zax y0_1 fun y0_3 => br (eqI a1 2) (br (eqI a1 2) (br (ydF a2 (eqI a1 2)) (zaq y0 [1] fun y0 y1 => K y0 false) (K y0 false)) (br (eqI a1 0) (br (eqI y0_3 0) (br (!y1) (zaq y0 [1] fun y0 y1 => K y0 false) (br (eqI y0_2 0) (zaq y0 [1] fun y0 y1 => K y0 false) (K y0 false))) (K y0 false)) (br (eqI a1 4) (br (eqI y0_3 0) (zaq y0 [1] fun y0 y1 => K y0 false) (K y0 false)) (K y0 false)))) (br (eqI a1 3) (br (ydF a2 (eqI a1 2)) (zaq y0 [1] fun y0 y1 => K y0 false) (K y0 false)) (br (eqI a1 0) (br (eqI y0_3 0) (br (!y1) (zaq y0 [1] fun y0 y1 => K y0 false) (br (eqI y0_2 0) (zaq y0 [1] fun y0 y1 => K y0 false) (K y0 false))) (K y0 false)) (br (eqI a1 4) (br (eqI y0_3 0) (zaq y0 [1] fun y0 y1 => K y0 false) (K y0 false)) (K y0 false))))) (br (eqI a1 2) (br (eqI a1 2) (br (ydF a2 (eqI a1 2)) (zaq y0 [1] fun y0 y1 => K y0 false) (K y0 false)) (br (eqI a1 0) (K y0 false) (br (eqI a1 4) (K y0 false) (K y0 false)))) (br (eqI a1 3) (br (ydF a2 (eqI a1 2)) (zaq y0 [1] fun y0 y1 => K y0 false) (K y0 false)) (br (eqI a1 0) (K y0 false) (br (eqI a1 4) (K y0 false) (K y0 false)))))) (br (!eqS y0_1 []) (zax y0_1 fun y0_2 => br (eqI a1 2) (br (eqI a1 2) (br (ydF a2 (eqI a1 2)) (zaq y0 [1] fun y0 y1 => K y0 false) (K y0 false)) (br (eqI a1 0) (br (eqI y0_2 0) (br (!y1) (zaq y0 [1] fun y0 y1 => K y0 false) (K y0 false)) (K y0 false)) (br (eqI a1 4) (br (eqI y0_2 0) (zaq y0 [1] fun y0 y1 => K y0 false) (K y0 false)) (K y0 false)))) (br (eqI a1 3) (br (ydF a2 (eqI a1 2)) (zaq y0 [1] fun y0 y1 => K y0 false) (K y0 false)) (br (eqI a1 0) (br (eqI y0_2 0) (br (!y1) (zaq y0 [1] fun y0 y1 => K y0 false) (K y0 false)) (K y0 false)) (br (eqI a1 4) (br (eqI y0_2 0) (zaq y0 [1] fun y0 y1 => K y0 false) (K y0 false)) (K y0 false))))) (br (eqI a1 2) (br (eqI a1 2) (br (ydF a2 (eqI a1 2)) (zaq y0 [1] fun y0 y1 => K y0 false) (K y0 false)) (br (eqI a1 0) (K y0 false) (br (eqI a1 4) (K y0 false) (K y0 false)))) (br (eqI a1 3) (br (ydF a2 (eqI a1 2)) (zaq y0 [1] fun y0 y1 => K y0 false) (K y0 false)) (br (eqI a1 0) (K y0 false) (br (eqI a1 4) (K y0 false) (K y0 false)))))))
noncomputable def zde := shut zde.d
theorem zde.is : zde = zde.d := shut_is _
def zdg.d (a0_0_0 : Bool) (a0_0_1 : List UInt8) (a0_0_2 : List UInt8) (a0_0_3 : Int) (a0_1 : Bool) (K : Int → Prop) : Prop :=
  zag a0_0_0 a0_0_1 a0_0_2 a0_0_3 fun y0 y1 => br a0_1 (K (ya1 .i64 y0 1)) (K y0)
noncomputable def zdg := shut zdg.d
theorem zdg.is : zdg = zdg.d := shut_is _
def zdf.d (a0_0_0 : Bool) (a0_0_1 : List UInt8) (a0_0_2 : List UInt8) (a0_0_3 : Int) (a0_1 : Bool) (a1 : Int) (a2 : Int) (a3 : Bool) (K : Bool → Prop) : Prop :=
  zdg a0_0_0 a0_0_1 a0_0_2 a0_0_3 a0_1 fun y0 => zdn a1 fun y0_1 => zdk a1 fun y0_2 => br (!eqI y0 (yan .i64 y0_2 1)) (zdk a1 fun y0_3 => K (ltI y0 y0_3)) (zde a0_0_0 a0_0_1 a0_0_2 a0_0_3 a0_1 a2 a3 (yai .i64 (yan .i64 y0 y0_1) 1) fun y0 y1 => zaw y0 fun y0 => K (leI y0 y0_1))
noncomputable def zdf := shut zdf.d
theorem zdf.is : zdf = zdf.d := shut_is _
def zdc.d (a0_0_0 : Bool) (a0_0_1 : List UInt8) (a0_0_2 : List UInt8) (a0_0_3 : Int) (a0_1 : Bool) (a1 : Int) (a2 : Int) (a3 : Bool) (K : Int → Int → Int → Int → Prop) : Prop :=
  zdg a0_0_0 a0_0_1 a0_0_2 a0_0_3 a0_1 fun y0 => zdj a1 fun y0_1 => br (ltI y0_1 y0) (zdb a1 a2 a3 fun y0 y1 y2 y3 => K y0 y1 y2 y3) (zdk a1 fun y0_2 => zdn a1 fun y0_3 => zde a0_0_0 a0_0_1 a0_0_2 a0_0_3 a0_1 a2 a3 (yai .i64 (yan .i64 (ycF y0 y0_2) y0_3) 1) fun y0_4 y1 => zaw y0_4 fun y0_5 => zdj a1 fun y0_6 => br (ltI y0_6 (yai .i64 (yan .i64 y0_5 1) (yai .i64 (yan .i64 (ycF y0 y0_2) y0_3) 1))) (zdb a1 a2 a3 fun y0 y1 y2 y3 => K y0 y1 y2 y3) (zaf a3 y0_4 [1] (yai .i64 (yan .i64 (ycF y0 y0_2) y0_3) 1) fun y0 y1_1 y2 y3 y4 => zam a1 y0 y1_1 y2 y3 fun y0 y1_2 y2 y3 => br (eqS y0_4 []) (zdp a1 a3 fun y0 y1_3 => br y1 (K y0 y1_3 0 0) (zdf a0_0_0 a0_0_1 a0_0_2 a0_0_3 a0_1 a1 a2 a3 fun y0_7 => br y0_7 (K y0 y1_3 3 0) (K y0 y1_3 1 0))) (br y1 (K y0 y1_2 0 0) (zdf a0_0_0 a0_0_1 a0_0_2 a0_0_3 a0_1 a1 a2 a3 fun y0_7 => br y0_7 (K y0 y1_2 3 0) (K y0 y1_2 1 0)))))
noncomputable def zdc := shut zdc.d
theorem zdc.is : zdc = zdc.d := shut_is _
def zcz.d (a0 : Int) (a1 : Int) (a2_0 : Bool) (a2_1 : List UInt8) (a2_2 : List UInt8) (a2_3 : Int) (K : Int → Int → Int → Int → Prop) : Prop :=
  zda a0 a1 a2_0 a2_1 a2_2 a2_3 false fun y0 => br (!eqI y0 0) (K 0 0 0 y0) (br (eqS a2_1 []) (K 0 0 0 y0) (zac a2_0 a2_1 a2_2 a2_3 fun y0 y1 y2 y3 => zdc y0 y1 y2 y3 false a0 a1 a2_0 fun y0 y1 y2 y3 => K y0 y1 y2 y3))
noncomputable def zcz := shut zcz.d
theorem zcz.is : zcz = zcz.d := shut_is _
end Go.Ev.S

/- The functions as the evaluator has them: what each comes to. -/
set_option maxRecDepth 100000
set_option linter.unusedVariables false
set_option linter.unusedSimpArgs false
namespace Go.Ev.S
open Go Go.Ev
def zap.d (K : Bool → Prop) : Prop :=
  zcu 2 0 false (upd (fun x => 0) 0 4095) 0 false fun y0 y1 y2 y3 => zcu 2 3 false (upd (fun x => 0) 0 4095) 0 true fun y0_1 y1_1 y2_1 y3_1 => br (eqI y0 0 && eqI y1 27648) (br (eqI y2 1) (br (eqI y3 0) (K (eqI y3_1 2)) (K false)) (K false)) (K false)
noncomputable def zap := shut zap.d
theorem zap.is : zap = zap.d := shut_is _
def zao.d (a0 : Int) (a1 : Int) (a2_0 : Bool) (a2_1 : Nat → Int) (a2_2 : Int) (a2_3 : Bool) (a3 : Int) (K : Bool → Prop) : Prop :=
  zcq a0 fun y0 => br (!y0) (zap fun y0 => K y0) (zcr a1 fun y0 => br (!y0) (zap fun y0 => K y0) (zcs a0 a2_0 a2_1 a2_2 a2_3 fun y0 => br (!y0) (zap fun y0 => K y0) (br (eqN 6 a2_1 fun x => 0) (zap fun y0 => K y0) (br (ltI 20000 a2_2) (zap fun y0 => K y0) (br (ltI a2_2 (-20000)) (zap fun y0 => K y0) (zce a2_1 fun y0 => zbz y0 60 fun y0 y1 => br a2_3 (zcd (yai .u64 (ycm .u64 a3 1152921504606846975) 1) fun y0_1 => zbv y0 y0_1 fun y0 y1 => zcn a2_0 y0 [1] (yan .i64 a2_2 60) fun y0 y1 y2 y3 y4 => zcu a0 a1 a2_0 a2_1 a2_2 a2_3 fun y0_2 y1_1 y2_1 y3_1 => zcz a0 a1 y0 y1 y2 y3 fun y0 y1 y2 y3 => br (eqI y3_1 0) (br (eqI y3 0) (br (eqI y0_2 y0 && eqI y1_1 y1) (br (eqI y2_1 y2) (zap fun y0 => K y0) (K false)) (K false)) (K false)) (K false)) (zcn a2_0 y0 [1] (yan .i64 a2_2 60) fun y0 y1 y2 y3 y4 => zcu a0 a1 a2_0 a2_1 a2_2 a2_3 fun y0_1 y1_1 y2_1 y3_1 => zcz a0 a1 y0 y1 y2 y3 fun y0 y1 y2 y3 => br (eqI y3_1 0) (br (eqI y3 0) (br (eqI y0_1 y0 && eqI y1_1 y1) (br (eqI y2_1 y2) (zap fun y0 => K y0) (K false)) (K false)) (K false)) (K false))))))))
noncomputable def zao := shut zao.d
theorem zao.is : zao = zao.d := shut_is _
end Go.Ev.S

/- The functions as the evaluator has them: what each comes to. -/
set_option maxRecDepth 100000
set_option linter.unusedVariables false
set_option linter.unusedSimpArgs false
namespace Go.Ev.S
open Go Go.Ev
end Go.Ev.S

/- The functions as the evaluator has them: what each comes to. -/
set_option maxRecDepth 100000
set_option linter.unusedVariables false
set_option linter.unusedSimpArgs false
namespace Go.Ev.S
open Go Go.Ev
end Go.Ev.S

/- The functions as the evaluator has them: what each comes to. -/
set_option maxRecDepth 100000
set_option linter.unusedVariables false
set_option linter.unusedSimpArgs false
namespace Go.Ev.S
open Go Go.Ev
end Go.Ev.S

/- The functions as the evaluator has them: what each comes to. -/
set_option maxRecDepth 100000
set_option linter.unusedVariables false
set_option linter.unusedSimpArgs false
namespace Go.Ev.S
open Go Go.Ev
end Go.Ev.S

/- The functions as the evaluator has them: what each comes to. -/
set_option maxRecDepth 100000
set_option linter.unusedVariables false
set_option linter.unusedSimpArgs false
namespace Go.Ev.S
open Go Go.Ev
end Go.Ev.S

/- The functions as the evaluator has them: what each comes to. -/
set_option maxRecDepth 100000
set_option linter.unusedVariables false
set_option linter.unusedSimpArgs false
namespace Go.Ev.S
open Go Go.Ev
end Go.Ev.S

/- The functions as the evaluator has them: what each comes to. -/
set_option maxRecDepth 100000
set_option linter.unusedVariables false
set_option linter.unusedSimpArgs false
namespace Go.Ev.S
open Go Go.Ev
end Go.Ev.S

/- The functions as the evaluator has them: what each comes to. -/
set_option maxRecDepth 100000
set_option linter.unusedVariables false
set_option linter.unusedSimpArgs false
namespace Go.Ev.S
open Go Go.Ev
end Go.Ev.S

/- The functions as the evaluator has them: what each comes to. -/
set_option maxRecDepth 100000
set_option linter.unusedVariables false
set_option linter.unusedSimpArgs false
namespace Go.Ev.S
open Go Go.Ev
end Go.Ev.S

/- The functions as the evaluator has them: what each comes to. -/
set_option maxRecDepth 100000
set_option linter.unusedVariables false
set_option linter.unusedSimpArgs false
namespace Go.Ev.S
open Go Go.Ev
end Go.Ev.S
