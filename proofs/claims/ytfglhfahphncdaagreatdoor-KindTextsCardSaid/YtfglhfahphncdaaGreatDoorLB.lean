/- The texts of both sides, and any text read on both. -/
import Derived.Test.YtfglhfahphncdaaGreatDoorLA
set_option linter.unusedVariables false
set_option linter.unusedSimpArgs false
set_option maxRecDepth 8000
namespace Go.Ev.S
open Go Go.Ev
open Go.Lib (decDigits nDigits indexByte parseUint10 parseMag atoiAll)
theorem yev (f x : Nat) (h : f ≤ 3) (hx : x < 2 ^ fw f) (K : List UInt8 → Prop) (hK : K (txt f x)) : zcj f (Hi x) (Lo x) K := by
 have lq := yfX (yhJ f x h)
 have ls := yfX (yfq f x h)
 have he := ydY f x h
 have li := ygh (n := ycA f x) (by omega) (by omega)
 have hI : ∀ Q : List UInt8 → Prop, Q (Go.Lib.itoa (ycA f x)) → zbq (ycA f x) Q := fun Q hQ => by
  rw [zbq.is]; unfold zbq.d; exact yih (by omega) (by omega) _ hQ
 have hT : ∀ Q : List UInt8 → Prop, Q (tw (ufr f x)) → zbn (W (ufr f x)) Q := fun Q hQ => ygL _ (yhJ f x h) Q hQ
 have hS : ∀ Q : List UInt8 → Prop, Q (tw (yb5 f x)) → zbn (W (yb5 f x)) Q := fun Q hQ => ygL _ (yfq f x h) Q hQ
 have num : ∀ (l : List UInt8), l.length ≤ 1 → K (l ++ tw (yb5 f x) ++ [112] ++ Go.Lib.itoa (ycA f x)) → zbn (W (yb5 f x)) fun y0 => gd (leI (l.length + ↑(List.length y0)) 9223372036854775807) (gd (leI (↑(List.length (l ++ y0)) + 1) 9223372036854775807) (zbq (ycA f x) fun y0_2 => gd (leI (↑(List.length (l ++ y0 ++ [112])) + ↑(List.length y0_2)) 9223372036854775807) (K (l ++ y0 ++ [112] ++ y0_2)))) := by
  intro l hl hk
  refine hS _ ?_
  rw [yaK (yaM (by omega)), yaK (yaM (by simp only [List.length_append, List.length_cons, List.length_nil]; omega))]
  refine hI _ ?_
  rw [yaK (yaM (by simp only [List.length_append, List.length_cons, List.length_nil]; omega))]
  exact hk
 rw [zcj.is]; unfold zcj.d
 refine ye6 f x h hx _ ?_
 refine ykO f x h hx _ ?_
 unfold txt body at hK
 cases hn : ng f x <;> rw [hn] at hK
 ·rw [yav rfl]
  rcases yft f x with c | c | c | c | c | c | c | c | c | c <;> rw [c] at hK ⊢
  ·exact hK
  ·exact num [] (by decide) (by rw [List.nil_append]; exact hK)
  ·exact num [] (by decide) (by rw [List.nil_append]; exact hK)
  ·exact hK
  ·exact hK
  ·exact num [] (by decide) (by rw [List.nil_append]; exact hK)
  ·exact num [] (by decide) (by rw [List.nil_append]; exact hK)
  ·exact hK
  ·refine hT _ ?_
   rw [yaK (yaM (by omega))]; exact hK
  ·refine hT _ ?_
   rw [yaK (yaM (by omega))]; exact hK
 ·rw [yaE rfl]
  rcases yft f x with c | c | c | c | c | c | c | c | c | c <;> rw [c] at hK ⊢
  ·exact hK
  ·exact num [45] (by decide) (by rw [List.append_assoc [45], List.append_assoc [45]]; exact hK)
  ·exact num [45] (by decide) (by rw [List.append_assoc [45], List.append_assoc [45]]; exact hK)
  ·exact hK
  ·exact hK
  ·exact num [45] (by decide) (by rw [List.append_assoc [45], List.append_assoc [45]]; exact hK)
  ·exact num [45] (by decide) (by rw [List.append_assoc [45], List.append_assoc [45]]; exact hK)
  ·exact hK
  ·refine hT _ ?_
   rw [yaK (yaM (by omega))]; exact hK
  ·refine hT _ ?_
   rw [yaK (yaM (by omega))]; exact hK
theorem ynj (l r : List UInt8) (c : UInt8) (a : Int) (ha : a = ((c.toNat : Nat) : Int)) (hl : (l ++ c :: r).length ≤ 9223372036854775806) (hc : c ∉ l) (K : Int → Prop) (hK : K (l.length : Int)) : zcl (l ++ c :: r) a K := by
 refine yde _ hl c a ha K (fun l' r' e hc' => ?_) (fun hn => absurd (List.mem_append_right _ List.mem_cons_self) hn)
 obtain ⟨rfl, rfl⟩ := yfm c l l' r r' e hc hc'
 exact hK
theorem yqu (s : List UInt8) (c : UInt8) (a : Int) (ha : a = ((c.toNat : Nat) : Int)) (hl : s.length ≤ 9223372036854775806) (hc : c ∉ s) (K : Int → Prop) (hK : K (-1)) : zcl s a K := by
 refine yde s hl c a ha K (fun l' r' e hc' => ?_) (fun _ => hK)
 exact absurd (by rw [e]; exact List.mem_append_right _ List.mem_cons_self) hc
theorem num_ne {v : Nat} {n : Int} : eqS (tw v ++ 112 :: Go.Lib.itoa n) [105, 110, 102] = false ∧ eqS (tw v ++ 112 :: Go.Lib.itoa n) [48] = false := by
 constructor
 ·obtain ⟨c, r, e, hc, _⟩ := yk3 v (112 :: Go.Lib.itoa n)
  rw [e, ycO]
  refine decide_eq_false fun hh => ?_
  injection hh with hh _
  exact hc (by rw [hh]; decide)
 ·rw [ycO]
  refine decide_eq_false fun hh => ?_
  have : (112 : UInt8) ∈ [(48 : UInt8)] := by rw [← hh]; exact List.mem_append_right _ List.mem_cons_self
  revert this; decide
theorem yof {f t : Nat} (h : f ≤ 3) (ht : t < 2 ^ (fp f - 1)) (h0 : t ≠ 0) (K : Int → Int → Int → Prop) (hK : K (Hi (enc f false 0 t)) (Lo (enc f false 0 t)) 0) : zcg f 5 (W t) (2 - (fe f : Int) - fp f) (fun _ => 0) K := by
 have w := ybK f h
 have hQ : t < Q6 := Nat.lt_of_lt_of_le ht (ygs (by omega))
 have p := yc4 h false (show 0 ≤ 2 * fe f + 1 by omega) ht
 have c : cls f (enc f false 0 t) = 5 := by
  unfold cls; rw [p.2.1, p.2.2, p.1, if_neg (by omega), if_neg (by omega), if_pos h0]; rfl
 refine ypP h 5 (by omega) hQ (fun hh => by omega) (fun _ => ?_)
 rw [show ltI 5 4 = false from rfl]
 refine ygg c ?_ ?_ ?_ hK
 ·unfold yb5; rw [c]; exact p.2.2
 ·unfold ycA; rw [c]; rfl
 ·unfold ufr; rw [c]; exact z0
theorem ymS {f t E : Nat} (h : f ≤ 3) (ht : t < 2 ^ (fp f - 1)) (h1 : 1 ≤ E) (h2 : E ≤ 2 * fe f) (K : Int → Int → Int → Prop) (hK : K (Hi (enc f false E t)) (Lo (enc f false E t)) 0) : zcg f 6 (W (t + 2 ^ (fp f - 1))) ((E : Int) + 1 - fe f - fp f) (fun _ => 0) K := by
 have w := ybK f h
 have hp : 2 ^ fp f = 2 * 2 ^ (fp f - 1) := by rw [← Nat.pow_succ']; congr 1; omega
 have hQ : t + 2 ^ (fp f - 1) < Q6 := Nat.lt_of_lt_of_le (show _ < 2 ^ fp f by omega) (ygs (by omega))
 have p := yc4 h false (show E ≤ 2 * fe f + 1 by omega) ht
 have c : cls f (enc f false E t) = 6 := ylz h false h1 h2 ht
 refine ynT h 6 (by omega) hQ (by omega) (fun hh => by omega) (fun E' hE k1 k2 k3 k4 => ?_)
 have : E' = E := by omega
 subst this
 rw [Nat.add_mod_right, Nat.mod_eq_of_lt ht, show ltI 6 4 = false from rfl]
 refine ygg c ?_ ?_ ?_ hK
 ·unfold yb5; rw [c]; show fr f _ + _ = _; rw [p.2.2]
 ·unfold ycA; rw [c]; show (ex f _ : Int) + 1 - fe f - fp f = _; rw [p.2.1]
 ·unfold ufr; rw [c]; exact z0
theorem ylW {f E t : Nat} (h : f ≤ 3) (he : E ≤ 2 * fe f + 1) (ht : t < 2 ^ (fp f - 1)) (n : Bool) (F : Int → Int → Prop) (hF : F (Hi (enc f n E t)) (Lo (enc f n E t))) :
  br n (zcf f (Hi (enc f false E t)) (Lo (enc f false E t)) fun y0 y1 => F y0 y1) (F (Hi (enc f false E t)) (Lo (enc f false E t))) := by
 cases n
 ·exact hF
 ·refine ygp f _ h (ybJ h he ht false) _ ?_
  rw [yj3 h he ht]; exact hF
theorem yoc (f x : Nat) (h : f ≤ 3) (hx : x < 2 ^ fw f) (K : Int → Int → Prop) (hK : K (Hi x) (Lo x)) : yiN f (body f x) (ng f x) K := by
 have w := ybK f h
 have hu := yhJ f x h
 have hs := yfq f x h
 have he := ydY f x h
 have hfr := ygv f x
 have hp : 2 ^ fp f = 2 * 2 ^ (fp f - 1) := by rw [← Nat.pow_succ']; congr 1; omega
 have li := ygh (n := ycA f x) (by omega) (by omega)
 have ls := yfX hs
 have num : ∀ (T : (Nat → Int) → Int → Prop) (Y : Int → Prop) (A B : Prop), T (W (yb5 f x)) (ycA f x) →
   br (eqS (tw (yb5 f x) ++ 112 :: Go.Lib.itoa (ycA f x)) [105, 110, 102]) A (br (eqS (tw (yb5 f x) ++ 112 :: Go.Lib.itoa (ycA f x)) [48]) B (zcl (tw (yb5 f x) ++ 112 :: Go.Lib.itoa (ycA f x)) 58 fun y0 => br (leI 0 y0) (Y y0) (zcl (tw (yb5 f x) ++ 112 :: Go.Lib.itoa (ycA f x)) 112 fun y0 => br (ltI y0 0) (K 0 0) (gd (leI 0 y0 && leI y0 ↑(List.length (tw (yb5 f x) ++ 112 :: Go.Lib.itoa (ycA f x)))) (zbl (ybw (tw (yb5 f x) ++ 112 :: Go.Lib.itoa (ycA f x)) 0 (Int.toNat y0)) fun y0_1 y1 => gd (leI 0 (yaj IntKind.i64 y0 1) && (leI (yaj IntKind.i64 y0 1) ↑(List.length (tw (yb5 f x) ++ 112 :: Go.Lib.itoa (ycA f x))) && leI ↑(List.length (tw (yb5 f x) ++ 112 :: Go.Lib.itoa (ycA f x))) ↑(List.length (tw (yb5 f x) ++ 112 :: Go.Lib.itoa (ycA f x))))) (zcn (ybw (tw (yb5 f x) ++ 112 :: Go.Lib.itoa (ycA f x)) (Int.toNat (yaj IntKind.i64 y0 1)) (Int.toNat ↑(List.length (tw (yb5 f x) ++ 112 :: Go.Lib.itoa (ycA f x))))) fun y0 y1 => br (!y1) (K 0 0) (T y0_1 y0))))))) := by
  intro T Y A B hT
  have hlen : (tw (yb5 f x) ++ 112 :: Go.Lib.itoa (ycA f x)).length ≤ 9223372036854775806 := by
   rw [List.length_append, List.length_cons]; omega
  have hl2 : (tw (yb5 f x)).length + 1 ≤ (tw (yb5 f x) ++ 112 :: Go.Lib.itoa (ycA f x)).length := by
   rw [List.length_append, List.length_cons]; omega
  rw [yav num_ne.1, yav num_ne.2]
  refine yqu _ 58 58 rfl hlen (ypR _ _ 58 (by decide) (by decide) (by decide)) _ ?_
  rw [yav (by rfl)]
  refine ynj _ _ 112 112 rfl hlen (yp1 _ 112 (by decide)) _ ?_
  rw [yav (ycd (by omega)), yaK (by simp only [Bool.and_eq_true]; exact ⟨yaM (by omega), yaM (by omega)⟩), Int.toNat_natCast, yqD]
  refine ygo hs _ ?_
  rw [yat (by omega) (by omega), show ((tw (yb5 f x)).length : Int) + 1 = (((tw (yb5 f x)).length + 1 : Nat) : Int) from by omega]
  rw [yaK (by simp only [Bool.and_eq_true]; exact ⟨yaM (by omega), yaM (by omega), yaM (by omega)⟩), Int.toNat_natCast, yeN, yov]
  refine yl6 (by omega) (by omega) _ ?_
  exact hT
 unfold yiN
 rcases ten f x h hx with ⟨c, e⟩ | ⟨c, e⟩ | ⟨c, e, f0, e1, e2, e3⟩ | ⟨c, e, l1, l2, e1, e2, e3⟩ | ⟨c, e, f0, e1, e2, e3⟩
 ·have hb : body f x = [105, 110, 102] := by
   unfold body; rw [c]; cases ng f x <;> rfl
  rw [hb, yaE (by rfl)]
  refine yhU f h _ _ ?_
  rw [← e]; exact hK
 ·have hb : body f x = [48] := by
   unfold body; rw [c]; cases ng f x <;> rfl
  rw [hb, yav (by rfl), yaE (by rfl)]
  refine ygW f h _ _ ?_
  rw [← e]; exact hK
 ·have hb : body f x = tw (yb5 f x) ++ 112 :: Go.Lib.itoa (ycA f x) := by
   unfold body; rw [c]; cases ng f x <;> exact List.append_assoc _ _ _
  rw [hb]
  refine num _ _ _ _ ?_
  refine ybI _ hs _ ?_
  rw [yaB f h]
  have hbl := yaY (yb5 f x) (fp f - 1)
  rw [yaE (ybz (by omega)), e1, e2]
  refine yof h hfr f0 _ ?_
  refine ylW h (by omega) hfr _ K ?_
  rw [← e]; exact hK
 ·have hb : body f x = tw (yb5 f x) ++ 112 :: Go.Lib.itoa (ycA f x) := by
   unfold body; rw [c]; cases ng f x <;> exact List.append_assoc _ _ _
  rw [hb]
  refine num _ _ _ _ ?_
  refine ybI _ hs _ ?_
  rw [yaB f h]
  have hbl := yaY (yb5 f x) (fp f - 1)
  rw [yav (ycd (by omega)), e1, e2]
  refine ymS h hfr l1 l2 _ ?_
  refine ylW h (by omega) hfr _ K ?_
  rw [← e]; exact hK
 ·have hQ : fr f x < Q6 := by rw [← e1]; exact hu
  have hl := yfX hQ
  have key : ∀ (l : List UInt8), l.length ≤ 4 → (58 : UInt8) ∉ l → ∀ Z : Int → Prop, zcl (l ++ 58 :: tw (fr f x)) 58 fun y0 => br (leI 0 y0) (gd (leI 0 (yaj IntKind.i64 y0 1) && (leI (yaj IntKind.i64 y0 1) ↑(List.length (l ++ 58 :: tw (fr f x))) && leI ↑(List.length (l ++ 58 :: tw (fr f x))) ↑(List.length (l ++ 58 :: tw (fr f x))))) (zbl (ybw (l ++ 58 :: tw (fr f x)) (Int.toNat (yaj IntKind.i64 y0 1)) (Int.toNat ↑(List.length (l ++ 58 :: tw (fr f x))))) fun y0 y1 => zbh y0 fun y0_1 => zca f fun y0_2 => br (ltI (yae IntKind.i64 y0_2 1) y0_1) (K 0 0) (zbz f fun y0_3 => zbt f (ng f x) y0_3 y0 fun y0 y1 => K y0 y1))) (Z y0) := by
   intro l hl4 hc Z
   have hlen : (l ++ 58 :: tw (fr f x)).length = l.length + 1 + (tw (fr f x)).length := by
    rw [List.length_append, List.length_cons]; omega
   refine ynj _ _ 58 58 rfl (by omega) hc _ ?_
   rw [yaE (yaM (by omega)), yat (by omega) (by omega), show (l.length : Int) + 1 = ((l.length + 1 : Nat) : Int) from by omega]
   rw [yaK (by simp only [Bool.and_eq_true]; exact ⟨yaM (by omega), yaM (by omega), yaM (by omega)⟩), Int.toNat_natCast, yeN, yov]
   refine ygo hQ _ ?_
   refine ybI _ hQ _ ?_
   have hbl := yaY (fr f x) (fp f - 1)
   rw [yaB f h, yfY f h, yav (ycd (by omega)), ycz f h]
   refine ybn f _ _ h (Nat.le_refl _) hfr _ _ ?_
   rw [← e]; exact hK
  rcases c with c | c
  ·have hb : body f x = [115, 110, 97, 110] ++ 58 :: tw (fr f x) := by
    unfold body; rw [e1, c]; rfl
   rw [hb, yav (by rfl), yav (by rfl)]
   exact key _ (by decide) (by decide) _
  ·have hb : body f x = [110, 97, 110] ++ 58 :: tw (fr f x) := by
    unfold body; rw [e1, c]; rfl
   rw [hb, yav (by rfl), yav (by rfl)]
   exact key _ (by decide) (by decide) _
theorem ynz (f x : Nat) (h : f ≤ 3) (hx : x < 2 ^ fw f) (K : Int → Int → Prop) (hK : K (Hi x) (Lo x)) : zcm f (txt f x) K := by
 have hg := yoc f x h hx K hK
 unfold txt
 cases hn : ng f x <;> rw [hn] at hg
 ·show zcm f (body f x) K
  refine yem _ _ K (fun r e => ?_) (fun _ => hg)
  exact absurd (by rw [e]; rfl) (yi8 f x)
 ·show zcm f (45 :: body f x) K
  refine yem _ _ K (fun r e => ?_) (fun hn => absurd rfl hn)
  injection e with _ e
  rw [← e]; exact hg
theorem yj8 (f x : Nat) (h : f ≤ 3) (hx : x < 2 ^ fw f) (K : Int → Int → Int → Prop) (hK : K (Hi x) (Lo x) 0) : zch f (txt f x) K := by
 rw [zch.is]; unfold zch.d
 refine ynz f x h hx _ ?_
 refine yev f x h hx _ ?_
 rw [yav (by rw [yik]; rfl)]; exact hK
theorem ykw (f : Nat) (h : f ≤ 3) (s : List UInt8) (hs : s.length ≤ 9223372036854775806) (hn : ∀ x, x < 2 ^ fw f → txt f x ≠ s) (K : Int → Int → Int → Prop) (hK : K 0 0 80) : zch f s K := by
 rw [zch.is]; unfold zch.d
 refine ynE h s hs _ fun b hb => ?_
 refine yev f b h hb _ ?_
 rw [yaE (by rw [ycO, decide_eq_false (hn b hb)]; rfl)]; exact hK
theorem ymH {s : List UInt8} {v : Int} (h : atoiAll s = .ok v) : -9223372036854775808 ≤ v ∧ v < 9223372036854775808 := by
 unfold atoiAll at h
 cases s with
 | nil => cases h
 | cons c r =>
  simp only at h
  split at h
  ·cases h
  ·cases h
  ·split at h
   ·cases h
   ·split at h
    ·cases h
    ·injection h with h
     split at h <;> omega
theorem ynB (s : List UInt8) (hs : s.length ≤ 9223372036854775806) (c : UInt8) (K : List UInt8 → List UInt8 → Bool → Prop) (h : ∀ l r b, l.length ≤ s.length → r.length ≤ s.length → K l r b) : zdc s [c] K := by
 refine ycL s hs c K (fun l r e _ => h l r true ?_ ?_) (fun _ => h s [] false (Nat.le_refl _) (by simp))
 ·rw [e, List.length_append]; omega
 ·rw [e, List.length_append, List.length_cons]; omega
theorem yie {f : Nat} (h : f ≤ 3) (s : List UInt8) (hs : s.length ≤ 281474976710656) (K : Int → Int → Bool → Prop) (hK : ∀ x b, x < 2 ^ fw f → K (Hi x) (Lo x) b) : zau f s K := by
 have w := ybK f h
 have h0 : ∀ b, K 0 0 b := fun b => hK 0 b (Nat.two_pow_pos _)
 have key : ∀ (y0 : List UInt8) (y1 : Bool), y0.length ≤ 281474976710656 → br (eqS y0 [105, 110, 102]) (zcs f y1 fun y0 y1 => K y0 y1 true) (br (eqS y0 [48]) (zcv f y1 fun y0 y1 => K y0 y1 true) (zdc y0 [58] fun y0_1 y1_1 y2 => br y2 (zdn y1_1 fun y0 y1_2 => br (!eqI y1_2 0) (K 0 0 false) (zdh y0 fun y0_2 => zct f fun y0_3 => br (leI y0_3 y0_2) (K 0 0 false) (zcp f fun y0_4 => zar f y1 (yaj IntKind.i64 (ya0 IntKind.i64 2 y0_4) 1) y0 fun y0 y1 => K y0 y1 true))) (zdc y0 [112] fun y0 y1_2 y2 => zdn y0 fun y0 y1_3 => zda y1_2 (fun y0_2 => br (!y2) (K 0 0 false) (br (!eqI y1_3 0) (K 0 0 false) (zdh y0 fun y0_3 => zct f fun y0_4 => br (eqI y0_3 y0_4) (zam f 6 y0 y0_2 (fun x => 0) fun y0 y1_4 y2 => br y1 (zal f y0 y1_4 fun y0 y1 => K y0 y1 (eqI y2 0)) (K y0 y1_4 (eqI y2 0))) (zam f 5 y0 y0_2 (fun x => 0) fun y0 y1_4 y2 => br y1 (zal f y0 y1_4 fun y0 y1 => K y0 y1 (eqI y2 0)) (K y0 y1_4 (eqI y2 0)))))) fun y0 => br (!y2) (K 0 0 false) (br (!eqI y1_3 0) (K 0 0 false) (K 0 0 false))))) := by
  intro y0 y1 hl
  cases eqS y0 [105, 110, 102]
  rotate_left
  ·rw [yaE rfl, yfG f h]; exact hK _ _ (ybJ h (Nat.le_refl _) (Nat.two_pow_pos _) _)
  rw [yav rfl]
  cases eqS y0 [48]
  rotate_left
  ·rw [yaE rfl, ydh f h]; exact hK _ _ (ybJ h (by omega) (Nat.two_pow_pos _) _)
  rw [yav rfl]
  refine ynB y0 (by omega) 58 _ fun l r b hl1 hr1 => ?_
  cases b
  ·rw [yav rfl]
   refine ynB y0 (by omega) 112 _ fun l r b hl1 hr1 => ?_
   refine yjK l _ fun v e hv => ?_
   rw [zda.is]; unfold zda.d
   refine ⟨by omega, ?_⟩
   cases b
   ·cases hA : atoiAll r with
    | ok n => exact h0 false
    | range => exact h0 false
    | _ => exact h0 false
   have bad : br (!true) (K 0 0 false) (br (!eqI e 0) (K 0 0 false) (K 0 0 false)) := by
    rw [yav (by rfl)]
    cases (!eqI e 0)
    ·exact h0 false
    ·exact h0 false
   cases hA : atoiAll r with
   | ok n =>
    have hn := ymH hA
    show br (!true) _ _
    rw [yav (by rfl)]
    cases (!eqI e 0)
    rotate_left
    ·exact h0 false
    rw [yav (by rfl)]
    refine ybp v hv _ ?_
    rw [yas f h]
    have tl : ∀ (q : Bool) b, b < 2 ^ fw f → br y1 (zal f (Hi b) (Lo b) fun y0 y1 => K y0 y1 q) (K (Hi b) (Lo b) q) := fun q b hb => by
     cases y1
     ·exact hK b q hb
     ·show zal f _ _ _
      rw [yfN f b h hb]; exact hK _ q (yox f b h hb)
    cases eqI (ybu v : Int) (fp f : Int)
    ·exact yj4 h 5 (by omega) hv hn _ (tl _ 0 (Nat.two_pow_pos _)) (fun b hb => tl _ b hb)
    ·exact yj4 h 6 (by omega) hv hn _ (tl _ 0 (Nat.two_pow_pos _)) (fun b hb => tl _ b hb)
   | range => exact bad
   | _ => exact bad
  ·rw [yaE rfl]
   refine yjK r _ fun v e hv => ?_
   cases (!eqI e 0)
   rotate_left
   ·exact h0 false
   rw [yav rfl]
   refine ybp v hv _ ?_
   rw [yas f h]
   have hb := yaY v (fp f - 1)
   by_cases hl2 : v < 2 ^ (fp f - 1)
   ·rw [yav (yfE (by omega)), ybb f h, yn6 f h]
    exact ycn f _ v h (Nat.le_refl _) hl2 y1 _ (hK _ _ (ybJ h (Nat.le_refl _) hl2 _))
   ·rw [yaE (yaM (by omega))]; exact h0 false
 rw [zau.is]; unfold zau.d
 refine yby s 45 _ (fun r e => key r true ?_) (fun _ => key s false hs)
 rw [e, List.length_cons] at hs; omega
theorem yjU (f : Nat) (h : f ≤ 3) (s : List UInt8) (hs : s.length ≤ 281474976710656) (hn : ∀ x, x < 2 ^ fw f → txt f x ≠ s) (K : Int → Int → Int → Prop) (hK : K 0 0 80) : zan f s K := by
 rw [zan.is]; unfold zan.d
 rw [ybf f h, yav (by rfl)]
 refine yie h s hs _ fun x b hx => ?_
 refine ydy f x h hx _ ?_
 cases b
 ·exact hK
 rw [yav (by rfl), yav (by rfl), yaE (by rw [ycO, decide_eq_false (hn x hx)]; rfl)]; exact hK
end Go.Ev.S

/- Texts: the same on both sides. -/
set_option linter.unusedVariables false
set_option linter.unusedSimpArgs false
set_option maxRecDepth 8000
namespace Go.Ev.S
open Go Go.Ev
theorem ymI (f : Nat) (hf : f < 256) (s : List UInt8) (hs : s.length ≤ 140737488351232) (K : Bool → Prop) (hK : K true) :
  zan f s fun y0 y1 y2 => zcb f fun y0_2 => br (!y0_2) (br (eqI y0 0 && eqI y1 0) (br (eqI y2 2) (zaw fun y0 => K y0) (K false)) (K false)) (zch f s fun y0_3 y1_1 y2_1 => br (eqI y0 y0_3 && eqI y1 y1_1) (br (eqI y2 y2_1) (zaw fun y0 => K y0) (K false)) (K false)) := by
 have hal : zaw fun y0 => K y0 := yho _ hK
 by_cases h : f ≤ 3
 ·by_cases ht : ∃ x, x < 2 ^ fw f ∧ txt f x = s
  ·obtain ⟨x, hx, rfl⟩ := ht
   refine yiJ f x h hx _ ?_
   rw [yb3 f h, yav (by rfl)]
   refine yj8 f x h hx _ ?_
   refine yqm ?_
   exact hal
  ·have hn : ∀ x, x < 2 ^ fw f → txt f x ≠ s := fun x hx e => ht ⟨x, hx, e⟩
   refine yjU f h s (by omega) hn _ ?_
   rw [yb3 f h, yav (by rfl)]
   refine ykw f h s (by omega) hn _ ?_
   exact hal
 ·rw [zan.is]; unfold zan.d
  rw [yhv f (by omega)]
  show br (!eqI 2 0) _ _
  rw [yaE (show (!eqI 2 0) = true from rfl)]
  show zcb f _
  rw [yfP f (by omega)]
  exact hal
theorem kindTexts (a0 a1_0 a1_1 : Int) (a2 : List UInt8) (w0 : (Lit.int .u8 a0).wf = true) (w1 : (Lit.int .u64 a1_0).wf = true) (w2 : (Lit.int .u64 a1_1).wf = true)
  (w3 : a2.length ≤ 140737488351232) (K : Bool → Prop) (hK : K true) : zav a0 a1_0 a1_1 a2 K := by
 obtain ⟨f, rfl, hf⟩ := yqL w0
 obtain ⟨x, hx, rfl, rfl⟩ := ypw w1 w2
 have tl := ymI f hf a2 w3 K hK
 rw [zav.is]; unfold zav.d
 rcases ymN f x with ⟨h, hx'⟩ | hb
 ·refine ydy f x h hx' _ ?_
  rw [zax.is]; unfold zax.d
  refine ykd f x h hx' _ ?_
  show br (!true) _ _
  rw [yav (show (!true) = false from rfl)]
  refine yev f x h hx' _ ?_
  rw [yav (by rw [yik]; rfl), yav (by rfl)]
  exact tl
 ·have htx : ∀ Q : List UInt8 → Int → Prop, Q [] 2 → zap f (Hi x) (Lo x) Q := by
   intro Q hQ
   rw [zap.is]; unfold zap.d
   rw [zaq.is]; unfold zaq.d
   rcases hb with ⟨h, h2⟩ | h
   ·rw [ybr f x h hx, yaE (by simpa using h2)]; exact hQ
   ·rw [yeR f h, yaE (show (!false) = true from rfl)]; exact hQ
  refine htx _ ?_
  rw [zax.is]; unfold zax.d
  refine yj5 f x hx hb _ ?_
  show br (!false) _ _
  rw [yaE (show (!false) = true from rfl), yav (by rfl), yav (by rfl)]
  exact tl
end Go.Ev.S
