/- The evaluator: addresses of parts, composite literals, slices. -/
import Derived.Test.YtfglhfahphncdaaDoorEvVal
set_option linter.unusedVariables false
set_option linter.unusedSimpArgs false
namespace Go.Ev
open Go

theorem Shape.off_append : ∀ (p q : List Nat) (s s' : Shape) (o o' : Nat), s.off p = some o → s.at p = some s' → s'.off q = some o' → s.off (p ++ q) = some (o + o')
  | [], q, s, s', o, o', h1, h2, h3 => by
    simp only [Shape.off, Option.some.injEq] at h1; subst h1
    simp only [Shape.at, Option.some.injEq] at h2; subst h2
    simpa using h3
  | i :: p, q, .node l, s', o, o', h1, h2, h3 => by
    simp only [Shape.off] at h1
    simp only [Shape.at] at h2
    simp only [List.cons_append, Shape.off]
    cases hl : l[i]? with
    | none => simp [hl] at h1
    | some z =>
      simp only [hl] at h1 h2 ⊢
      cases hz : z.off p with
      | none => simp [hz] at h1
      | some oz =>
        simp only [hz, Option.map_some, Option.some.injEq] at h1
        rw [Shape.off_append p q z s' oz o' hz h2 h3]
        simp only [Option.map_some, Option.some.injEq]; omega
  | [i], q, .row n, s', o, o', h1, h2, h3 => by
    simp only [Shape.at, Option.some.injEq] at h2; subst h2
    cases q with
    | nil => simp only [Shape.off, Option.some.injEq] at h3; subst h3; simpa using h1
    | cons j q => cases q <;> simp [Shape.off] at h3
  | i :: j :: p, q, .row n, s', o, o', h1, h2, h3 => by simp [Shape.off] at h1
  | [i], q, .leaf, s', o, o', h1, h2, h3 => by simp [Shape.off] at h1
  | i :: j :: p, q, .leaf, s', o, o', h1, h2, h3 => by simp [Shape.off] at h1

theorem get_at : ∀ (p : List Nat) (v u : EV), v.get p = some u → v.shape.at p = some u.shape
  | [], v, u, h => by simp only [EV.get, Option.some.injEq] at h; subst h; rfl
  | i :: p, .agg l, u, h => by
    simp only [EV.get] at h
    simp only [EV.shape, Shape.at, EV.shapeL_get]
    cases hl : l[i]? with
    | none => simp [hl] at h
    | some z => simp only [hl, Option.map_some] at h ⊢; exact get_at p z u h
  | [i], .arr k n g, u, h => by
    simp only [EV.get, Option.some.injEq] at h; subst h; rfl
  | i :: j :: p, .arr k n g, u, h => by simp [EV.get] at h
  | i :: p, .undef, u, h => by simp [EV.get] at h
  | i :: p, .bool _, u, h => by simp [EV.get] at h
  | i :: p, .int _ _, u, h => by simp [EV.get] at h
  | i :: p, .str _, u, h => by simp [EV.get] at h
  | i :: p, .nilPtr, u, h => by simp [EV.get] at h
  | i :: p, .ptr _ _, u, h => by simp [EV.get] at h
  | i :: p, .rref _, u, h => by simp [EV.get] at h
  | i :: p, .nilSlice, u, h => by simp [EV.get] at h
  | i :: p, .slice _ _ _ _ _, u, h => by simp [EV.get] at h
  | i :: p, .rsI _ _ _, u, h => by simp [EV.get] at h
  | i :: p, .nilFunc, u, h => by simp [EV.get] at h
  | i :: p, .func _ _, u, h => by simp [EV.get] at h
  | i :: p, .tuple _, u, h => by simp [EV.get] at h
  | i :: p, .nilIface, u, h => by simp [EV.get] at h
  | i :: p, .iface _ _, u, h => by simp [EV.get] at h

section sound
variable {P : Program} {E : Env}

theorem ptr_live {ρ : Ren} {H : Heap} {w : World} (hS : Sim ρ H w) {b : Nat} {c u : EV} {p : List Nat} {X : Value} (hb : H[b]? = some (some c)) (hg : c.get p = some u) (hx : Rel ρ w (.ptr b p) X) :
    ∃ r o, ρ.bs[b]? = some (some r) ∧ c.shape = r.sh ∧ r.sh.off p = some o ∧ X = .pointer (some ⟨r.mb, r.base + o, none⟩) ∧
      ∀ q o', u.shape.off q = some o' → Rel ρ w (.ptr b (p ++ q)) (.pointer (some ⟨r.mb, r.base + o + o', none⟩)) := by
  obtain ⟨r, hr, hs, _⟩ := hS.live b c hb
  simp only [Rel] at hx
  obtain ⟨a, rfl, r', hr', hi⟩ := hx
  rw [hr] at hr'; cases hr'
  obtain ⟨o, ho, rfl⟩ := hi r rfl
  refine ⟨r, o, hr, hs, ho, rfl, fun q o' hq => ?_⟩
  simp only [Rel]
  refine ⟨_, rfl, _, hr, fun i hi => ?_⟩
  cases hi
  have := Shape.off_append p q r.sh u.shape o o' ho (by rw [← hs]; exact get_at p c u hg) hq
  exact ⟨_, this, by rw [Nat.add_assoc]⟩

theorem CellsAt.part {w : World} {b o n p : Nat} {cs : List Value} {l : List Value} (h : CellsAt w b o cs) (hl : l = (cs.drop p).take n) : CellsAt w b (o + p) l := by
  rw [hl]; exact h.sub p n

theorem beqO_eq {a b : Option Nat} (h : beqO a b = true) : a = b := by
  cases a <;> cases b <;> simp [beqO] at h ⊢
  exact h

theorem fields_get {flds : Array Field} {fs : List (Nat × TypeId)} (h : flds.toList.map (fun f => (f.offset, f.type)) = fs) {f o : Nat} {ft : TypeId} (hf : fs[f]? = some (o, ft)) :
    ∃ fd, flds[f]? = some fd ∧ fd.offset = o ∧ fd.type = ft := by
  rw [← h, List.getElem?_map] at hf
  cases hfl : flds.toList[f]? with
  | none => simp [hfl] at hf
  | some fd =>
    simp [hfl] at hf
    exact ⟨fd, by simpa using hfl, hf.1, hf.2⟩

theorem evFieldAddr_sound {ρ : Ren} {w : World} {t : TypeId} {x : EV} {f : Nat} {X : Value} {H : Heap} {K : EV → Prop} (hE : ∀ t ti, E.ty t = some ti → OkTI P t ti)
    (hS : Sim ρ H w) (hx : Rel ρ w x X) (h : evFieldAddr E t x f H K) : ∃ v z, K v ∧ Rel ρ w v z ∧ (Instr.fieldAt t X f).run P w = .ok z w := by
  unfold evFieldAddr at h
  split at h
  · rename_i ti ht
    obtain ⟨d, it, z, h1, h2, h3, h4, _⟩ := hE t ti ht
    split at h
    · rename_i fs htd
      rw [htd] at h3; cases d <;> simp only [tdOk] at h3
      rename_i flds
      split at h
      · rename_i o ft hf
        obtain ⟨fd, g1, g2, g3⟩ := fields_get h3.1 hf
        split at h
        · rename_i fi hfi
          obtain ⟨df, jf, zf, f1, f2, f3, f4, _⟩ := hE ft fi hfi
          have hplace : ∀ (m a : Nat), fi.size ≠ 0 → (fieldPlace ⟨m, a, none⟩ fd).run P w = .ok ⟨m, a + o, none⟩ w := by
            intro m a hz
            simp only [fieldPlace, run_bind, g3, run_sizeOf f2, f4]
            rw [if_neg hz, add_addr, g2]
            rfl
          split at h
          · rename_i b p
            split at h
            · rename_i c hb
              split at h
              · rename_i u hg
                rw [gd_iff, Bool.and_eq_true] at h
                obtain ⟨⟨h5, h6⟩, hK⟩ := h
                obtain ⟨r, o1, r1, r2, r3, rfl, r4⟩ := ptr_live hS hb hg hx
                refine ⟨_, _, hK, r4 [f] o (beqO_eq h5), ?_⟩
                have hz : fi.size ≠ 0 := by
                  intro e; rw [e] at h6; simp at h6
                simp only [Instr.fieldAt, run_bind, run_underlying h1, g1, Instr.sureAddr, run_pure, hplace _ _ hz]
              · exact h.elim
            · exact h.elim
          · rename_i l
            split at h
            · rename_i u hu
              rw [gd_iff, Bool.and_eq_true] at h
              obtain ⟨⟨h5, h6⟩, hK⟩ := h
              simp only [Rel] at hx
              obtain ⟨b, a, y, rfl, hy, hb1, hb2, hc⟩ := hx
              obtain ⟨cs, rfl, hF⟩ := hy
              obtain ⟨y', q1, q2, q3⟩ := RelF.part l cs.toList f u hF hu
              have ho := Nat.eq_of_beq_eq_true h5
              rw [← ho] at q2 q3
              have hz : fi.size ≠ 0 := by
                intro e; rw [e] at h6; simp at h6
              refine ⟨_, .pointer (some ⟨b, a + o, none⟩), hK, ?_, ?_⟩
              · simp only [Rel]
                exact ⟨b, a + o, y', rfl, q1, hb1, hb2, hc.part (by rw [cells_agg]; exact q2)⟩
              · simp only [Instr.fieldAt, run_bind, run_underlying h1, g1, Instr.sureAddr, run_pure, hplace _ _ hz]
            · exact h.elim
          · exact h.elim
        · exact h.elim
      · exact h.elim
    · exact h.elim
  · exact h.elim

theorem evIndexAddr_sound {ρ : Ren} {w : World} {t : TypeId} {x i : EV} {X I : Value} {H : Heap} {K : EV → Prop} (hE : ∀ t ti, E.ty t = some ti → OkTI P t ti)
    (hS : Sim ρ H w) (hx : Rel ρ w x X) (hi : Rel ρ w i I) (h : evIndexAddr E t x i H K) : ∃ v z, K v ∧ Rel ρ w v z ∧ (Instr.indexAt t X I).run P w = .ok z w := by
  unfold evIndexAddr at h
  split at h
  · rename_i ti ki iv ht
    obtain ⟨d, it, z, h1, h2, h3, h4, _⟩ := hE t ti ht
    simp only [Rel] at hi; subst hi
    split at h
    · rename_i n e htd
      rw [htd] at h3; cases d <;> simp only [tdOk] at h3
      rename_i na ea
      obtain ⟨e3, e4, _⟩ := h3
      subst e3; subst e4
      split at h
      · rename_i ei he
        obtain ⟨de, ie, ze, e1, e2, e3', e4', _⟩ := hE ea ei he
        have hrun : ∀ (m a : Nat), 0 ≤ iv → iv < na → (Instr.indexAt t (.pointer (some ⟨m, a, none⟩)) (.int ki iv)).run P w = .ok (.pointer (some ⟨m, a + iv.toNat * ei.size, none⟩)) w := by
          intro m a hb1 hb2
          simp only [Instr.indexAt, run_bind, asIntOf, run_pure, run_underlying h1, Instr.sureAddr]
          rw [if_pos ⟨hb1, hb2⟩]
          simp only [run_bind, run_sizeOf e2, run_pure, add_addr, e4']
        split at h
        · rename_i b p
          split at h
          · rename_i c hb
            split at h
            · rename_i k m g hg
              cases hc : (Nat.beq na m && Nat.beq ei.size 1) with
              | false => simp [hc] at h
              | true =>
                simp only [hc, cond_true, gd_iff, Bool.and_eq_true] at h
                simp only [Bool.and_eq_true] at hc
                have hm := Nat.eq_of_beq_eq_true hc.1
                have hs1 := Nat.eq_of_beq_eq_true hc.2
                subst hm
                have hb1 : 0 ≤ iv := by simpa [leI] using h.1.1
                have hb2 : iv < na := by simpa [ltI] using h.1.2
                obtain ⟨r, o1, r1, r2, r3, rfl, r4⟩ := ptr_live hS hb hg hx
                refine ⟨_, _, h.2, r4 [iv.toNat] iv.toNat (by simp only [EV.shape, Shape.off]; rw [if_pos (by omega)]), ?_⟩
                rw [hrun _ _ hb1 hb2, hs1, Nat.mul_one]
            · rename_i l hg
              cases hc : (Nat.beq na l.length && allSize ei.size l) with
              | false => simp [hc] at h
              | true =>
                simp only [hc, cond_true] at h
                simp only [Bool.and_eq_true] at hc
                have hlen := Nat.eq_of_beq_eq_true hc.1
                have hall := allSize_spec l hc.2
                obtain ⟨k, u, p1, p2, p3⟩ := pickL_spec _ _ _ h
                simp only [Nat.zero_add] at p2 p3
                have hkl : k < l.length := by
                  rcases Nat.lt_or_ge k l.length with hh | hh
                  · exact hh
                  · rw [List.getElem?_eq_none hh] at p1; cases p1
                obtain ⟨r, o1, r1, r2, r3, rfl, r4⟩ := ptr_live hS hb hg hx
                refine ⟨_, _, p3, r4 [k] (k * ei.size) ?_, ?_⟩
                · simp only [EV.shape, Shape.off, EV.shapeL_get, p1, Option.map_some, EV.shapeL_take, sizeL_take l hall k (by omega)]; rfl
                · rw [hrun _ _ (by omega) (by omega), p2]; simp
            · exact h.elim
          · exact h.elim
        · rename_i k m g
          cases hc : (Nat.beq na m && Nat.beq ei.size 1) with
          | false => simp [hc] at h
          | true =>
            simp only [hc, cond_true, gd_iff, Bool.and_eq_true] at h
            simp only [Bool.and_eq_true] at hc
            have hm := Nat.eq_of_beq_eq_true hc.1
            have hs1 := Nat.eq_of_beq_eq_true hc.2
            subst hm
            have hb1 : 0 ≤ iv := by simpa [leI] using h.1.1
            have hb2 : iv < na := by simpa [ltI] using h.1.2
            simp only [Rel] at hx
            obtain ⟨b, o, y, rfl, rfl, g1, g2, g3⟩ := hx
            refine ⟨_, _, h.2, ?_, hrun b o hb1 hb2⟩
            simp only [Rel, hs1, Nat.mul_one]
            refine ⟨b, o + iv.toNat, _, rfl, rfl, g1, g2, ?_⟩
            simp only [cells_agg] at g3
            refine g3.part (n := 1) ?_
            simp only [Value.cells]
            rw [List.take_one, List.head?_drop, ints_get _ _ _ _ (by omega)]
            rfl
        · exact h.elim
      · exact h.elim
    · rename_i e htd
      rw [htd] at h3; cases d <;> simp only [tdOk] at h3
      subst h3
      rename_i ea
      split at h
      · rename_i ei he
        obtain ⟨de, ie, ze, e1, e2, e3', e4', _⟩ := hE ea ei he
        have hrun : ∀ (a : Addr) (l c : Nat), 0 ≤ iv → iv < l → (Instr.indexAt t (.slice (some a) l c) (.int ki iv)).run P w = .ok (.pointer (some (a.add (iv.toNat * ei.size)))) w := by
          intro a l c hb1 hb2
          simp only [Instr.indexAt, run_bind, asIntOf, run_pure, run_underlying h1, Bool.and_false]
          rw [if_pos ⟨hb1, hb2⟩]
          simp only [run_bind, run_sizeOf e2, run_pure, e4']
        split at h
        · rename_i b off len cap es
          split at h
          case h_2 => exact h.elim
          rename_i cc hb
          obtain ⟨rl, hrl, _⟩ := hS.live b cc hb
          rw [gd_iff, Bool.and_eq_true, Bool.and_eq_true] at h
          obtain ⟨⟨h5, h6, h7⟩, hK0⟩ := h
          have hs := Nat.eq_of_beq_eq_true h5
          have hK : K (.ptr b [addOff off iv.toNat]) := by
            split at hK0
            · obtain ⟨k, u, p1, p2, p3⟩ := pickL_spec _ _ _ hK0
              have : iv.toNat = k := by omega
              rw [this]
              simpa [addOff_eq] using p3
            · exact hK0
          have hb1 : 0 ≤ iv := by simpa [leI] using h6
          have hb2 : iv < len := by simpa [ltI] using h7
          simp only [Rel] at hx
          obtain ⟨a, c, rfl, r, hr, hh⟩ := hx
          cases r with
          | none => rw [hrl] at hr; cases hr
          | some r =>
            obtain ⟨n, g1, g2, g3, g4, g5⟩ := hh r rfl
            rcases g5 with ⟨rfl, t', cs, fz, g6, g7⟩ | ⟨g5, _⟩
            · refine ⟨_, _, hK, ?_, hrun _ len c hb1 hb2⟩
              simp only [Rel]
              refine ⟨_, rfl, _, hr, fun i hi => ?_⟩
              cases hi
              rw [addOff_eq, add_addr, hs]
              rcases g1 with ⟨g1, rfl⟩ | ⟨l, g1, g8, g9⟩
              · refine ⟨off + iv.toNat, ?_, by rw [Nat.mul_one, Nat.mul_one, Nat.add_assoc]⟩
                rw [g1]; simp only [Shape.off]; rw [if_pos (by omega)]
              · refine ⟨(off + iv.toNat) * es, ?_, by rw [Nat.add_mul, Nat.add_assoc]⟩
                have hlt : off + iv.toNat < l.length := by omega
                rw [g1]; simp only [Shape.off, List.getElem?_eq_getElem hlt, Option.map_some, Nat.add_zero, Option.some.injEq]
                have : ∀ (l : List Shape) (k : Nat), (∀ t ∈ l, t.size = es) → k ≤ l.length → Shape.sizeL (l.take k) = k * es := by
                  intro l
                  induction l with
                  | nil => intro k _ hk; simp at hk; subst hk; simp [Shape.sizeL]
                  | cons s l ih =>
                    intro k hall hk
                    cases k with
                    | zero => simp [Shape.sizeL]
                    | succ k =>
                      simp only [List.take_succ_cons, Shape.sizeL]
                      rw [ih k (fun t ht => hall t (List.mem_cons_of_mem _ ht)) (by simpa using hk), hall s List.mem_cons_self, Nat.add_mul]; omega
                exact this l _ g9 (by omega)
            · omega
        · rename_i k n g
          rw [gd_iff, Bool.and_eq_true, Bool.and_eq_true] at h
          obtain ⟨⟨h5, h6, h7⟩, hK⟩ := h
          have hs := Nat.eq_of_beq_eq_true h5
          have hb1 : 0 ≤ iv := by simpa [leI] using h6
          have hb2 : iv < n := by simpa [ltI] using h7
          simp only [Rel] at hx
          obtain ⟨a, c, rfl, hc, hh⟩ := hx
          rcases hh with hh | ⟨b, o, rfl, g1, g2, g3⟩
          · omega
          · refine ⟨_, _, hK, ?_, hrun _ n c hb1 hb2⟩
            simp only [Rel, add_addr, hs, Nat.mul_one]
            refine ⟨b, o + iv.toNat, _, rfl, rfl, g1, g2, ?_⟩
            refine g3.part (n := 1) ?_
            simp only [Value.cells]
            rw [List.take_one, List.head?_drop, ints_get _ _ _ _ (by omega)]
            rfl
        · exact h.elim
      · exact h.elim
    · exact h.elim
  · exact h.elim
end sound
end Go.Ev
