import Derived.Test.YtnapgdlfeadhaaaQua
import Derived.Test.YtnapgdlfeadhaaaQze
import Derived.Test.YtnapgdlfeadhaaaQgo
section
/- The law of dominance. No conditions. -/
namespace Go.Proofs.Ytnapgdlfeadhaaa.Vm
open Go.RowKit (wrap64)
set_option linter.unusedSimpArgs false
set_option linter.unusedVariables false

def DomDraw (H : Hp) (r : IV × Hp) : Prop := ∃ X v m bs a n, r = (.tup [(true, [v, .i m]), (false, [.i a]), (false, [.i n])], X) ∧ (∃ d g, v = .sl d g 0 bs.length) ∧ Pre H X ∧ HiBlocks H.length X v bs ∧ bs.length ≤ BIG ∧ 0 < bs.length
theorem drawDominates_call {H : Hp} {v : CV} {xs : List Int} (hv : IsB H v xs) (hb : xs.length ≤ BIG) : CM 30 [.c v] H (DomDraw H) := by
  refine cw30 ?_
  unfold vf30c
  obtain ⟨X0, hX0⟩ : ∃ X0, H ++ [(⟨[.ns, .i 0], 0, true, 2⟩ : Ob)] = X0 := ⟨_, rfl⟩
  have hp0 : Pre H X0 := ⟨_, hX0.symm⟩
  have hR : rdOb X0 H.length 0 = some ⟨[.ns, .i 0], 0, true, 2⟩ := by rw [← hX0]; simp
  have l0 : X0.length = H.length + 1 := by rw [← hX0]; simp
  simp [hX0]
  refine (drawAt_call (Sl.pre hp0 hv) hb).mono ?_
  rintro _ ⟨X, w, m, bs, n, rfl, ⟨d, g, rfl⟩, hp1, hB, hbl, hb0, hn1, hn2⟩
  obtain ⟨X2, hX2⟩ : ∃ X2, X ++ [(⟨[.sl d g 0 bs.length, .i m], 0, true, 2⟩ : Ob)] = X2 := ⟨_, rfl⟩
  have hp2 : Pre X X2 := ⟨_, hX2.symm⟩
  have hF2 : rdOb X2 X.length 0 = some ⟨[.sl d g 0 bs.length, .i m], 0, true, 2⟩ := by rw [← hX2]; simp
  simp [putD0', hX2]
  refine (new_call (Sl.pre ((hp0.trans hp1).trans hp2) hv) hb).mono ?_
  rintro _ ⟨h, rfl⟩
  have hc := new_cur (Sl.pre ((hp0.trans hp1).trans hp2) hv) hb h
  obtain ⟨X3, hX3⟩ : ∃ X3, X2 ++ [(⟨[v, .i 0, .i h], 0, true, 3⟩ : Ob)] = X3 := ⟨_, rfl⟩
  have hp3 : Pre X2 X3 := ⟨_, hX3.symm⟩
  rw [hX3] at hc ⊢
  obtain ⟨q1, Y1, a1, a2, _, D1, e1⟩ := below_call hc (bs.length : Int)
  have hle1 := hp1.le
  have hle2 : X2.length = X.length + 1 := by rw [← hX2]; simp
  have hF3 := hp3.rdOb hF2
  have hFY := D1.l.keep _ _ _ (by omega) hF3
  have hR3 := ((hp1.trans hp2).trans hp3).rdOb hR
  have hRY := D1.l.keep _ _ _ (by omega) hR3
  have hrd : rdN (Y1.set H.length ⟨[.sl d g 0 bs.length, .i m], 0, true, 2⟩) H.length 0 0 2 = some [.sl d g 0 bs.length, .i m] := by
    rw [rdN_ob (o := ⟨[.sl d g 0 bs.length, .i m], 0, true, 2⟩) (by rw [rdOb_set_self (rdOb_lt hRY)]; simp)]; simp
  simp [putD0', rdN_ob hF3, rdC_ob hF3, hF3, e1, rdN_ob hFY, hFY, hRY, hrd, gc_tup4']
  refine ⟨_, _, m, bs, q1, n, rfl, ⟨d, g, rfl⟩, ?_, ?_, hbl, hb0⟩
  · have hpX3 : Pre H X3 := ((hp0.trans hp1).trans hp2).trans hp3
    exact (D1.l.pre hpX3 (by omega)).set (Nat.le_refl _) _
  · rw [l0] at hB
    have hHi : Hi (H.length + 1) X Y1 := fun id g o hi ho => by
      have hlt := rdOb_lt ho
      exact D1.l.keep _ _ _ (by omega) ((hp2.trans hp3).rdOb ho)
    exact (hB.to (hHi.trans (Hi.set (lo := H.length + 1) (by omega) _) (Nat.le_refl _))).lower (by omega)

theorem domin_at {f : FnR} {a b : Int} : dominF f a b = true ↔ shapeB f = true ∧ ∃ x y : Nat, a = x ∧ b = y ∧ x < f.blocks.length ∧ y < f.blocks.length ∧ Dom f.blocks x y := by
  unfold dominF rightB
  rw [Bool.and_eq_true, Bool.and_eq_true]
  constructor
  · rintro ⟨⟨h1, h2⟩, h3⟩
    have h2 := of_decide_eq_true h2
    obtain ⟨y, rfl⟩ : ∃ y : Nat, b = y := ⟨b.toNat, by omega⟩
    have hy : y < f.blocks.length := by omega
    obtain ⟨x, hx, rfl, hd⟩ := domF_mem (hasI_iff.1 h3)
    exact ⟨h1, x, y, rfl, rfl, hx, hy, (domB_iff (shape_range h1) hx hy).1 hd⟩
  · rintro ⟨h1, x, y, rfl, rfl, hx, hy, hd⟩
    exact ⟨⟨h1, decide_eq_true (by omega)⟩, (hasI_dom (shape_range h1) hx hy).2 hd⟩
theorem domin_trans {f : FnR} {x a b : Int} (h : dominF f a b = true) (k : dominF f x a = true) : dominF f x b = true := by
  obtain ⟨h1, p, q, rfl, rfl, hp, hq, hd⟩ := domin_at.1 h
  obtain ⟨_, r, s, rfl, e, hr, hs, hd2⟩ := domin_at.1 k
  obtain rfl : p = s := by omega
  exact domin_at.2 ⟨h1, r, q, rfl, rfl, hr, hq, hd2.trans hd⟩
theorem domin_self {f : FnR} {a b : Int} (h : dominF f a b = true) : dominF f 0 b = true ∧ dominF f b b = true := by
  obtain ⟨h1, p, q, rfl, rfl, hp, hq, hd⟩ := domin_at.1 h
  have hin := shape_range h1
  have h0 := shape_pos h1
  obtain ⟨z1, z2⟩ := dom_zero hin hq ((seen_rch hin hq).2 hd.2.1)
  exact ⟨domin_at.2 ⟨h1, 0, q, rfl, rfl, h0, hq, (hasI_dom hin h0 hq).1 z1⟩, domin_at.2 ⟨h1, q, q, rfl, rfl, hq, hq, Dom.self hd.2.1⟩⟩
theorem above_spec {f : FnR} {c : Int} (h : 0 ≤ aboveF f c) : dominF f (aboveF f c) c = true ∧ aboveF f c ≠ c ∧ ∀ x : Int, x ≠ c → dominF f x c = dominF f x (aboveF f c) := by
  unfold aboveF at h ⊢
  cases hr : rightB f c with
  | false => rw [hr] at h; simp at h
  | true =>
    rw [hr] at h
    simp only [if_true] at h ⊢
    cases hf : (domF f.blocks c.toNat).find? (abvB f.blocks c.toNat) with
    | none => rw [hf] at h; simp at h
    | some z =>
      simp only [Option.getD_some]
      have hz := List.mem_of_find?_eq_some hf
      have hp := List.find?_some hf
      unfold rightB at hr
      rw [Bool.and_eq_true] at hr
      obtain ⟨hsh, hc⟩ := hr
      have hc := of_decide_eq_true hc
      obtain ⟨y, rfl⟩ : ∃ y : Nat, c = y := ⟨c.toNat, by omega⟩
      have hy : y < f.blocks.length := by omega
      rw [Int.toNat_natCast] at hz hp
      obtain ⟨a, ha, rfl, hd⟩ := domF_mem hz
      have hin := shape_range hsh
      unfold abvB at hp
      rw [Bool.and_eq_true] at hp
      have hne := of_decide_eq_true hp.1
      have hlen := of_decide_eq_true hp.2
      rw [Int.toNat_natCast] at hlen
      have hay : a ≠ y := fun e => hne (by rw [e])
      have habv := (above_iff hin ha hy hay hd).1 hlen
      have hD := (domB_iff hin ha hy).1 hd
      refine ⟨domin_at.2 ⟨hsh, a, y, rfl, rfl, ha, hy, hD⟩, hne, fun x hx => ?_⟩
      rw [Bool.eq_iff_iff]
      constructor
      · intro k
        obtain ⟨_, r, s, rfl, e, hr, hs, hd2⟩ := domin_at.1 k
        obtain rfl : y = s := by omega
        exact domin_at.2 ⟨hsh, r, a, rfl, rfl, hr, ha, (domB_iff hin hr ha).1 (habv r hr ((domB_iff hin hr hy).2 hd2) fun e => hx (by rw [e]))⟩
      · intro k
        exact domin_trans (domin_at.2 ⟨hsh, a, y, rfl, rfl, ha, hy, hD⟩) k
set_option maxRecDepth 100000 in
theorem dominates_law {H : Hp} {v : CV} {xs : List Int} (hv : IsB H v xs) : CM 6 [.c v] H Tru := by
  refine cw6 ?_
  unfold vf6c
  by_cases hbig : 1048576 < xs.length
  · simp [big_call hv.lenOf, hbig]
  have hb : xs.length ≤ BIG := by simp only [BIG]; omega
  simp [big_call hv.lenOf, hbig]
  refine (drawDominates_call hv hb).mono ?_
  rintro _ ⟨X, w, m, bs, a, b, rfl, ⟨d0, g0, rfl⟩, hp, hB, hbl, h0⟩
  obtain ⟨w, hw⟩ : ∃ w, CV.sl d0 g0 0 bs.length = w := ⟨_, rfl⟩
  have hcw : cellsOf (.c w) = some [w] := by rw [← hw]; rfl
  obtain ⟨X1, hX1⟩ : ∃ X1, X ++ [(⟨[w, .i m], 0, true, 2⟩ : Ob)] = X1 := ⟨_, rfl⟩
  have hpX1 : Pre X X1 := ⟨_, hX1.symm⟩
  have hB1 : Blocks X1 w bs := by rw [← hw]; exact (hB _ (Pre.hi hpX1))
  have hF1 : rdOb X1 X.length 0 = some ⟨[w, .i m], 0, true, 2⟩ := by rw [← hX1]; simp
  obtain ⟨f, hf⟩ : ∃ f : FnR, f = ⟨bs, m⟩ := ⟨_, rfl⟩
  obtain rfl : bs = f.blocks := by rw [hf]
  obtain rfl : m = f.values := by rw [hf]
  clear hf
  rw [hw]
  simp [putD0', hX1, rdN_ob hF1, implDominates hB1 hbl, specDominates hB1 hbl]
  refine (drawAbove_call (Sl.pre (hp.trans hpX1) hv) hb).mono ?_
  rintro _ ⟨X2, w2, m2, bs2, c, rfl, ⟨d2, g2, rfl⟩, hp2, hB2, hbl2, h02, _, _⟩
  obtain ⟨w2, hw2⟩ : ∃ w2, CV.sl d2 g2 0 bs2.length = w2 := ⟨_, rfl⟩
  obtain ⟨X3, hX3⟩ : ∃ X3, X2 ++ [(⟨[w2, .i m2], 0, true, 2⟩ : Ob)] = X3 := ⟨_, rfl⟩
  have hp3 : Pre X2 X3 := ⟨_, hX3.symm⟩
  have hG3 : Blocks X3 w2 bs2 := by rw [← hw2]; exact (hB2 _ (Pre.hi hp3))
  have hH3 : rdOb X3 X2.length 0 = some ⟨[w2, .i m2], 0, true, 2⟩ := by rw [← hX3]; simp
  obtain ⟨q, hq⟩ : ∃ q : FnR, q = ⟨bs2, m2⟩ := ⟨_, rfl⟩
  obtain rfl : bs2 = q.blocks := by rw [hq]
  obtain rfl : m2 = q.values := by rw [hq]
  clear hq
  have hF3 := (hp2.trans hp3).rdOb hF1
  have hB3 := Blocks.pre (hp2.trans hp3) hB1
  have hlB := hB3.lenOf
  have hlG := hG3.lenOf
  rw [hw2]
  have sp := above_spec (f := q) (c := c)
  obtain ⟨up, hup⟩ : ∃ up, aboveF q c = up := ⟨_, rfl⟩
  rw [hup] at sp
  by_cases h0' : 0 ≤ up
  · obtain ⟨s1, s2, s3⟩ := sp h0'
    simp [putD0', hX3, rdN_ob hH3, implAbove hG3 hbl2, specAbove hG3 hbl2, hup, h0', s1, s2, implDominates hG3 hbl2]
    obtain ⟨I, hI⟩ : ∃ I : Nat → St → Prop, ∀ i st, I i st ↔ (st.h = X3 ∧ Env.get st.e 3 = .c (.p X.length 0 0) ∧ Env.get st.e 4 = .c (.i a) ∧ Env.get st.e 5 = .c (.i b) ∧ Env.get st.e 6 = .c (.b (dominF f a b)) ∧ Env.get st.e 7 = .c (.p X2.length 0 0) ∧ Env.get st.e 8 = .c (.i c) ∧ Env.get st.e 9 = .c (.i up) ∧ Env.get st.e 10 = .c (.i i)) := ⟨_, fun _ _ => Iff.rfl⟩
    refine wp_for CM_mono f.blocks.length I ((hI _ _).2 ⟨rfl, by simp⟩) ?_ ?_
    · rintro i ⟨e, Y⟩ hi hIs
      obtain ⟨hY, e3, e4, e5, e6, e7, e8, e9, e10⟩ := (hI _ _).1 hIs
      simp only at hY e3 e4 e5 e6 e7 e8 e9 e10 ⊢
      subst hY
      unfold vf6b0
      cases hd : dominF f a b with
      | false =>
        rw [hd] at e6
        simp [e3, e4, e5, e6, e7, e8, e9, e10, rdC_ob hF3, rdN_ob hF3, hlB, hi, up1 hi hbl]
        exact (hI _ _).2 ⟨rfl, by simp [e3, e4, e5, e6, e7, e8, e9, hd]⟩
      | true =>
        rw [hd] at e6
        cases hk : dominF f (i : Int) a with
        | false =>
          simp [e3, e4, e5, e6, e7, e8, e9, e10, rdC_ob hF3, rdN_ob hF3, hlB, hi, up1 hi hbl, implDominates hB3 hbl, hk]
          exact (hI _ _).2 ⟨rfl, by simp [e3, e4, e5, e6, e7, e8, e9, hd]⟩
        | true =>
          have ht := domin_trans hd hk
          simp [e3, e4, e5, e6, e7, e8, e9, e10, rdC_ob hF3, rdN_ob hF3, hlB, hi, up1 hi hbl, implDominates hB3 hbl, hk, ht]
          exact (hI _ _).2 ⟨rfl, by simp [e3, e4, e5, e6, e7, e8, e9, hd]⟩
    · rintro ⟨e, Y⟩ hIs
      obtain ⟨hY, e3, e4, e5, e6, e7, e8, e9, e10⟩ := (hI _ _).1 hIs
      simp only at hY e3 e4 e5 e6 e7 e8 e9 e10 ⊢
      subst hY
      unfold vf6b0
      simp [e3, e4, e5, e6, e7, e8, e9, e10, rdC_ob hF3, rdN_ob hF3, hlB]
      obtain ⟨J, hJ⟩ : ∃ J : Nat → St → Prop, ∀ i st, J i st ↔ (st.h = Y ∧ Env.get st.e 3 = .c (.p X.length 0 0) ∧ Env.get st.e 5 = .c (.i b) ∧ Env.get st.e 6 = .c (.b (dominF f a b)) ∧ Env.get st.e 7 = .c (.p X2.length 0 0) ∧ Env.get st.e 8 = .c (.i c) ∧ Env.get st.e 9 = .c (.i up) ∧ Env.get st.e 11 = .c (.i i)) := ⟨_, fun _ _ => Iff.rfl⟩
      refine wp_for CM_mono q.blocks.length J ((hJ _ _).2 ⟨rfl, by simp [e3, e5, e6, e7, e8, e9]⟩) ?_ ?_
      · rintro i ⟨e', Z⟩ hi hJs
        obtain ⟨hZ, e3, e5, e6, e7, e8, e9, e11⟩ := (hJ _ _).1 hJs
        simp only at hZ e3 e5 e6 e7 e8 e9 e11 ⊢
        subst hZ
        unfold vf6b1
        by_cases hx : (i : Int) = c
        · subst hx
          simp [e3, e5, e6, e7, e8, e9, e11, rdC_ob hH3, rdN_ob hH3, hlG, hi, h0', up1 hi hbl2]
          exact (hJ _ _).2 ⟨rfl, by simp [e3, e5, e6, e7, e8, e9]⟩
        · have hs := s3 i hx
          simp [e3, e5, e6, e7, e8, e9, e11, rdC_ob hH3, rdN_ob hH3, hlG, hi, h0', hx, up1 hi hbl2, implDominates hG3 hbl2, hs]
          exact (hJ _ _).2 ⟨rfl, by simp [e3, e5, e6, e7, e8, e9]⟩
      · rintro ⟨e', Z⟩ hJs
        obtain ⟨hZ, e3, e5, e6, e7, e8, e9, e11⟩ := (hJ _ _).1 hJs
        simp only at hZ e3 e5 e6 e7 e8 e9 e11 ⊢
        subst hZ
        unfold vf6b1
        cases hd : dominF f a b with
        | false =>
          rw [hd] at e6
          simp [e3, e5, e6, e7, e8, e9, e11, rdC_ob hH3, rdN_ob hH3, rdN_ob hF3, hlG]
        | true =>
          rw [hd] at e6
          obtain ⟨z1, z2⟩ := domin_self hd
          simp [e3, e5, e6, e7, e8, e9, e11, rdC_ob hH3, rdN_ob hH3, rdN_ob hF3, hlG, implDominates hB3 hbl, z1, z2]
  · simp [putD0', hX3, rdN_ob hH3, implAbove hG3 hbl2, specAbove hG3 hbl2, hup, h0']
    obtain ⟨I, hI⟩ : ∃ I : Nat → St → Prop, ∀ i st, I i st ↔ (st.h = X3 ∧ Env.get st.e 3 = .c (.p X.length 0 0) ∧ Env.get st.e 4 = .c (.i a) ∧ Env.get st.e 5 = .c (.i b) ∧ Env.get st.e 6 = .c (.b (dominF f a b)) ∧ Env.get st.e 7 = .c (.p X2.length 0 0) ∧ Env.get st.e 8 = .c (.i c) ∧ Env.get st.e 9 = .c (.i up) ∧ Env.get st.e 10 = .c (.i i)) := ⟨_, fun _ _ => Iff.rfl⟩
    refine wp_for CM_mono f.blocks.length I ((hI _ _).2 ⟨rfl, by simp⟩) ?_ ?_
    · rintro i ⟨e, Y⟩ hi hIs
      obtain ⟨hY, e3, e4, e5, e6, e7, e8, e9, e10⟩ := (hI _ _).1 hIs
      simp only at hY e3 e4 e5 e6 e7 e8 e9 e10 ⊢
      subst hY
      unfold vf6b0
      cases hd : dominF f a b with
      | false =>
        rw [hd] at e6
        simp [e3, e4, e5, e6, e7, e8, e9, e10, rdC_ob hF3, rdN_ob hF3, hlB, hi, up1 hi hbl]
        exact (hI _ _).2 ⟨rfl, by simp [e3, e4, e5, e6, e7, e8, e9, hd]⟩
      | true =>
        rw [hd] at e6
        cases hk : dominF f (i : Int) a with
        | false =>
          simp [e3, e4, e5, e6, e7, e8, e9, e10, rdC_ob hF3, rdN_ob hF3, hlB, hi, up1 hi hbl, implDominates hB3 hbl, hk]
          exact (hI _ _).2 ⟨rfl, by simp [e3, e4, e5, e6, e7, e8, e9, hd]⟩
        | true =>
          have ht := domin_trans hd hk
          simp [e3, e4, e5, e6, e7, e8, e9, e10, rdC_ob hF3, rdN_ob hF3, hlB, hi, up1 hi hbl, implDominates hB3 hbl, hk, ht]
          exact (hI _ _).2 ⟨rfl, by simp [e3, e4, e5, e6, e7, e8, e9, hd]⟩
    · rintro ⟨e, Y⟩ hIs
      obtain ⟨hY, e3, e4, e5, e6, e7, e8, e9, e10⟩ := (hI _ _).1 hIs
      simp only at hY e3 e4 e5 e6 e7 e8 e9 e10 ⊢
      subst hY
      unfold vf6b0
      simp [e3, e4, e5, e6, e7, e8, e9, e10, rdC_ob hF3, rdN_ob hF3, hlB]
      obtain ⟨J, hJ⟩ : ∃ J : Nat → St → Prop, ∀ i st, J i st ↔ (st.h = Y ∧ Env.get st.e 3 = .c (.p X.length 0 0) ∧ Env.get st.e 5 = .c (.i b) ∧ Env.get st.e 6 = .c (.b (dominF f a b)) ∧ Env.get st.e 7 = .c (.p X2.length 0 0) ∧ Env.get st.e 8 = .c (.i c) ∧ Env.get st.e 9 = .c (.i up) ∧ Env.get st.e 11 = .c (.i i)) := ⟨_, fun _ _ => Iff.rfl⟩
      refine wp_for CM_mono q.blocks.length J ((hJ _ _).2 ⟨rfl, by simp [e3, e5, e6, e7, e8, e9]⟩) ?_ ?_
      · rintro i ⟨e', Z⟩ hi hJs
        obtain ⟨hZ, e3, e5, e6, e7, e8, e9, e11⟩ := (hJ _ _).1 hJs
        simp only at hZ e3 e5 e6 e7 e8 e9 e11 ⊢
        subst hZ
        unfold vf6b1
        simp [e3, e5, e6, e7, e8, e9, e11, rdC_ob hH3, rdN_ob hH3, hlG, hi, h0', up1 hi hbl2]
        exact (hJ _ _).2 ⟨rfl, by simp [e3, e5, e6, e7, e8, e9]⟩
      · rintro ⟨e', Z⟩ hJs
        obtain ⟨hZ, e3, e5, e6, e7, e8, e9, e11⟩ := (hJ _ _).1 hJs
        simp only at hZ e3 e5 e6 e7 e8 e9 e11 ⊢
        subst hZ
        unfold vf6b1
        cases hd : dominF f a b with
        | false =>
          rw [hd] at e6
          simp [e3, e5, e6, e7, e8, e9, e11, rdC_ob hH3, rdN_ob hH3, rdN_ob hF3, hlG]
        | true =>
          rw [hd] at e6
          obtain ⟨z1, z2⟩ := domin_self hd
          simp [e3, e5, e6, e7, e8, e9, e11, rdC_ob hH3, rdN_ob hH3, rdN_ob hF3, hlG, implDominates hB3 hbl, z1, z2]
end Go.Proofs.Ytnapgdlfeadhaaa.Vm
end
