import Derived.Test.YtgdfgnppeekfjaaGreatQcm
import Derived.Test.YtgdfgnppeekfjaaGreatQrn
import Derived.Test.YtgdfgnppeekfjaaGreatP2
section
/- The law of the look. No conditions. -/
namespace Go.Proofs.YtgdfgnppeekfjaaGreat.Vm
open Go.RowKit (wrap64)
set_option linter.unusedSimpArgs false
set_option linter.unusedVariables false
set_option maxRecDepth 100000 in
theorem checked_law {H : Hp} {v : CV} {xs : List Int} (hv : IsB H v xs) : CM 4 [.c v] H Tru := by
  refine cw4 ?_
  unfold vf4c
  by_cases hbig : 1048576 < xs.length
  · simp [big_call hv.lenOf, hbig]
  have hb : xs.length ≤ BIG := by simp only [BIG]; omega
  simp [big_call hv.lenOf, hbig]
  refine (drawCheck_call hv hb).mono ?_
  rintro _ ⟨X, w, m, bs, rfl, hfl, hp, hB, hbl, h0⟩
  obtain ⟨X1, hX1⟩ : ∃ X1, X ++ [(⟨[w, .i m], 0, true, 2⟩ : Ob)] = X1 := ⟨_, rfl⟩
  have hB1 : Blocks X1 w bs := by rw [← hX1]; exact hB.app _
  have hF1 : rdOb X1 X.length 0 = some ⟨[w, .i m], 0, true, 2⟩ := by rw [← hX1]; simp
  obtain ⟨f, hf⟩ : ∃ f : FnR, f = ⟨bs, m⟩ := ⟨_, rfl⟩
  obtain rfl : bs = f.blocks := by rw [hf]
  obtain rfl : m = f.values := by rw [hf]
  clear hf
  have hcw : cellsOf (.c w) = some [w] := by
    cases w <;> simp [flatC] at hfl <;> rfl
  by_cases hck : checkF f = 0
  · obtain ⟨hsh, hcf, hpr, hma, htk⟩ := check_well hck
    have hl1 := hB1.lenOf
    simp [putD0', hX1, rdN_ob hF1, implCheck hB1 hbl, specCheck hB1 hbl, hck]
    obtain ⟨I, hI⟩ : ∃ I : Nat → St → Prop, ∀ i st, I i st ↔ (Pre X1 st.h ∧ Env.get st.e 3 = .c (.p X.length 0 0) ∧ Env.get st.e 5 = .c (.i i)) := ⟨_, fun _ _ => Iff.rfl⟩
    refine wp_for CM_mono f.blocks.length I ((hI _ _).2 ⟨Pre.refl _, by simp⟩) ?_ ?_
    · rintro b ⟨e, Y⟩ hbi hIs
      obtain ⟨hY, e3, e5⟩ := (hI _ _).1 hIs
      simp only at hY e3 e5 ⊢
      have hFY := hY.rdOb hF1
      have hrb : rightB f (b : Int) = true := by unfold rightB; rw [hsh]; exact decide_eq_true (by omega)
      have hlens := shape_lens hsh (List.getElem_mem hbi)
      obtain ⟨_, hlist, _⟩ := htk b hbi
      unfold vf4b2
      simp [e3, e5, rdC_ob hFY, hl1, hbi]
      obtain ⟨J, hJ⟩ : ∃ J : Nat → St → Prop, ∀ j st, J j st ↔ (Pre X1 st.h ∧ Env.get st.e 3 = .c (.p X.length 0 0) ∧ Env.get st.e 5 = .c (.i b) ∧ Env.get st.e 6 = .c (.i j)) := ⟨_, fun _ _ => Iff.rfl⟩
      refine wp_for CM_mono f.blocks[b].list.length J ((hJ _ _).2 ⟨hY, by simp [e3, e5]⟩) ?_ ?_
      · rintro k ⟨e', Z⟩ hk hJs
        obtain ⟨hZ, e3, e5, e6⟩ := (hJ _ _).1 hJs
        simp only at hZ e3 e5 e6 ⊢
        have hFZ := hZ.rdOb hF1
        have hBZ := hB1.pre hZ
        obtain ⟨i0, g0, off0, w0, u, q1, q2, _, _, ql, _, qll, _, _⟩ := Blocks.get hBZ hbi
        obtain ⟨id2, g2, off2, r1, _, r2, _⟩ := List5.get ql hk
        have r2' := r2 []
        rw [List.append_nil] at r2'
        have hll := ql.lenOf
        have hdef := def_here hsh hma hbi hk
        have huse := hlist k hk
        obtain ⟨x, hx⟩ : ∃ x, f.blocks[b].list[k] = x := ⟨_, rfl⟩
        rw [hx] at r2' hdef huse
        obtain ⟨Z1, hZ1⟩ : ∃ Z1, Z ++ [(⟨[.i x.op, .i x.d, .i x.a, .i x.b, .i x.n], 0, true, 5⟩ : Ob)] = Z1 := ⟨_, rfl⟩
        have hpZ1 : Pre Z Z1 := ⟨_, hZ1.symm⟩
        have h7 : rdOb Z1 Z.length 0 = some ⟨[.i x.op, .i x.d, .i x.a, .i x.b, .i x.n], 0, true, 5⟩ := by rw [← hZ1]; simp
        obtain ⟨uw, L, hw, hcall⟩ := implUses Z1 x
        obtain ⟨Z2, hZ2⟩ : ∃ Z2, Z1 ++ L = Z2 := ⟨_, rfl⟩
        have hwI := hw.isI
        have hpZ2 : Pre Z1 Z2 := ⟨_, hZ2.symm⟩
        rw [hZ2] at hwI
        have h72 := hpZ2.rdOb h7
        have hF2 := (hpZ1.trans hpZ2).rdOb hFZ
        have hB2 := hBZ.pre (hpZ1.trans hpZ2)
        have hwl := hwI.lenOf
        have hul := usesF_le x
        unfold vf4b1
        simp [e3, e5, e6, rdC_ob hFZ, q1, q2.2.1, hll, hk, r1, r2'.2.2.2.2.2, put5, hZ1, rdN_ob h7, hcall, hZ2]
        obtain ⟨K, hK⟩ : ∃ K : Nat → St → Prop, ∀ k2 st, K k2 st ↔ (st.h = Z2 ∧ Env.get st.e 3 = .c (.p X.length 0 0) ∧ Env.get st.e 5 = .c (.i b) ∧ Env.get st.e 6 = .c (.i k) ∧ Env.get st.e 7 = .c (.p Z.length 0 0) ∧ Env.get st.e 8 = .c uw ∧ Env.get st.e 9 = .c (.i k2)) := ⟨_, fun _ _ => Iff.rfl⟩
        refine wp_for CM_mono (usesF x).length K ((hK _ _).2 ⟨rfl, by simp [e3, e5, e6]⟩) ?_ ?_
        · rintro j ⟨e2, W⟩ hj hKs
          obtain ⟨hW, e3, e5, e6, e7, e8, e9⟩ := (hK _ _).1 hKs
          simp only at hW e3 e5 e6 e7 e8 e9 ⊢
          subst hW
          obtain ⟨id3, g3, off3, p1, p2⟩ := hwI.at_ hj
          obtain ⟨y, hy⟩ : ∃ y, (usesF x)[j] = y := ⟨_, rfl⟩
          have hat : atB f.blocks y b k = true := by
            rw [List.any_eq_false] at huse
            have := huse y (hy ▸ List.getElem_mem hj)
            simpa using this
          rw [hy] at p2
          have hda : defAtF f y = homeF f.blocks y := by unfold defAtF homeF; rw [if_pos hsh]
          obtain ⟨h, hh⟩ : ∃ h, homeF f.blocks y = h := ⟨_, rfl⟩
          obtain ⟨h1, h2⟩ := h
          unfold atB at hat
          rw [hh] at hat
          unfold vf4b0
          by_cases he : h1 = (b : Int)
          · simp only at hat
            rw [if_pos he] at hat
            have hlt := of_decide_eq_true hat
            simp [e3, e5, e6, e7, e8, e9, hwl, hj, rdN_ob hF2, p1, p2, implDefAt hB2 hbl, hda, hh, he, show ¬ ((k : Int) ≤ h2) by omega, up1 hj (show (usesF x).length ≤ BIG by simp only [BIG]; omega)]
            exact (hK _ _).2 ⟨rfl, by simp [e3, e5, e6, e7, e8]⟩
          · simp only at hat
            rw [if_neg he] at hat
            have hdm : dominF f h1 b = true := by unfold dominF; rw [hrb]; simpa using hat
            simp [e3, e5, e6, e7, e8, e9, hwl, hj, rdN_ob hF2, p1, p2, implDefAt hB2 hbl, hda, hh, he, implDominates hB2 hbl, hdm, up1 hj (show (usesF x).length ≤ BIG by simp only [BIG]; omega)]
            exact (hK _ _).2 ⟨rfl, by simp [e3, e5, e6, e7, e8]⟩
        · rintro ⟨e2, W⟩ hKs
          obtain ⟨hW, e3, e5, e6, e7, e8, e9⟩ := (hK _ _).1 hKs
          simp only at hW e3 e5 e6 e7 e8 e9 ⊢
          subst hW
          have hda : defAtF f x.d = homeF f.blocks x.d := by unfold defAtF homeF; rw [if_pos hsh]
          have hpre : Pre X1 W := (hZ.trans hpZ1).trans hpZ2
          unfold vf4b0
          by_cases hd : 0 ≤ insDefF x
          · have hh := hdef hd
            simp [e3, e5, e6, e7, e8, e9, hwl, rdN_ob hF2, rdC_ob h72, rdN_ob h72, implDefAt hB2 hbl, hda, hh, implInsDef, hd, up1 hk qll]
            exact (hJ _ _).2 ⟨hpre, by simp [e3, e5]⟩
          · simp [e3, e5, e6, e7, e8, e9, hwl, rdN_ob hF2, rdC_ob h72, rdN_ob h72, implDefAt hB2 hbl, hda, implInsDef, hd, up1 hk qll]
            exact (hJ _ _).2 ⟨hpre, by simp [e3, e5]⟩
      · rintro ⟨e', Z⟩ hJs
        obtain ⟨hZ, e3, e5, e6⟩ := (hJ _ _).1 hJs
        simp only at hZ e3 e5 e6 ⊢
        have hFZ := hZ.rdOb hF1
        have hBZ := hB1.pre hZ
        obtain ⟨i0, g0, off0, w0, u, q1, q2, _, _, ql, _, qll, _, _⟩ := Blocks.get hBZ hbi
        have hll := ql.lenOf
        unfold vf4b1
        simp [e3, e5, e6, rdC_ob hFZ, q1, q2.2.1, hll, up1 hbi hbl]
        exact (hI _ _).2 ⟨hZ, by simp [e3]⟩
    · rintro ⟨e, Y⟩ hIs
      obtain ⟨hY, e3, e5⟩ := (hI _ _).1 hIs
      simp only at hY e3 e5 ⊢
      have hFY := hY.rdOb hF1
      have hBY := hB1.pre hY
      have hr0 : rightB f 0 = true := by unfold rightB; rw [hsh]; exact decide_eq_true (by omega)
      have hp0 : preds0 f 0 = predsF f.blocks 0 := by unfold preds0; rw [if_pos hr0]
      obtain ⟨w4, L4, hw4, e4⟩ := implPreds0 (f := f) (b := 0) hBY hbl
      obtain ⟨Y2, hY2⟩ : ∃ Y2, Y ++ L4 = Y2 := ⟨_, rfl⟩
      have hpY2 : Pre Y Y2 := ⟨_, hY2.symm⟩
      have hP2 : IsI Y2 w4 (preds0 f 0) := by have := hw4.isI; rw [hY2] at this; exact this
      have hlP : lenOf w4 = some 0 := by have := hP2.lenOf; rw [hp0, hpr] at this; exact this
      have hFY2 := hpY2.rdOb hFY
      obtain ⟨w6, L6, hw6, e6⟩ := implOrder0 (f := f) (hBY.pre hpY2) hbl
      obtain ⟨Y3, hY3⟩ : ∃ Y3, Y2 ++ L6 = Y3 := ⟨_, rfl⟩
      have hpY3 : Pre Y2 Y3 := ⟨_, hY3.symm⟩
      have hO3 : IsI Y3 w6 (order0 f) := by have := hw6.isI; rw [hY3] at this; exact this
      have hok := walk0_ok h0
      have hoF : order0 f = ordF f.blocks := by unfold order0; rw [if_pos hsh]
      have hol : (ordF f.blocks).length = f.blocks.length := by
        have a : (ordF f.blocks).length = (walk0 f.blocks).2.length := by unfold ordF; simp
        unfold seenF at hcf
        omega
      have hlO : lenOf w6 = some f.blocks.length := by have := hO3.lenOf; rw [hoF, hol] at this; exact this
      have hFY3 := hpY3.rdOb hFY2
      unfold vf4b2
      simp [e3, e5, rdC_ob hFY, rdN_ob hFY, hl1, e4, hY2, hlP, rdN_ob hFY2, rdC_ob hFY2, rdC_ob hFY3, e6, hY3, hlO, hFY, hFY2, hFY3]
  · have hr := check_range f
    simp [putD0', hX1, rdN_ob hF1, implCheck hB1 hbl, specCheck hB1 hbl, hck, show 1 ≤ checkF f by omega, hr.2]
end Go.Proofs.YtgdfgnppeekfjaaGreat.Vm
end
