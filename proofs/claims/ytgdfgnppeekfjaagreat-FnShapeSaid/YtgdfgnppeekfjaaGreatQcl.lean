import Derived.Test.YtgdfgnppeekfjaaGreatP5
import Derived.Test.YtgdfgnppeekfjaaGreatQrn
import Derived.Test.YtgdfgnppeekfjaaGreatQro
import Derived.Test.YtgdfgnppeekfjaaGreatP4
import Derived.Test.YtgdfgnppeekfjaaGreatQy
import Derived.Test.YtgdfgnppeekfjaaGreatP2
import Derived.Test.YtgdfgnppeekfjaaGreatP1
section
/- The law of the shape. No conditions. -/
namespace Go.Proofs.YtgdfgnppeekfjaaGreat.Vm
open Go.RowKit (wrap64)
set_option linter.unusedSimpArgs false
set_option linter.unusedVariables false
theorem run_zero {f : FnR} (h : shapeB f = true) : (runW f [] 0).1 = 1 := by
  unfold runW
  rw [if_pos ⟨h, by omega⟩]
  show (runGo f.blocks 1 0 0 (-1) (initS f.values [])).1 = 1
  unfold runGo
  cases (f.blocks.getD 0 blk0).list with
  | nil => simp [listGo]
  | cons x r => simp [listGo]
set_option maxRecDepth 100000 in
theorem shape_law {H : Hp} {v : CV} {xs : List Int} (hv : IsB H v xs) : CM 3 [.c v] H Tru := by
  refine cw3 ?_
  unfold vf3c
  by_cases hbig : 1048576 < xs.length
  · simp [big_call hv.lenOf, hbig]
  have hb : xs.length ≤ BIG := by simp only [BIG]; omega
  simp [big_call hv.lenOf, hbig]
  refine (drawShapeOk_call hv hb).mono ?_
  rintro _ ⟨X, w, m, bs, rfl, hfl, hp, hB, hbl, h0⟩
  obtain ⟨X1, hX1⟩ : ∃ X1, X ++ [(⟨[w, .i m], 0, true, 2⟩ : Ob)] = X1 := ⟨_, rfl⟩
  have hB1 : Blocks X1 w bs := by rw [← hX1]; exact hB.app _
  have hF1 : rdOb X1 X.length 0 = some ⟨[w, .i m], 0, true, 2⟩ := by rw [← hX1]; simp
  obtain ⟨f, hf⟩ : ∃ f : FnR, f = ⟨bs, m⟩ := ⟨_, rfl⟩
  obtain rfl : bs = f.blocks := by rw [hf]
  obtain rfl : m = f.values := by rw [hf]
  clear hf
  have hcw : cellsOf (.c w) = some [w] := by
    cases w <;> simp [flatC] at hfl <;> rfl
  simp [putD0', hX1, rdN_ob hF1, implShape hB1 hbl, specShape hB1 hbl]
  refine (implRun (reads := []) (fuel := 0) hB1 hbl (IsI.ns _)).mono ?_
  rintro _ ⟨X2, tv, rfl, hp2, hO, _⟩
  have hF2 := hp2.rdOb hF1
  have hB2 := hB1.pre hp2
  cases hsh : shapeB f with
  | false =>
    have hr3 : (runW f [] 0).1 = 3 := by rw [runW_bad (by simp [hsh])]
    obtain ⟨w4, L4, hw4, e4⟩ := implOrder0 (f := f) hB2 hbl
    obtain ⟨X3, hX3⟩ : ∃ X3, X2 ++ L4 = X3 := ⟨_, rfl⟩
    have hp3 : Pre X2 X3 := ⟨_, hX3.symm⟩
    have ho : order0 f = [] := by unfold order0; rw [hsh]; simp
    have hO3 : IsI X3 w4 (order0 f) := by have := hw4.isI; rw [hX3] at this; exact this
    have hlO : lenOf w4 = some 0 := by have := hO3.lenOf; rw [ho] at this; exact this
    have hB3 := hB2.pre hp3
    have hF3 := hp3.rdOb hF2
    obtain ⟨w5, L5, hw5, e5⟩ := implCrit0 (f := f) hB3 hbl
    obtain ⟨X4, hX4⟩ : ∃ X4, X3 ++ L5 = X4 := ⟨_, rfl⟩
    have hp4 : Pre X3 X4 := ⟨_, hX4.symm⟩
    have hc : crit0 f = [] := by unfold crit0; rw [hsh]; simp
    have hA4 : Arms X4 w5 (crit0 f) := by have := hw5.isE; rw [hX4] at this; exact this
    have hlA : lenOf w5 = some 0 := by have := hA4.lenOf; rw [hc] at this; exact this
    have hB4 := hB3.pre hp4
    have hF4 := hp4.rdOb hF3
    have hco : costF f = -1 := by unfold costF; rw [hsh]; simp
    have hck : checkF f = 1 := by unfold checkF; simp [hsh]
    have hdom := fun k => implDoms_no hB3 hbl hsh k
    simp [hr3, rdN_ob hF2, e4, hX3, hlO, rdN_ob hF3, hdom, e5, hX4, hlA, rdN_ob hF4, implCost hB4 hbl, hco, implCheck hB4 hbl, hck]
  | true =>
    have hr1 := run_zero hsh
    have hl2 := hB2.lenOf
    have hin := shape_range hsh
    simp [hr1]
    obtain ⟨I, hI⟩ : ∃ I : Nat → St → Prop, ∀ i st, I i st ↔ (Pre X2 st.h ∧ Env.get st.e 3 = .c (.p X.length 0 0) ∧ Env.get st.e 6 = .c (.i 1) ∧ Env.get st.e 8 = .c (.i i)) := ⟨_, fun _ _ => Iff.rfl⟩
    refine wp_for CM_mono f.blocks.length I ((hI _ _).2 ⟨Pre.refl _, by simp⟩) ?_ ?_
    · rintro i ⟨e, Y⟩ hi hIs
      obtain ⟨hY, e3, e6, e8⟩ := (hI _ _).1 hIs
      simp only at hY e3 e6 e8 ⊢
      have hFY := hY.rdOb hF2
      have hBY := hB2.pre hY
      obtain ⟨w5, L5, hw5, e5⟩ := implSuccs0 (f := f) (b := (i : Int)) hBY hbl
      obtain ⟨Y2, hY2⟩ : ∃ Y2, Y ++ L5 = Y2 := ⟨_, rfl⟩
      have hpY2 : Pre Y Y2 := ⟨_, hY2.symm⟩
      have hI2 := hw5.isI
      rw [hY2] at hI2
      have hsu : succs0 f i = succsAt f.blocks i := by
        have hr : rightB f i = true := by unfold rightB; rw [hsh]; exact decide_eq_true (by omega)
        unfold succs0; rw [if_pos hr, succsAt_eq hi]; simp [List.getD_eq_getElem?_getD, hi]
      rw [hsu] at hI2
      have hle : (succsAt f.blocks i).length ≤ 2 := by rw [succsAt_eq hi]; exact succsF_le _
      have hlS := hI2.lenOf
      have hFY2 := hpY2.rdOb hFY
      unfold vf3b1
      simp [e3, e6, e8, rdC_ob hFY, rdN_ob hFY, hl2, hi, e5, hY2]
      obtain ⟨J, hJ⟩ : ∃ J : Nat → St → Prop, ∀ j st, J j st ↔ (st.h = Y2 ∧ Env.get st.e 3 = .c (.p X.length 0 0) ∧ Env.get st.e 6 = .c (.i 1) ∧ Env.get st.e 8 = .c (.i i) ∧ Env.get st.e 9 = .c w5 ∧ Env.get st.e 10 = .c (.i j)) := ⟨_, fun _ _ => Iff.rfl⟩
      refine wp_for CM_mono (succsAt f.blocks i).length J ((hJ _ _).2 ⟨rfl, by simp [e3, e6, e8]⟩) ?_ ?_
      · rintro j ⟨e', Z⟩ hj hJs
        obtain ⟨hZ, e3, e6, e8, e9, e10⟩ := (hJ _ _).1 hJs
        simp only at hZ e3 e6 e8 e9 e10 ⊢
        subst hZ
        obtain ⟨id, g, off, p1, p2⟩ := hI2.at_ hj
        obtain ⟨c, hc, hcl⟩ : ∃ c : Nat, (succsAt f.blocks i)[j] = c ∧ c < f.blocks.length := by
          have := hin i _ (List.getElem_mem hj)
          exact ⟨((succsAt f.blocks i)[j]).toNat, by omega, by omega⟩
        rw [hc] at p2
        unfold vf3b0
        simp [e3, e6, e8, e9, e10, hlS, hj, p1, p2, rdC_ob hFY2, hl2, show ¬ ((c : Int) < 0) by omega, show ¬ (f.blocks.length ≤ c) by omega, up1 hj (show (succsAt f.blocks i).length ≤ BIG by simp only [BIG]; omega)]
        exact (hJ _ _).2 ⟨rfl, by simp [e3, e6, e8, e9]⟩
      · rintro ⟨e', Z⟩ hJs
        obtain ⟨hZ, e3, e6, e8, e9, e10⟩ := (hJ _ _).1 hJs
        simp only at hZ e3 e6 e8 e9 e10 ⊢
        subst hZ
        unfold vf3b0
        simp [e3, e6, e8, e9, e10, hlS, up1 hi hbl]
        exact (hI _ _).2 ⟨hY.trans hpY2, by simp [e3, e6]⟩
    · rintro ⟨e, Y⟩ hIs
      obtain ⟨hY, e3, e6, e8⟩ := (hI _ _).1 hIs
      simp only at hY e3 e6 e8 ⊢
      unfold vf3b1
      simp [e3, e6, e8, rdC_ob (hY.rdOb hF2), hl2]
end Go.Proofs.YtgdfgnppeekfjaaGreat.Vm
end
