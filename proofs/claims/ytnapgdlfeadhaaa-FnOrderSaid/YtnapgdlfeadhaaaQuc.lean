import Derived.Test.YtnapgdlfeadhaaaQua
import Derived.Test.YtnapgdlfeadhaaaP2
section
/- The law of the order. No conditions. -/
namespace Go.Proofs.Ytnapgdlfeadhaaa.Vm
open Go.RowKit (wrap64)
set_option linter.unusedSimpArgs false
set_option linter.unusedVariables false

theorem ordF_first {bs : List BlkR} (h : 0 < bs.length) : ∃ r, ordF bs = 0 :: r := by
  unfold ordF walk0
  obtain ⟨k, hk⟩ : ∃ k, bs.length = k + 1 := ⟨bs.length - 1, by omega⟩
  rw [hk]
  have : ∃ q, (walkF bs (k+1) 0 (List.replicate (k+1) false, [])).2 = q ++ [0] := ⟨_, rfl⟩
  obtain ⟨q, hq⟩ := this
  refine ⟨q.reverse, ?_⟩
  rw [hq]; simp
theorem count_true (l : List Bool) : l.count true + cf l = l.length := by
  induction l with
  | nil => rfl
  | cons a r ih => cases a <;> simp [cf] at ih ⊢ <;> omega
theorem count_take {l : List Bool} {i : Nat} (hi : i < l.length) : (l.take (i + 1)).count true = (l.take i).count true + if l[i] = true then 1 else 0 := by
  rw [List.take_succ_eq_append_getElem hi, List.count_append]
  cases l[i] <;> simp
set_option maxRecDepth 100000 in
theorem order_law {H : Hp} {v : CV} {xs : List Int} (hv : IsB H v xs) : CM 5 [.c v] H Tru := by
  refine cw5 ?_
  unfold vf5c
  by_cases hbig : 1048576 < xs.length
  · simp [big_call hv.lenOf, hbig]
  have hb : xs.length ≤ BIG := by simp only [BIG]; omega
  simp [big_call hv.lenOf, hbig]
  refine (drawOrder_call hv hb).mono ?_
  rintro _ ⟨X, w, m, bs, rfl, hfl, hp, hB, hbl, h0⟩
  obtain ⟨X1, hX1⟩ : ∃ X1, X ++ [(⟨[w, .i m], 0, true, 2⟩ : Ob)] = X1 := ⟨_, rfl⟩
  have hB1 : Blocks X1 w bs := by rw [← hX1]; exact hB.app _
  have hF1 : rdOb X1 X.length 0 = some ⟨[w, .i m], 0, true, 2⟩ := by rw [← hX1]; simp
  obtain ⟨f, hf⟩ : ∃ f : FnR, f = ⟨bs, m⟩ := ⟨_, rfl⟩
  obtain rfl : bs = f.blocks := by rw [hf]
  obtain rfl : m = f.values := by rw [hf]
  clear hf
  obtain ⟨w4, L4, hw4, e4⟩ := implOrder0 (f := f) hB1 hbl
  obtain ⟨X2, hX2⟩ : ∃ X2, X1 ++ L4 = X2 := ⟨_, rfl⟩
  have hp2 : Pre X1 X2 := ⟨_, hX2.symm⟩
  have hO2 : IsI X2 w4 (order0 f) := by have := hw4.isI; rw [hX2] at this; exact this
  obtain ⟨w5, L5, hw5, e5⟩ := implReached0 (f := f) (hB1.pre hp2) hbl
  obtain ⟨X3, hX3⟩ : ∃ X3, X2 ++ L5 = X3 := ⟨_, rfl⟩
  have hp3 : Pre X2 X3 := ⟨_, hX3.symm⟩
  have hR3 : IsL X3 w5 (reach0 f) := by have := hw5.isL; rw [hX3] at this; exact this
  obtain ⟨w6, L6, hw6, e6⟩ := specOrder0 (f := f) (hB1.pre (hp2.trans hp3)) hbl
  obtain ⟨X4, hX4⟩ : ∃ X4, X3 ++ L6 = X4 := ⟨_, rfl⟩
  have hp4 : Pre X3 X4 := ⟨_, hX4.symm⟩
  have hP4 : IsI X4 w6 (order0 f) := by have := hw6.isI; rw [hX4] at this; exact this
  have hp14 := (hp2.trans hp3).trans hp4
  obtain ⟨w7, L7, hw7, e7⟩ := specReached0 (f := f) (hB1.pre hp14) hbl
  obtain ⟨X5, hX5⟩ : ∃ X5, X4 ++ L7 = X5 := ⟨_, rfl⟩
  have hp5 : Pre X4 X5 := ⟨_, hX5.symm⟩
  have hS5 : IsL X5 w7 (reach0 f) := by have := hw7.isL; rw [hX5] at this; exact this
  have hlS : lenOf w7 = some (reach0 f).length := Sl.lenOf hS5
  have hO5 := Sl.pre ((hp3.trans hp4).trans hp5) hO2
  have hR5 : IsL X5 w5 (reach0 f) := Sl.pre (hp4.trans hp5) hR3
  have hlR : lenOf w5 = some (reach0 f).length := Sl.lenOf hR5
  have hlO : lenOf w4 = some (order0 f).length := hO5.lenOf
  have hle := order0_le (f := f) hbl
  have hF5 := (hp14.trans hp5).rdOb hF1
  have hB5 := hB1.pre (hp14.trans hp5)
  have hcw : cellsOf (.c w) = some [w] := by
    cases w <;> simp [flatC] at hfl <;> rfl
  simp [putD0', hX1, rdN_ob hF1, e4, hX2, rdN_ob (hp2.rdOb hF1), e5, hX3, rdN_ob ((hp2.trans hp3).rdOb hF1), e6, hX4, sameInts_call (Sl.pre (hp3.trans hp4) hO2) hP4 hle, rdN_ob (hp14.rdOb hF1), e7, hX5, hlR, hlS, rdN_ob hF5, specShape hB5 hbl]
  cases hsh : shapeB f with
  | false =>
    have ho : order0 f = [] := by unfold order0; rw [hsh]; simp
    have hr : reach0 f = [] := by unfold reach0; rw [hsh]; simp
    rw [ho] at hlO
    rw [hr] at hlR
    have hlO' : lenOf w4 = some 0 := hlO
    have hlR' : lenOf w5 = some 0 := hlR
    simp [hlO', hlR']
  | true =>
    have hpos := shape_pos hsh
    have hin := shape_range hsh
    have ho : order0 f = ordF f.blocks := by unfold order0; rw [if_pos hsh]
    have hr : reach0 f = seenF f.blocks := by unfold reach0; rw [if_pos hsh]
    rw [ho] at hO5 hlO hle
    rw [hr] at hR5 hlR
    have hsl : (seenF f.blocks).length = f.blocks.length := (walk0_ok hpos).1
    obtain ⟨_, hseen⟩ := walk0_seen hpos
    obtain ⟨r, hfirst⟩ := ordF_first hpos
    have hcnt : (seenF f.blocks).count true = (ordF f.blocks).length := by
      have a := count_true (seenF f.blocks)
      have b := (walk0_ok hpos).2.1
      have c : (ordF f.blocks).length = (walk0 f.blocks).2.length := by unfold ordF; simp
      unfold seenF at a ⊢
      rw [(walk0_ok hpos).1] at a
      omega
    simp
    obtain ⟨I, hI⟩ : ∃ I : Nat → St → Prop, ∀ i st, I i st ↔ (Pre X5 st.h ∧ Env.get st.e 3 = .c (.p X.length 0 0) ∧ Env.get st.e 4 = .c w4 ∧ Env.get st.e 5 = .c w5 ∧ Env.get st.e 6 = .c (.i (((seenF f.blocks).take i).count true : Nat)) ∧ Env.get st.e 7 = .c (.i i)) := ⟨_, fun _ _ => Iff.rfl⟩
    refine wp_for CM_mono f.blocks.length I ((hI _ _).2 ⟨Pre.refl _, by simp⟩) ?_ ?_
    · rintro i ⟨e, Y⟩ hi hIs
      obtain ⟨hY, E3, E4, E5, E6, E7⟩ := (hI _ _).1 hIs
      simp only at hY E3 E4 E5 E6 E7 ⊢
      have hRY : IsL Y w5 (seenF f.blocks) := Sl.pre hY hR5
      obtain ⟨id1, g1, q1, q2, q3⟩ := hRY.at_ (k := i) (by omega)
      have hOY := Sl.pre hY hO5
      have hgd : (seenF f.blocks).getD i false = (seenF f.blocks)[i]'(by omega) := getD_at (by omega) _
      have hct := count_take (l := seenF f.blocks) (i := i) (by omega)
      have hcl : ((seenF f.blocks).take i).count true ≤ 2000000 := by
        have a := List.count_le_length (a := true) (l := (seenF f.blocks).take i)
        rw [List.length_take] at a
        simp only [BIG] at hbl; omega
      have hlen' : (seenF f.blocks).length = f.blocks.length := hsl
      cases hsn : (seenF f.blocks)[i]'(by omega) with
      | false =>
        rw [hsn] at q3 hct hgd
        have hno : hasI (ordF f.blocks) i = false := by
          cases hc : hasI (ordF f.blocks) i with
          | false => rfl
          | true => have := (hseen i).2 (hasI_iff.1 hc); rw [hgd] at this; cases this
        unfold vf5b1
        simp [E3, E4, E5, E6, E7, hlR, hsl, hi, q2, q3, within_call hOY hle, hno, up1 hi hbl]
        exact (hI _ _).2 ⟨hY, by simp [E3, E4, E5, hct]⟩
      | true =>
        rw [hsn] at q3 hct hgd
        have hyes : hasI (ordF f.blocks) i = true := hasI_iff.2 ((hseen i).1 hgd)
        obtain ⟨wp, Lp, hP, ep⟩ := implSuccs0 (f := f) (b := (i : Int)) (hB5.pre hY) hbl
        rw [succs0_at hsh hi] at hP
        obtain ⟨Z, hZ⟩ : ∃ Z, Y ++ Lp = Z := ⟨_, rfl⟩
        have hpZ : Pre Y Z := ⟨_, hZ.symm⟩
        have hSI := hP.isI
        rw [hZ] at hSI
        have RI := (seen_rch hin hi).1 hgd
        unfold vf5b1
        simp [E3, E4, E5, E6, E7, hlR, hsl, hi, q2, q3, within_call hOY hle, hyes, rdN_ob (hY.rdOb hF5), ep, hZ, wrap64_id (show -9223372036854775808 ≤ (((seenF f.blocks).take i).count true : Int) + 1 ∧ (((seenF f.blocks).take i).count true : Int) + 1 ≤ 9223372036854775807 by omega)]
        obtain ⟨J, hJ⟩ : ∃ J : Nat → St → Prop, ∀ j st, J j st ↔ (st.h = Z ∧ Env.get st.e 3 = .c (.p X.length 0 0) ∧ Env.get st.e 4 = .c w4 ∧ Env.get st.e 5 = .c w5 ∧ Env.get st.e 6 = .c (.i ((((seenF f.blocks).take i).count true : Nat) + 1 : Int)) ∧ Env.get st.e 7 = .c (.i i) ∧ Env.get st.e 8 = .c wp ∧ Env.get st.e 9 = .c (.i j)) := ⟨_, fun _ _ => Iff.rfl⟩
        refine wp_for CM_mono (succsAt f.blocks i).length J ((hJ _ _).2 ⟨rfl, by simp [E3, E4, E5, E6, E7]⟩) ?_ ?_
        · rintro j ⟨e2, V⟩ hj hJs
          obtain ⟨rfl, E3, E4, E5, E6, E7, E8, E9⟩ := (hJ _ _).1 hJs
          simp only at E3 E4 E5 E6 E7 E8 E9 hSI hpZ ⊢
          obtain ⟨id2, g2, off2, o2, r1, r2, r3⟩ := at_id hSI hj
          have hmem : (succsAt f.blocks i)[j] ∈ succsAt f.blocks i := List.getElem_mem hj
          have hrg := hin i _ hmem
          obtain ⟨s, hs, hsl2⟩ : ∃ s : Nat, (succsAt f.blocks i)[j] = s ∧ s < f.blocks.length := ⟨((succsAt f.blocks i)[j]).toNat, by omega, by omega⟩
          rw [hs] at r3 hmem
          have RS : Rch f.blocks (fun _ => False) 0 s := .step RI hmem fun h => h
          have hgs := (seen_rch hin hsl2).2 RS
          obtain ⟨id3, g3, t1, t2, t3⟩ := (show IsL V w5 (seenF f.blocks) from Sl.pre hpZ hRY).at_ (k := s) (by omega)
          rw [getD_at (by omega)] at hgs
          rw [hgs] at t3
          unfold vf5b0
          simp [E3, E4, E5, E6, E7, E8, E9, hSI.lenOf, hj, r1, rdC_ob r2, r3, t2, t3, up1 hj (succsAt_le _ _)]
          exact (hJ _ _).2 ⟨rfl, by simp [E3, E4, E5, E6, E7, E8]⟩
        · rintro ⟨e2, V⟩ hJs
          obtain ⟨rfl, E3, E4, E5, E6, E7, E8, E9⟩ := (hJ _ _).1 hJs
          simp only at E3 E4 E5 E6 E7 E8 E9 hSI hpZ ⊢
          unfold vf5b0
          simp [E3, E4, E5, E6, E7, E8, E9, hSI.lenOf, up1 hi hbl]
          exact (hI _ _).2 ⟨hY.trans hpZ, by simp [E3, E4, E5, hct]⟩
    · rintro ⟨e, Y⟩ hIs
      obtain ⟨hY, E3, E4, E5, E6, E7⟩ := (hI _ _).1 hIs
      simp only at hY E3 E4 E5 E6 E7 ⊢
      rw [List.take_of_length_le (by omega), hcnt] at E6
      have hOY := Sl.pre hY hO5
      have hol : 0 < (ordF f.blocks).length := by rw [hfirst]; simp
      obtain ⟨id2, g2, off2, o2, r1, r2, r3⟩ := at_id hOY hol
      have r3' : o2.cells[off2]? = some (.i 0) := by rw [r3]; simp [hfirst]
      have r1' : idxOf 1 w4 0 = some (.p id2 g2 off2) := r1
      unfold vf5b1
      simp [E3, E4, E5, E6, E7, hlR, hsl, hlO, r1', rdC_ob r2, r3']
end Go.Proofs.Ytnapgdlfeadhaaa.Vm
end
