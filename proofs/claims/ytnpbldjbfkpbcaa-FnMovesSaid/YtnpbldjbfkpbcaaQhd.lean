import Derived.Test.YtnpbldjbfkpbcaaQhc
section
/- In which order copies may go: the other side. No conditions. -/
namespace Go.Proofs.Ytnpbldjbfkpbcaa.Vm
open Go.RowKit (wrap64)
set_option linter.unusedSimpArgs false
set_option linter.unusedVariables false

theorem l9Free_call {X : Hp} {w : CV} {ms : List ArmR} (hw : Arms X w ms) (hb : ms.length ≤ BIG) (hne : ∀ m ∈ ms, m.fr ≠ m.v) (k : IV × Hp → Prop) :
    CM 121 [.c w] X k = k (.c (.i (findI (frB ms) ms)), X) := by
  refine det (cw121 ?_) k
  unfold vf121c
  simp
  refine wp_for CM_mono ms.length (fun i s => (∀ j (hj : j < i) (hx : j < ms.length), frB ms ms[j] = false) ∧ s.h = X ∧ Env.get s.e 0 = .c w ∧ Env.get s.e 3 = .c (.i i)) (by simp) ?_ ?_
  · rintro i ⟨e, Y⟩ hi ⟨ht, rfl, h0, h3⟩
    simp only at h0 h3 hw ⊢
    unfold vf121b1
    simp [h0, h3, hw.lenOf, hi]
    obtain ⟨id1, g1, off1, q1, q2, q3, q4, q5⟩ := hw.get hi
    refine wp_for CM_mono ms.length (fun j s => s.h = Y ∧ Env.get s.e 0 = .c w ∧ Env.get s.e 3 = .c (.i i) ∧ Env.get s.e 4 = .c (.b ((ms.take j).any fun o => decide (o.v = ms[i].fr))) ∧ Env.get s.e 5 = .c (.i j)) (by simp [h0, h3]) ?_ ?_
    · rintro j ⟨e', Y'⟩ hj ⟨rfl, h0, h3, h4, h5⟩
      simp only at h0 h3 h4 h5 hw q2 q3 q4 ⊢
      obtain ⟨id2, g2, off2, r1, r2, r3, r4, r5⟩ := hw.get hj
      have hsucc : ((ms.take (j + 1)).any fun o => decide (o.v = ms[i].fr)) = (((ms.take j).any fun o => decide (o.v = ms[i].fr)) || decide (ms[j].v = ms[i].fr)) := by
        rw [List.take_succ_eq_append_getElem hj, List.any_append]; simp
      unfold vf121b0
      cases hA : ((ms.take j).any fun o => decide (o.v = ms[i].fr)) with
      | true =>
        rw [hA] at h4 hsucc
        simp at hsucc
        simp [h0, h3, h4, h5, hw.lenOf, hj, up1 hj hb]
        simpa using hsucc
      | false =>
        rw [hA] at h4 hsucc
        by_cases hij : j = i
        · subst hij
          have hv : ¬ ms[j].v = ms[j].fr := fun h => hne _ (List.getElem_mem hj) h.symm
          simp [hv] at hsucc
          simp [h0, h3, h4, h5, hw.lenOf, hj, up1 hj hb]
          simpa using hsucc
        · have hij' : ¬ ((j : Int) = (i : Int)) := by omega
          by_cases hv : ms[j].v = ms[i].fr
          · simp [hv] at hsucc
            simp [h0, h3, h4, h5, hw.lenOf, hj, hij, hij', q1, q2, q3, q4, r1, r2, r3, r4, hv, up1 hj hb]
            simpa using hsucc
          · simp [hv] at hsucc
            simp [h0, h3, h4, h5, hw.lenOf, hj, hij, hij', q1, q2, q3, q4, r1, r2, r3, r4, hv, up1 hj hb]
            simpa using hsucc
    · rintro ⟨e', Y'⟩ ⟨rfl, h0, h3, h4, h5⟩
      simp only at h0 h3 h4 h5 hw ⊢
      rw [List.take_length] at h4
      unfold vf121b0
      cases hA : (ms.any fun o => decide (o.v = ms[i].fr)) with
      | true =>
        rw [hA] at h4
        have hf : frB ms ms[i] = false := by unfold frB; rw [hA]; rfl
        simp [h0, h3, h4, h5, hw.lenOf, up1 hi hb]
        intro l hl hx
        by_cases el : l = i
        · subst el; exact hf
        · exact ht l (by omega) hx
      | false =>
        rw [hA] at h4
        have hf : frB ms ms[i] = true := by unfold frB; rw [hA]; rfl
        simp [h0, h3, h4, h5, hw.lenOf, findI_some hi (fun j hj => ht j hj (by omega)) hf]
  · rintro ⟨e, Y⟩ ⟨ht, rfl, h0, h3⟩
    simp only at h0 h3 hw ⊢
    unfold vf121b1
    simp [h0, h3, hw.lenOf, findI_none (fun j hj => ht j hj hj)]
theorem appM {X : Hp} {id g : Nat} {A : List ArmR} (h : MvO X id g A []) (hl : A.length ≤ 100) (B : List ArmR) (hB : B.length ≤ 100) :
    ∃ g' Z, doApp X 2 (.sl id g 0 A.length) B.length (edC B) = some (.c (.sl id g' 0 (A.length + B.length)), Z) ∧ But id X Z ∧ MvO Z id g' (A ++ B) [] := by
  have hlt := h.lt
  have h' : rdOb X id g = some ⟨edC A, g, true, 2⟩ := by have h2 : rdOb X id g = some ⟨edC A ++ [], g, true, 2⟩ := h; rwa [List.append_nil] at h2
  by_cases h0 : 0 < B.length
  · have := app_own (X := X) (o := id) (g := g) (n := A.length) (sz := 2) (m := B.length) (cs := edC A) (xs := edC B) h' (by simp) (by simp; omega) (by simp only [LIM, edC_len]; omega)
    refine ⟨g + 1, _, this, But.set _ _ _, ?_⟩
    show rdOb _ _ _ = _
    rw [rdOb_set_self hlt, List.append_nil, ← edC_app]; simp
  · have : B = [] := List.length_eq_zero_iff.1 (by omega)
    subst this
    refine ⟨g, X, ?_, But.refl _ _, by rw [List.append_nil]; exact h⟩
    have e : X.set id ⟨edC A, g, true, 2⟩ = X := by
      have := (rdOb_some.1 h').1
      rw [List.getElem?_eq_getElem hlt] at this
      injection this with this
      rw [← this]; simp
    simp [doApp, h', putAt, e]
theorem MvO.same {X Y : Hp} {id g off n : Nat} {ms : List ArmR} {rest : List CV} (h : MvO X id g ms rest) (k : MvO Y id g ms rest) : sameAt (.sl id g off n) X Y := by
  show rdOb Y id g = rdOb X id g
  rw [show rdOb Y id g = _ from k, show rdOb X id g = _ from h]
set_option maxRecDepth 100000 in
theorem specSeq0 {H : Hp} {w : CV} {ms : List ArmR} {n : Int} (hw : Arms H w ms) (hok : movesB n ms = true) : CM 80 [.c w, .c (.i n)] H fun r => ∃ Z b g, r = (.c (.sl b g 0 (seqF n 60 (leftM idM ms ms.length) []).length), Z) ∧ Pre H Z ∧ MvO Z b g (seqF n 60 (leftM idM ms ms.length) []) [] := by
  obtain ⟨h24, hfr⟩ := mvB_all hok
  have hb : ms.length ≤ BIG := by simp only [BIG]; omega
  refine cw80 ?_
  unfold vf80c
  simp
  obtain ⟨J, hJ⟩ : ∃ J : Nat → St → Prop, ∀ i st, J i st ↔ ∃ g, Low H.length H st.h ∧ MvO st.h H.length g (leftM idM ms i) [] ∧ Env.get st.e 0 = .c w ∧ Env.get st.e 1 = .c (.i n) ∧ Env.get st.e 5 = .c (.sl H.length g 0 (leftM idM ms i).length) ∧ Env.get st.e 6 = .c (.i i) := ⟨_, fun _ _ => Iff.rfl⟩
  refine wp_for CM_mono ms.length J ((hJ _ _).2 ⟨0, Low.app _ _ _, by show rdOb _ _ _ = _; simp [leftM], by simp [leftM]⟩) ?_ ?_
  · rintro i ⟨e, Y⟩ hi hJs
    obtain ⟨g, hL, hM, h0, h1, h5, h6⟩ := (hJ _ _).1 hJs
    simp only at hL hM h0 h1 h5 h6 ⊢
    have hwY : Arms Y w ms := Row.pre (fun _ _ => armP.pre) (hL.pre (Pre.refl _) (Nat.le_refl _)) hw
    obtain ⟨id1, g1, off1, q1, q2, q3, q4, q5⟩ := hwY.get hi
    have hsu := leftM_succ (p := idM) hi
    have hle := leftM_le idM ms i
    unfold vf80b0
    by_cases hv : ms[i].fr = ms[i].v
    · rw [if_pos (show idM ms[i] = true by unfold idM; rw [hv]; simp), List.append_nil] at hsu
      simp [h0, h1, h5, h6, hwY.lenOf, hi, q1, q2, q3, q4, hv, up1 hi hb]
      exact (hJ _ _).2 ⟨g, hL, by rw [hsu]; exact hM, by simp [h0, h1, h5, hsu]⟩
    · rw [if_neg (show ¬ idM ms[i] = true by unfold idM; simpa using hv)] at hsu
      obtain ⟨p1, p2, p3⟩ := hM.push (by omega) ms[i]
      generalize leftM idM ms i = L at hsu p1 p2 p3 h5 hM
      obtain ⟨Y2, hY2⟩ : ∃ Y2, (Y ++ [(⟨[.i ms[i].fr, .i ms[i].v], 0, true, 2⟩ : Ob)]).set H.length ⟨edC (L ++ [ms[i]]), g + 1, true, 2⟩ = Y2 := ⟨_, rfl⟩
      rw [hY2] at p1 p2 p3
      simp [h0, h1, h5, h6, hwY.lenOf, hi, q1, q2, q3, q4, hv, srcOf, putD0, p1, up1 hi hb]
      exact (hJ _ _).2 ⟨g + 1, hL.trans (p2.low (Nat.le_refl _)), by rw [hsu]; exact p3, by simp [h0, h1, hsu]⟩
  · rintro ⟨e, Y⟩ hJs
    obtain ⟨g0, hL0, hM0, h0, h1, h5, h6⟩ := (hJ _ _).1 hJs
    simp only at hL0 hM0 h0 h1 h5 h6 ⊢
    have hwY : Arms Y w ms := Row.pre (fun _ _ => armP.pre) (hL0.pre (Pre.refl _) (Nat.le_refl _)) hw
    obtain ⟨hmu, hl24⟩ := left_mu h24
    have hgood := left_good hfr
    generalize leftM idM ms ms.length = L0 at hM0 hmu hgood hl24 h5 ⊢
    obtain ⟨F, hF⟩ : ∃ F, seqF n 60 L0 [] = F := ⟨_, rfl⟩
    rw [hF]
    have hlt0 := hM0.lt
    unfold vf80b0
    simp [h0, h1, h5, h6, hwY.lenOf]
    obtain ⟨I, hI⟩ : ∃ I : Nat → St → Prop, ∀ f st, I f st ↔ ∃ left out a g b h, Low H.length H st.h ∧ MvO st.h a g left [] ∧ MvO st.h b h out [] ∧ H.length ≤ a ∧ H.length ≤ b ∧ a ≠ b ∧ GoodM n left ∧ muM left ≤ f ∧ left.length ≤ 24 ∧ out.length + f ≤ 60 ∧ seqF n f left out = F ∧ Env.get st.e 1 = .c (.i n) ∧ Env.get st.e 5 = .c (.sl a g 0 left.length) ∧ Env.get st.e 7 = .c (.sl b h 0 out.length) := ⟨_, fun _ _ => Iff.rfl⟩
    refine wp_loop CM_mono I (k := 60) ((hI _ _).2 ⟨L0, [], H.length, g0, Y.length, 0, hL0.trans (Low.app _ _ _), hM0.app _, by show rdOb _ _ _ = _; simp, Nat.le_refl _, by omega, by omega, hgood, hmu, hl24, by simp, hF, by simp [h1, h5]⟩) ?_
    rintro f ⟨e, Y⟩ hIs
    obtain ⟨left, out, a, g, b, h, hL, hMa, hMb, haH, hbH, hab, hG, hmu', hll, hol, hseq, e1, e5, e7⟩ := (hI _ _).1 hIs
    simp only at hL hMa hMb e1 e5 e7 ⊢
    have hlY := hMa.lt
    unfold vf80b2
    by_cases h0 : left.length = 0
    · have : left = [] := List.length_eq_zero_iff.1 h0
      subst this
      rw [seq_nil] at hseq
      subst hseq
      simp [e1, e5, e7]
      have hgc : ∀ Z, Pre H Z → MvO Z b h out [] → ∃ Z' b' h', gcRet H (.c (.sl b h 0 out.length)) Z = (.c (.sl b' h' 0 out.length), Z') ∧ Pre H Z' ∧ MvO Z' b' h' out [] := fun Z hpZ hM => by
        have ho : rdOb Z b h = some ⟨edC out ++ [], h, true, 2⟩ := hM
        rw [gcRet_row hpZ hbH ho rfl (by simpa using edC_flat out)]
        exact ⟨_, _, _, rfl, ⟨_, rfl⟩, by show rdOb _ _ _ = _; simp⟩
      obtain ⟨Z', b', h', e', e2, e3⟩ := hgc Y (hL.pre (Pre.refl _) (Nat.le_refl _)) hMb
      rw [e']
      exact ⟨Z', b', h', rfl, e2, e3⟩
    · have hpos : (0 : Int) < (left.length : Int) := by omega
      have hpos' : 0 < left.length := by omega
      obtain ⟨f', rfl⟩ : ∃ f', f = f' + 1 := ⟨f - 1, by unfold muM at hmu'; omega⟩
      have hne : ∀ m ∈ left, m.fr ≠ m.v := fun m hm => (hG m hm).1
      have hfm := fun k => l9Free_call hMa.row (by simp only [BIG]; omega) hne k
      by_cases hfr0 : 0 ≤ findI (frB left) left
      · obtain ⟨i, hfi, hi, hfp⟩ := findI_at hfr0
        have hseq' : seqF n f' (left.eraseIdx i) (out ++ [left[i]]) = F := by
          rw [← hseq]
          conv => rhs; unfold seqF
          rw [if_neg h0, if_pos hfr0, hfi, Int.toNat_natCast, getD_idx hi]
        obtain ⟨r1, r2, r3⟩ := hMa.at hi
        obtain ⟨p1, p2, p3⟩ := hMb.push (by omega) left[i]
        obtain ⟨Y2, hY2⟩ : ∃ Y2, (Y ++ [(⟨[.i left[i].fr, .i left[i].v], 0, true, 2⟩ : Ob)]).set b ⟨edC (out ++ [left[i]]), h + 1, true, 2⟩ = Y2 := ⟨_, rfl⟩
        rw [hY2] at p1 p2 p3
        have hMa2 := hMa.but p2 hab
        obtain ⟨Y3, hY3⟩ : ∃ Y3, Y2 ++ [(⟨[], 0, true, 2⟩ : Ob)] = Y3 := ⟨_, rfl⟩
        have hN3 : MvO Y3 Y2.length 0 [] [] := by show rdOb _ _ _ = _; rw [← hY3]; simp
        have hMa3 : MvO Y3 a g left [] := by rw [← hY3]; exact hMa2.app _
        have hMb3 : MvO Y3 b (h + 1) (out ++ [left[i]]) [] := by rw [← hY3]; exact p3.app _
        have haY := hMa2.lt
        have hbY := p3.lt
        have hle := hi
        obtain ⟨wa, s1, ra, s2, s3⟩ := hMa3.row.slice (l := 0) (m := i) (Nat.zero_le _) (by omega)
        have s4 := s2 rfl
        simp only [List.drop_zero, Nat.sub_zero] at ra
        have src1 := arms_src ra
        have hli : (left.take i).length = i := by simp; omega
        rw [hli] at src1
        obtain ⟨g4, Y4, a1, a2, a3⟩ := appM hN3 (by simp) (left.take i) (by simp; omega)
        rw [hli] at a1
        simp only [List.length_nil, Nat.zero_add, List.nil_append] at a1 a3
        have hMa4 := hMa3.but a2 (by omega)
        have hMb4 := hMb3.but a2 (by omega)
        obtain ⟨wb, t1, rb, t2, t3⟩ := hMa4.row.slice (l := i + 1) (m := left.length) (by omega) (Nat.le_refl _)
        have t4 := t3 rfl
        rw [List.take_of_length_le (by simp)] at rb
        have src2 := arms_src rb
        have hld : (left.drop (i + 1)).length = left.length - (i + 1) := by simp
        rw [hld] at src2
        obtain ⟨g5, Y5, b1, b2, b3⟩ := appM a3 (by simp; omega) (left.drop (i + 1)) (by simp; omega)
        rw [hld, hli] at b1
        rw [← erase_split hi] at b3
        have hel : i + (left.length - (i + 1)) = (left.eraseIdx i).length := by rw [List.length_eraseIdx, if_pos hi]; omega
        rw [hel] at b1
        have hcast : ((i + 1 : Nat) : Int) = (i : Int) + 1 := by omega
        rw [hcast] at t4
        have hMa5 := hMa4.but b2 (by omega)
        have hnn : ¬ ((i : Int) < 0) := by omega
        have hs0 : srcOf (Y ++ [(⟨[.i left[i].fr, .i left[i].v], 0, true, 2⟩ : Ob)]) 2 (.sl Y.length 0 0 1) = some (1, [.i left[i].fr, .i left[i].v]) := by simp [srcOf]
        have o2 : rdOb Y2 a g = some ⟨edC left ++ [], g, true, 2⟩ := hMa2
        have o3 : rdOb Y3 a g = some ⟨edC left ++ [], g, true, 2⟩ := hMa3
        have o4 : rdOb Y4 a g = some ⟨edC left ++ [], g, true, 2⟩ := hMa4
        have o5 : rdOb Y5 a g = some ⟨edC left ++ [], g, true, 2⟩ := hMa5
        generalize edC left ++ [] = cl at o2 o3 o4 o5
        simp [e1, e5, e7, hpos, hpos', hfm, hfi, hnn, idxOf, hi, r1, hs0, putD0, p1, hY3, s4, src1, a1, t4, src2, b1, o2, o3, o4, o5, sameAt, up1 hi (show left.length ≤ BIG by simp only [BIG]; omega)]
        have lo4 : Low H.length Y2 Y5 := ((show Low H.length Y2 Y3 by rw [← hY3]; exact Low.app _ _ _).trans (a2.low (by omega))).trans (b2.low (by omega))
        exact ⟨f', by omega, (hI _ _).2 ⟨left.eraseIdx i, out ++ [left[i]], Y2.length, g5, b, h + 1, (hL.trans (p2.low hbH)).trans lo4, b3, hMb4.but b2 (by omega), by omega, hbH, by omega, good_erase hG i, by have := mu_erase hi; omega, by rw [List.length_eraseIdx, if_pos hi]; omega, by simp; omega, hseq', by simp [e1]⟩⟩
      · have hfr1 : findI (frB left) left < 0 := by omega
        obtain ⟨m0, hm0⟩ : ∃ m0, left[0] = m0 := ⟨_, rfl⟩
        have hgd : left.getD 0 ⟨0, 0⟩ = m0 := by rw [getD_idx hpos', hm0]
        have hmt := mu_turn hG hpos' hfr1
        have hseq' : seqF n f' (left.map (turnM n m0.fr)) (out ++ [⟨n, m0.fr⟩]) = F := by
          rw [← hseq]
          conv => rhs; unfold seqF
          rw [if_neg h0, if_neg hfr0, hgd]
        rw [hgd] at hmt
        obtain ⟨r1, r2, r3⟩ := hMa.at hpos'
        rw [hm0] at r2
        rw [Nat.zero_mul] at r2
        obtain ⟨p1, p2, p3⟩ := hMb.push (by omega) ⟨n, m0.fr⟩
        simp only at p1 p2 p3
        obtain ⟨Y2, hY2⟩ : ∃ Y2, (Y ++ [(⟨[.i n, .i m0.fr], 0, true, 2⟩ : Ob)]).set b ⟨edC (out ++ [⟨n, m0.fr⟩]), h + 1, true, 2⟩ = Y2 := ⟨_, rfl⟩
        rw [hY2] at p1 p2 p3
        have hMa2 := hMa.but p2 hab
        simp [e1, e5, e7, hpos, hpos', hfm, hfr1, idxOf, r2, srcOf, putL0, putL1, putD0, p1]
        obtain ⟨T, hT⟩ : ∃ T : Nat → St → Prop, ∀ j st, T j st ↔ (But a Y2 st.h ∧ MvO st.h a g (turnTo n m0.fr left j) [] ∧ Env.get st.e 1 = .c (.i n) ∧ Env.get st.e 5 = .c (.sl a g 0 left.length) ∧ Env.get st.e 7 = .c (.sl b (h + 1) 0 (out.length + 1)) ∧ Env.get st.e 9 = .c (.i m0.fr) ∧ Env.get st.e 10 = .c (.i j)) := ⟨_, fun _ _ => Iff.rfl⟩
        refine wp_for CM_mono left.length T ((hT _ _).2 ⟨But.refl _ _, hMa2, by simp [e1, e5]⟩) ?_ ?_
        · rintro j ⟨e', W⟩ hj hTs
          obtain ⟨hBW, hMW, e1, e5, e7, e9, e10⟩ := (hT _ _).1 hTs
          simp only at hBW hMW e1 e5 e7 e9 e10 ⊢
          obtain ⟨s1, s2, s3⟩ := hMW.at (k := j) (by rw [turnTo_len]; exact hj)
          rw [turnTo_at hj] at s1 s2 s3
          have hltW := hMW.lt
          unfold vf80b1
          by_cases hv : left[j].v = m0.fr
          · obtain ⟨q1, q2⟩ := mv_putv (ms := turnTo n m0.fr left j) (rest := []) (k := j) (by rw [turnTo_len]; exact hj) n
            rw [turnTo_at hj] at q1
            have hset : (turnTo n m0.fr left j).set j ⟨left[j].fr, n⟩ = turnTo n m0.fr left (j + 1) := by rw [turnTo_succ hj]; unfold turnM; rw [if_pos hv]
            rw [hset] at q1
            have hMo : rdOb W a g = some ⟨edC (turnTo n m0.fr left j) ++ [], g, true, 2⟩ := hMW
            generalize hcs : edC (turnTo n m0.fr left j) ++ [] = cs at q1 q2 hMo
            rw [hv] at s3
            simp [e1, e5, e7, e9, e10, hj, idxOf, s3, hMo, q1, q2, up1 hj (show left.length ≤ BIG by simp only [BIG]; omega)]
            exact (hT _ _).2 ⟨hBW.trans (But.set _ _ _), by show rdOb (W.set a _) a g = _; rw [rdOb_set_self hltW]; simp, by simp [e1, e5, e7, e9]⟩
          · have hsame := turnTo_same (n := n) hj hv
            simp [e1, e5, e7, e9, e10, hj, idxOf, s3, hv, up1 hj (show left.length ≤ BIG by simp only [BIG]; omega)]
            exact (hT _ _).2 ⟨hBW, by rw [hsame]; exact hMW, by simp [e1, e5, e7, e9]⟩
        · rintro ⟨e', W⟩ hTs
          obtain ⟨hBW, hMW, e1, e5, e7, e9, e10⟩ := (hT _ _).1 hTs
          simp only at hBW hMW e1 e5 e7 e9 e10 ⊢
          rw [turnTo_all] at hMW
          unfold vf80b1
          simp [e1, e5, e7, e9, e10]
          exact ⟨f', by omega, (hI _ _).2 ⟨left.map (turnM n m0.fr), out ++ [⟨n, m0.fr⟩], a, g, b, h + 1, (hL.trans (p2.low hbH)).trans (hBW.low haH), hMW, p3.but hBW (Ne.symm hab), haH, hbH, hab, good_turn hG, by omega, by simpa using hll, by simp; omega, hseq', by simp [e1, e5, e7]⟩⟩
end Go.Proofs.Ytnpbldjbfkpbcaa.Vm
end
