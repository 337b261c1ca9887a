import Derived.Test.YtgdfgnppeekfjaaGreatQcg
section
/- Whether a value is taken where it was not made: the program's side. No conditions. -/
namespace Go.Proofs.YtgdfgnppeekfjaaGreat.Vm
open Go.RowKit (wrap64)
set_option linter.unusedSimpArgs false
set_option linter.unusedVariables false
def TakenOk (bs : List BlkR) : Prop := ∀ j, BlkOk bs j
theorem DomsRes.mk' {Y : Hp} {d : Nat} {bs : List BlkR} {cells : List CV} (h1 : rdOb Y d 0 = some ⟨cells, 0, true, 1⟩) (h2 : cells.length = bs.length) (h3 : ∀ b, b < bs.length → ∃ c, cells[b]? = some c ∧ IsI Y c (domF bs b)) : DomsIn Y d bs := ⟨cells, h1, h2, h3⟩
theorem putB3 (a b c d e x : CV) : putAt (putAt [a, b, c] 0 [d, e]) 2 [x] = [d, e, x] := rfl
theorem putB3l (a b c d e : CV) : (putAt [a, b, c] 0 [d, e]).length = 3 := rfl
theorem putB3m (a b c d e f : CV) : putAt [a, b, c] 0 [d, e, f] = [d, e, f] := rfl
theorem putB3n (a b c d e : CV) : putAt [a, b, c] 0 [d, e] = [d, e, c] := rfl
theorem putB3o (a b c x : CV) : putAt [a, b, c] 2 [x] = [a, b, x] := rfl
theorem IsI.set_other {X : Hp} {c : CV} {xs : List Int} (h : IsI X c xs) {lid : Nat} {o : Ob} (ho : rdOb X lid 0 = some o) (hs : o.sz ≠ 1) (o' : Ob) : IsI (X.set lid o') c xs := by
  rcases h with ⟨h1, h2, h3⟩ | ⟨id, g, off, ob, h1, h2, h3, h4⟩
  · exact .inl ⟨h1, h2, h3⟩
  · refine .inr ⟨id, g, off, ob, h1, ?_, h3, h4⟩
    have hne : id ≠ lid := fun e => by
      subst e
      have a := (rdOb_some.1 ho).1
      have b := (rdOb_some.1 h2).1
      rw [a] at b; injection b with b; subst b; exact hs h3
    rw [rdOb_set_ne hne]; exact h2
set_option maxRecDepth 100000 in
theorem implTaken {H : Hp} {v : CV} {f : FnR} (hv : Blocks H v f.blocks) (hsh : shapeB f = true) (k : IV × Hp → Prop) :
    CM 91 [.agg [v, .i f.values]] H k = k (.c (.b (pB (¬ TakenOk f.blocks))), H) := by
  refine det (cw91 ?_) k
  unfold vf91c
  obtain ⟨s1, s2, s3, s4⟩ := shape_len hsh
  have hbb : f.blocks.length ≤ BIG := by simp only [BIG]; omega
  obtain ⟨X, hX⟩ : ∃ X, H ++ [(⟨[v, .i f.values], 0, true, 2⟩ : Ob)] = X := ⟨_, rfl⟩
  have hp : Pre H X := ⟨_, hX.symm⟩
  have hB : rdOb X H.length 0 = some ⟨[v, .i f.values], 0, true, 2⟩ := by rw [← hX]; simp
  unfold vf91r0 vf91t0
  simp [hX, rdN_ob hB]
  refine ⟨?_, ?_⟩
  · refine (implDoms (m := f.values) (hv.pre hp) hbb hsh).mono ?_
    rintro _ ⟨d, X2, cells, rfl, hp2, h1, h2, h3⟩
    obtain ⟨Y, hY⟩ : ∃ Y, X2 ++ [(⟨[v, .i f.values, .sl d 0 0 f.blocks.length], 0, true, 3⟩ : Ob)] = Y := ⟨_, rfl⟩
    have hq : Pre X2 Y := ⟨_, hY.symm⟩
    have hlook : rdOb Y X2.length 0 = some ⟨[v, .i f.values, .sl d 0 0 f.blocks.length], 0, true, 3⟩ := by rw [← hY]; simp
    obtain ⟨lid, hlid⟩ : ∃ lid, X2.length = lid := ⟨_, rfl⟩
    have hDY : DomsIn Y d f.blocks := (DomsRes.mk' h1 h2 h3).pre hq
    have hpY : Pre H Y := (hp.trans hp2).trans hq
    have hvY := Blocks.pre hpY hv
    have hl := hvY.lenOf
    have hBY := (hp2.trans hq).rdOb hB
    rw [hlid] at hlook
    have hbk : rdOb (X2 ++ [(⟨[.ns, .i 0, .ns], 0, true, 3⟩ : Ob)]) lid 0 = some ⟨[.ns, .i 0, .ns], 0, true, 3⟩ := by rw [← hlid]; simp
    have hbB : rdOb (X2 ++ [(⟨[.ns, .i 0, .ns], 0, true, 3⟩ : Ob)]) H.length 0 = some ⟨[v, .i f.values], 0, true, 2⟩ := rdOb_app _ (hp2.rdOb hB)
    simp [hp2.rdOb hB, hB, hbB, hbk, putB3, putB3l, putB3m, hY, hlid, hBY, rdC_ob hBY, hl]
    obtain ⟨I, hI⟩ : ∃ I : Nat → St → Prop, ∀ i st, I i st ↔ ((∀ j, j < i → BlkOk f.blocks j) ∧ st.h = Y ∧
        Env.get st.e 3 = .c (.p lid 0 0) ∧ Env.get st.e 11 = .c (.i f.blocks.length) ∧ Env.get st.e 12 = .c (.i i)) := ⟨_, fun _ _ => Iff.rfl⟩
    refine wp_for CM_mono f.blocks.length I ((hI _ _).2 ⟨by simp, rfl, by simp [hlid]⟩) ?_ ?_
    · rintro i ⟨e, Z⟩ hi hIs
      obtain ⟨hdone, hZ, e3, e11, e12⟩ := (hI _ _).1 hIs
      simp only at hZ e3 e11 e12 ⊢
      subst hZ
      unfold vf91b0
      by_cases hok : BlkOk f.blocks i
      · simp [e3, e11, e12, hi, rdN_ob hlook, blockWell_call hvY hsh hDY hi, pB_true hok, up1 hi hbb]
        refine (hI _ _).2 ⟨?_, rfl, by simp [e3, e11]⟩
        intro j hj
        by_cases ej : j = i
        · subst ej; exact hok
        · exact hdone j (by omega)
      · have hno : ¬ TakenOk f.blocks := fun hc => hok (hc i)
        simp [e3, e11, e12, hi, rdN_ob hlook, blockWell_call hvY hsh hDY hi, pB_false hok]
        rw [gcRet_flat hpY rfl, pB_true hno]
    · rintro ⟨e, Z⟩ hIs
      obtain ⟨hdone, hZ, e3, e11, e12⟩ := (hI _ _).1 hIs
      simp only at hZ e3 e11 e12 ⊢
      subst hZ
      have hyes : ¬ ¬ TakenOk f.blocks := fun hc => hc fun j hj => hdone j hj hj
      unfold vf91b0
      simp [e3, e11, e12]
      rw [gcRet_flat hpY rfl, pB_false hyes]
  · refine ⟨(rdOb_app _ hB).trans hB.symm, ?_⟩
    refine (implDoms (m := f.values) ((hv.pre hp).app _) hbb hsh).mono ?_
    rintro _ ⟨d, X2, cells, rfl, hp2, h1, h2, h3⟩
    obtain ⟨lid, hlid⟩ : ∃ lid, X.length = lid := ⟨_, rfl⟩
    have hbl : rdOb X2 X.length 0 = some ⟨[.ns, .i 0, .ns], 0, true, 3⟩ := hp2.rdOb (by simp)
    have hlt := rdOb_lt hbl
    have hpX2 : Pre X X2 := Pre.trans ⟨_, rfl⟩ hp2
    obtain ⟨Y, hY⟩ : ∃ Y, X2.set X.length ⟨[v, .i f.values, .sl d 0 0 f.blocks.length], 0, true, 3⟩ = Y := ⟨_, rfl⟩
    have hpXY : Pre X Y := by rw [← hY]; exact hpX2.set (by omega) _
    have hlook : rdOb Y X.length 0 = some ⟨[v, .i f.values, .sl d 0 0 f.blocks.length], 0, true, 3⟩ := by rw [← hY, rdOb_set_self hlt]; simp
    have hDY : DomsIn Y d f.blocks := by
      rw [← hY]
      refine ⟨cells, ?_, h2, fun b hb => ?_⟩
      · have hne : d ≠ X.length := fun e => by rw [e, hbl] at h1; simp at h1
        rw [rdOb_set_ne hne]; exact h1
      · obtain ⟨c, a1, a2⟩ := h3 b hb
        exact ⟨c, a1, a2.set_other hbl (by decide) _⟩
    have hpY : Pre H Y := hp.trans hpXY
    have hvY := Blocks.pre hpY hv
    have hl := hvY.lenOf
    have hBY := hpXY.rdOb hB
    rw [hlid] at hlook hbl hY
    simp [hpX2.rdOb hB, rdOb_app _ hB, hB, putB3, putB3l, putB3m, putB3n, putB3o, hlid, hbl, hY, hBY, rdC_ob hBY, hl]
    obtain ⟨I, hI⟩ : ∃ I : Nat → St → Prop, ∀ i st, I i st ↔ ((∀ j, j < i → BlkOk f.blocks j) ∧ st.h = Y ∧
        Env.get st.e 3 = .c (.p lid 0 0) ∧ Env.get st.e 11 = .c (.i f.blocks.length) ∧ Env.get st.e 12 = .c (.i i)) := ⟨_, fun _ _ => Iff.rfl⟩
    refine wp_for CM_mono f.blocks.length I ((hI _ _).2 ⟨by simp, rfl, by simp [hlid]⟩) ?_ ?_
    · rintro i ⟨e, Z⟩ hi hIs
      obtain ⟨hdone, hZ, e3, e11, e12⟩ := (hI _ _).1 hIs
      simp only at hZ e3 e11 e12 ⊢
      subst hZ
      unfold vf91b0
      by_cases hok : BlkOk f.blocks i
      · simp [e3, e11, e12, hi, rdN_ob hlook, blockWell_call hvY hsh hDY hi, pB_true hok, up1 hi hbb]
        refine (hI _ _).2 ⟨?_, rfl, by simp [e3, e11]⟩
        intro j hj
        by_cases ej : j = i
        · subst ej; exact hok
        · exact hdone j (by omega)
      · have hno : ¬ TakenOk f.blocks := fun hc => hok (hc i)
        simp [e3, e11, e12, hi, rdN_ob hlook, blockWell_call hvY hsh hDY hi, pB_false hok]
        rw [gcRet_flat hpY rfl, pB_true hno]
    · rintro ⟨e, Z⟩ hIs
      obtain ⟨hdone, hZ, e3, e11, e12⟩ := (hI _ _).1 hIs
      simp only at hZ e3 e11 e12 ⊢
      subst hZ
      have hyes : ¬ ¬ TakenOk f.blocks := fun hc => hc fun j hj => hdone j hj hj
      unfold vf91b0
      simp [e3, e11, e12]
      rw [gcRet_flat hpY rfl, pB_false hyes]
end Go.Proofs.YtgdfgnppeekfjaaGreat.Vm
end
