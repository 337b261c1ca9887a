import Derived.Test.YtgdfgnppeekfjaaGreatQcpq
section
/- Values made used: both sides. No conditions. -/
namespace Go.Proofs.YtgdfgnppeekfjaaGreat.Vm
open Go.RowKit (wrap64)
set_option linter.unusedSimpArgs false
set_option linter.unusedVariables false
/-- A contract of a marker. -/
def Marks (fid : Nat) : Prop := ∀ {X : Hp} {uid : Nat} {us : List Bool} {vw : CV} {vs : List Int}, rdOb X uid 0 = some (UsOb us) → IsI X vw vs → Vals us.length vs → vs.length ≤ BIG → ∀ k : IV × Hp → Prop,
    CM fid [.c (.sl uid 0 0 us.length), .c vw] X k = k (.c (.b (moreF us vs)), X.set uid (UsOb (markAll us vs)))
theorem rdU {X : Hp} {uid : Nat} {us : List Bool} {k : Nat} (h : rdOb X uid 0 = some (UsOb us)) (hk : k < us.length) : rdC X uid 0 k = some (.b (us.getD k false)) := by
  rw [rdC_ob h]
  simp [UsOb, List.getD_eq_getElem?_getD, hk]
theorem set_set (X : Hp) (i : Nat) (a b : Ob) : (X.set i a).set i b = X.set i b := by simp
set_option maxRecDepth 100000 in
theorem implUseAll : Marks 167 := by
  intro X uid us vw vs ho hv hr hb k
  refine det (cw167 ?_) k
  unfold vf167c
  have hlt := rdOb_lt ho
  simp [hv.lenOf]
  obtain ⟨I, hI⟩ : ∃ I : Nat → St → Prop, ∀ i st, I i st ↔ (st.h = X.set uid (UsOb (markAll us (vs.take i))) ∧ Env.get st.e 0 = .c (.sl uid 0 0 us.length) ∧ Env.get st.e 5 = .c (.b (moreF us (vs.take i))) ∧ Env.get st.e 8 = .c vw ∧ Env.get st.e 9 = .c (.i vs.length) ∧ Env.get st.e 10 = .c (.i i)) := ⟨_, fun _ _ => Iff.rfl⟩
  refine wp_for CM_mono vs.length I ((hI _ _).2 ⟨by simp [markAll]; exact (set_same X uid _ (rdOb_some.1 ho).1).symm, by simp [moreF]⟩) ?_ ?_
  · rintro i ⟨e, Y⟩ hi hIs
    obtain ⟨hY, e0, e5, e8, e9, e10⟩ := (hI _ _).1 hIs
    simp only at hY e0 e5 e8 e9 e10 ⊢
    obtain ⟨c, hc, hcn⟩ := hr _ (List.getElem_mem hi)
    have hms := moreF_snoc rfl hr hi
    have hma := markAll_snoc (us := us) hi
    have hml := markAll_len (vs.take i) us
    obtain ⟨ui, hui⟩ : ∃ ui, markAll us (vs.take i) = ui := ⟨_, rfl⟩
    rw [hui] at hY hms hma hml
    have hU : rdOb Y uid 0 = some (UsOb ui) := by rw [hY, rdOb_set_self hlt]; simp [UsOb]
    have hvY : IsI Y vw vs := by rw [hY]; exact hv.set_us ho hml
    obtain ⟨id, g, off, q1, q2⟩ := hvY.at_ hi
    rw [hc] at q2 hms hma
    rw [Int.toNat_natCast] at hms
    have hrd := rdU hU (show c < ui.length by omega)
    have hset : Y.set uid (UsOb (ui.set c true)) = X.set uid (UsOb (mk1 ui c)) := by rw [hY, set_set]; simp [mk1]
    have hix : idxOf 1 (.sl uid 0 0 us.length) (c : Int) = some (.p uid 0 c) := idx1 hcn
    obtain ⟨b0, hb0⟩ : ∃ b0, ui.getD c false = b0 := ⟨_, rfl⟩
    obtain ⟨m0, hm0⟩ : ∃ m0, moreF us (vs.take i) = m0 := ⟨_, rfl⟩
    rw [hb0] at hrd hms
    rw [hm0] at e5 hms
    have hput := bool_put (xs := ui) (i := c) (by omega) true
    have hU' : rdOb Y uid 0 = some ⟨ui.map .b, 0, true, 1⟩ := hU
    have hset' : Y.set uid ⟨(ui.set c true).map .b, 0, true, 1⟩ = X.set uid (UsOb (mk1 ui c)) := hset
    have hset'' := hset'
    simp only [List.map_set] at hset''
    unfold vf167b0
    cases m0 <;> simp [e0, e5, e8, e9, e10, hi, q1, q2, hix, hrd, hU', show c + 1 ≤ ui.length by omega, show c + 1 ≤ us.length by omega, hput, hset'', up1 hi hb, hml] <;> (refine (hI _ _).2 ⟨by rw [hma], ?_⟩; rw [hms]; simp [e0, e8, e9])
  · rintro ⟨e, Y⟩ hIs
    obtain ⟨hY, e0, e5, e8, e9, e10⟩ := (hI _ _).1 hIs
    simp only at hY e0 e5 e8 e9 e10 ⊢
    rw [List.take_length] at hY e5
    subst hY
    unfold vf167b0
    simp [e0, e5, e8, e9, e10]
    rw [gc_set rfl]
theorem or_true_list {us : List Bool} {c : Nat} (h : us.getD c false = true) : mk1 us (c : Int) = us := by unfold mk1; rw [Int.toNat_natCast]; exact set_true h
set_option maxRecDepth 100000 in
theorem specMark : Marks 216 := by
  intro X uid us vw vs ho hv hr hb k
  refine det (cw216 ?_) k
  unfold vf216c
  have hlt := rdOb_lt ho
  simp
  obtain ⟨I, hI⟩ : ∃ I : Nat → St → Prop, ∀ i st, I i st ↔ (st.h = X.set uid (UsOb (markAll us (vs.take i))) ∧ Env.get st.e 0 = .c (.sl uid 0 0 us.length) ∧ Env.get st.e 1 = .c vw ∧ Env.get st.e 5 = .c (.b (moreF us (vs.take i))) ∧ Env.get st.e 6 = .c (.i i)) := ⟨_, fun _ _ => Iff.rfl⟩
  refine wp_for CM_mono vs.length I ((hI _ _).2 ⟨by simp [markAll]; exact (set_same X uid _ (rdOb_some.1 ho).1).symm, by simp [moreF]⟩) ?_ ?_
  · rintro i ⟨e, Y⟩ hi hIs
    obtain ⟨hY, e0, e1, e5, e6⟩ := (hI _ _).1 hIs
    simp only at hY e0 e1 e5 e6 ⊢
    obtain ⟨c, hc, hcn⟩ := hr _ (List.getElem_mem hi)
    have hms := moreF_snoc rfl hr hi
    have hma := markAll_snoc (us := us) hi
    have hml := markAll_len (vs.take i) us
    obtain ⟨ui, hui⟩ : ∃ ui, markAll us (vs.take i) = ui := ⟨_, rfl⟩
    rw [hui] at hY hms hma hml
    have hU : rdOb Y uid 0 = some (UsOb ui) := by rw [hY, rdOb_set_self hlt]; simp [UsOb]
    have hvY : IsI Y vw vs := by rw [hY]; exact hv.set_us ho hml
    have hvl := hvY.lenOf
    obtain ⟨id, g, off, q1, q2⟩ := hvY.at_ hi
    rw [hc] at q2 hms hma
    rw [Int.toNat_natCast] at hms
    have hrd := rdU hU (show c < ui.length by omega)
    have hset' : Y.set uid ⟨(ui.set c true).map .b, 0, true, 1⟩ = X.set uid (UsOb (mk1 ui c)) := by rw [hY, set_set]; simp [mk1, UsOb]
    have hix : idxOf 1 (.sl uid 0 0 us.length) (c : Int) = some (.p uid 0 c) := idx1 hcn
    have hput := bool_put (xs := ui) (i := c) (by omega) true
    have hU' : rdOb Y uid 0 = some ⟨ui.map .b, 0, true, 1⟩ := hU
    have hset'' := hset'
    simp only [List.map_set] at hset''
    unfold vf216b0
    cases hb0 : ui.getD c false with
    | true =>
      rw [hb0] at hrd hms
      have hmk := or_true_list hb0
      simp [e0, e1, e5, e6, hi, hvl, q1, q2, hix, hrd, up1 hi hb]
      refine (hI _ _).2 ⟨by rw [hma, hmk]; exact hY, ?_⟩
      rw [hms]; simp [e0, e1, e5]
    | false =>
      rw [hb0] at hrd hms
      simp [e0, e1, e5, e6, hi, hvl, q1, q2, hix, hrd, hU', show c + 1 ≤ ui.length by omega, show c + 1 ≤ us.length by omega, hput, hset'', up1 hi hb]
      refine (hI _ _).2 ⟨by rw [hma], ?_⟩
      rw [hms]; simp [e0, e1]
  · rintro ⟨e, Y⟩ hIs
    obtain ⟨hY, e0, e1, e5, e6⟩ := (hI _ _).1 hIs
    simp only at hY e0 e1 e5 e6 ⊢
    rw [List.take_length] at hY e5
    subst hY
    have hvl := (hv.set_us ho (markAll_len vs us)).lenOf
    unfold vf216b0
    simp [e0, e1, e5, e6, hvl]
    rw [gc_set rfl]
theorem keeps_call (H : Hp) (op : Int) (k : IV × Hp → Prop) : CM 168 [.c (.i op)] H k = k (.c (.b (keepsF op)), H) := by
  refine det (cw168 ?_) k
  unfold vf168c keepsF
  by_cases h1 : op = 22
  · simp [h1]
  · by_cases h2 : op = 23
    · simp [h2]
    · simp [h1, h2]
end Go.Proofs.YtgdfgnppeekfjaaGreat.Vm
end
