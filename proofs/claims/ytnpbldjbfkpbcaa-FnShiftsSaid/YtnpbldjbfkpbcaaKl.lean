/- Where a value is made, as the reference says it. No conditions. -/
import Derived.Test.YtnpbldjbfkpbcaaKk
namespace Go.Proofs.Ytnpbldjbfkpbcaa.Vm
open Go.RowKit (wrap64)
set_option linter.unusedSimpArgs false
set_option linter.unusedVariables false

theorem shape_ins {f : FnR} (h : shapeB f = true) {b : BlkR} (hb : b ∈ f.blocks) {x : InsR} (hx : x ∈ b.list) : insB x f.values = true := by
  unfold shapeB at h
  simp only [Bool.and_eq_true, List.all_eq_true] at h
  have := h.2 b hb
  unfold blkB at this
  simp only [Bool.and_eq_true, List.all_eq_true] at this
  exact this.2 x hx
theorem shape_phi {f : FnR} (h : shapeB f = true) {b : BlkR} (hb : b ∈ f.blocks) {p : PhiR} (hp : p ∈ b.phis) : phiB f.blocks.length f.values p = true := by
  unfold shapeB at h
  simp only [Bool.and_eq_true, List.all_eq_true] at h
  have := h.2 b hb
  unfold blkB at this
  simp only [Bool.and_eq_true, List.all_eq_true] at this
  exact this.1.2 p hp
theorem shape_term {f : FnR} (h : shapeB f = true) {b : BlkR} (hb : b ∈ f.blocks) : termB b.term f.blocks.length f.values = true := by
  unfold shapeB at h
  simp only [Bool.and_eq_true, List.all_eq_true] at h
  have := h.2 b hb
  unfold blkB at this
  simp only [Bool.and_eq_true, List.all_eq_true] at this
  exact this.1.1.2
theorem shape_len {f : FnR} (h : shapeB f = true) : 1 ≤ f.blocks.length ∧ f.blocks.length ≤ 16 ∧ 0 ≤ f.values ∧ f.values ≤ 80 := by
  unfold shapeB inB at h
  simp only [Bool.and_eq_true, decide_eq_true_eq] at h
  omega
theorem shape_lens {f : FnR} (h : shapeB f = true) {b : BlkR} (hb : b ∈ f.blocks) : b.phis.length ≤ 24 ∧ b.list.length ≤ 24 := by
  unfold shapeB at h
  simp only [Bool.and_eq_true, List.all_eq_true] at h
  have := h.2 b hb
  unfold blkB at this
  simp only [Bool.and_eq_true, decide_eq_true_eq] at this
  exact ⟨this.1.1.1.1, this.1.1.1.2⟩
theorem insB_d {x : InsR} {m : Int} (h : insB x m = true) (hm : makesF x.op = true) : 0 ≤ x.d ∧ x.d < m := by
  unfold insB at h
  unfold makesF at hm
  have hv : ∀ {v : Int}, valB v m = true → 0 ≤ v ∧ v < m := fun h => of_decide_eq_true h
  split at h
  · simp only [Bool.and_eq_true] at h; exact hv h.1.1.1
  · split at h
    · simp only [Bool.and_eq_true] at h; exact hv h.1.1
    · split at h
      · simp only [Bool.and_eq_true] at h; exact hv h.1.1.1
      · split at h
        · rename_i h1 h2 h3 h4
          rw [h4] at hm h1
          simp at hm
          exact (h1 hm).elim
        · split at h
          · rename_i h1 h2 h3 h4 h5
            rw [h5] at hm h1
            simp at hm
            exact (h1 hm).elim
          · split at h
            · simp only [Bool.and_eq_true] at h; exact hv h.1.1.1
            · cases h

def specMade (v : Int) (x : InsR) : Bool := decide (0 ≤ v) && decide (insDefF x = v)
theorem specMade_eq {v : Int} {x : InsR} (h : makesF x.op = true → 0 ≤ x.d) : specMade v x = madeAt v x := by
  unfold specMade madeAt insDefF
  cases hm : makesF x.op with
  | true =>
    have := h hm
    by_cases hv : x.d = v
    · have : 0 ≤ v := by omega
      simp [hv, this]
    · simp [hv]
  | false =>
    simp
    omega

theorem specDefAt {H : Hp} {w : CV} {bs : List BlkR} {m v : Int} (hv : Blocks H w bs) (hb : bs.length ≤ BIG) (hd : ∀ b ∈ bs, ∀ x ∈ b.list, makesF x.op = true → 0 ≤ x.d) (k : IV × Hp → Prop) :
    CM 112 [.agg [w, .i m], .c (.i v)] H k = k (.tup [(false, [.i (defGo v bs 0).1]), (false, [.i (defGo v bs 0).2])], H) := by
  refine det (cw112 ?_) k
  unfold vf112c
  simp
  refine wp_for CM_mono bs.length (fun i s => s.h = H ++ [⟨[w, .i m], 0, true, 2⟩] ∧ defGo v bs 0 = defGo v (bs.drop i) i ∧ Env.get s.e 1 = .c (.i v) ∧ Env.get s.e 2 = .c (.p H.length 0 0) ∧ Env.get s.e 6 = .c (.i i)) (by simp) ?_ ?_
  · rintro i ⟨e, X⟩ hi ⟨rfl, hg, h1, h2, h6⟩
    simp only at h1 h2 h6 ⊢
    obtain ⟨id, g, off, z, u, q1, q2, q3, hw, hu, hb1, hb2, q4, q5⟩ := hv.get hi
    rw [List.drop_eq_getElem_cons hi] at hg
    simp only [defGo] at hg
    unfold vf112b2
    simp [h1, h2, h6, hv.lenOf, hi]
    refine wp_for CM_mono bs[i].phis.length (fun j s => s.h = H ++ [⟨[w, .i m], 0, true, 2⟩] ∧ (∀ l (hl : l < j) (hx : l < bs[i].phis.length), ¬ bs[i].phis[l].d = v) ∧ Env.get s.e 1 = .c (.i v) ∧ Env.get s.e 2 = .c (.p H.length 0 0) ∧ Env.get s.e 6 = .c (.i i) ∧ Env.get s.e 7 = .c (.i j)) (by simp) ?_ ?_
    · rintro j ⟨e', X'⟩ hj ⟨rfl, ht, h1, h2, h6, h7⟩
      simp only at h1 h2 h6 h7 ⊢
      obtain ⟨id', g', off', z', r1, r2, r3, hz, hbz, r4, r5⟩ := hw.get hj
      unfold vf112b0
      by_cases hp : bs[i].phis[j].d = v
      · have : defBlk bs[i] v = some (-1) := by
          unfold defBlk
          rw [if_pos (List.any_eq_true.2 ⟨_, List.getElem_mem hj, decide_eq_true hp⟩)]
        rw [this] at hg
        simp [h1, h2, h6, h7, q1, q3, hw.lenOf, hj, r1, r3, hp, hg, gc_ints]
      · simp [h1, h2, h6, h7, q1, q3, hw.lenOf, hj, r1, r3, hp, up1 hj hb1]
        intro l hl hx
        by_cases el : l = j
        · subst el; exact hp
        · exact ht l (by omega) hx
    · rintro ⟨e', X'⟩ ⟨rfl, ht, h1, h2, h6, h7⟩
      simp only at h1 h2 h6 h7 ⊢
      have hph : bs[i].phis.any (fun p => decide (p.d = v)) = false := by
        rw [List.any_eq_false]
        intro p hp
        obtain ⟨l, hl, rfl⟩ := List.getElem_of_mem hp
        simpa using ht l hl hl
      unfold vf112b0
      simp [h1, h2, h6, h7, q1, q3, hw.lenOf]
      refine wp_for CM_mono bs[i].list.length (fun j s => s.h = H ++ [⟨[w, .i m], 0, true, 2⟩] ∧ (∀ l (hl : l < j) (hx : l < bs[i].list.length), madeAt v bs[i].list[l] = false) ∧ Env.get s.e 1 = .c (.i v) ∧ Env.get s.e 2 = .c (.p H.length 0 0) ∧ Env.get s.e 6 = .c (.i i) ∧ Env.get s.e 8 = .c (.i j)) (by simp [h1, h2, h6]) ?_ ?_
      · rintro j ⟨e', X'⟩ hj ⟨rfl, ht2, h1, h2, h6, h8⟩
        simp only at h1 h2 h6 h8 ⊢
        obtain ⟨id', g', off', r1, r2, r3, r4, r5⟩ := hu.get hj
        have hm := specMade_eq (v := v) (hd _ (List.getElem_mem hi) _ (List.getElem_mem hj))
        unfold specMade at hm
        unfold vf112b1
        cases hmade : madeAt v bs[i].list[j] with
        | true =>
          rw [hmade] at hm
          simp only [Bool.and_eq_true, decide_eq_true_eq] at hm
          have hf := findI_some hj (p := madeAt v) (fun l hl => ht2 l hl (by omega)) hmade
          have : defBlk bs[i] v = some (j : Int) := by
            unfold defBlk
            rw [hph, if_neg (by simp), hf, if_pos (by omega)]
          rw [this] at hg
          simp [h1, h2, h6, h8, q1, q3, hu.lenOf, hj, r1, r3, hm.1, hm.2, specInsDef, hg, gc_ints]
        | false =>
          rw [hmade] at hm
          have step : ∀ l (hl : l < j + 1) (hx : l < bs[i].list.length), madeAt v bs[i].list[l] = false := by
            intro l hl hx
            by_cases el : l = j
            · subst el; exact hmade
            · exact ht2 l (by omega) hx
          by_cases hv0 : 0 ≤ v
          · have hne : ¬ insDefF bs[i].list[j] = v := by simpa [hv0] using hm
            simp [h1, h2, h6, h8, q1, q3, hu.lenOf, hj, r1, r3, hv0, hne, specInsDef, up1 hj hb2]
            exact step
          · simp [h1, h2, h6, h8, q1, q3, hu.lenOf, hj, r1, r3, hv0, specInsDef, up1 hj hb2]
            exact step
      · rintro ⟨e', X'⟩ ⟨rfl, ht2, h1, h2, h6, h8⟩
        simp only at h1 h2 h6 h8 ⊢
        have hf := findI_none (p := madeAt v) (fun l hl => ht2 l hl hl)
        have : defBlk bs[i] v = none := by
          unfold defBlk
          rw [hph, if_neg (by simp), hf, if_neg (by decide)]
        rw [this] at hg
        unfold vf112b1
        simp [h1, h2, h6, h8, q1, q3, hu.lenOf, up1 hi hb, hg]
  · rintro ⟨e, X⟩ ⟨rfl, hg, h1, h2, h6⟩
    simp only at h1 h2 h6 ⊢
    rw [List.drop_length] at hg
    simp only [defGo] at hg
    unfold vf112b2
    simp [h1, h2, h6, hv.lenOf, hg, gc_ints]
end Go.Proofs.Ytnpbldjbfkpbcaa.Vm
