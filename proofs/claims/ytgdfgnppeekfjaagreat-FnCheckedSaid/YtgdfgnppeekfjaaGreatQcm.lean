import Derived.Test.YtgdfgnppeekfjaaGreatP5
section
/- What is well is made once, plain. No conditions. -/
namespace Go.Proofs.YtgdfgnppeekfjaaGreat.Vm
open Go.RowKit (wrap64)
set_option linter.unusedSimpArgs false
set_option linter.unusedVariables false
def defI (x : InsR) : List Int := if 0 ≤ insDefF x then [insDefF x] else []
def defsB (b : BlkR) : List Int := b.phis.map (·.d) ++ b.list.flatMap defI
theorem tickB_defs (vs : List Int) (b : BlkR) : tickB vs b = (defsB b).foldl tick vs := by
  unfold tickB defsB
  rw [List.foldl_append, List.foldl_map, List.foldl_flatMap]
  congr 1
  funext ws x
  unfold tickI defI
  split <;> rfl
theorem madeF_defs (f : FnR) : madeF f = (f.blocks.flatMap defsB).foldl tick (List.replicate f.values.toNat 0) := by
  unfold madeF
  rw [List.foldl_flatMap]
  congr 1
  funext ws b
  exact tickB_defs ws b
theorem tick_count {n : Nat} {d : Nat} (hd : d < n) : ∀ (ds vs : List Int), vs.length = n → (∀ x ∈ ds, ∃ k : Nat, x = k ∧ k < n) → (ds.foldl tick vs).getD d 0 = vs.getD d 0 + (ds.count (d : Int) : Int) := by
  intro ds
  induction ds with
  | nil => intro vs _ _; simp
  | cons x r ih =>
    intro vs hl h
    obtain ⟨k, rfl, hk⟩ := h x (by simp)
    rw [List.foldl_cons, ih _ (by rw [tick_len]; exact hl) (fun y hy => h y (by simp [hy])), List.count_cons]
    unfold tick
    rw [Int.toNat_natCast, List.getD_eq_getElem?_getD, List.getElem?_set]
    by_cases e : k = d
    · subst e
      simp [hl, hk]; omega
    · have e2 : ¬ ((k : Int) = (d : Int)) := by omega
      rw [if_neg e, ← List.getD_eq_getElem?_getD]
      simp [e2]
theorem flat2 {β : Type} {f : β → List Int} {d : Int} : ∀ (bs : List β) (i j : Nat) (hj : j < bs.length) (hij : i < j), d ∈ f (bs[i]'(by omega)) → d ∈ f bs[j] → 2 ≤ (bs.flatMap f).count d := by
  intro bs
  induction bs with
  | nil => intro i j hj; simp at hj
  | cons b r ih =>
    intro i j hj hij h1 h2
    rw [List.flatMap_cons, List.count_append]
    cases j with
    | zero => omega
    | succ j =>
      have hj' : j < r.length := by simpa using hj
      cases i with
      | zero =>
        have a : 0 < (f b).count d := List.count_pos_iff.2 (by simpa using h1)
        have c : 0 < (r.flatMap f).count d := List.count_pos_iff.2 (List.mem_flatMap.2 ⟨_, List.getElem_mem hj', by simpa using h2⟩)
        omega
      | succ i =>
        have := ih i j hj' (by omega) (by simpa using h1) (by simpa using h2)
        omega
theorem count_part {β : Type} {f : β → List Int} {d : Int} {bs : List β} {b : β} (hb : b ∈ bs) : (f b).count d ≤ (bs.flatMap f).count d := by
  induction bs with
  | nil => simp at hb
  | cons c r ih =>
    rw [List.flatMap_cons, List.count_append]
    rcases List.mem_cons.1 hb with rfl | h
    · omega
    · have := ih h; omega
theorem made_defs {f : FnR} (hsh : shapeB f = true) : ∀ x ∈ f.blocks.flatMap defsB, ∃ k : Nat, x = k ∧ k < f.values.toNat := by
  intro x hx
  obtain ⟨b, hb, hx⟩ := List.mem_flatMap.1 hx
  unfold defsB at hx
  rcases List.mem_append.1 hx with h | h
  · obtain ⟨p, hp, rfl⟩ := List.mem_map.1 h
    exact val_nat (phi_vals (shape_phi hsh hb hp)).1
  · obtain ⟨y, hy, h⟩ := List.mem_flatMap.1 h
    unfold defI at h
    by_cases h0 : 0 ≤ insDefF y
    · rw [if_pos h0] at h
      simp at h
      rw [h]
      exact ins_def (shape_ins hsh hb hy) h0
    · rw [if_neg h0] at h; simp at h
theorem once {f : FnR} (hsh : shapeB f = true) (hm : ((madeF f).any fun n => decide (1 < n)) = false) (d : Int) : (f.blocks.flatMap defsB).count d ≤ 1 := by
  by_cases hd : d ∈ f.blocks.flatMap defsB
  · obtain ⟨k, rfl, hk⟩ := made_defs hsh d hd
    have h := tick_count hk (f.blocks.flatMap defsB) (List.replicate f.values.toNat 0) (by simp) (made_defs hsh)
    rw [← madeF_defs] at h
    have hl : (madeF f).length = f.values.toNat := by unfold madeF; rw [ticksB_len]; simp
    have hlt : k < (madeF f).length := by omega
    rw [List.any_eq_false] at hm
    have h1 := hm _ (List.getElem_mem hlt)
    have h2 : (madeF f).getD k 0 = (madeF f)[k] := by rw [List.getD_eq_getElem?_getD, List.getElem?_eq_getElem hlt]; rfl
    have h3 : (List.replicate f.values.toNat (0 : Int)).getD k 0 = 0 := by rw [List.getD_eq_getElem?_getD, List.getElem?_replicate]; split <;> rfl
    rw [h2, h3] at h
    simp at h1
    omega
  · rw [List.count_eq_zero.2 hd]; omega
theorem def_here {f : FnR} (hsh : shapeB f = true) (hm : ((madeF f).any fun n => decide (1 < n)) = false) {b k : Nat} (hb : b < f.blocks.length) (hk : k < f.blocks[b].list.length) (hd : 0 ≤ insDefF f.blocks[b].list[k]) :
    homeF f.blocks f.blocks[b].list[k].d = ((b : Int), (k : Int)) := by
  obtain ⟨x, hx⟩ : ∃ x, f.blocks[b].list[k] = x := ⟨_, rfl⟩
  rw [hx] at hd ⊢
  have hxd : insDefF x = x.d := by
    unfold insDefF at hd ⊢
    split
    · rfl
    · rename_i h; rw [if_neg h] at hd; simp at hd
  have hmk : makesF x.op = true := by
    cases h : makesF x.op with
    | true => rfl
    | false => unfold insDefF at hd; rw [h] at hd; simp at hd
  have hone := once hsh hm x.d
  have hin : x.d ∈ defI x := by unfold defI; rw [if_pos hd, hxd]; simp
  have hin2 : x.d ∈ f.blocks[b].list.flatMap defI := List.mem_flatMap.2 ⟨x, hx ▸ List.getElem_mem hk, hin⟩
  have hinB : x.d ∈ defsB f.blocks[b] := by unfold defsB; exact List.mem_append.2 (.inr hin2)
  have hsome : ∃ p, defBlk f.blocks[b] x.d = some p := by
    unfold defBlk
    split
    · exact ⟨_, rfl⟩
    · have : 0 ≤ findI (madeAt x.d) f.blocks[b].list := findI_nonneg.2 (List.any_eq_true.2 ⟨x, hx ▸ List.getElem_mem hk, by unfold madeAt; rw [hmk]; simp⟩)
      rw [if_pos this]; exact ⟨_, rfl⟩
  rcases defGo_spec x.d f.blocks 0 with ⟨h1, h2⟩ | ⟨i, hi, h1, h2⟩
  · exfalso
    have hno : ∀ (bs : List BlkR) (j : Nat), (defGo x.d bs j).2 = -2 → ∀ c ∈ bs, defBlk c x.d = none := by
      intro bs
      induction bs with
      | nil => intro j _ c hc; simp at hc
      | cons a r ih =>
        intro j h c hc
        cases ha : defBlk a x.d with
        | none =>
          have e : defGo x.d (a :: r) j = defGo x.d r (j + 1) := by simp [defGo, ha]
          rw [e] at h
          rcases List.mem_cons.1 hc with rfl | hc
          · exact ha
          · exact ih (j + 1) h c hc
        | some p =>
          have e : defGo x.d (a :: r) j = ((j : Int), p) := by simp [defGo, ha]
          rw [e] at h
          simp only at h
          unfold defBlk at ha
          split at ha
          · injection ha with ha; omega
          · split at ha
            · injection ha with ha; omega
            · cases ha
    obtain ⟨p, hp⟩ := hsome
    rw [hno f.blocks 0 h1 _ (List.getElem_mem hb)] at hp
    cases hp
  · have hib : i = b := by
      apply Classical.byContradiction
      intro hne
      have hI : x.d ∈ defsB f.blocks[i] := by
        unfold defsB
        rcases h2 with ⟨_, h2⟩ | ⟨n, hn, _, h2⟩
        · obtain ⟨p, hp, e⟩ := List.any_eq_true.1 h2
          exact List.mem_append.2 (.inl (List.mem_map.2 ⟨p, hp, of_decide_eq_true e⟩))
        · unfold madeAt at h2
          rw [Bool.and_eq_true] at h2
          have e := of_decide_eq_true h2.2
          have e2 : insDefF f.blocks[i].list[n] = x.d := by unfold insDefF; rw [h2.1]; simp [e]
          refine List.mem_append.2 (.inr (List.mem_flatMap.2 ⟨_, List.getElem_mem hn, ?_⟩))
          unfold defI
          rw [e2, if_pos (by omega)]; simp
      rcases Nat.lt_or_gt_of_ne hne with h | h
      · have := flat2 (f := defsB) f.blocks i b hb h hI hinB; omega
      · have := flat2 (f := defsB) f.blocks b i hi h hinB hI; omega
    subst hib
    have hpart := count_part (f := defsB) (d := x.d) (List.getElem_mem hi)
    have e1 : (homeF f.blocks x.d).1 = (i : Int) := by unfold homeF; rw [h1]; simp
    rcases h2 with ⟨_, h2⟩ | ⟨n, hn, h3, h2⟩
    · exfalso
      obtain ⟨p, hp, e⟩ := List.any_eq_true.1 h2
      have a : 0 < (f.blocks[i].phis.map (·.d)).count x.d := List.count_pos_iff.2 (List.mem_map.2 ⟨p, hp, of_decide_eq_true e⟩)
      have c : 0 < (f.blocks[i].list.flatMap defI).count x.d := List.count_pos_iff.2 hin2
      have : (defsB f.blocks[i]).count x.d = (f.blocks[i].phis.map (·.d)).count x.d + (f.blocks[i].list.flatMap defI).count x.d := by unfold defsB; rw [List.count_append]
      omega
    · have hnk : n = k := by
        apply Classical.byContradiction
        intro hne
        unfold madeAt at h2
        rw [Bool.and_eq_true] at h2
        have e := of_decide_eq_true h2.2
        have e2 : insDefF f.blocks[i].list[n] = x.d := by unfold insDefF; rw [h2.1]; simp [e]
        have hN : x.d ∈ defI f.blocks[i].list[n] := by unfold defI; rw [e2, if_pos (by omega)]; simp
        have hK : x.d ∈ defI f.blocks[i].list[k] := by rw [hx]; exact hin
        have : (defsB f.blocks[i]).count x.d = (f.blocks[i].phis.map (·.d)).count x.d + (f.blocks[i].list.flatMap defI).count x.d := by unfold defsB; rw [List.count_append]
        rcases Nat.lt_or_gt_of_ne hne with h | h
        · have := flat2 (f := defI) f.blocks[i].list n k hk h hN hK; omega
        · have := flat2 (f := defI) f.blocks[i].list k n hn h hK hN; omega
      subst hnk
      exact Prod.ext e1 h3
theorem check_well {f : FnR} (h : checkF f = 0) : shapeB f = true ∧ cf (seenF f.blocks) = 0 ∧ (predsF f.blocks 0).length = 0 ∧ ((madeF f).any fun n => decide (1 < n)) = false ∧ TakenOk f.blocks := by
  unfold checkF checkW at h
  by_cases h1 : shapeB f = true ∧ copiesB f.blocks = false
  · rw [if_pos h1] at h
    by_cases h2 : 0 < cf (seenF f.blocks)
    · simp [h2] at h
    · by_cases h3 : 0 < phis0 f.blocks ∨ 0 < (predsF f.blocks 0).length
      · simp [h2, h3] at h
      · by_cases h4 : ArmsRight f.blocks
        · cases h5 : (madeF f).any fun n => decide (1 < n) with
          | true => simp [h2, h3, pB_true h4, h5] at h
          | false =>
            by_cases h6 : TakenOk f.blocks
            · exact ⟨h1.1, by omega, by omega, rfl, h6⟩
            · simp [h2, h3, pB_true h4, h5, pB_false h6] at h
        · simp [h2, h3, pB_false h4] at h
  · rw [if_neg h1] at h; simp at h
theorem check_range (f : FnR) : 0 ≤ checkF f ∧ checkF f ≤ 6 := by
  unfold checkF checkW
  (repeat' split) <;> omega
end Go.Proofs.YtgdfgnppeekfjaaGreat.Vm
end
