import Derived.Test.YtgdfgnppeekfjaaGreatP7
import Derived.Test.YtgdfgnppeekfjaaGreatP4
import Derived.Test.YtgdfgnppeekfjaaGreatP6
import Derived.Test.YtgdfgnppeekfjaaGreatP2
import Derived.Test.YtgdfgnppeekfjaaGreatP5
section
/- What is well, said without places; programs that go the same ways. Plain. No conditions. -/
namespace Go.Proofs.YtgdfgnppeekfjaaGreat.Vm
set_option linter.unusedSimpArgs false
set_option linter.unusedVariables false

/-! ### The same ways -/
structure SameT (bs bs' : List BlkR) : Prop where
  len : bs'.length = bs.length
  term : ∀ b (h : b < bs.length) (h' : b < bs'.length), bs'[b].term = bs[b].term
theorem SameT.symm {bs bs' : List BlkR} (h : SameT bs bs') : SameT bs' bs := ⟨h.len.symm, fun b h1 h2 => (h.term b h2 h1).symm⟩
theorem SameT.succs {bs bs' : List BlkR} (h : SameT bs bs') : succsAt bs' = succsAt bs := by
  funext j
  by_cases hj : j < bs.length
  · rw [succsAt_eq hj, succsAt_eq (by rw [h.len]; exact hj), h.term j hj]
  · unfold succsAt
    rw [List.getElem?_eq_none (by have := h.len; omega), List.getElem?_eq_none (by omega)]
theorem SameT.walk {bs bs' : List BlkR} (h : SameT bs bs') : walkF bs' = walkF bs := by
  funext n
  induction n with
  | zero => rfl
  | succ n ih => funext b p; simp only [walkF, h.succs, ih]
theorem SameT.walk0 {bs bs' : List BlkR} (h : SameT bs bs') : walk0 bs' = walk0 bs := by unfold Vm.walk0; rw [h.walk, h.len]
theorem SameT.seen {bs bs' : List BlkR} (h : SameT bs bs') : seenF bs' = seenF bs := by unfold seenF; rw [h.walk0]
theorem SameT.ord {bs bs' : List BlkR} (h : SameT bs bs') : ordF bs' = ordF bs := by unfold ordF; rw [h.walk0]
/-! ### What is made -/
def Once (bs : List BlkR) : Prop := ∀ d : Int, (bs.flatMap defsB).count d ≤ 1
theorem mem_defI {x : InsR} {v : Int} : v ∈ defI x ↔ 0 ≤ insDefF x ∧ v = insDefF x := by
  unfold defI
  split
  · rename_i h; simp [h]
  · rename_i h; simp [h]
theorem makes_val {x : InsR} {m : Int} (h : insB x m = true) (hm : makesF x.op = true) : valB x.d m = true := by
  have hk := ins_kinds h
  unfold insB at h
  rcases hk with hw | ⟨hw, e | e | e | e | e | e⟩
  · rw [if_pos hw] at h; simp only [Bool.and_eq_true] at h; exact h.1.1.1
  · simp [hw, e] at h; exact h.1.1
  · simp [hw, e] at h; exact h.1.1.1
  · rw [e] at hm; exact absurd hm (by decide)
  · rw [e] at hm; exact absurd hm (by decide)
  · simp [hw, e] at h; exact h.1.1.1
  · simp [hw, e] at h; exact h.1.1.1
theorem made_iff {x : InsR} {m v : Int} (h : insB x m = true) : madeAt v x = true ↔ v ∈ defI x := by
  rw [mem_defI]
  unfold madeAt insDefF
  rw [Bool.and_eq_true]
  constructor
  · rintro ⟨h1, h2⟩
    have h2 := of_decide_eq_true h2
    rw [if_pos h1]
    obtain ⟨k, hk, _⟩ := val_nat (makes_val h h1)
    omega
  · rintro ⟨h1, h2⟩
    by_cases hm : makesF x.op = true
    · rw [if_pos hm] at h2; exact ⟨hm, decide_eq_true h2.symm⟩
    · rw [if_neg hm] at h1; omega
theorem mem_defsB {b : BlkR} {v : Int} : v ∈ defsB b ↔ v ∈ b.phis.map (·.d) ∨ v ∈ b.list.flatMap defI := by
  unfold defsB; rw [List.mem_append]
theorem once_blk {bs : List BlkR} (ho : Once bs) {v : Int} {i j : Nat} (hi : i < bs.length) (hj : j < bs.length) (h1 : v ∈ defsB bs[i]) (h2 : v ∈ defsB bs[j]) : i = j := by
  apply Classical.byContradiction
  intro hne
  have := ho v
  rcases Nat.lt_or_gt_of_ne hne with h | h
  · have := flat2 (f := defsB) bs i j hj h h1 h2; omega
  · have := flat2 (f := defsB) bs j i hi h h2 h1; omega
theorem once_in {bs : List BlkR} (ho : Once bs) {b : BlkR} (hb : b ∈ bs) (v : Int) : (b.phis.map (·.d)).count v + (b.list.flatMap defI).count v ≤ 1 := by
  have h1 := count_part (f := defsB) (d := v) hb
  have h2 := ho v
  unfold defsB at h1
  rw [List.count_append] at h1
  have h3 : List.count v (List.flatMap defsB bs) = List.count v (List.flatMap (fun b => List.map (fun x => x.d) b.phis ++ List.flatMap defI b.list) bs) := rfl
  omega
theorem once_list {bs : List BlkR} (ho : Once bs) {b : BlkR} (hb : b ∈ bs) {v : Int} {i j : Nat} (hi : i < b.list.length) (hj : j < b.list.length) (h1 : v ∈ defI b.list[i]) (h2 : v ∈ defI b.list[j]) : i = j := by
  apply Classical.byContradiction
  intro hne
  have := once_in ho hb v
  rcases Nat.lt_or_gt_of_ne hne with h | h
  · have := flat2 (f := defI) b.list i j hj h h1 h2; omega
  · have := flat2 (f := defI) b.list j i hi h h2 h1; omega
theorem once_phi {bs : List BlkR} (ho : Once bs) {b : BlkR} (hb : b ∈ bs) {v : Int} (h1 : v ∈ b.phis.map (·.d)) (h2 : v ∈ b.list.flatMap defI) : False := by
  have := once_in ho hb v
  have a := List.count_pos_iff.2 h1
  have c := List.count_pos_iff.2 h2
  omega
theorem home_spec {f : FnR} (hsh : shapeB f = true) (v : Int) : ((homeF f.blocks v).1 = -1 ∧ ∀ b ∈ f.blocks, v ∉ defsB b) ∨
    ∃ i, ∃ hi : i < f.blocks.length, (homeF f.blocks v).1 = (i : Int) ∧ (((homeF f.blocks v).2 = -1 ∧ v ∈ f.blocks[i].phis.map (·.d)) ∨ ∃ n, ∃ hn : n < f.blocks[i].list.length, (homeF f.blocks v).2 = (n : Int) ∧ v ∈ defI f.blocks[i].list[n]) := by
  have hno : ∀ (bs : List BlkR), (∀ b ∈ bs, b ∈ f.blocks) → ∀ (j : Nat), (defGo v bs j).2 = -2 → ∀ c ∈ bs, v ∉ defsB c := by
    intro bs
    induction bs with
    | nil => intro _ j _ c hc; simp at hc
    | cons a r ih =>
      intro hsub j h c hc
      cases ha : defBlk a v with
      | none =>
        have e : defGo v (a :: r) j = defGo v r (j + 1) := by simp [defGo, ha]
        rw [e] at h
        rcases List.mem_cons.1 hc with rfl | hc
        · unfold defBlk at ha
          split at ha
          · cases ha
          · rename_i hp
            split at ha
            · cases ha
            · rename_i hl
              rw [mem_defsB]
              rintro (h1 | h1)
              · obtain ⟨p, hp1, hp2⟩ := List.mem_map.1 h1
                exact hp (List.any_eq_true.2 ⟨p, hp1, decide_eq_true hp2⟩)
              · obtain ⟨x, hx, hv⟩ := List.mem_flatMap.1 h1
                exact hl (findI_nonneg.2 (List.any_eq_true.2 ⟨x, hx, (made_iff (shape_ins hsh (hsub _ (by simp)) hx)).2 hv⟩))
        · exact ih (fun b hb => hsub b (by simp [hb])) (j + 1) h c hc
      | some p =>
        have e : defGo v (a :: r) j = ((j : Int), p) := by simp [defGo, ha]
        rw [e] at h
        simp only at h
        unfold defBlk at ha
        split at ha
        · injection ha with ha; omega
        · split at ha
          · injection ha with ha; omega
          · cases ha
  rcases defGo_spec v f.blocks 0 with ⟨h1, h2⟩ | ⟨i, hi, h1, h2⟩
  · exact .inl ⟨h2, hno f.blocks (fun _ h => h) 0 h1⟩
  · refine .inr ⟨i, hi, by unfold homeF; rw [h1]; simp, ?_⟩
    rcases h2 with ⟨h3, h4⟩ | ⟨n, hn, h3, h4⟩
    · obtain ⟨p, hp1, hp2⟩ := List.any_eq_true.1 h4
      exact .inl ⟨h3, List.mem_map.2 ⟨p, hp1, of_decide_eq_true hp2⟩⟩
    · exact .inr ⟨n, hn, h3, (made_iff (shape_ins hsh (List.getElem_mem hi) (List.getElem_mem hn))).1 h4⟩
theorem hasI_domF {bs : List BlkR} (hin : InRange bs) {b : Nat} (hb : b < bs.length) (c : Int) : hasI (domF bs b) c = true ↔ ∃ k : Nat, c = k ∧ k < bs.length ∧ Dom bs k b := by
  rw [hasI_iff]
  unfold domF domTo
  rw [List.mem_map]
  constructor
  · rintro ⟨k, hk, rfl⟩
    rw [List.mem_filter, List.mem_range] at hk
    exact ⟨k, rfl, hk.1, (domB_iff hin hk.1 hb).1 hk.2⟩
  · rintro ⟨k, rfl, hk, hd⟩
    exact ⟨k, by rw [List.mem_filter, List.mem_range]; exact ⟨hk, (domB_iff hin hk hb).2 hd⟩, rfl⟩
/-- Made in another block, above. -/
def OutDef (bs : List BlkR) (b : Nat) (v : Int) : Prop := ∃ c, ∃ hc : c < bs.length, c ≠ b ∧ Dom bs c b ∧ v ∈ defsB bs[c]
structure WellP (bs : List BlkR) : Prop where
  phi : ∀ b (hb : b < bs.length), ∀ p ∈ bs[b].phis, ∀ a ∈ p.arms, ∃ c, ∃ hc : c < bs.length, Dom bs c a.fr.toNat ∧ a.v ∈ defsB bs[c]
  ins : ∀ b (hb : b < bs.length) l1 x l2, bs[b].list = l1 ++ x :: l2 → ∀ v ∈ usesF x, v ∈ bs[b].phis.map (·.d) ∨ v ∈ l1.flatMap defI ∨ OutDef bs b v
  term : ∀ b (hb : b < bs.length), ∀ v ∈ tusesF bs[b].term, v ∈ defsB bs[b] ∨ OutDef bs b v
theorem at_iff {f : FnR} (hsh : shapeB f = true) (ho : Once f.blocks) {b : Nat} (hb : b < f.blocks.length) (v : Int) (i : Nat) :
    atB f.blocks v b i = true ↔ v ∈ f.blocks[b].phis.map (·.d) ∨ v ∈ (f.blocks[b].list.take i).flatMap defI ∨ OutDef f.blocks b v := by
  have hin := shape_range hsh
  have hmem : f.blocks[b] ∈ f.blocks := List.getElem_mem hb
  have htk : ∀ {w : Int} {k : Nat}, w ∈ (f.blocks[b].list.take k).flatMap defI ↔ ∃ n, ∃ hn : n < f.blocks[b].list.length, n < k ∧ w ∈ defI f.blocks[b].list[n] := by
    intro w k
    rw [List.mem_flatMap]
    constructor
    · rintro ⟨x, hx, hw⟩
      obtain ⟨l, hl, rfl⟩ := List.mem_take_iff_getElem.1 hx
      exact ⟨l, by omega, by omega, hw⟩
    · rintro ⟨n, hn, hk, hw⟩
      exact ⟨_, List.mem_take_iff_getElem.2 ⟨n, by omega, rfl⟩, hw⟩
  unfold atB
  rcases home_spec hsh v with ⟨h1, h2⟩ | ⟨c, hc, h1, h2⟩
  · rw [if_neg (by omega), hasI_domF hin hb]
    constructor
    · rintro ⟨k, hk, _⟩; omega
    · rintro (h | h | ⟨c, hc, _, _, h⟩)
      · exact absurd (mem_defsB.2 (.inl h)) (h2 _ hmem)
      · obtain ⟨n, hn, _, hw⟩ := htk.1 h
        exact absurd (mem_defsB.2 (.inr (List.mem_flatMap.2 ⟨_, List.getElem_mem hn, hw⟩))) (h2 _ hmem)
      · exact absurd h (h2 _ (List.getElem_mem hc))
  · have hdc : v ∈ defsB f.blocks[c] := by
      rw [mem_defsB]
      rcases h2 with ⟨_, h2⟩ | ⟨n, hn, _, h2⟩
      · exact .inl h2
      · exact .inr (List.mem_flatMap.2 ⟨_, List.getElem_mem hn, h2⟩)
    by_cases hcb : c = b
    · subst hcb
      rw [if_pos h1, decide_eq_true_eq]
      rcases h2 with ⟨h3, h4⟩ | ⟨n, hn, h3, h4⟩
      · rw [h3]
        exact ⟨fun _ => .inl h4, fun _ => by omega⟩
      · rw [h3]
        constructor
        · intro h; exact .inr (.inl (htk.2 ⟨n, hn, by omega, h4⟩))
        · rintro (h | h | ⟨d, hd, hne, _, h⟩)
          · exact (once_phi ho hmem h (List.mem_flatMap.2 ⟨_, List.getElem_mem hn, h4⟩)).elim
          · obtain ⟨n', hn', hk, hw⟩ := htk.1 h
            have := once_list ho hmem hn hn' h4 hw
            omega
          · exact absurd (once_blk ho hd hc h hdc) hne
    · rw [if_neg (by omega), hasI_domF hin hb]
      constructor
      · rintro ⟨k, hk, hk2, hd⟩
        have e : k = c := by omega
        subst e
        exact .inr (.inr ⟨k, hc, hcb, hd, hdc⟩)
      · rintro (h | h | ⟨d, hd, hne, hdm, h⟩)
        · exact absurd (once_blk ho hc hb hdc (mem_defsB.2 (.inl h))) hcb
        · obtain ⟨n', hn', hk, hw⟩ := htk.1 h
          exact absurd (once_blk ho hc hb hdc (mem_defsB.2 (.inr (List.mem_flatMap.2 ⟨_, List.getElem_mem hn', hw⟩)))) hcb
        · have e := once_blk ho hd hc h hdc
          subst e
          exact ⟨d, h1, hd, hdm⟩
theorem home_dom {f : FnR} (hsh : shapeB f = true) (ho : Once f.blocks) {b : Nat} (hb : b < f.blocks.length) (v : Int) :
    hasI (domF f.blocks b) (homeF f.blocks v).1 = true ↔ ∃ c, ∃ hc : c < f.blocks.length, Dom f.blocks c b ∧ v ∈ defsB f.blocks[c] := by
  rw [hasI_domF (shape_range hsh) hb]
  rcases home_spec hsh v with ⟨h1, h2⟩ | ⟨c, hc, h1, h2⟩
  · rw [h1]
    constructor
    · rintro ⟨k, hk, _⟩; omega
    · rintro ⟨c, hc, _, h⟩; exact absurd h (h2 _ (List.getElem_mem hc))
  · have hdc : v ∈ defsB f.blocks[c] := by
      rw [mem_defsB]
      rcases h2 with ⟨_, h2⟩ | ⟨n, hn, _, h2⟩
      · exact .inl h2
      · exact .inr (List.mem_flatMap.2 ⟨_, List.getElem_mem hn, h2⟩)
    rw [h1]
    constructor
    · rintro ⟨k, hk, hk2, hd⟩
      have e : k = c := by omega
      subst e
      exact ⟨k, hc, hd, hdc⟩
    · rintro ⟨d, hd, hdm, h⟩
      have e := once_blk ho hd hc h hdc
      subst e
      exact ⟨d, rfl, hd, hdm⟩
theorem fr_lt {f : FnR} (hsh : shapeB f = true) {b : BlkR} (hb : b ∈ f.blocks) {p : PhiR} (hp : p ∈ b.phis) {a : ArmR} (ha : a ∈ p.arms) : ∃ k : Nat, a.fr = k ∧ k < f.blocks.length := by
  obtain ⟨i, hi, rfl⟩ := List.getElem_of_mem ha
  have := ((phi_vals (shape_phi hsh hb hp)).2.2 i hi).1
  have := of_decide_eq_true (show decide (0 ≤ p.arms[i].fr ∧ p.arms[i].fr ≤ (f.blocks.length : Int) - 1) = true from this)
  exact ⟨p.arms[i].fr.toNat, by omega, by omega⟩
theorem taken_iff {f : FnR} (hsh : shapeB f = true) (ho : Once f.blocks) : TakenOk f.blocks ↔ WellP f.blocks := by
  constructor
  · intro h
    refine ⟨fun b hb p hp a ha => ?_, fun b hb l1 x l2 he v hv => ?_, fun b hb v hv => ?_⟩
    · obtain ⟨k, hk1, hk2⟩ := fr_lt hsh (List.getElem_mem hb) hp ha
      have := (h b hb).1 p hp a ha
      rw [hk1] at this ⊢
      exact (home_dom hsh ho hk2 a.v).1 this
    · have hi : l1.length < f.blocks[b].list.length := by rw [he]; simp
      have hx : f.blocks[b].list[l1.length] = x := by
        have : f.blocks[b].list[l1.length]? = some x := by rw [he, List.getElem?_append_right (Nat.le_refl _), Nat.sub_self]; rfl
        rw [List.getElem?_eq_getElem hi] at this; injection this
      have h1 := (h b hb).2.1 l1.length hi
      rw [hx, List.any_eq_false] at h1
      have h2 := h1 v hv
      have h3 : atB f.blocks v b l1.length = true := by simpa using h2
      rw [at_iff hsh ho hb] at h3
      rw [he, List.take_left] at h3
      exact h3
    · have h1 := (h b hb).2.2
      rw [List.any_eq_false] at h1
      have h3 : atB f.blocks v b f.blocks[b].list.length = true := by simpa using h1 v hv
      rw [at_iff hsh ho hb, List.take_length] at h3
      rw [mem_defsB, or_assoc]
      exact h3
  · intro h j hj
    refine ⟨fun p hp a ha => ?_, fun i hi => ?_, ?_⟩
    · obtain ⟨k, hk1, hk2⟩ := fr_lt hsh (List.getElem_mem hj) hp ha
      have := h.phi j hj p hp a ha
      rw [hk1] at this ⊢
      exact (home_dom hsh ho hk2 a.v).2 this
    · rw [List.any_eq_false]
      intro v hv
      have := h.ins j hj (f.blocks[j].list.take i) f.blocks[j].list[i] (f.blocks[j].list.drop (i + 1)) (by rw [← List.drop_eq_getElem_cons hi, List.take_append_drop]) v hv
      rw [(at_iff hsh ho hj v i).2 this]; simp
    · rw [List.any_eq_false]
      intro v hv
      have := h.term j hj v hv
      rw [mem_defsB, or_assoc] at this
      rw [(at_iff hsh ho hj v f.blocks[j].list.length).2 (by rw [List.take_length]; exact this)]; simp
/-- What is well, all told. -/
structure Well (f : FnR) : Prop where
  sh : shapeB f = true
  nc : copiesB f.blocks = false
  seen : cf (seenF f.blocks) = 0
  entry : phis0 f.blocks = 0 ∧ (predsF f.blocks 0).length = 0
  arms : ArmsRight f.blocks
  once : Once f.blocks
  wp : WellP f.blocks
theorem once_iff {f : FnR} (hsh : shapeB f = true) : ((madeF f).any fun n => decide (1 < n)) = false ↔ Once f.blocks := by
  constructor
  · exact fun h => once hsh h
  · intro h
    rw [List.any_eq_false]
    intro n hn
    obtain ⟨k, hk, rfl⟩ := List.getElem_of_mem hn
    have hl : (madeF f).length = f.values.toNat := by unfold madeF; rw [ticksB_len]; simp
    have h1 := tick_count (d := k) (show k < f.values.toNat by omega) (f.blocks.flatMap defsB) (List.replicate f.values.toNat 0) (by simp) (made_defs hsh)
    rw [← madeF_defs] at h1
    have h2 : (madeF f).getD k 0 = (madeF f)[k] := by rw [List.getD_eq_getElem?_getD, List.getElem?_eq_getElem hk]; rfl
    have h3 : (List.replicate f.values.toNat (0 : Int)).getD k 0 = 0 := by rw [List.getD_eq_getElem?_getD, List.getElem?_replicate]; split <;> rfl
    rw [h2, h3] at h1
    have := h (k : Int)
    simp
    omega
theorem well_iff {f : FnR} : checkF f = 0 ↔ Well f := by
  unfold checkF checkW
  constructor
  · intro h
    by_cases h1 : shapeB f = true ∧ copiesB f.blocks = false
    · rw [if_pos h1] at h
      by_cases h2 : 0 < cf (seenF f.blocks)
      · simp [h2] at h
      · by_cases h3 : 0 < phis0 f.blocks ∨ 0 < (predsF f.blocks 0).length
        · simp [h2, h3] at h
        · by_cases h4 : ArmsRight f.blocks
          · cases h5 : (madeF f).any fun n => decide (1 < n) with
            | true => simp [h2, h3, pB_true h4, h5] at h
            | false =>
              by_cases h6 : TakenOk f.blocks
              · have ho := (once_iff h1.1).1 h5
                exact ⟨h1.1, h1.2, by omega, by omega, h4, ho, (taken_iff h1.1 ho).1 h6⟩
              · simp [h2, h3, pB_true h4, h5, pB_false h6] at h
          · simp [h2, h3, pB_false h4] at h
    · rw [if_neg h1] at h; cases h
  · rintro ⟨h1, h2, h3, h4, h5, h6, h7⟩
    rw [if_pos ⟨h1, h2⟩, if_neg (by rw [h3]; simp), if_neg (by omega), if_neg (by rw [pB_true h5]; simp), if_neg (by rw [(once_iff h1).2 h6]; simp), if_neg (by rw [pB_true ((taken_iff h1 h6).2 h7)]; simp)]
end Go.Proofs.YtgdfgnppeekfjaaGreat.Vm
end
section
/- Programs folded. Plain. No conditions. -/
namespace Go.Proofs.YtgdfgnppeekfjaaGreat.Vm
set_option linter.unusedSimpArgs false
set_option linter.unusedVariables false

/-- What is known of values: of which, and what. -/
structure Kn where
  k : List Bool
  n : List Int
def foldX (q : Kn) (x : InsR) : InsR :=
  if wordOk x.op = true ∧ q.k.getD x.a.toNat false = true ∧ q.k.getD x.b.toNat false = true then ⟨20, x.d, 0, 0, wordF x.op (q.n.getD x.a.toNat 0) (q.n.getD x.b.toNat 0)⟩ else x
def learn (q : Kn) (y : InsR) : Kn := if y.op = 20 then ⟨q.k.set y.d.toNat true, q.n.set y.d.toNat y.n⟩ else q
def foldS (s : List InsR × Kn) (x : InsR) : List InsR × Kn := (s.1 ++ [foldX s.2 x], learn s.2 (foldX s.2 x))
def foldL (xs : List InsR) (q : Kn) : List InsR × Kn := xs.foldl foldS ([], q)
def foldK (s : List BlkR × Kn) (b : Int) : List BlkR × Kn :=
  (s.1.set b.toNat ⟨(s.1.getD b.toNat blk0).phis, (foldL (s.1.getD b.toNat blk0).list s.2).1, (s.1.getD b.toNat blk0).term⟩, (foldL (s.1.getD b.toNat blk0).list s.2).2)
def kn0 (n : Nat) : Kn := ⟨List.replicate n false, List.replicate n 0⟩
def foldTo (f : FnR) (xs : List Int) : List BlkR × Kn := xs.foldl foldK (f.blocks, kn0 f.values.toNat)
noncomputable def fold0 (f : FnR) : FnR := if checkF f = 0 then ⟨(foldTo f (ordF f.blocks)).1, f.values⟩ else f
theorem learn_len (q : Kn) (y : InsR) : (learn q y).k.length = q.k.length ∧ (learn q y).n.length = q.n.length := by unfold learn; split <;> simp
theorem foldX_ins {x : InsR} {m : Int} (h : insB x m = true) (q : Kn) : insB (foldX q x) m = true := by
  unfold foldX
  split
  · rename_i hc
    have := (insB_word h hc.1).1
    unfold insB
    rw [if_neg (show ¬ wordOk 20 = true by decide), if_pos rfl]
    simp [this]
  · exact h
structure SOk (n : Nat) (m : Int) (s : List InsR × Kn) : Prop where
  k : s.2.k.length = n
  n : s.2.n.length = n
  ins : ∀ x ∈ s.1, insB x m = true
theorem foldS_ok {n : Nat} {m : Int} {s : List InsR × Kn} (h : SOk n m s) {x : InsR} (hx : insB x m = true) : SOk n m (foldS s x) := by
  obtain ⟨h1, h2, h3⟩ := h
  refine ⟨by simp [foldS, (learn_len _ _).1, h1], by simp [foldS, (learn_len _ _).2, h2], fun y hy => ?_⟩
  simp only [foldS, List.mem_append, List.mem_singleton] at hy
  rcases hy with hy | rfl
  · exact h3 y hy
  · exact foldX_ins hx _
theorem foldl_ok {n : Nat} {m : Int} : ∀ (xs : List InsR) (s : List InsR × Kn), SOk n m s → (∀ x ∈ xs, insB x m = true) → SOk n m (xs.foldl foldS s) ∧ (xs.foldl foldS s).1.length = s.1.length + xs.length := by
  intro xs
  induction xs with
  | nil => intro s h _; exact ⟨h, rfl⟩
  | cons x r ih =>
    intro s h hx
    obtain ⟨a, b⟩ := ih (foldS s x) (foldS_ok h (hx x (by simp))) (fun y hy => hx y (by simp [hy]))
    refine ⟨a, ?_⟩
    rw [List.foldl_cons, b]
    simp [foldS]; omega
theorem foldL_ok {n : Nat} {m : Int} {xs : List InsR} {q : Kn} (hk : q.k.length = n) (hn : q.n.length = n) (hx : ∀ x ∈ xs, insB x m = true) : SOk n m (foldL xs q) ∧ (foldL xs q).1.length = xs.length := by
  obtain ⟨a, b⟩ := foldl_ok xs ([], q) (n := n) (m := m) ⟨hk, hn, fun x hx => by cases hx⟩ hx
  exact ⟨a, by unfold foldL; rw [b]; simp⟩
/-- What stays right from block to block. -/
structure TOk (N n : Nat) (m : Int) (s : List BlkR × Kn) : Prop where
  len : s.1.length = N
  k : s.2.k.length = n
  n : s.2.n.length = n
  ins : ∀ b ∈ s.1, b.list.length ≤ 24 ∧ ∀ x ∈ b.list, insB x m = true
theorem getD_mem {bs : List BlkR} {b : Nat} (h : b < bs.length) : bs.getD b blk0 ∈ bs := by rw [blk_at h]; exact List.getElem_mem h
theorem foldK_ok {N n : Nat} {m : Int} {s : List BlkR × Kn} (h : TOk N n m s) {b : Nat} (hb : b < N) : TOk N n m (foldK s b) := by
  obtain ⟨h1, h2, h3, h4⟩ := h
  have hmem := getD_mem (bs := s.1) (b := b) (by omega)
  obtain ⟨g1, g2⟩ := h4 _ hmem
  obtain ⟨a, c⟩ := foldL_ok (n := n) (m := m) h2 h3 g2
  refine ⟨by simp [foldK, h1], a.k, a.n, fun x hx => ?_⟩
  simp only [foldK, Int.toNat_natCast] at hx
  rcases List.mem_or_eq_of_mem_set hx with hx | rfl
  · exact h4 x hx
  · exact ⟨by simp only; rw [c]; exact g1, a.ins⟩
theorem foldTo_ok {f : FnR} (hsh : shapeB f = true) : ∀ (xs : List Int), (∀ x ∈ xs, ∃ k : Nat, x = k ∧ k < f.blocks.length) → TOk f.blocks.length f.values.toNat f.values (foldTo f xs) := by
  have key : ∀ (xs : List Int) (s : List BlkR × Kn), TOk f.blocks.length f.values.toNat f.values s → (∀ x ∈ xs, ∃ k : Nat, x = k ∧ k < f.blocks.length) → TOk f.blocks.length f.values.toNat f.values (xs.foldl foldK s) := by
    intro xs
    induction xs with
    | nil => intro s h _; exact h
    | cons x r ih =>
      intro s h hx
      obtain ⟨k, rfl, hk⟩ := hx x (by simp)
      exact ih _ (foldK_ok h hk) fun y hy => hx y (by simp [hy])
  exact fun xs hx => key xs _ ⟨rfl, by simp [kn0], by simp [kn0], fun b hb => ⟨(shape_lens hsh hb).2, fun x hx => shape_ins hsh hb hx⟩⟩ hx
theorem foldTo_succ (f : FnR) {xs : List Int} {i : Nat} (hi : i < xs.length) : foldTo f (xs.take (i + 1)) = foldK (foldTo f (xs.take i)) xs[i] := by
  unfold foldTo
  rw [List.take_succ_eq_append_getElem hi, List.foldl_append]; rfl
end Go.Proofs.YtgdfgnppeekfjaaGreat.Vm
end
section
/- Programs folded: a list, by both. No conditions. -/
namespace Go.Proofs.YtgdfgnppeekfjaaGreat.Vm
open Go.RowKit (wrap64)
set_option linter.unusedSimpArgs false
set_option linter.unusedVariables false

theorem rd_bool {X : Hp} {id a n : Nat} {ks : List Bool} (h : rdOb X id 0 = some ⟨ks.map .b, 0, true, 1⟩) (hn : ks.length = n) (ha : a < n) : idxOf 1 (.sl id 0 0 n) (a : Int) = some (.p id 0 a) ∧ rdC X id 0 a = some (.b (ks.getD a false)) := by
  subst hn
  refine ⟨by simp [ha], ?_⟩
  rw [rdC_ob h]
  simp [ha, List.getD_eq_getElem?_getD]
theorem rd_int {X : Hp} {id a n : Nat} {ks : List Int} (h : rdOb X id 0 = some ⟨ks.map .i, 0, true, 1⟩) (hn : ks.length = n) (ha : a < n) : idxOf 1 (.sl id 0 0 n) (a : Int) = some (.p id 0 a) ∧ rdC X id 0 a = some (.i (ks.getD a 0)) := by
  subst hn
  refine ⟨by simp [ha], ?_⟩
  rw [rdC_ob h]
  simp [ha, List.getD_eq_getElem?_getD]
abbrev KOb (ks : List Bool) : Ob := ⟨ks.map .b, 0, true, 1⟩
abbrev NOb (ns : List Int) : Ob := ⟨ns.map .i, 0, true, 1⟩
/-- Where a list is being folded. -/
structure FoldH (Gu : Nat → Prop) (kid nid : Nat) (u : CV) (Y0 Y : Hp) (xs : List InsR) (q : Kn) : Prop where
  row : FRow insF 5 Y u xs Gu
  k : rdOb Y kid 0 = some (KOb q.k)
  n : rdOb Y nid 0 = some (NOb q.n)
  fr : Frm (fun j => j < Y0.length ∧ ¬ Gu j ∧ j ≠ kid ∧ j ≠ nid) Y0 Y
  len : Y0.length ≤ Y.length
theorem FoldH.app {Gu : Nat → Prop} {kid nid : Nat} {u : CV} {Y0 Y : Hp} {xs : List InsR} {q : Kn} (h : FoldH Gu kid nid u Y0 Y xs q) (L : Hp) : FoldH Gu kid nid u Y0 (Y ++ L) xs q :=
  ⟨h.row.fr insF_st (Frm.app _ _ _), rdOb_app L h.k, rdOb_app L h.n, h.fr.trans (Frm.app _ _ _), by have := h.len; simp only [List.length_append]; omega⟩
/-- A value is learnt. -/
theorem FoldH.learn {Gu : Nat → Prop} {kid nid : Nat} {u : CV} {Y0 Y : Hp} {xs : List InsR} {q : Kn} (h : FoldH Gu kid nid u Y0 Y xs q) (hk : ¬ Gu kid) (hn : ¬ Gu nid) (hne : kid ≠ nid) {d : Nat} {c : Int} (hd : d < q.k.length) (hd2 : d < q.n.length) :
    ∃ Z Z2, putAt (q.k.map CV.b) d [.b true] = (q.k.map CV.b).set d (.b true) ∧ d + 1 ≤ q.k.length ∧ Y.set kid ⟨(q.k.map CV.b).set d (.b true), 0, true, 1⟩ = Z ∧ rdOb Z nid 0 = some ⟨q.n.map .i, 0, true, 1⟩ ∧ putAt (q.n.map CV.i) d [.i c] = (q.n.map CV.i).set d (.i c) ∧ d + 1 ≤ q.n.length ∧ Z.set nid ⟨(q.n.map CV.i).set d (.i c), 0, true, 1⟩ = Z2 ∧ FoldH Gu kid nid u Y0 Z2 xs ⟨q.k.set d true, q.n.set d c⟩ ∧ Frm (fun j => j ≠ kid ∧ j ≠ nid) Y Z2 ∧ Frm (fun j => j ≠ kid) Y Z := by
  have hlk := rdOb_lt h.k
  have hln := rdOb_lt h.n
  have h1 : rdOb (Y.set kid ⟨(q.k.map CV.b).set d (.b true), 0, true, 1⟩) nid 0 = some (NOb q.n) := by rw [rdOb_set_ne (fun e => hne e.symm)]; exact h.n
  have hfr : Frm (fun j => j ≠ kid ∧ j ≠ nid) Y ((Y.set kid ⟨(q.k.map CV.b).set d (.b true), 0, true, 1⟩).set nid ⟨(q.n.map CV.i).set d (.i c), 0, true, 1⟩) := (Frm.set Y _ (by simp)).trans (Frm.set _ _ (by simp))
  refine ⟨_, _, putAt_get (by simpa using hd), by omega, rfl, h1, putAt_get (by simpa using hd2), by omega, rfl, ⟨?_, ?_, ?_, ?_, ?_⟩, hfr, Frm.set Y _ (by simp)⟩
  · exact h.row.fr insF_st (hfr.mono fun j hj => ⟨fun e => hk (e ▸ hj), fun e => hn (e ▸ hj)⟩)
  · rw [rdOb_set_ne hne, rdOb_set_self hlk]; simp [KOb, List.map_set]
  · rw [rdOb_set_self (by simp; exact hln)]; simp [NOb, List.map_set]
  · exact h.fr.trans (hfr.mono fun j hj => hj.2.2)
  · simp; exact h.len
/-- A place is written over. -/
theorem FoldH.put {Gu : Nat → Prop} {kid nid i : Nat} {u : CV} {Y0 Y : Hp} {ys r : List InsR} {x : InsR} {q : Kn} (h : FoldH Gu kid nid u Y0 Y (ys ++ x :: r) q) (hi : ys.length = i) (hk : ¬ Gu kid) (hn : ¬ Gu nid) (x' : InsR) :
    ∃ id g cells Z, idxOf 5 u (i : Int) = some (.p id g (i * 5)) ∧ rdOb Y id g = some ⟨cells, g, true, 5⟩ ∧ i * 5 + 5 ≤ cells.length ∧ Y.set id ⟨putAt cells (i * 5) [.i x'.op, .i x'.d, .i x'.a, .i x'.b, .i x'.n], g, true, 5⟩ = Z ∧ FoldH Gu kid nid u Y0 Z (ys ++ x' :: r) q ∧ Frm (fun j => ¬ Gu j) Y Z := by
  obtain ⟨id, g, cells, Z, h1, h2, h3, h4, h5, h6, h7⟩ := h.row.wholeS insF_st hi (cs := insC x') (x' := x') rfl (fun _ => rfl)
  exact ⟨id, g, cells, Z, h1, h2, h3, h4, ⟨h5, h6.ob hk h.k, h6.ob hn h.n, h.fr.trans (h6.mono fun j hj => hj.2.1), by rw [h7]; exact h.len⟩, h6⟩
/-- What lies elsewhere is written over. -/
theorem FoldH.other {Gu : Nat → Prop} {kid nid : Nat} {u : CV} {Y0 Y : Hp} {xs : List InsR} {q : Kn} (h : FoldH Gu kid nid u Y0 Y xs q) {id : Nat} (o : Ob) (h0 : Y0.length ≤ id) (hG : ¬ Gu id) (hk : id ≠ kid) (hn : id ≠ nid) : FoldH Gu kid nid u Y0 (Y.set id o) xs q :=
  ⟨h.row.fr insF_st (Frm.set Y o hG), by rw [rdOb_set_ne hk.symm]; exact h.k, by rw [rdOb_set_ne hn.symm]; exact h.n, h.fr.trans (Frm.set Y o (by omega)), by simp; exact h.len⟩
theorem p50 (a b c d e x : CV) : putAt [a, b, c, d, e] 0 [x] = [x, b, c, d, e] := rfl
theorem p51 (a b c d e x : CV) : putAt [a, b, c, d, e] 1 [x] = [a, x, c, d, e] := rfl
theorem p54 (a b c d e x : CV) : putAt [a, b, c, d, e] 4 [x] = [a, b, c, d, x] := rfl
theorem putAt_get5 (a b c d e : CV) (ys : List CV) (h : ys.length = 5) : putAt [a, b, c, d, e] 0 ys = ys := by
  unfold putAt
  rw [List.drop_eq_nil_of_le (by simp; omega)]; simp
set_option maxRecDepth 100000 in
theorem foldIn {Gu : Nat → Prop} {Y0 : Hp} {kid nid o3 id g n b : Nat} {w u : CV} {mv m : Int} {xs : List InsR} {q : Kn} {e : Env} {Q : X × St → Prop} {x1 x2 x23 x24 x25 : IV}
    (h0 : FoldH Gu kid nid u Y0 Y0 xs q) (hb : xs.length ≤ BIG) (hgk : ¬ Gu kid) (hgn : ¬ Gu nid) (hkn : kid ≠ nid) (hg3 : ¬ Gu o3) (h3k : o3 ≠ kid) (h3n : o3 ≠ nid) (hgb : ∀ j, Gu j → j < Y0.length) (hgi : ¬ Gu id) (hik : id ≠ kid) (hin : id ≠ nid)
    (ho : rdOb Y0 o3 0 = some ⟨[w, .i mv], 0, true, 2⟩) (hix : idxOf 6 w (b : Int) = some (.p id g (b * 6))) (hu : rdC Y0 id g (b * 6 + 1) = some u) (hqk : q.k.length = n) (hqn : q.n.length = n) (hm : n = m.toNat) (hsh : ∀ x ∈ xs, insB x m = true)
    (e1 : Env.get e 1 = x1) (e2 : Env.get e 2 = x2) (e3 : Env.get e 3 = .c (.p o3 0 0)) (e4 : Env.get e 4 = .c (.sl kid 0 0 n)) (e5 : Env.get e 5 = .c (.sl nid 0 0 n)) (e7 : Env.get e 7 = .c (.i b)) (e23 : Env.get e 23 = x23) (e24 : Env.get e 24 = x24) (e25 : Env.get e 25 = x25)
    (e34 : Env.get e 34 = .c u) (e35 : Env.get e 35 = .c (.i xs.length)) (e36 : Env.get e 36 = .c (.i 0))
    (hQ : ∀ (Y : Hp) (e' : Env), FoldH Gu kid nid u Y0 Y (foldL xs q).1 (foldL xs q).2 → Env.get e' 1 = x1 → Env.get e' 2 = x2 → Env.get e' 3 = .c (.p o3 0 0) → Env.get e' 4 = .c (.sl kid 0 0 n) → Env.get e' 5 = .c (.sl nid 0 0 n) → Env.get e' 23 = x23 → Env.get e' 24 = x24 → Env.get e' 25 = x25 → Q (.exit 2, ⟨e', Y⟩)) :
    loopD (exW CM [0, 1, 2, 3, 4, 5, 7, 8, 9, 14, 23, 24, 25, 26, 34, 35, 36, 37, 57, 85] vf52b0) ⟨e, Y0⟩ Q := by
  obtain ⟨I, hI⟩ : ∃ I : Nat → St → Prop, ∀ j s, I j s ↔ (FoldH Gu kid nid u Y0 s.h (((xs.take j).foldl foldS ([], q)).1 ++ xs.drop j) ((xs.take j).foldl foldS ([], q)).2 ∧
      Env.get s.e 1 = x1 ∧ Env.get s.e 2 = x2 ∧ Env.get s.e 3 = .c (.p o3 0 0) ∧ Env.get s.e 4 = .c (.sl kid 0 0 n) ∧ Env.get s.e 5 = .c (.sl nid 0 0 n) ∧ Env.get s.e 7 = .c (.i b) ∧ Env.get s.e 23 = x23 ∧ Env.get s.e 24 = x24 ∧ Env.get s.e 25 = x25 ∧
      Env.get s.e 34 = .c u ∧ Env.get s.e 35 = .c (.i xs.length) ∧ Env.get s.e 36 = .c (.i j)) := ⟨_, fun _ _ => Iff.rfl⟩
  refine wp_for CM_mono xs.length I ((hI _ _).2 ⟨by simpa using h0, e1, e2, e3, e4, e5, e7, e23, e24, e25, e34, e35, e36⟩) ?_ ?_
  · rintro j ⟨e0, Y⟩ hj hIs
    obtain ⟨hF, f1, f2, f3, f4, f5, f7, f23, f24, f25, f34, f35, f36⟩ := (hI _ _).1 hIs
    simp only at hF f1 f2 f3 f4 f5 f7 f23 f24 f25 f34 f35 f36 ⊢
    obtain ⟨ok, okl⟩ := foldl_ok (xs.take j) ([], q) (n := n) (m := m) ⟨hqk, hqn, fun x hx => by cases hx⟩ (fun x hx => hsh x (List.mem_of_mem_take hx))
    have hsucc : (xs.take (j + 1)).foldl foldS ([], q) = foldS ((xs.take j).foldl foldS ([], q)) xs[j] := by rw [List.take_succ_eq_append_getElem hj, List.foldl_append]; rfl
    obtain ⟨⟨ys, p⟩, hs⟩ : ∃ s, (xs.take j).foldl foldS ([], q) = s := ⟨_, rfl⟩
    rw [hs] at ok okl hsucc hF
    obtain ⟨okk, okn, _⟩ := ok
    simp only at okk okn okl hF
    rw [List.length_take, Nat.min_eq_left (by omega)] at okl
    have hyl : ys.length = j := by simpa using okl
    obtain ⟨x, hx⟩ : ∃ x, xs[j] = x := ⟨_, rfl⟩
    rw [drop_mid hj, hx] at hF
    rw [hx] at hsucc
    have hxB : insB x m = true := hsh x (hx ▸ List.getElem_mem hj)
    obtain ⟨rid, rg, cs, G, r1, r2, r3, r4⟩ := hF.row.readS hyl
    have r3 : cs = insC x := r3
    subst r3
    have hr2 : rdN Y rid rg (j * 5) 5 = some [.i x.op, .i x.d, .i x.a, .i x.b, .i x.n] := r2
    obtain ⟨Y1, hY1⟩ : ∃ Y1, Y ++ [(⟨[.i x.op, .i x.d, .i x.a, .i x.b, .i x.n], 0, true, 5⟩ : Ob)] = Y1 := ⟨_, rfl⟩
    have hp1 : Pre Y Y1 := ⟨_, hY1.symm⟩
    have l1 : Y1.length = Y.length + 1 := by rw [← hY1]; simp
    have n1 : rdOb Y1 Y.length 0 = some ⟨[.i x.op, .i x.d, .i x.a, .i x.b, .i x.n], 0, true, 5⟩ := by rw [← hY1]; simp
    have hF1 : FoldH Gu kid nid u Y0 Y1 (ys ++ x :: xs.drop (j + 1)) p := by rw [← hY1]; exact hF.app _
    have hend : ∀ (Z : Hp) (e' : Env) (x' : InsR) (q' : Kn), foldX p x = x' → learn p x' = q' → FoldH Gu kid nid u Y0 Z (ys ++ x' :: xs.drop (j + 1)) q' → (Env.get e' 1 = x1 ∧ Env.get e' 2 = x2 ∧ Env.get e' 3 = .c (.p o3 0 0) ∧ Env.get e' 4 = .c (.sl kid 0 0 n) ∧ Env.get e' 5 = .c (.sl nid 0 0 n) ∧ Env.get e' 7 = .c (.i b) ∧ Env.get e' 23 = x23 ∧ Env.get e' 24 = x24 ∧ Env.get e' 25 = x25 ∧
        Env.get e' 34 = .c u ∧ Env.get e' 35 = .c (.i xs.length) ∧ Env.get e' 36 = .c (.i (j + 1 : Nat))) → I (j + 1) ⟨e', Z⟩ := by
      intro Z e' x' q' hx' hq' hZ he
      refine (hI _ _).2 ⟨?_, he⟩
      rw [hsucc]
      simp only [foldS, hx', hq']
      simpa using hZ
    have hup := up1 hj hb
    unfold vf52b0
    cases hw : wordOk x.op with
    | false =>
      have hfx : foldX p x = x := by unfold foldX; rw [if_neg (by simp [hw])]
      cases h20 : decide (x.op = 20) with
      | true =>
        have h20' := of_decide_eq_true h20
        obtain ⟨d, hd1, hd2⟩ := val_nat (makes_val hxB (by unfold makesF; simp [h20']))
        obtain ⟨Z, Z2, a1, a2, a3, a4, a5, a6, a7, a8, a9, a10⟩ := hF1.learn hgk hgn hkn (d := d) (c := x.n) (by omega) (by omega)
        have i1 := (rd_bool hF1.k okk (show d < n by omega)).1
        have i2 := (rd_int hF1.n okn (show d < n by omega)).1
        have hl20 : learn p x = ⟨p.k.set d true, p.n.set d x.n⟩ := by unfold learn; rw [if_pos h20', hd1]; simp
        have nZ : rdOb Z Y.length 0 = some ⟨[.i x.op, .i x.d, .i x.a, .i x.b, .i x.n], 0, true, 5⟩ := a10.ob (by have := rdOb_lt hF.k; omega) n1
        rw [hd1] at n1 nZ hY1 hr2
        have kk := hF1.k
        simp only [KOb] at kk
        simp [f1, f2, f3, f4, f5, f7, f23, f24, f25, f34, f35, f36, hj, r1, hr2, putAt_get5, hY1, rdC_ob n1, implWordOk, hw, h20, i1, i2, kk, rdC_ob nZ, a1, a2, a3, a4, a5, a6, a7, hup]
        refine hend _ _ x _ hfx hl20 a8 ?_
        simp
      | false =>
        have hl20 : learn p x = p := by unfold learn; rw [if_neg (of_decide_eq_false h20)]
        simp [f1, f2, f3, f4, f5, f7, f23, f24, f25, f34, f35, f36, hj, r1, hr2, putAt_get5, hY1, rdC_ob n1, implWordOk, hw, h20, hup]
        refine hend _ _ x _ hfx hl20 hF1 ?_
        simp
    | true =>
      have hop := op_word hw
      have h20 : decide (x.op = 20) = false := decide_eq_false hop.1
      obtain ⟨hvd, hva, hvb⟩ := insB_word hxB hw
      obtain ⟨ka, ha1, ha2⟩ := val_nat hva
      obtain ⟨kb, hb1, hb2⟩ := val_nat hvb
      obtain ⟨d, hd1, hd2⟩ := val_nat hvd
      obtain ⟨i1, c1⟩ := rd_bool hF1.k okk (show ka < n by omega)
      obtain ⟨i2, c2⟩ := rd_bool hF1.k okk (show kb < n by omega)
      cases hka : p.k.getD ka false with
      | false =>
        have hfx : foldX p x = x := by unfold foldX; rw [if_neg (fun h => by rw [ha1, Int.toNat_natCast, hka] at h; cases h.2.1)]
        have hl20 : learn p x = p := by unfold learn; rw [if_neg hop.1]
        rw [hka] at c1
        rw [ha1] at n1 hY1 hr2
        simp [f1, f2, f3, f4, f5, f7, f23, f24, f25, f34, f35, f36, hj, r1, hr2, putAt_get5, hY1, rdC_ob n1, implWordOk, hw, h20, hup, i1, c1]
        refine hend _ _ x _ hfx hl20 hF1 ?_
        simp
      | true =>
        cases hkb : p.k.getD kb false with
        | false =>
          have hfx : foldX p x = x := by unfold foldX; rw [if_neg (fun h => by rw [hb1, Int.toNat_natCast, hkb] at h; cases h.2.2)]
          have hl20 : learn p x = p := by unfold learn; rw [if_neg hop.1]
          rw [hka] at c1
          rw [hkb] at c2
          rw [ha1, hb1] at n1 hY1 hr2
          simp [f1, f2, f3, f4, f5, f7, f23, f24, f25, f34, f35, f36, hj, r1, hr2, putAt_get5, hY1, rdC_ob n1, implWordOk, hw, h20, hup, i1, c1, i2, c2]
          refine hend _ _ x _ hfx hl20 hF1 ?_
          simp
        | true =>
          obtain ⟨i3, c3⟩ := rd_int hF1.n okn (show ka < n by omega)
          obtain ⟨i4, c4⟩ := rd_int hF1.n okn (show kb < n by omega)
          obtain ⟨va, hva'⟩ : ∃ va, p.n.getD ka 0 = va := ⟨_, rfl⟩
          obtain ⟨vb, hvb'⟩ : ∃ vb, p.n.getD kb 0 = vb := ⟨_, rfl⟩
          rw [hva'] at c3
          rw [hvb'] at c4
          obtain ⟨N, hN⟩ : ∃ N, wordF x.op va vb = N := ⟨_, rfl⟩
          have hfx : foldX p x = ⟨20, d, 0, 0, N⟩ := by unfold foldX; rw [if_pos ⟨hw, by rw [ha1, Int.toNat_natCast]; exact hka, by rw [hb1, Int.toNat_natCast]; exact hkb⟩, ha1, hb1, hd1, Int.toNat_natCast, Int.toNat_natCast, hva', hvb', hN]
          have hl20 : learn p ⟨20, d, 0, 0, N⟩ = ⟨p.k.set d true, p.n.set d N⟩ := by unfold learn; rw [if_pos rfl]; simp
          have hlY := rdOb_lt hF.k
          have hlN := rdOb_lt hF.n
          have hYG : ¬ Gu Y.length := fun h => by have := hgb _ h; have := hF.len; omega
          obtain ⟨Y2, hY2⟩ : ∃ Y2, Y1.set Y.length ⟨[.i 20, .i d, .i 0, .i 0, .i N], 0, true, 5⟩ = Y2 := ⟨_, rfl⟩
          have hF2 : FoldH Gu kid nid u Y0 Y2 (ys ++ x :: xs.drop (j + 1)) p := by rw [← hY2]; exact hF1.other _ (hF.len) hYG (by omega) (by omega)
          have n2 : rdOb Y2 Y.length 0 = some ⟨[.i 20, .i d, .i 0, .i 0, .i N], 0, true, 5⟩ := by rw [← hY2, rdOb_set_self (by omega)]; simp
          have hlo := rdOb_lt ho
          obtain ⟨oi, hoi⟩ := rdOb_of_rdC hu
          have o2 : rdOb Y2 o3 0 = some ⟨[w, .i mv], 0, true, 2⟩ := hF2.fr.ob ⟨hlo, hg3, h3k, h3n⟩ ho
          have u2 : rdC Y2 id g (b * 6 + 1) = some u := by rw [rdC_ob (hF2.fr.ob ⟨rdOb_lt hoi, hgi, hik, hin⟩ hoi), ← rdC_ob hoi]; exact hu
          obtain ⟨pid, pg, pcells, Z, p1, p2, p3, p4, hF3, p6⟩ := hF2.put hyl hgk hgn ⟨20, d, 0, 0, N⟩
          have ep : pid = rid ∧ pg = rg := by have e := p1.symm.trans r1; injection e with e; injection e with e1 e2; exact ⟨e1, e2⟩
          obtain ⟨rfl, rfl⟩ := ep
          have nZ : rdOb Z Y.length 0 = some ⟨[.i 20, .i d, .i 0, .i 0, .i N], 0, true, 5⟩ := p6.ob hYG n2
          obtain ⟨Z1, Z2, a1, a2, a3, a4, a5, a6, a7, a8, a9, a10⟩ := hF3.learn hgk hgn hkn (d := d) (c := N) (by omega) (by omega)
          have nZ1 : rdOb Z1 Y.length 0 = some ⟨[.i 20, .i d, .i 0, .i 0, .i N], 0, true, 5⟩ := a10.ob (by omega) nZ
          have i5 := (rd_bool hF3.k okk (show d < n by omega)).1
          have i6 := (rd_int hF3.n okn (show d < n by omega)).1
          have kk := hF3.k
          simp only [KOb] at kk
          rw [hka] at c1
          rw [hkb] at c2
          rw [ha1, hb1, hd1] at n1 hY1 hr2
          simp only at p4
          simp [f1, f2, f3, f4, f5, f7, f23, f24, f25, f34, f35, f36, hj, r1, hr2, putAt_get5, p50, p51, p54, hY1, n1, rdC_ob n1, implWordOk, implWord, hw, hup, i1, c1, i2, c2, i3, c3, i4, c4, hN, hY2, rdC_ob o2, hix, u2, rdN_ob n2, p1, p2, p3, p4, rdC_ob nZ, i5, kk, a1, a2, a3, rdC_ob nZ1, i6, a4, a5, a6, a7]
          refine hend _ _ _ _ hfx hl20 a8 ?_
          simp
  · rintro ⟨e0, Y⟩ hIs
    obtain ⟨hF, f1, f2, f3, f4, f5, f7, f23, f24, f25, f34, f35, f36⟩ := (hI _ _).1 hIs
    simp only at hF f1 f2 f3 f4 f5 f7 f23 f24 f25 f34 f35 f36 ⊢
    rw [List.take_length, List.drop_length, List.append_nil] at hF
    unfold vf52b0
    simp [f1, f2, f3, f4, f5, f7, f23, f24, f25, f34, f35, f36]
    exact hQ Y _ hF (by simp) (by simp) (by simp) (by simp) (by simp) (by simp) (by simp) (by simp)
end Go.Proofs.YtgdfgnppeekfjaaGreat.Vm
end
section
/- Programs folded: a list, by the specification. No conditions. -/
namespace Go.Proofs.YtgdfgnppeekfjaaGreat.Vm
open Go.RowKit (wrap64)
set_option linter.unusedSimpArgs false
set_option linter.unusedVariables false

set_option maxRecDepth 100000 in
theorem foldInS {Gu : Nat → Prop} {Y0 : Hp} {kid nid n : Nat} {u : CV} {m : Int} {xs : List InsR} {q : Kn} {e : Env} {Q : X × St → Prop} {x1 x2 x3 x6 x7 : IV}
    (h0 : FoldH Gu kid nid u Y0 Y0 xs q) (hb : xs.length ≤ BIG) (hgk : ¬ Gu kid) (hgn : ¬ Gu nid) (hkn : kid ≠ nid) (hgb : ∀ j, Gu j → j < Y0.length) (hqk : q.k.length = n) (hqn : q.n.length = n) (hm : n = m.toNat) (hsh : ∀ x ∈ xs, insB x m = true)
    (e1 : Env.get e 1 = x1) (e2 : Env.get e 2 = x2) (e3 : Env.get e 3 = x3) (e4 : Env.get e 4 = .c (.sl kid 0 0 n)) (e5 : Env.get e 5 = .c (.sl nid 0 0 n)) (e6 : Env.get e 6 = x6) (e7 : Env.get e 7 = x7) (e8 : Env.get e 8 = .c u) (e9 : Env.get e 9 = .c (.i 0))
    (hQ : ∀ (Y : Hp) (e' : Env), FoldH Gu kid nid u Y0 Y (foldL xs q).1 (foldL xs q).2 → Env.get e' 1 = x1 → Env.get e' 2 = x2 → Env.get e' 3 = x3 → Env.get e' 4 = .c (.sl kid 0 0 n) → Env.get e' 5 = .c (.sl nid 0 0 n) → Env.get e' 6 = x6 → Env.get e' 7 = x7 → Q (.exit 2, ⟨e', Y⟩)) :
    loopD (exW CM [0, 1, 2, 3, 4, 5, 6, 7, 8, 9, 10, 15, 28, 43, 66, 89] vf51b0) ⟨e, Y0⟩ Q := by
  obtain ⟨I, hI⟩ : ∃ I : Nat → St → Prop, ∀ j s, I j s ↔ (FoldH Gu kid nid u Y0 s.h (((xs.take j).foldl foldS ([], q)).1 ++ xs.drop j) ((xs.take j).foldl foldS ([], q)).2 ∧
      Env.get s.e 1 = x1 ∧ Env.get s.e 2 = x2 ∧ Env.get s.e 3 = x3 ∧ Env.get s.e 4 = .c (.sl kid 0 0 n) ∧ Env.get s.e 5 = .c (.sl nid 0 0 n) ∧ Env.get s.e 6 = x6 ∧ Env.get s.e 7 = x7 ∧ Env.get s.e 8 = .c u ∧ Env.get s.e 9 = .c (.i j)) := ⟨_, fun _ _ => Iff.rfl⟩
  refine wp_for CM_mono xs.length I ((hI _ _).2 ⟨by simpa using h0, e1, e2, e3, e4, e5, e6, e7, e8, e9⟩) ?_ ?_
  · rintro j ⟨e0, Y⟩ hj hIs
    obtain ⟨hF, f1, f2, f3, f4, f5, f6, f7, f8, f9⟩ := (hI _ _).1 hIs
    simp only at hF f1 f2 f3 f4 f5 f6 f7 f8 f9 ⊢
    obtain ⟨ok, okl⟩ := foldl_ok (xs.take j) ([], q) (n := n) (m := m) ⟨hqk, hqn, fun x hx => by cases hx⟩ (fun x hx => hsh x (List.mem_of_mem_take hx))
    have hsucc : (xs.take (j + 1)).foldl foldS ([], q) = foldS ((xs.take j).foldl foldS ([], q)) xs[j] := by rw [List.take_succ_eq_append_getElem hj, List.foldl_append]; rfl
    obtain ⟨⟨ys, p⟩, hs⟩ : ∃ s, (xs.take j).foldl foldS ([], q) = s := ⟨_, rfl⟩
    rw [hs] at ok okl hsucc hF
    obtain ⟨okk, okn, _⟩ := ok
    simp only at okk okn okl hF
    rw [List.length_take, Nat.min_eq_left (by omega)] at okl
    have hyl : ys.length = j := by simpa using okl
    obtain ⟨x, hx⟩ : ∃ x, xs[j] = x := ⟨_, rfl⟩
    rw [drop_mid hj, hx] at hF
    rw [hx] at hsucc
    have hxB : insB x m = true := hsh x (hx ▸ List.getElem_mem hj)
    obtain ⟨rid, rg, cs, G, r1, r2, r3, r4⟩ := hF.row.readS hyl
    have r3 : cs = insC x := r3
    subst r3
    have hr2 : rdN Y rid rg (j * 5) 5 = some [.i x.op, .i x.d, .i x.a, .i x.b, .i x.n] := r2
    obtain ⟨Y1, hY1⟩ : ∃ Y1, Y ++ [(⟨[.i x.op, .i x.d, .i x.a, .i x.b, .i x.n], 0, true, 5⟩ : Ob)] = Y1 := ⟨_, rfl⟩
    have hp1 : Pre Y Y1 := ⟨_, hY1.symm⟩
    have l1 : Y1.length = Y.length + 1 := by rw [← hY1]; simp
    have n1 : rdOb Y1 Y.length 0 = some ⟨[.i x.op, .i x.d, .i x.a, .i x.b, .i x.n], 0, true, 5⟩ := by rw [← hY1]; simp
    have hF1 : FoldH Gu kid nid u Y0 Y1 (ys ++ x :: xs.drop (j + 1)) p := by rw [← hY1]; exact hF.app _
    have hend : ∀ (Z : Hp) (e' : Env) (x' : InsR) (q' : Kn), foldX p x = x' → learn p x' = q' → FoldH Gu kid nid u Y0 Z (ys ++ x' :: xs.drop (j + 1)) q' → (Env.get e' 1 = x1 ∧ Env.get e' 2 = x2 ∧ Env.get e' 3 = x3 ∧ Env.get e' 4 = .c (.sl kid 0 0 n) ∧ Env.get e' 5 = .c (.sl nid 0 0 n) ∧ Env.get e' 6 = x6 ∧ Env.get e' 7 = x7 ∧ Env.get e' 8 = .c u ∧ Env.get e' 9 = .c (.i (j + 1 : Nat))) → I (j + 1) ⟨e', Z⟩ := by
      intro Z e' x' q' hx' hq' hZ he
      refine (hI _ _).2 ⟨?_, he⟩
      rw [hsucc]
      simp only [foldS, hx', hq']
      simpa using hZ
    have hlu := hF.row.lenOf
    rw [show (ys ++ x :: xs.drop (j + 1)).length = xs.length by simp; omega] at hlu
    have hup := up1 hj hb
    unfold vf51b0
    cases hw : wordOk x.op with
    | false =>
      have hfx : foldX p x = x := by unfold foldX; rw [if_neg (by simp [hw])]
      cases h20 : decide (x.op = 20) with
      | true =>
        have h20' := of_decide_eq_true h20
        obtain ⟨d, hd1, hd2⟩ := val_nat (makes_val hxB (by unfold makesF; simp [h20']))
        obtain ⟨Z, Z2, a1, a2, a3, a4, a5, a6, a7, a8, a9, a10⟩ := hF1.learn hgk hgn hkn (d := d) (c := x.n) (by omega) (by omega)
        have i1 := (rd_bool hF1.k okk (show d < n by omega)).1
        have i2 := (rd_int hF1.n okn (show d < n by omega)).1
        have hl20 : learn p x = ⟨p.k.set d true, p.n.set d x.n⟩ := by unfold learn; rw [if_pos h20', hd1]; simp
        have nZ : rdOb Z Y.length 0 = some ⟨[.i x.op, .i x.d, .i x.a, .i x.b, .i x.n], 0, true, 5⟩ := a10.ob (by have := rdOb_lt hF.k; omega) n1
        rw [hd1] at n1 nZ hY1 hr2
        have kk := hF1.k
        simp only [KOb] at kk
        simp [f1, f2, f3, f4, f5, f6, f7, f8, f9, hlu, hj, r1, hr2, putAt_get5, hY1, rdC_ob n1, specWordOk, hw, h20, i1, i2, kk, rdC_ob nZ, a1, a2, a3, a4, a5, a6, a7, hup]
        refine hend _ _ x _ hfx hl20 a8 ?_
        simp
      | false =>
        have hl20 : learn p x = p := by unfold learn; rw [if_neg (of_decide_eq_false h20)]
        simp [f1, f2, f3, f4, f5, f6, f7, f8, f9, hlu, hj, r1, hr2, putAt_get5, hY1, rdC_ob n1, specWordOk, hw, h20, hup]
        refine hend _ _ x _ hfx hl20 hF1 ?_
        simp
    | true =>
      have hop := op_word hw
      have h20 : decide (x.op = 20) = false := decide_eq_false hop.1
      obtain ⟨hvd, hva, hvb⟩ := insB_word hxB hw
      obtain ⟨ka, ha1, ha2⟩ := val_nat hva
      obtain ⟨kb, hb1, hb2⟩ := val_nat hvb
      obtain ⟨d, hd1, hd2⟩ := val_nat hvd
      obtain ⟨i1, c1⟩ := rd_bool hF1.k okk (show ka < n by omega)
      obtain ⟨i2, c2⟩ := rd_bool hF1.k okk (show kb < n by omega)
      cases hka : p.k.getD ka false with
      | false =>
        have hfx : foldX p x = x := by unfold foldX; rw [if_neg (fun h => by rw [ha1, Int.toNat_natCast, hka] at h; cases h.2.1)]
        have hl20 : learn p x = p := by unfold learn; rw [if_neg hop.1]
        rw [hka] at c1
        rw [ha1] at n1 hY1 hr2
        simp [f1, f2, f3, f4, f5, f6, f7, f8, f9, hlu, hj, r1, hr2, putAt_get5, hY1, rdC_ob n1, specWordOk, hw, h20, hup, i1, c1]
        refine hend _ _ x _ hfx hl20 hF1 ?_
        simp
      | true =>
        cases hkb : p.k.getD kb false with
        | false =>
          have hfx : foldX p x = x := by unfold foldX; rw [if_neg (fun h => by rw [hb1, Int.toNat_natCast, hkb] at h; cases h.2.2)]
          have hl20 : learn p x = p := by unfold learn; rw [if_neg hop.1]
          rw [hka] at c1
          rw [hkb] at c2
          rw [ha1, hb1] at n1 hY1 hr2
          simp [f1, f2, f3, f4, f5, f6, f7, f8, f9, hlu, hj, r1, hr2, putAt_get5, hY1, rdC_ob n1, specWordOk, hw, h20, hup, i1, c1, i2, c2]
          refine hend _ _ x _ hfx hl20 hF1 ?_
          simp
        | true =>
          obtain ⟨i3, c3⟩ := rd_int hF1.n okn (show ka < n by omega)
          obtain ⟨i4, c4⟩ := rd_int hF1.n okn (show kb < n by omega)
          obtain ⟨va, hva'⟩ : ∃ va, p.n.getD ka 0 = va := ⟨_, rfl⟩
          obtain ⟨vb, hvb'⟩ : ∃ vb, p.n.getD kb 0 = vb := ⟨_, rfl⟩
          rw [hva'] at c3
          rw [hvb'] at c4
          obtain ⟨N, hN⟩ : ∃ N, wordF x.op va vb = N := ⟨_, rfl⟩
          have hfx : foldX p x = ⟨20, d, 0, 0, N⟩ := by unfold foldX; rw [if_pos ⟨hw, by rw [ha1, Int.toNat_natCast]; exact hka, by rw [hb1, Int.toNat_natCast]; exact hkb⟩, ha1, hb1, hd1, Int.toNat_natCast, Int.toNat_natCast, hva', hvb', hN]
          have hl20 : learn p ⟨20, d, 0, 0, N⟩ = ⟨p.k.set d true, p.n.set d N⟩ := by unfold learn; rw [if_pos rfl]; simp
          have hlY := rdOb_lt hF.k
          have hlN := rdOb_lt hF.n
          have hYG : ¬ Gu Y.length := fun h => by have := hgb _ h; have := hF.len; omega
          obtain ⟨Y2, hY2⟩ : ∃ Y2, Y1.set Y.length ⟨[.i 20, .i d, .i 0, .i 0, .i N], 0, true, 5⟩ = Y2 := ⟨_, rfl⟩
          have hF2 : FoldH Gu kid nid u Y0 Y2 (ys ++ x :: xs.drop (j + 1)) p := by rw [← hY2]; exact hF1.other _ (hF.len) hYG (by omega) (by omega)
          have n2 : rdOb Y2 Y.length 0 = some ⟨[.i 20, .i d, .i 0, .i 0, .i N], 0, true, 5⟩ := by rw [← hY2, rdOb_set_self (by omega)]; simp
          obtain ⟨pid, pg, pcells, Z, p1, p2, p3, p4, hF3, p6⟩ := hF2.put hyl hgk hgn ⟨20, d, 0, 0, N⟩
          have ep : pid = rid ∧ pg = rg := by have e := p1.symm.trans r1; injection e with e; injection e with e1 e2; exact ⟨e1, e2⟩
          obtain ⟨rfl, rfl⟩ := ep
          have nZ : rdOb Z Y.length 0 = some ⟨[.i 20, .i d, .i 0, .i 0, .i N], 0, true, 5⟩ := p6.ob hYG n2
          obtain ⟨Z1, Z2, a1, a2, a3, a4, a5, a6, a7, a8, a9, a10⟩ := hF3.learn hgk hgn hkn (d := d) (c := N) (by omega) (by omega)
          have nZ1 : rdOb Z1 Y.length 0 = some ⟨[.i 20, .i d, .i 0, .i 0, .i N], 0, true, 5⟩ := a10.ob (by omega) nZ
          have i5 := (rd_bool hF3.k okk (show d < n by omega)).1
          have i6 := (rd_int hF3.n okn (show d < n by omega)).1
          have kk := hF3.k
          simp only [KOb] at kk
          rw [hka] at c1
          rw [hkb] at c2
          rw [ha1, hb1, hd1] at n1 hY1 hr2
          simp only at p4
          simp [f1, f2, f3, f4, f5, f6, f7, f8, f9, hlu, hj, r1, hr2, putAt_get5, p50, p51, p54, hY1, n1, rdC_ob n1, specWordOk, specWord, hw, hup, i1, c1, i2, c2, i3, c3, i4, c4, hN, hY2, rdN_ob n2, p1, p2, p3, p4, rdC_ob nZ, i5, kk, a1, a2, a3, rdC_ob nZ1, i6, a4, a5, a6, a7]
          refine hend _ _ _ _ hfx hl20 a8 ?_
          simp
  · rintro ⟨e0, Y⟩ hIs
    obtain ⟨hF, f1, f2, f3, f4, f5, f6, f7, f8, f9⟩ := (hI _ _).1 hIs
    simp only at hF f1 f2 f3 f4 f5 f6 f7 f8 f9 ⊢
    rw [List.take_length, List.drop_length, List.append_nil] at hF
    have hlu := hF.row.lenOf
    rw [show (List.foldl foldS ([], q) xs).1.length = xs.length from (foldL_ok (m := m) hqk hqn hsh).2] at hlu
    unfold vf51b0
    simp [f1, f2, f3, f4, f5, f6, f7, f8, f9, hlu]
    exact hQ Y _ hF (by simp) (by simp) (by simp) (by simp) (by simp) (by simp) (by simp)
end Go.Proofs.YtgdfgnppeekfjaaGreat.Vm
end
section
/- Programs folded, by both. No conditions. -/
namespace Go.Proofs.YtgdfgnppeekfjaaGreat.Vm
open Go.RowKit (wrap64)
set_option linter.unusedSimpArgs false
set_option linter.unusedVariables false

theorem Frm.monoL {G G' : Nat → Prop} {X Y : Hp} (h : Frm G X Y) (hG : ∀ i, i < X.length → G' i → G i) : Frm G' X Y := fun i hi k => h i hi (hG i hi k)
/-- The list of a block, and what becomes of the program when it changes. -/
theorem Tree.list {S : Nat → Prop} {X : Hp} {v : CV} {bs : List BlkR} {b : Nat} (h : Tree S X v bs) (hb : b < bs.length) :
    ∃ id g u, ∃ Gu : Nat → Prop, idxOf 6 v (b : Int) = some (.p id g (b * 6)) ∧ rdC X id g (b * 6 + 1) = some u ∧ FRow insF 5 X u bs[b].list Gu ∧ (∀ j, Gu j → S j ∧ j < X.length ∧ j ≠ id) ∧ S id ∧ bs[b].list.length ≤ BIG ∧
      ∀ Y ls, X.length ≤ Y.length → Frm (fun j => S j ∧ ¬ Gu j) X Y → FRow insF 5 Y u ls Gu → ls.length ≤ BIG → Tree S Y v (bs.set b ⟨bs[b].phis, ls, bs[b].term⟩) := by
  obtain ⟨id, g, cells, Fs, z, u, Gz, Gu, rfl, hc, h1, h2, h3, h4, h5, h6, h7⟩ := h.at_ hb
  clear h
  refine ⟨id, g, u, Gu, idx_sl hb, ?_, h3, fun j hj => ⟨(hc.sub b j hb (h5 j hj)).1, (hc.sub b j hb (h5 j hj)).2.2, (hc.sub b j hb (h5 j hj)).2.1⟩, hc.own, h7, fun Y ls hl hf hr hlb => ?_⟩
  · rw [hc.c (by omega), h1]; rfl
  · have := (hc.nest blkF_st hb (x' := ⟨bs[b].phis, ls, bs[b].term⟩) hl (hf.mono fun j hj => ⟨hj.1, fun h => hj.2 (h5 j h)⟩)
      ⟨z, u, Gz, Gu, h1, h2.fr phiF_st (hf.mono fun j hj => ⟨(hc.sub b j hb (h4 j hj).1).1, (h4 j hj).2⟩), hr, h4, h5, h6, hlb⟩).row
    simpa using this
/-- The phis of a block, and what becomes of the program when they change. -/
theorem Tree.phis {S : Nat → Prop} {X : Hp} {v : CV} {bs : List BlkR} {b : Nat} (h : Tree S X v bs) (hb : b < bs.length) :
    ∃ id g z, ∃ Gz : Nat → Prop, idxOf 6 v (b : Int) = some (.p id g (b * 6)) ∧ rdC X id g (b * 6) = some z ∧ FRow phiF 2 X z bs[b].phis Gz ∧ (∀ j, Gz j → S j ∧ j < X.length ∧ j ≠ id) ∧ S id ∧ bs[b].phis.length ≤ BIG ∧
      ∀ Y ps, X.length ≤ Y.length → Frm (fun j => S j ∧ ¬ Gz j) X Y → FRow phiF 2 Y z ps Gz → ps.length ≤ BIG → Tree S Y v (bs.set b ⟨ps, bs[b].list, bs[b].term⟩) := by
  obtain ⟨id, g, cells, Fs, z, u, Gz, Gu, rfl, hc, h1, h2, h3, h4, h5, h6, h7⟩ := h.at_ hb
  clear h
  refine ⟨id, g, z, Gz, idx_sl hb, ?_, h2, fun j hj => ⟨(hc.sub b j hb (h4 j hj).1).1, (hc.sub b j hb (h4 j hj).1).2.2, (hc.sub b j hb (h4 j hj).1).2.1⟩, hc.own, h6, fun Y ps hl hf hr hlb => ?_⟩
  · have := hc.c (k := b) (j := 0) (by omega)
    rw [Nat.add_zero] at this
    rw [this, h1]; rfl
  · have := (hc.nest blkF_st hb (x' := ⟨ps, bs[b].list, bs[b].term⟩) hl (hf.mono fun j hj => ⟨hj.1, fun h => hj.2 (h4 j h).1⟩)
      ⟨z, u, Gz, Gu, h1, hr, h3.fr insF_st (hf.mono fun j hj => ⟨(hc.sub b j hb (h5 j hj)).1, fun h => (h4 j h).2 hj⟩), h4, h5, hlb, h7⟩).row
    simpa using this
/-- A program for an answer, in memory of its own. -/
def FnRes (H : Hp) (g : FnR) (r : IV × Hp) : Prop := ∃ w L, r = (.agg [w, .i g.values], H ++ L) ∧ Tree (fun i => H.length ≤ i) (H ++ L) w g.blocks
theorem FnRes.mk {H X : Hp} {w : CV} {g : FnR} {S : Nat → Prop} (hp : Pre H X) (hT : Tree S X w g.blocks) (hS : ∀ j, S j → H.length ≤ j) : FnRes H g (gcRet H (.agg [w, .i g.values]) X) := by
  have hT := FRow.mono hT hS
  rcases FRow.form hT with rfl | ⟨i', g', n', rfl⟩
  · have hbs : g.blocks = [] := by
      rcases hT with ⟨_, h⟩ | ⟨_, _, _, _, h, _⟩
      · exact h
      · cases h
    rw [gcRet_flat hp (show flatV (.agg [.ns, .i g.values]) = true from rfl)]
    exact ⟨.ns, [], by simp, .inl ⟨rfl, hbs⟩⟩
  · rw [gc_agg (by simp [flatC])]
    obtain ⟨L, rfl⟩ := hp
    exact ⟨_, L, rfl, hT⟩
theorem zeros_flat (n : Nat) : (List.replicate n [CV.i 0]).flatten = (List.replicate n (0 : Int)).map .i := by
  induction n with
  | zero => rfl
  | succ n ih => simp [List.replicate_succ, ih]
/-- Between two blocks that are folded. -/
structure FoldB (S : Nat → Prop) (kid nid o3 : Nat) (w : CV) (m : Int) (X6 Y : Hp) (s : List BlkR × Kn) : Prop where
  tree : Tree S Y w s.1
  k : rdOb Y kid 0 = some (KOb s.2.k)
  n : rdOb Y nid 0 = some (NOb s.2.n)
  out : rdOb Y o3 0 = some ⟨[w, .i m], 0, true, 2⟩
  fr : Frm (fun j => j < X6.length ∧ ¬ S j ∧ j ≠ kid ∧ j ≠ nid) X6 Y
  len : X6.length ≤ Y.length
set_option maxRecDepth 100000 in
theorem implFold {H : Hp} {v : CV} {f : FnR} (hv : Blocks H v f.blocks) (hb : f.blocks.length ≤ BIG) : CM 52 [.agg [v, .i f.values]] H (FnRes H (fold0 f)) := by
  refine cw52 ?_
  unfold vf52c
  obtain ⟨X1, hX1⟩ : ∃ X1, H ++ [(⟨[v, .i f.values], 0, true, 2⟩ : Ob), ⟨[.ns, .i 0], 0, true, 2⟩] = X1 := ⟨_, rfl⟩
  have hp1 : Pre H X1 := ⟨_, hX1.symm⟩
  have l1 : X1.length = H.length + 2 := by rw [← hX1]; simp
  have hB1 : rdOb X1 H.length 0 = some ⟨[v, .i f.values], 0, true, 2⟩ := by rw [← hX1]; simp
  have hR1 : rdOb X1 (H.length + 1) 0 = some ⟨[.ns, .i 0], 0, true, 2⟩ := by rw [← hX1]; simp
  simp [hX1, rdN_ob hB1]
  refine (implClone (hv.pre hp1) hb).mono ?_
  rintro _ ⟨w, L1, rfl, hT⟩
  obtain ⟨X2, hX2⟩ : ∃ X2, X1 ++ L1 = X2 := ⟨_, rfl⟩
  rw [hX2] at hT ⊢
  have hp2 : Pre X1 X2 := ⟨_, hX2.symm⟩
  have l2 := hp2.le
  obtain ⟨X3, hX3⟩ : ∃ X3, X2 ++ [(⟨[w, .i f.values], 0, true, 2⟩ : Ob)] = X3 := ⟨_, rfl⟩
  have hp3 : Pre X2 X3 := ⟨_, hX3.symm⟩
  have l3 : X3.length = X2.length + 1 := by rw [← hX3]; simp
  have hO3 : rdOb X3 X2.length 0 = some ⟨[w, .i f.values], 0, true, 2⟩ := by rw [← hX3]; simp
  have hT3 : Tree (fun j => X1.length ≤ j ∧ j < X2.length) X3 w f.blocks := hT.bound.fr blkF_st (Frm.pre hp3)
  have hB3 := hp3.rdOb (hp2.rdOb hB1)
  have hR3 := hp3.rdOb (hp2.rdOb hR1)
  have hv3 := hv.pre (hp1.trans (hp2.trans hp3))
  by_cases hck : checkF f = 0
  · have hg : fold0 f = ⟨(foldTo f (ordF f.blocks)).1, f.values⟩ := by unfold fold0; rw [if_pos hck]
    have hW := well_iff.1 hck
    have hsh := hW.sh
    obtain ⟨s1, s2, s3, s4⟩ := shape_len hsh
    obtain ⟨n, hnt⟩ : ∃ n : Nat, f.values.toNat = n := ⟨_, rfl⟩
    obtain ⟨X4, hX4⟩ : ∃ X4, X3 ++ [KOb (List.replicate n false)] = X4 := ⟨_, rfl⟩
    have hp4 : Pre X3 X4 := ⟨_, hX4.symm⟩
    have l4 : X4.length = X3.length + 1 := by rw [← hX4]; simp
    have hK4 : rdOb X4 X3.length 0 = some (KOb (List.replicate n false)) := by rw [← hX4]; simp
    obtain ⟨X5, hX5⟩ : ∃ X5, X4 ++ [NOb (List.replicate n 0)] = X5 := ⟨_, rfl⟩
    have hp5 : Pre X4 X5 := ⟨_, hX5.symm⟩
    have l5 : X5.length = X4.length + 1 := by rw [← hX5]; simp
    have hN5 : rdOb X5 X4.length 0 = some (NOb (List.replicate n 0)) := by rw [← hX5]; simp
    have hp35 := hp4.trans hp5
    obtain ⟨w6, L6, hw6, hord⟩ := implOrder0 (hv3.pre hp35) hb
    obtain ⟨X6, hX6⟩ : ∃ X6, X5 ++ L6 = X6 := ⟨_, rfl⟩
    have hp6 : Pre X5 X6 := ⟨_, hX6.symm⟩
    have ho0 : order0 f = ordF f.blocks := by unfold order0; rw [if_pos hsh]
    rw [ho0] at hw6
    obtain ⟨hrange, _⟩ := walk0_seen (shape_pos hsh)
    obtain ⟨ord, hordd⟩ : ∃ ord, ordF f.blocks = ord := ⟨_, rfl⟩
    have hol : ord.length ≤ BIG := by have := ordF_le (shape_pos hsh); rw [hordd] at this; omega
    rw [hordd] at hw6 hrange hg
    have hI6 : IsI X6 w6 ord := by rw [← hX6]; exact hw6.isI
    have hlw := hI6.lenOf
    have hfl := falses_flat n
    have hzl := zeros_flat n
    have hlim : n ≤ LIM := by simp only [LIM]; omega
    have hp36 := hp35.trans hp6
    simp only [KOb] at hX4
    simp only [NOb] at hX5
    simp only [List.map_replicate] at hX4 hX5
    simp [putAt, hX3, rdN_ob hB3, implCheck hv3 hb, hck, rdC_ob hB3, rdC_ob (hp4.rdOb hB3), rdN_ob (hp35.rdOb hB3), hnt, s3, hfl, hzl, hlim, hX4, hX5, hord, hX6, hlw]
    have hT6 : Tree (fun j => X1.length ≤ j ∧ j < X2.length) X6 w f.blocks := hT3.fr blkF_st (Frm.pre hp36)
    have hk6 : rdOb X6 X3.length 0 = some (KOb (kn0 n).k) := hp6.rdOb (hp5.rdOb hK4)
    have hn6 : rdOb X6 X4.length 0 = some (NOb (kn0 n).n) := hp6.rdOb hN5
    have hO6 := hp36.rdOb hO3
    have hR6 := hp36.rdOb hR3
    have l6 := hp6.le
    obtain ⟨I, hI⟩ : ∃ I : Nat → St → Prop, ∀ i s, I i s ↔ (FoldB (fun j => X1.length ≤ j ∧ j < X2.length) X3.length X4.length X2.length w f.values X6 s.h (foldTo f (ord.take i)) ∧
        Env.get s.e 2 = .c (.p (H.length + 1) 0 0) ∧ Env.get s.e 3 = .c (.p X2.length 0 0) ∧ Env.get s.e 4 = .c (.sl X3.length 0 0 n) ∧ Env.get s.e 5 = .c (.sl X4.length 0 0 n) ∧ Env.get s.e 23 = .c w6 ∧ Env.get s.e 24 = .c (.i ord.length) ∧ Env.get s.e 25 = .c (.i i)) := ⟨_, fun _ _ => Iff.rfl⟩
    refine wp_for CM_mono ord.length I ((hI _ _).2 ⟨⟨by simpa [foldTo] using hT6, by simpa [foldTo, hnt] using hk6, by simpa [foldTo, hnt] using hn6, hO6, Frm.refl _ _, Nat.le_refl _⟩, by simp⟩) ?_ ?_
    · rintro i ⟨e, Y⟩ hi hIs
      obtain ⟨hF, e2, e3, e4, e5, e23, e24, e25⟩ := (hI _ _).1 hIs
      simp only at hF e2 e3 e4 e5 e23 e24 e25 ⊢
      obtain ⟨b, hb1, hb2⟩ := hrange ord[i] (List.getElem_mem hi)
      have hok := foldTo_ok hsh (ord.take i) (fun x hx => hrange x (List.mem_of_mem_take hx))
      have hsu := foldTo_succ f hi
      rw [hb1] at hsu
      obtain ⟨s, hs⟩ : ∃ s, foldTo f (ord.take i) = s := ⟨_, rfl⟩
      rw [hs] at hF hok hsu
      rw [hnt] at hok
      have hbl : b < s.1.length := by rw [hok.len]; exact hb2
      obtain ⟨id, g, u, Gu, q1, q2, q3, q4, q5, q6, q7⟩ := hF.tree.list hbl
      obtain ⟨bk, hbk⟩ : ∃ bk, s.1[b] = bk := ⟨_, rfl⟩
      have hbm : bk ∈ s.1 := hbk ▸ List.getElem_mem hbl
      rw [hbk] at q3 q6 q7
      have hlu := q3.lenOf
      have hIY : IsI Y w6 ord := by
        rcases hw6 with ⟨rfl, _, rfl⟩ | ⟨rfl, hL⟩
        · exact IsI.ns _
        · have h5 : rdOb X6 X5.length 0 = some ⟨ord.map .i, 0, true, 1⟩ := by rw [← hX6, hL]; simp
          exact IsI.mk (hF.fr.ob (by have := rdOb_lt h5; omega) h5) rfl (by simp) (by rw [List.drop_zero, List.take_of_length_le (by simp)])
      obtain ⟨oid, og, ooff, o1, o2⟩ := hIY.at_ hi
      rw [hb1] at o2
      have hkS : ¬ Gu X3.length := fun h => by have := (q4 _ h).1; omega
      have hnS : ¬ Gu X4.length := fun h => by have := (q4 _ h).1; omega
      have hoS : ¬ Gu X2.length := fun h => by have := (q4 _ h).1; omega
      unfold vf52b1
      simp [e2, e3, e4, e5, e23, e24, e25, hi, o1, o2, rdC_ob hF.out, q1, q2, hlu]
      refine foldIn (xs := bk.list) (q := s.2) (Gu := Gu) (kid := X3.length) (nid := X4.length) (m := f.values) (id := id) (g := g) (w := w) (x1 := Env.get e 1) (x2 := .c (.p (H.length + 1) 0 0)) (x23 := .c w6) (x24 := .c (.i ord.length)) (x25 := .c (.i i)) ⟨q3, hF.k, hF.n, Frm.refl _ _, Nat.le_refl _⟩ q6 hkS hnS (by omega) hoS (by omega) (by omega) (fun j hj => (q4 j hj).2.1) (fun h => (q4 _ h).2.2 rfl) (by omega) (by omega)
        hF.out q1 q2 hok.k hok.n hnt.symm (hok.ins _ hbm).2 (by simp) (by simp [e2]) (by simp [e3]) (by simp [e4]) (by simp [e5]) (by simp) (by simp [e23]) (by simp [e24]) (by simp [e25]) (by simp) (by simp) (by simp) ?_
      intro Z e' hZ f1 f2 f3 f4 f5 f23 f24 f25
      obtain ⟨gk, gl⟩ := foldL_ok (n := n) (m := f.values) hok.k hok.n (hok.ins _ hbm).2
      simp [f1, f2, f3, f4, f5, f23, f24, f25, up1 hi hol]
      refine (hI _ _).2 ⟨?_, by simp [f2, f3, f4, f5, f23, f24, f25]⟩
      rw [hsu]
      unfold foldK
      rw [Int.toNat_natCast, blk_at hbl, hbk]
      refine ⟨q7 Z _ hZ.len (hZ.fr.monoL fun j hj h => ⟨hj, h.2, by omega, by omega⟩) hZ.row (by rw [gl]; exact q6), hZ.k, hZ.n, hZ.fr.ob ⟨rdOb_lt hF.out, hoS, by omega, by omega⟩ hF.out, hF.fr.trans (hZ.fr.monoL fun j hj h => ⟨hj, fun hg => h.2.1 (q4 j hg).1, h.2.2⟩), Nat.le_trans hF.len hZ.len⟩
    · rintro ⟨e, Y⟩ hIs
      obtain ⟨hF, e2, e3, e4, e5, e23, e24, e25⟩ := (hI _ _).1 hIs
      simp only at hF e2 e3 e4 e5 e23 e24 e25 ⊢
      rw [List.take_length] at hF
      have hRY : rdOb Y (H.length + 1) 0 = some ⟨[.ns, .i 0], 0, true, 2⟩ := hF.fr.ob ⟨by omega, by omega, by omega, by omega⟩ hR6
      obtain ⟨Y2, hY2⟩ : ∃ Y2, Y.set (H.length + 1) ⟨[w, .i f.values], 0, true, 2⟩ = Y2 := ⟨_, rfl⟩
      have hR2 : rdOb Y2 (H.length + 1) 0 = some ⟨[w, .i f.values], 0, true, 2⟩ := by rw [← hY2, rdOb_set_self (rdOb_lt hRY)]; simp
      have hpY : Pre H Y := (hF.fr.mono fun j (hj : j < H.length) => ⟨by omega, by omega, by omega, by omega⟩).cut (hp1.trans (hp2.trans (hp3.trans hp36)))
      unfold vf52b1
      simp [e2, e3, e4, e5, e23, e24, e25, rdN_ob hF.out, hRY, putAt, hY2, rdN_ob hR2]
      rw [hg]
      refine FnRes.mk (g := ⟨(foldTo f ord).1, f.values⟩) (S := fun j => X1.length ≤ j ∧ j < X2.length) ?_ ?_ (fun j hj => by omega)
      · rw [← hY2]; exact hpY.set (by omega) _
      · rw [← hY2]; exact hF.tree.fr blkF_st (Frm.set _ _ (by omega))
  · have hg : fold0 f = f := by unfold fold0; rw [if_neg hck]
    obtain ⟨X4, hX4⟩ : ∃ X4, X3.set (H.length + 1) ⟨[w, .i f.values], 0, true, 2⟩ = X4 := ⟨_, rfl⟩
    have hR4 : rdOb X4 (H.length + 1) 0 = some ⟨[w, .i f.values], 0, true, 2⟩ := by rw [← hX4, rdOb_set_self (rdOb_lt hR3)]; simp
    simp [putAt, hX3, rdN_ob hB3, implCheck hv3 hb, hck, rdN_ob hO3, hR3, hX4, rdN_ob hR4, hg]
    refine FnRes.mk (S := fun j => X1.length ≤ j ∧ j < X2.length) ?_ ?_ (fun j hj => by omega)
    · rw [← hX4]; exact (hp1.trans (hp2.trans hp3)).set (by omega) _
    · rw [← hX4]; exact hT3.fr blkF_st (Frm.set _ _ (by omega))
end Go.Proofs.YtgdfgnppeekfjaaGreat.Vm
end
section
/- Programs folded, by the specification. No conditions. -/
namespace Go.Proofs.YtgdfgnppeekfjaaGreat.Vm
open Go.RowKit (wrap64)
set_option linter.unusedSimpArgs false
set_option linter.unusedVariables false

set_option maxRecDepth 100000 in
theorem specFold {H : Hp} {v : CV} {f : FnR} (hv : Blocks H v f.blocks) (hb : f.blocks.length ≤ BIG) : CM 51 [.agg [v, .i f.values]] H (FnRes H (fold0 f)) := by
  refine cw51 ?_
  unfold vf51c
  obtain ⟨X1, hX1⟩ : ∃ X1, H ++ [(⟨[v, .i f.values], 0, true, 2⟩ : Ob), ⟨[.ns, .i 0], 0, true, 2⟩] = X1 := ⟨_, rfl⟩
  have hp1 : Pre H X1 := ⟨_, hX1.symm⟩
  have l1 : X1.length = H.length + 2 := by rw [← hX1]; simp
  have hB1 : rdOb X1 H.length 0 = some ⟨[v, .i f.values], 0, true, 2⟩ := by rw [← hX1]; simp
  have hR1 : rdOb X1 (H.length + 1) 0 = some ⟨[.ns, .i 0], 0, true, 2⟩ := by rw [← hX1]; simp
  simp [hX1, rdN_ob hB1]
  refine (specCopy (hv.pre hp1) hb).mono ?_
  rintro _ ⟨w, L1, rfl, hT⟩
  obtain ⟨X2, hX2⟩ : ∃ X2, X1 ++ L1 = X2 := ⟨_, rfl⟩
  rw [hX2] at hT ⊢
  have hp2 : Pre X1 X2 := ⟨_, hX2.symm⟩
  have l2 := hp2.le
  obtain ⟨X3, hX3⟩ : ∃ X3, X2 ++ [(⟨[w, .i f.values], 0, true, 2⟩ : Ob)] = X3 := ⟨_, rfl⟩
  have hp3 : Pre X2 X3 := ⟨_, hX3.symm⟩
  have l3 : X3.length = X2.length + 1 := by rw [← hX3]; simp
  have hO3 : rdOb X3 X2.length 0 = some ⟨[w, .i f.values], 0, true, 2⟩ := by rw [← hX3]; simp
  have hT3 : Tree (fun j => X1.length ≤ j ∧ j < X2.length) X3 w f.blocks := hT.bound.fr blkF_st (Frm.pre hp3)
  have hB3 := hp3.rdOb (hp2.rdOb hB1)
  have hR3 := hp3.rdOb (hp2.rdOb hR1)
  have hv3 := hv.pre (hp1.trans (hp2.trans hp3))
  by_cases hck : checkF f = 0
  · have hg : fold0 f = ⟨(foldTo f (ordF f.blocks)).1, f.values⟩ := by unfold fold0; rw [if_pos hck]
    have hW := well_iff.1 hck
    have hsh := hW.sh
    obtain ⟨s1, s2, s3, s4⟩ := shape_len hsh
    obtain ⟨n, hnt⟩ : ∃ n : Nat, f.values.toNat = n := ⟨_, rfl⟩
    obtain ⟨X4, hX4⟩ : ∃ X4, X3 ++ [KOb (List.replicate n false)] = X4 := ⟨_, rfl⟩
    have hp4 : Pre X3 X4 := ⟨_, hX4.symm⟩
    have l4 : X4.length = X3.length + 1 := by rw [← hX4]; simp
    have hK4 : rdOb X4 X3.length 0 = some (KOb (List.replicate n false)) := by rw [← hX4]; simp
    obtain ⟨X5, hX5⟩ : ∃ X5, X4 ++ [NOb (List.replicate n 0)] = X5 := ⟨_, rfl⟩
    have hp5 : Pre X4 X5 := ⟨_, hX5.symm⟩
    have l5 : X5.length = X4.length + 1 := by rw [← hX5]; simp
    have hN5 : rdOb X5 X4.length 0 = some (NOb (List.replicate n 0)) := by rw [← hX5]; simp
    have hp35 := hp4.trans hp5
    have hord := specOrderL (m := f.values) (hv3.pre hp35) (shape_range hsh) hb (shape_pos hsh)
    obtain ⟨X6, hX6⟩ : ∃ X6, X5 ++ [(⟨(ordF f.blocks).map .i, 0, true, 1⟩ : Ob)] = X6 := ⟨_, rfl⟩
    have hp6 : Pre X5 X6 := ⟨_, hX6.symm⟩
    obtain ⟨hrange, _⟩ := walk0_seen (shape_pos hsh)
    obtain ⟨ord, hordd⟩ : ∃ ord, ordF f.blocks = ord := ⟨_, rfl⟩
    have hol : ord.length ≤ BIG := by have := ordF_le (shape_pos hsh); rw [hordd] at this; omega
    rw [hordd] at hrange hg hX6 hord
    have h56 : rdOb X6 X5.length 0 = some ⟨ord.map .i, 0, true, 1⟩ := by rw [← hX6]; simp
    have hfl := falses_flat n
    have hzl := zeros_flat n
    have hlim : n ≤ LIM := by simp only [LIM]; omega
    have hp36 := hp35.trans hp6
    simp only [KOb] at hX4
    simp only [NOb] at hX5
    simp only [List.map_replicate] at hX4 hX5
    simp [putAt, hX3, rdN_ob hB3, specCheck hv3 hb, hck, rdC_ob hB3, rdC_ob (hp4.rdOb hB3), rdN_ob (hp35.rdOb hB3), hnt, s3, hfl, hzl, hlim, hX4, hX5, hord, hX6]
    have hT6 : Tree (fun j => X1.length ≤ j ∧ j < X2.length) X6 w f.blocks := hT3.fr blkF_st (Frm.pre hp36)
    have hk6 : rdOb X6 X3.length 0 = some (KOb (kn0 n).k) := hp6.rdOb (hp5.rdOb hK4)
    have hn6 : rdOb X6 X4.length 0 = some (NOb (kn0 n).n) := hp6.rdOb hN5
    have hO6 := hp36.rdOb hO3
    have hR6 := hp36.rdOb hR3
    have l6 := hp6.le
    obtain ⟨I, hI⟩ : ∃ I : Nat → St → Prop, ∀ i s, I i s ↔ (FoldB (fun j => X1.length ≤ j ∧ j < X2.length) X3.length X4.length X2.length w f.values X6 s.h (foldTo f (ord.take i)) ∧
        Env.get s.e 2 = .c (.p (H.length + 1) 0 0) ∧ Env.get s.e 3 = .c (.p X2.length 0 0) ∧ Env.get s.e 4 = .c (.sl X3.length 0 0 n) ∧ Env.get s.e 5 = .c (.sl X4.length 0 0 n) ∧ Env.get s.e 6 = .c (.sl X5.length 0 0 ord.length) ∧ Env.get s.e 7 = .c (.i i)) := ⟨_, fun _ _ => Iff.rfl⟩
    refine wp_for CM_mono ord.length I ((hI _ _).2 ⟨⟨by simpa [foldTo] using hT6, by simpa [foldTo, hnt] using hk6, by simpa [foldTo, hnt] using hn6, hO6, Frm.refl _ _, Nat.le_refl _⟩, by simp⟩) ?_ ?_
    · rintro i ⟨e, Y⟩ hi hIs
      obtain ⟨hF, e2, e3, e4, e5, e6, e7⟩ := (hI _ _).1 hIs
      simp only at hF e2 e3 e4 e5 e6 e7 ⊢
      obtain ⟨b, hb1, hb2⟩ := hrange ord[i] (List.getElem_mem hi)
      have hok := foldTo_ok hsh (ord.take i) (fun x hx => hrange x (List.mem_of_mem_take hx))
      have hsu := foldTo_succ f hi
      rw [hb1] at hsu
      obtain ⟨s, hs⟩ : ∃ s, foldTo f (ord.take i) = s := ⟨_, rfl⟩
      rw [hs] at hF hok hsu
      rw [hnt] at hok
      have hbl : b < s.1.length := by rw [hok.len]; exact hb2
      obtain ⟨id, g, u, Gu, q1, q2, q3, q4, q5, q6, q7⟩ := hF.tree.list hbl
      obtain ⟨bk, hbk⟩ : ∃ bk, s.1[b] = bk := ⟨_, rfl⟩
      have hbm : bk ∈ s.1 := hbk ▸ List.getElem_mem hbl
      rw [hbk] at q3 q6 q7
      have hlu := q3.lenOf
      have hIY : IsI Y (.sl X5.length 0 0 ord.length) ord := IsI.mk (hF.fr.ob (by have := rdOb_lt h56; omega) h56) rfl (by simp) (by rw [List.drop_zero, List.take_of_length_le (by simp)])
      obtain ⟨oid, og, ooff, o1, o2⟩ := hIY.at_ hi
      rw [hb1] at o2
      have hkS : ¬ Gu X3.length := fun h => by have := (q4 _ h).1; omega
      have hnS : ¬ Gu X4.length := fun h => by have := (q4 _ h).1; omega
      have hoS : ¬ Gu X2.length := fun h => by have := (q4 _ h).1; omega
      unfold vf51b1
      simp [e2, e3, e4, e5, e6, e7, hi, o1, o2, rdC_ob hF.out, q1, q2, hlu]
      refine foldInS (xs := bk.list) (q := s.2) (Gu := Gu) (kid := X3.length) (nid := X4.length) (m := f.values) (x1 := Env.get e 1) (x2 := .c (.p (H.length + 1) 0 0)) (x3 := .c (.p X2.length 0 0)) (x6 := .c (.sl X5.length 0 0 ord.length)) (x7 := .c (.i i)) ⟨q3, hF.k, hF.n, Frm.refl _ _, Nat.le_refl _⟩ q6 hkS hnS (by omega) (fun j hj => (q4 j hj).2.1) hok.k hok.n hnt.symm (hok.ins _ hbm).2 (by simp) (by simp [e2]) (by simp [e3]) (by simp [e4]) (by simp [e5]) (by simp [e6]) (by simp [e7]) (by simp) (by simp) ?_
      intro Z e' hZ f1 f2 f3 f4 f5 f6 f7
      obtain ⟨gk, gl⟩ := foldL_ok (n := n) (m := f.values) hok.k hok.n (hok.ins _ hbm).2
      simp [f1, f2, f3, f4, f5, f6, f7, up1 hi hol]
      refine (hI _ _).2 ⟨?_, by simp [f2, f3, f4, f5, f6, f7]⟩
      rw [hsu]
      unfold foldK
      rw [Int.toNat_natCast, blk_at hbl, hbk]
      refine ⟨q7 Z _ hZ.len (hZ.fr.monoL fun j hj h => ⟨hj, h.2, by omega, by omega⟩) hZ.row (by rw [gl]; exact q6), hZ.k, hZ.n, hZ.fr.ob ⟨rdOb_lt hF.out, hoS, by omega, by omega⟩ hF.out, hF.fr.trans (hZ.fr.monoL fun j hj h => ⟨hj, fun hg => h.2.1 (q4 j hg).1, h.2.2⟩), Nat.le_trans hF.len hZ.len⟩
    · rintro ⟨e, Y⟩ hIs
      obtain ⟨hF, e2, e3, e4, e5, e6, e7⟩ := (hI _ _).1 hIs
      simp only at hF e2 e3 e4 e5 e6 e7 ⊢
      rw [List.take_length] at hF
      have hRY : rdOb Y (H.length + 1) 0 = some ⟨[.ns, .i 0], 0, true, 2⟩ := hF.fr.ob ⟨by omega, by omega, by omega, by omega⟩ hR6
      obtain ⟨Y2, hY2⟩ : ∃ Y2, Y.set (H.length + 1) ⟨[w, .i f.values], 0, true, 2⟩ = Y2 := ⟨_, rfl⟩
      have hR2 : rdOb Y2 (H.length + 1) 0 = some ⟨[w, .i f.values], 0, true, 2⟩ := by rw [← hY2, rdOb_set_self (rdOb_lt hRY)]; simp
      have hpY : Pre H Y := (hF.fr.mono fun j (hj : j < H.length) => ⟨by omega, by omega, by omega, by omega⟩).cut (hp1.trans (hp2.trans (hp3.trans hp36)))
      unfold vf51b1
      simp [e2, e3, e4, e5, e6, e7, rdN_ob hF.out, hRY, putAt, hY2, rdN_ob hR2]
      rw [hg]
      refine FnRes.mk (g := ⟨(foldTo f ord).1, f.values⟩) (S := fun j => X1.length ≤ j ∧ j < X2.length) ?_ ?_ (fun j hj => by omega)
      · rw [← hY2]; exact hpY.set (by omega) _
      · rw [← hY2]; exact hF.tree.fr blkF_st (Frm.set _ _ (by omega))
  · have hg : fold0 f = f := by unfold fold0; rw [if_neg hck]
    obtain ⟨X4, hX4⟩ : ∃ X4, X3.set (H.length + 1) ⟨[w, .i f.values], 0, true, 2⟩ = X4 := ⟨_, rfl⟩
    have hR4 : rdOb X4 (H.length + 1) 0 = some ⟨[w, .i f.values], 0, true, 2⟩ := by rw [← hX4, rdOb_set_self (rdOb_lt hR3)]; simp
    simp [putAt, hX3, rdN_ob hB3, specCheck hv3 hb, hck, rdN_ob hO3, hR3, hX4, rdN_ob hR4, hg]
    refine FnRes.mk (S := fun j => X1.length ≤ j ∧ j < X2.length) ?_ ?_ (fun j hj => by omega)
    · rw [← hX4]; exact (hp1.trans (hp2.trans hp3)).set (by omega) _
    · rw [← hX4]; exact hT3.fr blkF_st (Frm.set _ _ (by omega))
end Go.Proofs.YtgdfgnppeekfjaaGreat.Vm
end
