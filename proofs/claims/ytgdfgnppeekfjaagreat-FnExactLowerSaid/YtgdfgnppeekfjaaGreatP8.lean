import Derived.Test.YtgdfgnppeekfjaaGreatP7
import Derived.Test.YtgdfgnppeekfjaaGreatP4
import Derived.Test.YtgdfgnppeekfjaaGreatP6
import Derived.Test.YtgdfgnppeekfjaaGreatP2
import Derived.Test.YtgdfgnppeekfjaaGreatP5
section
/- What is well, said without places; programs that go the same ways. Plain. No conditions. -/
namespace Go.Proofs.YtgdfgnppeekfjaaGreat.Vm
set_option linter.unusedSimpArgs false
set_option linter.unusedVariables false
/-! ### The same ways -/
structure SameT (bs bs' : List BlkR) : Prop where
  len : bs'.length = bs.length
  term : ∀ b (h : b < bs.length) (h' : b < bs'.length), bs'[b].term = bs[b].term
theorem SameT.symm {bs bs' : List BlkR} (h : SameT bs bs') : SameT bs' bs := ⟨h.len.symm, fun b h1 h2 => (h.term b h2 h1).symm⟩
theorem SameT.succs {bs bs' : List BlkR} (h : SameT bs bs') : succsAt bs' = succsAt bs := by
  funext j
  by_cases hj : j < bs.length
  · rw [succsAt_eq hj, succsAt_eq (by rw [h.len]; exact hj), h.term j hj]
  · unfold succsAt
    rw [List.getElem?_eq_none (by have := h.len; omega), List.getElem?_eq_none (by omega)]
theorem SameT.walk {bs bs' : List BlkR} (h : SameT bs bs') : walkF bs' = walkF bs := by
  funext n
  induction n with
  | zero => rfl
  | succ n ih => funext b p; simp only [walkF, h.succs, ih]
theorem SameT.walk0 {bs bs' : List BlkR} (h : SameT bs bs') : walk0 bs' = walk0 bs := by unfold Vm.walk0; rw [h.walk, h.len]
theorem SameT.seen {bs bs' : List BlkR} (h : SameT bs bs') : seenF bs' = seenF bs := by unfold seenF; rw [h.walk0]
/-! ### What is made -/
def Once (bs : List BlkR) : Prop := ∀ d : Int, (bs.flatMap defsB).count d ≤ 1
theorem mem_defI {x : InsR} {v : Int} : v ∈ defI x ↔ 0 ≤ insDefF x ∧ v = insDefF x := by
  unfold defI
  split
  · rename_i h; simp [h]
  · rename_i h; simp [h]
theorem makes_val {x : InsR} {m : Int} (h : insB x m = true) (hm : makesF x.op = true) : valB x.d m = true := by
  have hk := ins_kinds h
  unfold insB at h
  rcases hk with hw | ⟨hw, e | e | e | e | e | e⟩
  · rw [if_pos hw] at h; simp only [Bool.and_eq_true] at h; exact h.1.1.1
  · simp [hw, e] at h; exact h.1.1
  · simp [hw, e] at h; exact h.1.1.1
  · rw [e] at hm; exact absurd hm (by decide)
  · rw [e] at hm; exact absurd hm (by decide)
  · simp [hw, e] at h; exact h.1.1.1
  · simp [hw, e] at h; exact h.1.1.1
theorem made_iff {x : InsR} {m v : Int} (h : insB x m = true) : madeAt v x = true ↔ v ∈ defI x := by
  rw [mem_defI]
  unfold madeAt insDefF
  rw [Bool.and_eq_true]
  constructor
  · rintro ⟨h1, h2⟩
    have h2 := of_decide_eq_true h2
    rw [if_pos h1]
    obtain ⟨k, hk, _⟩ := val_nat (makes_val h h1)
    omega
  · rintro ⟨h1, h2⟩
    by_cases hm : makesF x.op = true
    · rw [if_pos hm] at h2; exact ⟨hm, decide_eq_true h2.symm⟩
    · rw [if_neg hm] at h1; omega
theorem mem_defsB {b : BlkR} {v : Int} : v ∈ defsB b ↔ v ∈ b.phis.map (·.d) ∨ v ∈ b.list.flatMap defI := by
  unfold defsB; rw [List.mem_append]
theorem once_blk {bs : List BlkR} (ho : Once bs) {v : Int} {i j : Nat} (hi : i < bs.length) (hj : j < bs.length) (h1 : v ∈ defsB bs[i]) (h2 : v ∈ defsB bs[j]) : i = j := by
  apply Classical.byContradiction
  intro hne
  have := ho v
  rcases Nat.lt_or_gt_of_ne hne with h | h
  · have := flat2 (f := defsB) bs i j hj h h1 h2; omega
  · have := flat2 (f := defsB) bs j i hi h h2 h1; omega
theorem once_in {bs : List BlkR} (ho : Once bs) {b : BlkR} (hb : b ∈ bs) (v : Int) : (b.phis.map (·.d)).count v + (b.list.flatMap defI).count v ≤ 1 := by
  have h1 := count_part (f := defsB) (d := v) hb
  have h2 := ho v
  unfold defsB at h1
  rw [List.count_append] at h1
  have h3 : List.count v (List.flatMap defsB bs) = List.count v (List.flatMap (fun b => List.map (fun x => x.d) b.phis ++ List.flatMap defI b.list) bs) := rfl
  omega
theorem once_list {bs : List BlkR} (ho : Once bs) {b : BlkR} (hb : b ∈ bs) {v : Int} {i j : Nat} (hi : i < b.list.length) (hj : j < b.list.length) (h1 : v ∈ defI b.list[i]) (h2 : v ∈ defI b.list[j]) : i = j := by
  apply Classical.byContradiction
  intro hne
  have := once_in ho hb v
  rcases Nat.lt_or_gt_of_ne hne with h | h
  · have := flat2 (f := defI) b.list i j hj h h1 h2; omega
  · have := flat2 (f := defI) b.list j i hi h h2 h1; omega
theorem once_phi {bs : List BlkR} (ho : Once bs) {b : BlkR} (hb : b ∈ bs) {v : Int} (h1 : v ∈ b.phis.map (·.d)) (h2 : v ∈ b.list.flatMap defI) : False := by
  have := once_in ho hb v
  have a := List.count_pos_iff.2 h1
  have c := List.count_pos_iff.2 h2
  omega
theorem home_spec {f : FnR} (hsh : shapeB f = true) (v : Int) : ((homeF f.blocks v).1 = -1 ∧ ∀ b ∈ f.blocks, v ∉ defsB b) ∨
    ∃ i, ∃ hi : i < f.blocks.length, (homeF f.blocks v).1 = (i : Int) ∧ (((homeF f.blocks v).2 = -1 ∧ v ∈ f.blocks[i].phis.map (·.d)) ∨ ∃ n, ∃ hn : n < f.blocks[i].list.length, (homeF f.blocks v).2 = (n : Int) ∧ v ∈ defI f.blocks[i].list[n]) := by
  have hno : ∀ (bs : List BlkR), (∀ b ∈ bs, b ∈ f.blocks) → ∀ (j : Nat), (defGo v bs j).2 = -2 → ∀ c ∈ bs, v ∉ defsB c := by
    intro bs
    induction bs with
    | nil => intro _ j _ c hc; simp at hc
    | cons a r ih =>
      intro hsub j h c hc
      cases ha : defBlk a v with
      | none =>
        have e : defGo v (a :: r) j = defGo v r (j + 1) := by simp [defGo, ha]
        rw [e] at h
        rcases List.mem_cons.1 hc with rfl | hc
        · unfold defBlk at ha
          split at ha
          · cases ha
          · rename_i hp
            split at ha
            · cases ha
            · rename_i hl
              rw [mem_defsB]
              rintro (h1 | h1)
              · obtain ⟨p, hp1, hp2⟩ := List.mem_map.1 h1
                exact hp (List.any_eq_true.2 ⟨p, hp1, decide_eq_true hp2⟩)
              · obtain ⟨x, hx, hv⟩ := List.mem_flatMap.1 h1
                exact hl (findI_nonneg.2 (List.any_eq_true.2 ⟨x, hx, (made_iff (shape_ins hsh (hsub _ (by simp)) hx)).2 hv⟩))
        · exact ih (fun b hb => hsub b (by simp [hb])) (j + 1) h c hc
      | some p =>
        have e : defGo v (a :: r) j = ((j : Int), p) := by simp [defGo, ha]
        rw [e] at h
        simp only at h
        unfold defBlk at ha
        split at ha
        · injection ha with ha; omega
        · split at ha
          · injection ha with ha; omega
          · cases ha
  rcases defGo_spec v f.blocks 0 with ⟨h1, h2⟩ | ⟨i, hi, h1, h2⟩
  · exact .inl ⟨h2, hno f.blocks (fun _ h => h) 0 h1⟩
  · refine .inr ⟨i, hi, by unfold homeF; rw [h1]; simp, ?_⟩
    rcases h2 with ⟨h3, h4⟩ | ⟨n, hn, h3, h4⟩
    · obtain ⟨p, hp1, hp2⟩ := List.any_eq_true.1 h4
      exact .inl ⟨h3, List.mem_map.2 ⟨p, hp1, of_decide_eq_true hp2⟩⟩
    · exact .inr ⟨n, hn, h3, (made_iff (shape_ins hsh (List.getElem_mem hi) (List.getElem_mem hn))).1 h4⟩
theorem hasI_domF {bs : List BlkR} (hin : InRange bs) {b : Nat} (hb : b < bs.length) (c : Int) : hasI (domF bs b) c = true ↔ ∃ k : Nat, c = k ∧ k < bs.length ∧ Dom bs k b := by
  rw [hasI_iff]
  unfold domF domTo
  rw [List.mem_map]
  constructor
  · rintro ⟨k, hk, rfl⟩
    rw [List.mem_filter, List.mem_range] at hk
    exact ⟨k, rfl, hk.1, (domB_iff hin hk.1 hb).1 hk.2⟩
  · rintro ⟨k, rfl, hk, hd⟩
    exact ⟨k, by rw [List.mem_filter, List.mem_range]; exact ⟨hk, (domB_iff hin hk hb).2 hd⟩, rfl⟩
def OutDef (bs : List BlkR) (b : Nat) (v : Int) : Prop := ∃ c, ∃ hc : c < bs.length, c ≠ b ∧ Dom bs c b ∧ v ∈ defsB bs[c]
structure WellP (bs : List BlkR) : Prop where
  phi : ∀ b (hb : b < bs.length), ∀ p ∈ bs[b].phis, ∀ a ∈ p.arms, ∃ c, ∃ hc : c < bs.length, Dom bs c a.fr.toNat ∧ a.v ∈ defsB bs[c]
  ins : ∀ b (hb : b < bs.length) l1 x l2, bs[b].list = l1 ++ x :: l2 → ∀ v ∈ usesF x, v ∈ bs[b].phis.map (·.d) ∨ v ∈ l1.flatMap defI ∨ OutDef bs b v
  term : ∀ b (hb : b < bs.length), ∀ v ∈ tusesF bs[b].term, v ∈ defsB bs[b] ∨ OutDef bs b v
theorem at_iff {f : FnR} (hsh : shapeB f = true) (ho : Once f.blocks) {b : Nat} (hb : b < f.blocks.length) (v : Int) (i : Nat) :
    atB f.blocks v b i = true ↔ v ∈ f.blocks[b].phis.map (·.d) ∨ v ∈ (f.blocks[b].list.take i).flatMap defI ∨ OutDef f.blocks b v := by
  have hin := shape_range hsh
  have hmem : f.blocks[b] ∈ f.blocks := List.getElem_mem hb
  have htk : ∀ {w : Int} {k : Nat}, w ∈ (f.blocks[b].list.take k).flatMap defI ↔ ∃ n, ∃ hn : n < f.blocks[b].list.length, n < k ∧ w ∈ defI f.blocks[b].list[n] := by
    intro w k
    rw [List.mem_flatMap]
    constructor
    · rintro ⟨x, hx, hw⟩
      obtain ⟨l, hl, rfl⟩ := List.mem_take_iff_getElem.1 hx
      exact ⟨l, by omega, by omega, hw⟩
    · rintro ⟨n, hn, hk, hw⟩
      exact ⟨_, List.mem_take_iff_getElem.2 ⟨n, by omega, rfl⟩, hw⟩
  unfold atB
  rcases home_spec hsh v with ⟨h1, h2⟩ | ⟨c, hc, h1, h2⟩
  · rw [if_neg (by omega), hasI_domF hin hb]
    constructor
    · rintro ⟨k, hk, _⟩; omega
    · rintro (h | h | ⟨c, hc, _, _, h⟩)
      · exact absurd (mem_defsB.2 (.inl h)) (h2 _ hmem)
      · obtain ⟨n, hn, _, hw⟩ := htk.1 h
        exact absurd (mem_defsB.2 (.inr (List.mem_flatMap.2 ⟨_, List.getElem_mem hn, hw⟩))) (h2 _ hmem)
      · exact absurd h (h2 _ (List.getElem_mem hc))
  · have hdc : v ∈ defsB f.blocks[c] := by
      rw [mem_defsB]
      rcases h2 with ⟨_, h2⟩ | ⟨n, hn, _, h2⟩
      · exact .inl h2
      · exact .inr (List.mem_flatMap.2 ⟨_, List.getElem_mem hn, h2⟩)
    by_cases hcb : c = b
    · subst hcb
      rw [if_pos h1, decide_eq_true_eq]
      rcases h2 with ⟨h3, h4⟩ | ⟨n, hn, h3, h4⟩
      · rw [h3]
        exact ⟨fun _ => .inl h4, fun _ => by omega⟩
      · rw [h3]
        constructor
        · intro h; exact .inr (.inl (htk.2 ⟨n, hn, by omega, h4⟩))
        · rintro (h | h | ⟨d, hd, hne, _, h⟩)
          · exact (once_phi ho hmem h (List.mem_flatMap.2 ⟨_, List.getElem_mem hn, h4⟩)).elim
          · obtain ⟨n', hn', hk, hw⟩ := htk.1 h
            have := once_list ho hmem hn hn' h4 hw
            omega
          · exact absurd (once_blk ho hd hc h hdc) hne
    · rw [if_neg (by omega), hasI_domF hin hb]
      constructor
      · rintro ⟨k, hk, hk2, hd⟩
        have e : k = c := by omega
        subst e
        exact .inr (.inr ⟨k, hc, hcb, hd, hdc⟩)
      · rintro (h | h | ⟨d, hd, hne, hdm, h⟩)
        · exact absurd (once_blk ho hc hb hdc (mem_defsB.2 (.inl h))) hcb
        · obtain ⟨n', hn', hk, hw⟩ := htk.1 h
          exact absurd (once_blk ho hc hb hdc (mem_defsB.2 (.inr (List.mem_flatMap.2 ⟨_, List.getElem_mem hn', hw⟩)))) hcb
        · have e := once_blk ho hd hc h hdc
          subst e
          exact ⟨d, h1, hd, hdm⟩
theorem home_dom {f : FnR} (hsh : shapeB f = true) (ho : Once f.blocks) {b : Nat} (hb : b < f.blocks.length) (v : Int) :
    hasI (domF f.blocks b) (homeF f.blocks v).1 = true ↔ ∃ c, ∃ hc : c < f.blocks.length, Dom f.blocks c b ∧ v ∈ defsB f.blocks[c] := by
  rw [hasI_domF (shape_range hsh) hb]
  rcases home_spec hsh v with ⟨h1, h2⟩ | ⟨c, hc, h1, h2⟩
  · rw [h1]
    constructor
    · rintro ⟨k, hk, _⟩; omega
    · rintro ⟨c, hc, _, h⟩; exact absurd h (h2 _ (List.getElem_mem hc))
  · have hdc : v ∈ defsB f.blocks[c] := by
      rw [mem_defsB]
      rcases h2 with ⟨_, h2⟩ | ⟨n, hn, _, h2⟩
      · exact .inl h2
      · exact .inr (List.mem_flatMap.2 ⟨_, List.getElem_mem hn, h2⟩)
    rw [h1]
    constructor
    · rintro ⟨k, hk, hk2, hd⟩
      have e : k = c := by omega
      subst e
      exact ⟨k, hc, hd, hdc⟩
    · rintro ⟨d, hd, hdm, h⟩
      have e := once_blk ho hd hc h hdc
      subst e
      exact ⟨d, rfl, hd, hdm⟩
theorem fr_lt {f : FnR} (hsh : shapeB f = true) {b : BlkR} (hb : b ∈ f.blocks) {p : PhiR} (hp : p ∈ b.phis) {a : ArmR} (ha : a ∈ p.arms) : ∃ k : Nat, a.fr = k ∧ k < f.blocks.length := by
  obtain ⟨i, hi, rfl⟩ := List.getElem_of_mem ha
  have := ((phi_vals (shape_phi hsh hb hp)).2.2 i hi).1
  have := of_decide_eq_true (show decide (0 ≤ p.arms[i].fr ∧ p.arms[i].fr ≤ (f.blocks.length : Int) - 1) = true from this)
  exact ⟨p.arms[i].fr.toNat, by omega, by omega⟩
theorem taken_iff {f : FnR} (hsh : shapeB f = true) (ho : Once f.blocks) : TakenOk f.blocks ↔ WellP f.blocks := by
  constructor
  · intro h
    refine ⟨fun b hb p hp a ha => ?_, fun b hb l1 x l2 he v hv => ?_, fun b hb v hv => ?_⟩
    · obtain ⟨k, hk1, hk2⟩ := fr_lt hsh (List.getElem_mem hb) hp ha
      have := (h b hb).1 p hp a ha
      rw [hk1] at this ⊢
      exact (home_dom hsh ho hk2 a.v).1 this
    · have hi : l1.length < f.blocks[b].list.length := by rw [he]; simp
      have hx : f.blocks[b].list[l1.length] = x := by
        have : f.blocks[b].list[l1.length]? = some x := by rw [he, List.getElem?_append_right (Nat.le_refl _), Nat.sub_self]; rfl
        rw [List.getElem?_eq_getElem hi] at this; injection this
      have h1 := (h b hb).2.1 l1.length hi
      rw [hx, List.any_eq_false] at h1
      have h2 := h1 v hv
      have h3 : atB f.blocks v b l1.length = true := by simpa using h2
      rw [at_iff hsh ho hb] at h3
      rw [he, List.take_left] at h3
      exact h3
    · have h1 := (h b hb).2.2
      rw [List.any_eq_false] at h1
      have h3 : atB f.blocks v b f.blocks[b].list.length = true := by simpa using h1 v hv
      rw [at_iff hsh ho hb, List.take_length] at h3
      rw [mem_defsB, or_assoc]
      exact h3
  · intro h j hj
    refine ⟨fun p hp a ha => ?_, fun i hi => ?_, ?_⟩
    · obtain ⟨k, hk1, hk2⟩ := fr_lt hsh (List.getElem_mem hj) hp ha
      have := h.phi j hj p hp a ha
      rw [hk1] at this ⊢
      exact (home_dom hsh ho hk2 a.v).2 this
    · rw [List.any_eq_false]
      intro v hv
      have := h.ins j hj (f.blocks[j].list.take i) f.blocks[j].list[i] (f.blocks[j].list.drop (i + 1)) (by rw [← List.drop_eq_getElem_cons hi, List.take_append_drop]) v hv
      rw [(at_iff hsh ho hj v i).2 this]; simp
    · rw [List.any_eq_false]
      intro v hv
      have := h.term j hj v hv
      rw [mem_defsB, or_assoc] at this
      rw [(at_iff hsh ho hj v f.blocks[j].list.length).2 (by rw [List.take_length]; exact this)]; simp
/-- What is well, all told. -/
structure Well (f : FnR) : Prop where
  sh : shapeB f = true
  nc : copiesB f.blocks = false
  seen : cf (seenF f.blocks) = 0
  entry : phis0 f.blocks = 0 ∧ (predsF f.blocks 0).length = 0
  arms : ArmsRight f.blocks
  once : Once f.blocks
  wp : WellP f.blocks
theorem once_iff {f : FnR} (hsh : shapeB f = true) : ((madeF f).any fun n => decide (1 < n)) = false ↔ Once f.blocks := by
  constructor
  · exact fun h => once hsh h
  · intro h
    rw [List.any_eq_false]
    intro n hn
    obtain ⟨k, hk, rfl⟩ := List.getElem_of_mem hn
    have hl : (madeF f).length = f.values.toNat := by unfold madeF; rw [ticksB_len]; simp
    have h1 := tick_count (d := k) (show k < f.values.toNat by omega) (f.blocks.flatMap defsB) (List.replicate f.values.toNat 0) (by simp) (made_defs hsh)
    rw [← madeF_defs] at h1
    have h2 : (madeF f).getD k 0 = (madeF f)[k] := by rw [List.getD_eq_getElem?_getD, List.getElem?_eq_getElem hk]; rfl
    have h3 : (List.replicate f.values.toNat (0 : Int)).getD k 0 = 0 := by rw [List.getD_eq_getElem?_getD, List.getElem?_replicate]; split <;> rfl
    rw [h2, h3] at h1
    have := h (k : Int)
    simp
    omega
theorem well_iff {f : FnR} : checkF f = 0 ↔ Well f := by
  unfold checkF checkW
  constructor
  · intro h
    by_cases h1 : shapeB f = true ∧ copiesB f.blocks = false
    · rw [if_pos h1] at h
      by_cases h2 : 0 < cf (seenF f.blocks)
      · simp [h2] at h
      · by_cases h3 : 0 < phis0 f.blocks ∨ 0 < (predsF f.blocks 0).length
        · simp [h2, h3] at h
        · by_cases h4 : ArmsRight f.blocks
          · cases h5 : (madeF f).any fun n => decide (1 < n) with
            | true => simp [h2, h3, pB_true h4, h5] at h
            | false =>
              by_cases h6 : TakenOk f.blocks
              · have ho := (once_iff h1.1).1 h5
                exact ⟨h1.1, h1.2, by omega, by omega, h4, ho, (taken_iff h1.1 ho).1 h6⟩
              · simp [h2, h3, pB_true h4, h5, pB_false h6] at h
          · simp [h2, h3, pB_false h4] at h
    · rw [if_neg h1] at h; cases h
  · rintro ⟨h1, h2, h3, h4, h5, h6, h7⟩
    rw [if_pos ⟨h1, h2⟩, if_neg (by rw [h3]; simp), if_neg (by omega), if_neg (by rw [pB_true h5]; simp), if_neg (by rw [(once_iff h1).2 h6]; simp), if_neg (by rw [pB_true ((taken_iff h1 h6).2 h7)]; simp)]
end Go.Proofs.YtgdfgnppeekfjaaGreat.Vm
end
section
/- Programs folded. Plain. No conditions. -/
namespace Go.Proofs.YtgdfgnppeekfjaaGreat.Vm
set_option linter.unusedSimpArgs false
set_option linter.unusedVariables false
/-- What is known of values: of which, and what. -/
structure Kn where
  k : List Bool
  n : List Int
structure SOk (n : Nat) (m : Int) (s : List InsR × Kn) : Prop where
  k : s.2.k.length = n
  n : s.2.n.length = n
  ins : ∀ x ∈ s.1, insB x m = true
/-- What stays right from block to block. -/
structure TOk (N n : Nat) (m : Int) (s : List BlkR × Kn) : Prop where
  len : s.1.length = N
  k : s.2.k.length = n
  n : s.2.n.length = n
  ins : ∀ b ∈ s.1, b.list.length ≤ 24 ∧ ∀ x ∈ b.list, insB x m = true
end Go.Proofs.YtgdfgnppeekfjaaGreat.Vm
end
section
/- Programs folded: a list, by both. No conditions. -/
namespace Go.Proofs.YtgdfgnppeekfjaaGreat.Vm
open Go.RowKit (wrap64)
set_option linter.unusedSimpArgs false
set_option linter.unusedVariables false
abbrev KOb (ks : List Bool) : Ob := ⟨ks.map .b, 0, true, 1⟩
abbrev NOb (ns : List Int) : Ob := ⟨ns.map .i, 0, true, 1⟩
/-- Where a list is being folded. -/
structure FoldH (Gu : Nat → Prop) (kid nid : Nat) (u : CV) (Y0 Y : Hp) (xs : List InsR) (q : Kn) : Prop where
  row : FRow insF 5 Y u xs Gu
  k : rdOb Y kid 0 = some (KOb q.k)
  n : rdOb Y nid 0 = some (NOb q.n)
  fr : Frm (fun j => j < Y0.length ∧ ¬ Gu j ∧ j ≠ kid ∧ j ≠ nid) Y0 Y
  len : Y0.length ≤ Y.length
theorem FoldH.app {Gu : Nat → Prop} {kid nid : Nat} {u : CV} {Y0 Y : Hp} {xs : List InsR} {q : Kn} (h : FoldH Gu kid nid u Y0 Y xs q) (L : Hp) : FoldH Gu kid nid u Y0 (Y ++ L) xs q :=
  ⟨h.row.fr insF_st (Frm.app _ _ _), rdOb_app L h.k, rdOb_app L h.n, h.fr.trans (Frm.app _ _ _), by have := h.len; simp only [List.length_append]; omega⟩
theorem FoldH.put {Gu : Nat → Prop} {kid nid i : Nat} {u : CV} {Y0 Y : Hp} {ys r : List InsR} {x : InsR} {q : Kn} (h : FoldH Gu kid nid u Y0 Y (ys ++ x :: r) q) (hi : ys.length = i) (hk : ¬ Gu kid) (hn : ¬ Gu nid) (x' : InsR) :
    ∃ id g cells Z, idxOf 5 u (i : Int) = some (.p id g (i * 5)) ∧ rdOb Y id g = some ⟨cells, g, true, 5⟩ ∧ i * 5 + 5 ≤ cells.length ∧ Y.set id ⟨putAt cells (i * 5) [.i x'.op, .i x'.d, .i x'.a, .i x'.b, .i x'.n], g, true, 5⟩ = Z ∧ FoldH Gu kid nid u Y0 Z (ys ++ x' :: r) q ∧ Frm (fun j => ¬ Gu j) Y Z := by
  obtain ⟨id, g, cells, Z, h1, h2, h3, h4, h5, h6, h7⟩ := h.row.wholeS insF_st hi (cs := insC x') (x' := x') rfl (fun _ => rfl)
  exact ⟨id, g, cells, Z, h1, h2, h3, h4, ⟨h5, h6.ob hk h.k, h6.ob hn h.n, h.fr.trans (h6.mono fun j hj => hj.2.1), by rw [h7]; exact h.len⟩, h6⟩
end Go.Proofs.YtgdfgnppeekfjaaGreat.Vm
end
section
/- Programs folded: a list, by the specification. No conditions. -/
namespace Go.Proofs.YtgdfgnppeekfjaaGreat.Vm
open Go.RowKit (wrap64)
set_option linter.unusedSimpArgs false
set_option linter.unusedVariables false
end Go.Proofs.YtgdfgnppeekfjaaGreat.Vm
end
section
/- Programs folded, by both. No conditions. -/
namespace Go.Proofs.YtgdfgnppeekfjaaGreat.Vm
open Go.RowKit (wrap64)
set_option linter.unusedSimpArgs false
set_option linter.unusedVariables false
theorem Tree.list {S : Nat → Prop} {X : Hp} {v : CV} {bs : List BlkR} {b : Nat} (h : Tree S X v bs) (hb : b < bs.length) :
    ∃ id g u, ∃ Gu : Nat → Prop, idxOf 6 v (b : Int) = some (.p id g (b * 6)) ∧ rdC X id g (b * 6 + 1) = some u ∧ FRow insF 5 X u bs[b].list Gu ∧ (∀ j, Gu j → S j ∧ j < X.length ∧ j ≠ id) ∧ S id ∧ bs[b].list.length ≤ BIG ∧
      ∀ Y ls, X.length ≤ Y.length → Frm (fun j => S j ∧ ¬ Gu j) X Y → FRow insF 5 Y u ls Gu → ls.length ≤ BIG → Tree S Y v (bs.set b ⟨bs[b].phis, ls, bs[b].term⟩) := by
  obtain ⟨id, g, cells, Fs, z, u, Gz, Gu, rfl, hc, h1, h2, h3, h4, h5, h6, h7⟩ := h.at_ hb
  clear h
  refine ⟨id, g, u, Gu, idx_sl hb, ?_, h3, fun j hj => ⟨(hc.sub b j hb (h5 j hj)).1, (hc.sub b j hb (h5 j hj)).2.2, (hc.sub b j hb (h5 j hj)).2.1⟩, hc.own, h7, fun Y ls hl hf hr hlb => ?_⟩
  · rw [hc.c (by omega), h1]; rfl
  · have := (hc.nest blkF_st hb (x' := ⟨bs[b].phis, ls, bs[b].term⟩) hl (hf.mono fun j hj => ⟨hj.1, fun h => hj.2 (h5 j h)⟩)
      ⟨z, u, Gz, Gu, h1, h2.fr phiF_st (hf.mono fun j hj => ⟨(hc.sub b j hb (h4 j hj).1).1, (h4 j hj).2⟩), hr, h4, h5, h6, hlb⟩).row
    simpa using this
theorem Tree.phis {S : Nat → Prop} {X : Hp} {v : CV} {bs : List BlkR} {b : Nat} (h : Tree S X v bs) (hb : b < bs.length) :
    ∃ id g z, ∃ Gz : Nat → Prop, idxOf 6 v (b : Int) = some (.p id g (b * 6)) ∧ rdC X id g (b * 6) = some z ∧ FRow phiF 2 X z bs[b].phis Gz ∧ (∀ j, Gz j → S j ∧ j < X.length ∧ j ≠ id) ∧ S id ∧ bs[b].phis.length ≤ BIG ∧
      ∀ Y ps, X.length ≤ Y.length → Frm (fun j => S j ∧ ¬ Gz j) X Y → FRow phiF 2 Y z ps Gz → ps.length ≤ BIG → Tree S Y v (bs.set b ⟨ps, bs[b].list, bs[b].term⟩) := by
  obtain ⟨id, g, cells, Fs, z, u, Gz, Gu, rfl, hc, h1, h2, h3, h4, h5, h6, h7⟩ := h.at_ hb
  clear h
  refine ⟨id, g, z, Gz, idx_sl hb, ?_, h2, fun j hj => ⟨(hc.sub b j hb (h4 j hj).1).1, (hc.sub b j hb (h4 j hj).1).2.2, (hc.sub b j hb (h4 j hj).1).2.1⟩, hc.own, h6, fun Y ps hl hf hr hlb => ?_⟩
  · have := hc.c (k := b) (j := 0) (by omega)
    rw [Nat.add_zero] at this
    rw [this, h1]; rfl
  · have := (hc.nest blkF_st hb (x' := ⟨ps, bs[b].list, bs[b].term⟩) hl (hf.mono fun j hj => ⟨hj.1, fun h => hj.2 (h4 j h).1⟩)
      ⟨z, u, Gz, Gu, h1, hr, h3.fr insF_st (hf.mono fun j hj => ⟨(hc.sub b j hb (h5 j hj)).1, fun h => (h4 j h).2 hj⟩), h4, h5, hlb, h7⟩).row
    simpa using this
def FnRes (H : Hp) (g : FnR) (r : IV × Hp) : Prop := ∃ w L, r = (.agg [w, .i g.values], H ++ L) ∧ Tree (fun i => H.length ≤ i) (H ++ L) w g.blocks
theorem FnRes.mk {H X : Hp} {w : CV} {g : FnR} {S : Nat → Prop} (hp : Pre H X) (hT : Tree S X w g.blocks) (hS : ∀ j, S j → H.length ≤ j) : FnRes H g (gcRet H (.agg [w, .i g.values]) X) := by
  have hT := FRow.mono hT hS
  rcases FRow.form hT with rfl | ⟨i', g', n', rfl⟩
  · have hbs : g.blocks = [] := by
      rcases hT with ⟨_, h⟩ | ⟨_, _, _, _, h, _⟩
      · exact h
      · cases h
    rw [gcRet_flat hp (show flatV (.agg [.ns, .i g.values]) = true from rfl)]
    exact ⟨.ns, [], by simp, .inl ⟨rfl, hbs⟩⟩
  · rw [gc_agg (by simp [flatC])]
    obtain ⟨L, rfl⟩ := hp
    exact ⟨_, L, rfl, hT⟩
/-- Between two blocks that are folded. -/
structure FoldB (S : Nat → Prop) (kid nid o3 : Nat) (w : CV) (m : Int) (X6 Y : Hp) (s : List BlkR × Kn) : Prop where
  tree : Tree S Y w s.1
  k : rdOb Y kid 0 = some (KOb s.2.k)
  n : rdOb Y nid 0 = some (NOb s.2.n)
  out : rdOb Y o3 0 = some ⟨[w, .i m], 0, true, 2⟩
  fr : Frm (fun j => j < X6.length ∧ ¬ S j ∧ j ≠ kid ∧ j ≠ nid) X6 Y
  len : X6.length ≤ Y.length
end Go.Proofs.YtgdfgnppeekfjaaGreat.Vm
end
section
/- Programs folded, by the specification. No conditions. -/
namespace Go.Proofs.YtgdfgnppeekfjaaGreat.Vm
open Go.RowKit (wrap64)
set_option linter.unusedSimpArgs false
set_option linter.unusedVariables false
end Go.Proofs.YtgdfgnppeekfjaaGreat.Vm
end
