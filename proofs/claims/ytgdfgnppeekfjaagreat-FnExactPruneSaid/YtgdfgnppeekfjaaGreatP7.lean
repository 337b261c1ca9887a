import Derived.Test.YtgdfgnppeekfjaaGreatP5
section
/- What is well is made once, plain. No conditions. -/
namespace Go.Proofs.YtgdfgnppeekfjaaGreat.Vm
open Go.RowKit (wrap64)
set_option linter.unusedSimpArgs false
set_option linter.unusedVariables false
def defI (x : InsR) : List Int := if 0 ≤ insDefF x then [insDefF x] else []
def defsB (b : BlkR) : List Int := b.phis.map (·.d) ++ b.list.flatMap defI
theorem tickB_defs (vs : List Int) (b : BlkR) : tickB vs b = (defsB b).foldl tick vs := by
  unfold tickB defsB
  rw [List.foldl_append, List.foldl_map, List.foldl_flatMap]
  congr 1
  funext ws x
  unfold tickI defI
  split <;> rfl
theorem madeF_defs (f : FnR) : madeF f = (f.blocks.flatMap defsB).foldl tick (List.replicate f.values.toNat 0) := by
  unfold madeF
  rw [List.foldl_flatMap]
  congr 1
  funext ws b
  exact tickB_defs ws b
theorem tick_count {n : Nat} {d : Nat} (hd : d < n) : ∀ (ds vs : List Int), vs.length = n → (∀ x ∈ ds, ∃ k : Nat, x = k ∧ k < n) → (ds.foldl tick vs).getD d 0 = vs.getD d 0 + (ds.count (d : Int) : Int) := by
  intro ds
  induction ds with
  | nil => intro vs _ _; simp
  | cons x r ih =>
    intro vs hl h
    obtain ⟨k, rfl, hk⟩ := h x (by simp)
    rw [List.foldl_cons, ih _ (by rw [tick_len]; exact hl) (fun y hy => h y (by simp [hy])), List.count_cons]
    unfold tick
    rw [Int.toNat_natCast, List.getD_eq_getElem?_getD, List.getElem?_set]
    by_cases e : k = d
    · subst e
      simp [hl, hk]; omega
    · have e2 : ¬ ((k : Int) = (d : Int)) := by omega
      rw [if_neg e, ← List.getD_eq_getElem?_getD]
      simp [e2]
theorem flat2 {β : Type} {f : β → List Int} {d : Int} : ∀ (bs : List β) (i j : Nat) (hj : j < bs.length) (hij : i < j), d ∈ f (bs[i]'(by omega)) → d ∈ f bs[j] → 2 ≤ (bs.flatMap f).count d := by
  intro bs
  induction bs with
  | nil => intro i j hj; simp at hj
  | cons b r ih =>
    intro i j hj hij h1 h2
    rw [List.flatMap_cons, List.count_append]
    cases j with
    | zero => omega
    | succ j =>
      have hj' : j < r.length := by simpa using hj
      cases i with
      | zero =>
        have a : 0 < (f b).count d := List.count_pos_iff.2 (by simpa using h1)
        have c : 0 < (r.flatMap f).count d := List.count_pos_iff.2 (List.mem_flatMap.2 ⟨_, List.getElem_mem hj', by simpa using h2⟩)
        omega
      | succ i =>
        have := ih i j hj' (by omega) (by simpa using h1) (by simpa using h2)
        omega
theorem count_part {β : Type} {f : β → List Int} {d : Int} {bs : List β} {b : β} (hb : b ∈ bs) : (f b).count d ≤ (bs.flatMap f).count d := by
  induction bs with
  | nil => simp at hb
  | cons c r ih =>
    rw [List.flatMap_cons, List.count_append]
    rcases List.mem_cons.1 hb with rfl | h
    · omega
    · have := ih h; omega
theorem made_defs {f : FnR} (hsh : shapeB f = true) : ∀ x ∈ f.blocks.flatMap defsB, ∃ k : Nat, x = k ∧ k < f.values.toNat := by
  intro x hx
  obtain ⟨b, hb, hx⟩ := List.mem_flatMap.1 hx
  unfold defsB at hx
  rcases List.mem_append.1 hx with h | h
  · obtain ⟨p, hp, rfl⟩ := List.mem_map.1 h
    exact val_nat (phi_vals (shape_phi hsh hb hp)).1
  · obtain ⟨y, hy, h⟩ := List.mem_flatMap.1 h
    unfold defI at h
    by_cases h0 : 0 ≤ insDefF y
    · rw [if_pos h0] at h
      simp at h
      rw [h]
      exact ins_def (shape_ins hsh hb hy) h0
    · rw [if_neg h0] at h; simp at h
theorem once {f : FnR} (hsh : shapeB f = true) (hm : ((madeF f).any fun n => decide (1 < n)) = false) (d : Int) : (f.blocks.flatMap defsB).count d ≤ 1 := by
  by_cases hd : d ∈ f.blocks.flatMap defsB
  · obtain ⟨k, rfl, hk⟩ := made_defs hsh d hd
    have h := tick_count hk (f.blocks.flatMap defsB) (List.replicate f.values.toNat 0) (by simp) (made_defs hsh)
    rw [← madeF_defs] at h
    have hl : (madeF f).length = f.values.toNat := by unfold madeF; rw [ticksB_len]; simp
    have hlt : k < (madeF f).length := by omega
    rw [List.any_eq_false] at hm
    have h1 := hm _ (List.getElem_mem hlt)
    have h2 : (madeF f).getD k 0 = (madeF f)[k] := by rw [List.getD_eq_getElem?_getD, List.getElem?_eq_getElem hlt]; rfl
    have h3 : (List.replicate f.values.toNat (0 : Int)).getD k 0 = 0 := by rw [List.getD_eq_getElem?_getD, List.getElem?_replicate]; split <;> rfl
    rw [h2, h3] at h
    simp at h1
    omega
  · rw [List.count_eq_zero.2 hd]; omega
theorem check_well {f : FnR} (h : checkF f = 0) : shapeB f = true ∧ cf (seenF f.blocks) = 0 ∧ (predsF f.blocks 0).length = 0 ∧ ((madeF f).any fun n => decide (1 < n)) = false ∧ TakenOk f.blocks := by
  unfold checkF checkW at h
  by_cases h1 : shapeB f = true ∧ copiesB f.blocks = false
  · rw [if_pos h1] at h
    by_cases h2 : 0 < cf (seenF f.blocks)
    · simp [h2] at h
    · by_cases h3 : 0 < phis0 f.blocks ∨ 0 < (predsF f.blocks 0).length
      · simp [h2, h3] at h
      · by_cases h4 : ArmsRight f.blocks
        · cases h5 : (madeF f).any fun n => decide (1 < n) with
          | true => simp [h2, h3, pB_true h4, h5] at h
          | false =>
            by_cases h6 : TakenOk f.blocks
            · exact ⟨h1.1, by omega, by omega, rfl, h6⟩
            · simp [h2, h3, pB_true h4, h5, pB_false h6] at h
        · simp [h2, h3, pB_false h4] at h
  · rw [if_neg h1] at h; simp at h
end Go.Proofs.YtgdfgnppeekfjaaGreat.Vm
end
section
/- Values made used: both sides. No conditions. -/
namespace Go.Proofs.YtgdfgnppeekfjaaGreat.Vm
open Go.RowKit (wrap64)
set_option linter.unusedSimpArgs false
set_option linter.unusedVariables false
def mk1 (us : List Bool) (v : Int) : List Bool := us.set v.toNat true
def markAll (us : List Bool) (vs : List Int) : List Bool := vs.foldl mk1 us
def moreF (us : List Bool) (vs : List Int) : Bool := vs.any fun v => !us.getD v.toNat false
def Vals (n : Nat) (vs : List Int) : Prop := ∀ v ∈ vs, ∃ k : Nat, v = k ∧ k < n
theorem mk1_len (us : List Bool) (v : Int) : (mk1 us v).length = us.length := by simp [mk1]
theorem markAll_len : ∀ (vs : List Int) (us : List Bool), (markAll us vs).length = us.length := by
  intro vs
  induction vs with
  | nil => intro us; rfl
  | cons v r ih => intro us; unfold markAll at ih ⊢; rw [List.foldl_cons, ih, mk1_len]
theorem mk1_get (us : List Bool) (v : Int) (j : Nat) : (mk1 us v).getD j false = (us.getD j false || (decide (v.toNat = j) && decide (j < us.length))) := by
  unfold mk1
  rw [List.getD_eq_getElem?_getD, List.getElem?_set, List.getD_eq_getElem?_getD]
  by_cases h : v.toNat = j
  · subst h
    by_cases hl : v.toNat < us.length
    · simp [hl]
    · simp [hl]
  · simp [h]
theorem markAll_get : ∀ (vs : List Int) (us : List Bool) (j : Nat), (markAll us vs).getD j false = (us.getD j false || (vs.any (fun v => decide (v.toNat = j)) && decide (j < us.length))) := by
  intro vs
  induction vs with
  | nil => intro us j; simp [markAll]
  | cons v r ih =>
    intro us j
    have : markAll us (v :: r) = markAll (mk1 us v) r := rfl
    rw [this, ih, mk1_get, mk1_len, List.any_cons]
    cases us.getD j false <;> cases decide (v.toNat = j) <;> cases decide (j < us.length) <;> simp
theorem moreF_snoc {n : Nat} {us : List Bool} {vs : List Int} {i : Nat} (hn : us.length = n) (hv : Vals n vs) (hi : i < vs.length) :
    moreF us (vs.take (i + 1)) = (moreF us (vs.take i) || !(markAll us (vs.take i)).getD (vs[i].toNat) false) := by
  unfold moreF
  rw [List.take_succ_eq_append_getElem hi, List.any_append, markAll_get]
  obtain ⟨k, hk, hkn⟩ := hv _ (List.getElem_mem hi)
  rw [hk]
  simp only [List.any_cons, List.any_nil, Bool.or_false, Int.toNat_natCast, hn, hkn, decide_true, Bool.and_true]
  cases hu : us.getD k false with
  | true => simp
  | false =>
    cases ha : (vs.take i).any (fun v => decide (v.toNat = k)) with
    | false => simp
    | true =>
      obtain ⟨v, hv1, hv2⟩ := List.any_eq_true.1 ha
      have : ((vs.take i).any fun v => !us.getD v.toNat false) = true := List.any_eq_true.2 ⟨v, hv1, by rw [of_decide_eq_true hv2, hu]; rfl⟩
      rw [this]; simp
theorem markAll_snoc {us : List Bool} {vs : List Int} {i : Nat} (hi : i < vs.length) : markAll us (vs.take (i + 1)) = mk1 (markAll us (vs.take i)) vs[i] := by
  unfold markAll
  rw [List.take_succ_eq_append_getElem hi, List.foldl_append]; rfl
theorem set_true {us : List Bool} {k : Nat} (h : us.getD k false = true) : us.set k true = us := by
  apply List.ext_getElem?
  intro j
  rw [List.getElem?_set]
  by_cases e : k = j
  · subst e
    rw [if_pos rfl]
    rw [List.getD_eq_getElem?_getD] at h
    cases hj : us[k]? with
    | none => rw [hj] at h; simp at h
    | some b =>
      rw [hj] at h
      simp at h
      subst h
      have := (List.getElem?_eq_some_iff.1 hj).1
      simp [this]
  · rw [if_neg e]
def UsOb (us : List Bool) : Ob := ⟨us.map .b, 0, true, 1⟩
theorem IsI.set_us {X : Hp} {w : CV} {vs : List Int} (h : IsI X w vs) {uid : Nat} {us us' : List Bool} (ho : rdOb X uid 0 = some (UsOb us)) (hl : us'.length = us.length) : IsI (X.set uid (UsOb us')) w vs := by
  rcases h with ⟨h1, h2, h3⟩ | ⟨id, g, off, ob, h1, h2, h3, h4, h5⟩
  · exact .inl ⟨h1, h2, h3⟩
  · by_cases hne : id = uid
    · subst hne
      have a := rdOb_some.1 ho
      have b := rdOb_some.1 h2
      have e : ob = UsOb us := by rw [a.1] at b; injection b.1 with b; exact b.symm
      have hg : g = 0 := by have := b.2; rw [e] at this; exact this.symm
      subst hg
      subst e
      refine .inr ⟨id, 0, off, UsOb us', h1, by rw [rdOb_set_self (rdOb_lt ho)]; simp [UsOb], h3, ?_, ?_⟩
      · simpa [UsOb, hl] using h4
      · cases vs with
        | nil => simp
        | cons v r =>
          exfalso
          have := congrArg (fun l => l[0]?) h5
          simp [UsOb, List.getElem?_take, List.getElem?_drop] at this
    · exact .inr ⟨id, g, off, ob, h1, by rw [rdOb_set_ne hne]; exact h2, h3, h4, h5⟩
end Go.Proofs.YtgdfgnppeekfjaaGreat.Vm
end
section
/- What is used, plain: the least that holds what must be. No conditions. -/
namespace Go.Proofs.YtgdfgnppeekfjaaGreat.Vm
open Go.RowKit (wrap64)
set_option linter.unusedSimpArgs false
set_option linter.unusedVariables false
def keepsF (op : Int) : Bool := decide (op = 22) || decide (op = 23) || decide (op = 21)
inductive UsedP (bs : List BlkR) : Int → Prop
  | term {b : BlkR} (hb : b ∈ bs) {v : Int} (hv : v ∈ tusesF b.term) : UsedP bs v
  | stay {b : BlkR} (hb : b ∈ bs) {x : InsR} (hx : x ∈ b.list) (hs : keepsF x.op = true) {v : Int} (hv : v ∈ usesF x) : UsedP bs v
  | make {b : BlkR} (hb : b ∈ bs) {x : InsR} (hx : x ∈ b.list) (hd : 0 ≤ insDefF x) (hu : UsedP bs (insDefF x)) {v : Int} (hv : v ∈ usesF x) : UsedP bs v
  | phi {b : BlkR} (hb : b ∈ bs) {p : PhiR} (hp : p ∈ b.phis) (hu : UsedP bs p.d) {a : ArmR} (ha : a ∈ p.arms) : UsedP bs a.v
def Us (us : List Bool) (v : Int) : Prop := us.getD v.toNat false = true
structure Rnd (bs : List BlkR) (us0 us : List Bool) (m : Bool) : Prop where
  len : us.length = us0.length
  snd : ∀ j : Nat, us.getD j false = true → UsedP bs j
  no : m = false → us = us0
  yes : m = true → cf us < cf us0
theorem moreF_no {us : List Bool} {vs : List Int} (h : moreF us vs = false) : ∀ v ∈ vs, Us us v := by
  intro v hv
  unfold moreF at h
  rw [List.any_eq_false] at h
  have := h v hv
  unfold Us
  simpa using this
theorem markAll_no : ∀ {vs : List Int} {us : List Bool}, (∀ v ∈ vs, Us us v) → markAll us vs = us := by
  intro vs
  induction vs with
  | nil => intro us _; rfl
  | cons v r ih =>
    intro us h
    have e : markAll us (v :: r) = markAll (mk1 us v) r := rfl
    have : mk1 us v = us := set_true (h v (by simp))
    rw [e, this]
    exact ih fun x hx => h x (by simp [hx])
theorem mk1_cf {us : List Bool} {v : Int} (hv : v.toNat < us.length) (h : us.getD v.toNat false = false) : cf (mk1 us v) + 1 = cf us := by
  refine cf_set ?_
  rw [List.getD_eq_getElem?_getD] at h ⊢
  rw [List.getElem?_eq_getElem hv] at h ⊢
  exact h
theorem markAll_cf_le : ∀ (vs : List Int) {us : List Bool}, Vals us.length vs → cf (markAll us vs) ≤ cf us := by
  intro vs
  induction vs with
  | nil => intro us _; exact Nat.le_refl _
  | cons v r ih =>
    intro us h
    have e : markAll us (v :: r) = markAll (mk1 us v) r := rfl
    obtain ⟨k, hk, hkn⟩ := h v (by simp)
    have h2 : Vals (mk1 us v).length r := by rw [mk1_len]; exact fun x hx => h x (by simp [hx])
    have := ih h2
    rw [e]
    cases hu : us.getD v.toNat false with
    | true => rw [show mk1 us v = us from set_true hu] at this ⊢; exact this
    | false => have := mk1_cf (us := us) (v := v) (by omega) hu; omega
theorem markAll_cf : ∀ {vs : List Int} {us : List Bool}, Vals us.length vs → moreF us vs = true → cf (markAll us vs) < cf us := by
  intro vs
  induction vs with
  | nil => intro us _ h; simp [moreF] at h
  | cons v r ih =>
    intro us h hm
    have e : markAll us (v :: r) = markAll (mk1 us v) r := rfl
    obtain ⟨k, hk, hkn⟩ := h v (by simp)
    have h2 : Vals (mk1 us v).length r := by rw [mk1_len]; exact fun x hx => h x (by simp [hx])
    rw [e]
    cases hu : us.getD v.toNat false with
    | true =>
      have e1 : mk1 us v = us := set_true hu
      rw [e1] at h2 ⊢
      refine ih h2 ?_
      unfold moreF at hm ⊢
      rw [List.any_cons, hu] at hm
      simpa using hm
    | false =>
      have a := mk1_cf (us := us) (v := v) (by omega) hu
      have b := markAll_cf_le r h2
      omega
theorem Rnd.refl {bs : List BlkR} {us : List Bool} (h : ∀ j : Nat, us.getD j false = true → UsedP bs j) : Rnd bs us us false := ⟨rfl, h, fun _ => rfl, fun h => by cases h⟩
theorem Rnd.mark {bs : List BlkR} {us0 us : List Bool} {m : Bool} (h : Rnd bs us0 us m) {vs : List Int} (hv : Vals us0.length vs) (hu : ∀ v ∈ vs, UsedP bs v) : Rnd bs us0 (markAll us vs) (m || moreF us vs) := by
  refine ⟨by rw [markAll_len, h.len], fun j hj => ?_, fun hf => ?_, fun ht => ?_⟩
  · rw [markAll_get, Bool.or_eq_true] at hj
    rcases hj with hj | hj
    · exact h.snd j hj
    · rw [Bool.and_eq_true] at hj
      obtain ⟨v, hv1, hv2⟩ := List.any_eq_true.1 hj.1
      obtain ⟨k, hk, _⟩ := hv v hv1
      have : v.toNat = j := of_decide_eq_true hv2
      have e : v = (j : Int) := by omega
      rw [← e]; exact hu v hv1
  · rw [Bool.or_eq_false_iff] at hf
    rw [markAll_no (moreF_no hf.2)]
    exact h.no hf.1
  · have hv' : Vals us.length vs := by rw [h.len]; exact hv
    have hle := markAll_cf_le vs hv'
    cases hm : m with
    | true => have := h.yes hm; omega
    | false =>
      rw [hm, Bool.false_or] at ht
      have := markAll_cf hv' ht
      rw [h.no hm] at this ⊢
      exact this
theorem Rnd.trans {bs : List BlkR} {a b c : List Bool} {m n : Bool} (h : Rnd bs a b m) (k : Rnd bs b c n) : Rnd bs a c (m || n) := by
  refine ⟨k.len.trans h.len, k.snd, fun hf => ?_, fun ht => ?_⟩
  · rw [Bool.or_eq_false_iff] at hf
    rw [k.no hf.2, h.no hf.1]
  · cases hm : m with
    | true =>
      have a1 := h.yes hm
      cases hn : n with
      | true => have := k.yes hn; omega
      | false => rw [k.no hn]; exact a1
    | false =>
      rw [hm, Bool.false_or] at ht
      rw [← h.no hm]; exact k.yes ht
/-- All that a block takes for what is used is used. -/
structure ClosedB (us : List Bool) (b : BlkR) : Prop where
  term : ∀ v ∈ tusesF b.term, Us us v
  phi : ∀ p ∈ b.phis, Us us p.d → ∀ a ∈ p.arms, Us us a.v
  ins : ∀ x ∈ b.list, (keepsF x.op = true ∨ (0 ≤ insDefF x ∧ Us us (insDefF x))) → ∀ v ∈ usesF x, Us us v
theorem closed_all {bs : List BlkR} {us : List Bool} (h : ∀ b ∈ bs, ClosedB us b) : ∀ {v : Int}, UsedP bs v → Us us v := by
  intro v hv
  induction hv with
  | term hb hv => exact (h _ hb).term _ hv
  | stay hb hx hs hv => exact (h _ hb).ins _ hx (.inl hs) _ hv
  | make hb hx hd _ hv ih => exact (h _ hb).ins _ hx (.inr ⟨hd, ih⟩) _ hv
  | phi hb hp _ ha ih => exact (h _ hb).phi _ hp ih _ ha
noncomputable def usedW (f : FnR) : List Bool := (List.range f.values.toNat).map fun (j : Nat) => pB (UsedP f.blocks j)
theorem used_done {f : FnR} {us : List Bool} (hl : us.length = f.values.toNat) (hs : ∀ j : Nat, us.getD j false = true → UsedP f.blocks j) (hc : ∀ b ∈ f.blocks, ClosedB us b) : us = usedW f := by
  refine List.ext_getElem (by simp [usedW, hl]) fun j h1 h2 => ?_
  simp only [usedW, List.getElem_map, List.getElem_range]
  have e : us.getD j false = us[j] := by rw [List.getD_eq_getElem?_getD, List.getElem?_eq_getElem h1]; rfl
  cases hu : us[j] with
  | true => rw [pB_true (hs j (by rw [e, hu]))]
  | false =>
    rw [pB_false fun hc' => ?_]
    have := closed_all hc hc'
    unfold Us at this
    rw [Int.toNat_natCast, e, hu] at this
    cases this
end Go.Proofs.YtgdfgnppeekfjaaGreat.Vm
end
section
/- Values made used: both sides. No conditions. -/
namespace Go.Proofs.YtgdfgnppeekfjaaGreat.Vm
open Go.RowKit (wrap64)
set_option linter.unusedSimpArgs false
set_option linter.unusedVariables false
def Marks (fid : Nat) : Prop := ∀ {X : Hp} {uid : Nat} {us : List Bool} {vw : CV} {vs : List Int}, rdOb X uid 0 = some (UsOb us) → IsI X vw vs → Vals us.length vs → vs.length ≤ BIG → ∀ k : IV × Hp → Prop,
    CM fid [.c (.sl uid 0 0 us.length), .c vw] X k = k (.c (.b (moreF us vs)), X.set uid (UsOb (markAll us vs)))
theorem rdU {X : Hp} {uid : Nat} {us : List Bool} {k : Nat} (h : rdOb X uid 0 = some (UsOb us)) (hk : k < us.length) : rdC X uid 0 k = some (.b (us.getD k false)) := by
  rw [rdC_ob h]
  simp [UsOb, List.getD_eq_getElem?_getD, hk]
theorem set_set (X : Hp) (i : Nat) (a b : Ob) : (X.set i a).set i b = X.set i b := by simp
set_option maxRecDepth 100000 in
theorem implUseAll : Marks 167 := by
  intro X uid us vw vs ho hv hr hb k
  refine det (cw167 ?_) k
  unfold vf167c
  have hlt := rdOb_lt ho
  simp [hv.lenOf]
  obtain ⟨I, hI⟩ : ∃ I : Nat → St → Prop, ∀ i st, I i st ↔ (st.h = X.set uid (UsOb (markAll us (vs.take i))) ∧ Env.get st.e 0 = .c (.sl uid 0 0 us.length) ∧ Env.get st.e 5 = .c (.b (moreF us (vs.take i))) ∧ Env.get st.e 8 = .c vw ∧ Env.get st.e 9 = .c (.i vs.length) ∧ Env.get st.e 10 = .c (.i i)) := ⟨_, fun _ _ => Iff.rfl⟩
  refine wp_for CM_mono vs.length I ((hI _ _).2 ⟨by simp [markAll]; exact (set_same X uid _ (rdOb_some.1 ho).1).symm, by simp [moreF]⟩) ?_ ?_
  · rintro i ⟨e, Y⟩ hi hIs
    obtain ⟨hY, e0, e5, e8, e9, e10⟩ := (hI _ _).1 hIs
    simp only at hY e0 e5 e8 e9 e10 ⊢
    obtain ⟨c, hc, hcn⟩ := hr _ (List.getElem_mem hi)
    have hms := moreF_snoc rfl hr hi
    have hma := markAll_snoc (us := us) hi
    have hml := markAll_len (vs.take i) us
    obtain ⟨ui, hui⟩ : ∃ ui, markAll us (vs.take i) = ui := ⟨_, rfl⟩
    rw [hui] at hY hms hma hml
    have hU : rdOb Y uid 0 = some (UsOb ui) := by rw [hY, rdOb_set_self hlt]; simp [UsOb]
    have hvY : IsI Y vw vs := by rw [hY]; exact hv.set_us ho hml
    obtain ⟨id, g, off, q1, q2⟩ := hvY.at_ hi
    rw [hc] at q2 hms hma
    rw [Int.toNat_natCast] at hms
    have hrd := rdU hU (show c < ui.length by omega)
    have hset : Y.set uid (UsOb (ui.set c true)) = X.set uid (UsOb (mk1 ui c)) := by rw [hY, set_set]; simp [mk1]
    have hix : idxOf 1 (.sl uid 0 0 us.length) (c : Int) = some (.p uid 0 c) := idx1 hcn
    obtain ⟨b0, hb0⟩ : ∃ b0, ui.getD c false = b0 := ⟨_, rfl⟩
    obtain ⟨m0, hm0⟩ : ∃ m0, moreF us (vs.take i) = m0 := ⟨_, rfl⟩
    rw [hb0] at hrd hms
    rw [hm0] at e5 hms
    have hput := bool_put (xs := ui) (i := c) (by omega) true
    have hU' : rdOb Y uid 0 = some ⟨ui.map .b, 0, true, 1⟩ := hU
    have hset' : Y.set uid ⟨(ui.set c true).map .b, 0, true, 1⟩ = X.set uid (UsOb (mk1 ui c)) := hset
    have hset'' := hset'
    simp only [List.map_set] at hset''
    unfold vf167b0
    cases m0 <;> simp [e0, e5, e8, e9, e10, hi, q1, q2, hix, hrd, hU', show c + 1 ≤ ui.length by omega, show c + 1 ≤ us.length by omega, hput, hset'', up1 hi hb, hml] <;> (refine (hI _ _).2 ⟨by rw [hma], ?_⟩; rw [hms]; simp [e0, e8, e9])
  · rintro ⟨e, Y⟩ hIs
    obtain ⟨hY, e0, e5, e8, e9, e10⟩ := (hI _ _).1 hIs
    simp only at hY e0 e5 e8 e9 e10 ⊢
    rw [List.take_length] at hY e5
    subst hY
    unfold vf167b0
    simp [e0, e5, e8, e9, e10]
    rw [gc_set rfl]
theorem or_true_list {us : List Bool} {c : Nat} (h : us.getD c false = true) : mk1 us (c : Int) = us := by unfold mk1; rw [Int.toNat_natCast]; exact set_true h
set_option maxRecDepth 100000 in
theorem specMark : Marks 216 := by
  intro X uid us vw vs ho hv hr hb k
  refine det (cw216 ?_) k
  unfold vf216c
  have hlt := rdOb_lt ho
  simp
  obtain ⟨I, hI⟩ : ∃ I : Nat → St → Prop, ∀ i st, I i st ↔ (st.h = X.set uid (UsOb (markAll us (vs.take i))) ∧ Env.get st.e 0 = .c (.sl uid 0 0 us.length) ∧ Env.get st.e 1 = .c vw ∧ Env.get st.e 5 = .c (.b (moreF us (vs.take i))) ∧ Env.get st.e 6 = .c (.i i)) := ⟨_, fun _ _ => Iff.rfl⟩
  refine wp_for CM_mono vs.length I ((hI _ _).2 ⟨by simp [markAll]; exact (set_same X uid _ (rdOb_some.1 ho).1).symm, by simp [moreF]⟩) ?_ ?_
  · rintro i ⟨e, Y⟩ hi hIs
    obtain ⟨hY, e0, e1, e5, e6⟩ := (hI _ _).1 hIs
    simp only at hY e0 e1 e5 e6 ⊢
    obtain ⟨c, hc, hcn⟩ := hr _ (List.getElem_mem hi)
    have hms := moreF_snoc rfl hr hi
    have hma := markAll_snoc (us := us) hi
    have hml := markAll_len (vs.take i) us
    obtain ⟨ui, hui⟩ : ∃ ui, markAll us (vs.take i) = ui := ⟨_, rfl⟩
    rw [hui] at hY hms hma hml
    have hU : rdOb Y uid 0 = some (UsOb ui) := by rw [hY, rdOb_set_self hlt]; simp [UsOb]
    have hvY : IsI Y vw vs := by rw [hY]; exact hv.set_us ho hml
    have hvl := hvY.lenOf
    obtain ⟨id, g, off, q1, q2⟩ := hvY.at_ hi
    rw [hc] at q2 hms hma
    rw [Int.toNat_natCast] at hms
    have hrd := rdU hU (show c < ui.length by omega)
    have hset' : Y.set uid ⟨(ui.set c true).map .b, 0, true, 1⟩ = X.set uid (UsOb (mk1 ui c)) := by rw [hY, set_set]; simp [mk1, UsOb]
    have hix : idxOf 1 (.sl uid 0 0 us.length) (c : Int) = some (.p uid 0 c) := idx1 hcn
    have hput := bool_put (xs := ui) (i := c) (by omega) true
    have hU' : rdOb Y uid 0 = some ⟨ui.map .b, 0, true, 1⟩ := hU
    have hset'' := hset'
    simp only [List.map_set] at hset''
    unfold vf216b0
    cases hb0 : ui.getD c false with
    | true =>
      rw [hb0] at hrd hms
      have hmk := or_true_list hb0
      simp [e0, e1, e5, e6, hi, hvl, q1, q2, hix, hrd, up1 hi hb]
      refine (hI _ _).2 ⟨by rw [hma, hmk]; exact hY, ?_⟩
      rw [hms]; simp [e0, e1, e5]
    | false =>
      rw [hb0] at hrd hms
      simp [e0, e1, e5, e6, hi, hvl, q1, q2, hix, hrd, hU', show c + 1 ≤ ui.length by omega, show c + 1 ≤ us.length by omega, hput, hset'', up1 hi hb]
      refine (hI _ _).2 ⟨by rw [hma], ?_⟩
      rw [hms]; simp [e0, e1]
  · rintro ⟨e, Y⟩ hIs
    obtain ⟨hY, e0, e1, e5, e6⟩ := (hI _ _).1 hIs
    simp only at hY e0 e1 e5 e6 ⊢
    rw [List.take_length] at hY e5
    subst hY
    have hvl := (hv.set_us ho (markAll_len vs us)).lenOf
    unfold vf216b0
    simp [e0, e1, e5, e6, hvl]
    rw [gc_set rfl]
theorem keeps_call (H : Hp) (op : Int) (k : IV × Hp → Prop) : CM 168 [.c (.i op)] H k = k (.c (.b (keepsF op)), H) := by
  refine det (cw168 ?_) k
  unfold vf168c keepsF
  by_cases h1 : op = 22
  · simp [h1]
  · by_cases h2 : op = 23
    · simp [h2]
    · simp [h1, h2]
end Go.Proofs.YtgdfgnppeekfjaaGreat.Vm
end
section
/- One block's round of what is used: the program's side. No conditions. -/
namespace Go.Proofs.YtgdfgnppeekfjaaGreat.Vm
open Go.RowKit (wrap64)
set_option linter.unusedSimpArgs false
set_option linter.unusedVariables false
theorem uses_vals {f : FnR} (hsh : shapeB f = true) {b : BlkR} (hb : b ∈ f.blocks) {x : InsR} (hx : x ∈ b.list) : Vals f.values.toNat (usesF x) := by
  have h := shape_ins hsh hb hx
  intro v hv
  unfold usesF at hv
  by_cases hw : wordOk x.op = true
  · rw [if_pos (.inl hw)] at hv
    obtain ⟨_, h2, h3⟩ := insB_word h hw
    simp at hv
    rcases hv with rfl | rfl
    · exact val_nat h2
    · exact val_nat h3
  · have hw' : wordOk x.op = false := by simpa using hw
    unfold insB at h
    rw [hw'] at h
    by_cases h22 : x.op = 22
    · rw [if_pos (.inr h22)] at hv
      rw [h22] at h
      simp [Bool.and_eq_true] at h hv
      rcases hv with rfl | rfl
      · exact val_nat (by simp [h])
      · exact val_nat (by simp [h])
    · rw [if_neg (by simp [hw', h22])] at hv
      by_cases h3 : x.op = 21 ∨ x.op = 23 ∨ x.op = 25
      · rw [if_pos h3] at hv
        simp at hv
        subst hv
        rcases h3 with e | e | e <;> rw [e] at h <;> simp [Bool.and_eq_true] at h <;> exact val_nat (by simp [h])
      · rw [if_neg h3] at hv; simp at hv
theorem tuses_vals {f : FnR} (hsh : shapeB f = true) {b : BlkR} (hb : b ∈ f.blocks) : Vals f.values.toNat (tusesF b.term) := by
  have h := shape_term hsh hb
  intro v hv
  unfold tusesF at hv
  by_cases h2 : b.term.kind = 2 ∨ b.term.kind = 3
  · rw [if_pos h2] at hv
    simp at hv
    subst hv
    unfold termB at h
    rcases h2 with e | e <;> rw [e] at h <;> simp [Bool.and_eq_true] at h <;> exact val_nat (by simp [h])
  · rw [if_neg h2] at hv; simp at hv
end Go.Proofs.YtgdfgnppeekfjaaGreat.Vm
end
section
/- One block's round of what is used: the program's side, the walk. No conditions. -/
namespace Go.Proofs.YtgdfgnppeekfjaaGreat.Vm
open Go.RowKit (wrap64)
set_option linter.unusedSimpArgs false
set_option linter.unusedVariables false
def BlkRes (H : Hp) (bs : List BlkR) (uid : Nat) (us : List Bool) (b : BlkR) (r : IV × Hp) : Prop :=
  ∃ us' m Y, r = (.c (.b m), Y) ∧ Pre H Y ∧ rdOb Y uid 0 = some (UsOb us') ∧ Rnd bs us us' m ∧ (m = false → ClosedB us b)
theorem BlkRes.gc {H X Y : Hp} {bs : List BlkR} {uid : Nat} {us us' : List Bool} {b : BlkR} {m : Bool} (hX : Pre H X) (ho : rdOb X uid 0 = some (UsOb us)) (hY : Pre H Y) (hU : rdOb Y uid 0 = some (UsOb us'))
    (hR : Rnd bs us us' m) (hc : m = false → ClosedB us b) : BlkRes H bs uid us b (gcRet X (.c (.b m)) Y) := by
  unfold gcRet
  split
  · rename_i h
    have hp : Pre X Y := ⟨Y.drop X.length, by have := List.take_append_drop X.length Y; rw [h] at this; exact this.symm⟩
    have := hp.rdOb ho
    rw [hU] at this
    refine ⟨us', m, X, ?_, hX, by rw [ho, ← this], hR, hc⟩
    rw [if_pos (show flatV (.c (.b m)) = true from rfl)]
  · exact ⟨us', m, Y, rfl, hY, hU, hR, hc⟩
def TermOk (us : List Bool) (b : BlkR) : Prop := ∀ v ∈ tusesF b.term, Us us v
def PhiOk (us : List Bool) (p : PhiR) : Prop := Us us p.d → ∀ a ∈ p.arms, Us us a.v
def InsOk (us : List Bool) (x : InsR) : Prop := (keepsF x.op = true ∨ (0 ≤ insDefF x ∧ Us us (insDefF x))) → ∀ v ∈ usesF x, Us us v
theorem one_row {X : Hp} {id : Nat} {x : Int} (h : rdOb X id 0 = some ⟨[.i x], 0, true, 1⟩) : IsI X (.sl id 0 0 1) [x] := IsI.mk (xs := [x]) (off := 0) h rfl (by simp) (by simp)
theorem all_take {α : Type} {P : α → Prop} {xs : List α} {i : Nat} (hi : i < xs.length) (h : ∀ x ∈ xs.take i, P x) (hx : P xs[i]) : ∀ x ∈ xs.take (i + 1), P x := by
  intro x h1
  rw [List.take_succ_eq_append_getElem hi] at h1
  rcases List.mem_append.1 h1 with h2 | h2
  · exact h x h2
  · simp at h2; rw [h2]; exact hx
set_option maxRecDepth 100000 in
theorem useBlock_call {H X : Hp} {f : FnR} (hsh : shapeB f = true) {b : BlkR} (hb : b ∈ f.blocks) {w u : CV} (qp : Phis H w b.phis) (ql : List5 H u b.list) (qpl : b.phis.length ≤ BIG) (qll : b.list.length ≤ BIG) (hp : Pre H X) {uid : Nat} (hu : H.length ≤ uid) {us : List Bool}
    (ho : rdOb X uid 0 = some (UsOb us)) (hl : us.length = f.values.toNat) (hs : ∀ j : Nat, us.getD j false = true → UsedP f.blocks j) {t : TrmR} (ht : b.term = t) :
    CM 108 [.c (.sl uid 0 0 us.length), .agg [w, u, .i t.kind, .i t.a, .i t.to, .i t.els]] X (BlkRes H f.blocks uid us b) := by
  refine cw108 ?_
  unfold vf108c
  have hlt := rdOb_lt ho
  obtain ⟨X1, hX1⟩ : ∃ X1, X ++ [(⟨[w, u, .i t.kind, .i t.a, .i t.to, .i t.els], 0, true, 6⟩ : Ob)] = X1 := ⟨_, rfl⟩
  have hp1 : Pre X X1 := ⟨_, hX1.symm⟩
  have hB1 : rdOb X1 X.length 0 = some ⟨[w, u, .i t.kind, .i t.a, .i t.to, .i t.els], 0, true, 6⟩ := by rw [← hX1]; simp
  obtain ⟨tw, L, hw, hcall⟩ := implTUses X1 t
  obtain ⟨X2, hX2⟩ : ∃ X2, X1 ++ L = X2 := ⟨_, rfl⟩
  have hp2 : Pre X1 X2 := ⟨_, hX2.symm⟩
  have hwI := hw.isI
  rw [hX2] at hwI
  have ho2 := (hp1.trans hp2).rdOb ho
  have hv2 := tuses_vals hsh hb
  rw [ht] at hv2
  have hu2 := fun k => implUseAll ho2 hwI (by rw [hl]; exact hv2) (Nat.le_trans (tusesF_le t) (by simp [BIG])) k
  have hpl := qp.lenOf
  have hll := ql.lenOf
  have hne : X.length ≠ uid := by omega
  have hR0 : Rnd f.blocks us (markAll us (tusesF t)) (false || moreF us (tusesF t)) := (Rnd.refl hs).mark (by rw [hl]; exact hv2) (fun v hv => .term hb (by rw [ht]; exact hv))
  rw [Bool.false_or] at hR0
  have hT0 : moreF us (tusesF t) = false → TermOk us b := fun h => by unfold TermOk; rw [ht]; exact moreF_no h
  obtain ⟨X3, hX3⟩ : ∃ X3, X2.set uid (UsOb (markAll us (tusesF t))) = X3 := ⟨_, rfl⟩
  have hU3 : rdOb X3 uid 0 = some (UsOb (markAll us (tusesF t))) := by rw [← hX3, rdOb_set_self (rdOb_lt ho2)]; simp [UsOb]
  have hB3 : rdOb X3 X.length 0 = some ⟨[w, u, .i t.kind, .i t.a, .i t.to, .i t.els], 0, true, 6⟩ := by rw [← hX3, rdOb_set_ne hne]; exact hp2.rdOb hB1
  have hp3 : Pre H X3 := by rw [← hX3]; exact ((hp.trans hp1).trans hp2).set hu _
  obtain ⟨m0, hm0⟩ : ∃ m0, moreF us (tusesF t) = m0 := ⟨_, rfl⟩
  rw [hm0] at hR0 hT0
  simp [hX1, rdN_ob hB1, hcall, hX2, hu2, hm0, hX3, rdC_ob hB3, hpl]
  obtain ⟨I, hI⟩ : ∃ I : Nat → St → Prop, ∀ j st, I j st ↔ (∃ ui m, Pre H st.h ∧ rdOb st.h uid 0 = some (UsOb ui) ∧ Rnd f.blocks us ui m ∧ (m = false → TermOk us b ∧ ∀ p ∈ b.phis.take j, PhiOk us p) ∧
      rdOb st.h X.length 0 = some ⟨[w, u, .i t.kind, .i t.a, .i t.to, .i t.els], 0, true, 6⟩ ∧ Env.get st.e 0 = .c (.sl uid 0 0 us.length) ∧ Env.get st.e 3 = .c (.p X.length 0 0) ∧ Env.get st.e 5 = .c (.b m) ∧ Env.get st.e 19 = .c w ∧ Env.get st.e 20 = .c (.i b.phis.length) ∧ Env.get st.e 21 = .c (.i j)) := ⟨_, fun _ _ => Iff.rfl⟩
  refine wp_for CM_mono b.phis.length I ((hI _ _).2 ⟨_, m0, hp3, hU3, hR0, fun h => ⟨hT0 h, by simp⟩, hB3, by simp⟩) ?_ ?_
  · rintro j ⟨e, Z⟩ hj hIs
    obtain ⟨ui, m, hZ, hU, hR, hc, hBZ, e0, e3, e5, e19, e20, e21⟩ := (hI _ _).1 hIs
    simp only at hZ hU hBZ e0 e3 e5 e19 e20 e21 ⊢
    obtain ⟨id2, g2, off2, w2, r1, _, r2, qa, _⟩ := Phis.get qp hj
    obtain ⟨GZ, hGZ⟩ := id hZ
    have r2' := r2 GZ
    rw [← hGZ] at r2'
    obtain ⟨ph, hph⟩ : ∃ ph, b.phis[j] = ph := ⟨_, rfl⟩
    have hmem : ph ∈ b.phis := hph ▸ List.getElem_mem hj
    have hphB := shape_phi hsh hb hmem
    rw [hph] at r2' qa
    obtain ⟨hvd, hal, harm⟩ := phi_vals hphB
    obtain ⟨kd, hkd, hkn⟩ := val_nat hvd
    have hul : ui.length = us.length := hR.len
    obtain ⟨Z1, hZ1⟩ : ∃ Z1, Z ++ [(⟨[.i ph.d, w2], 0, true, 2⟩ : Ob)] = Z1 := ⟨_, rfl⟩
    have hpZ1 : Pre Z Z1 := ⟨_, hZ1.symm⟩
    have h7 : rdOb Z1 Z.length 0 = some ⟨[.i ph.d, w2], 0, true, 2⟩ := by rw [← hZ1]; simp
    have hU1 := hpZ1.rdOb hU
    have hrd := rdU hU1 (k := kd) (by omega)
    have hix : idxOf 1 (.sl uid 0 0 us.length) ph.d = some (.p uid 0 kd) := by rw [hkd]; exact idx1 (by omega)
    have hall := qa.lenOf
    have hnext : ∀ ui' m' (Y : Hp) (e' : Env), Pre H Y → rdOb Y uid 0 = some (UsOb ui') → Rnd f.blocks us ui' m' → (m' = false → TermOk us b ∧ ∀ p ∈ b.phis.take (j + 1), PhiOk us p) → rdOb Y X.length 0 = some ⟨[w, u, .i t.kind, .i t.a, .i t.to, .i t.els], 0, true, 6⟩ →
        Env.get e' 0 = .c (.sl uid 0 0 us.length) ∧ Env.get e' 3 = .c (.p X.length 0 0) ∧ Env.get e' 5 = .c (.b m') ∧ Env.get e' 19 = .c w ∧ Env.get e' 20 = .c (.i b.phis.length) ∧ Env.get e' 21 = .c (.i (j + 1 : Nat)) → I (j + 1) ⟨e', Y⟩ :=
      fun ui' m' Y e' h1 h2 h3 h4 h5 h6 => (hI _ _).2 ⟨ui', m', h1, h2, h3, h4, h5, h6⟩
    unfold vf108b1
    cases hm : ui.getD kd false with
    | false =>
      rw [hm] at hrd
      simp [e0, e3, e5, e19, e20, e21, hj, r1, r2'.2.2, putD0, hZ1, rdC_ob h7, hix, hrd, up1 hj qpl]
      refine hnext ui m _ _ (hZ.trans hpZ1) hU1 hR (fun hf => ⟨(hc hf).1, all_take hj (hc hf).2 ?_⟩) (hpZ1.rdOb hBZ) (by simp [e0, e3, e5, e19, e20])
      rw [hph]
      intro hd
      unfold Us at hd
      rw [hkd, Int.toNat_natCast, ← hR.no hf, hm] at hd
      cases hd
    | true =>
      rw [hm] at hrd
      have hud : UsedP f.blocks ph.d := by rw [hkd]; exact hR.snd kd hm
      simp [e0, e3, e5, e19, e20, e21, hj, r1, r2'.2.2, putD0, hZ1, rdC_ob h7, hix, hrd, hall]
      obtain ⟨K, hK⟩ : ∃ K : Nat → St → Prop, ∀ k st, K k st ↔ (∃ uk mk, Pre H st.h ∧ rdOb st.h uid 0 = some (UsOb uk) ∧ Rnd f.blocks us uk mk ∧ (mk = false → (TermOk us b ∧ ∀ p ∈ b.phis.take j, PhiOk us p) ∧ ∀ a ∈ ph.arms.take k, Us us a.v) ∧
          rdOb st.h X.length 0 = some ⟨[w, u, .i t.kind, .i t.a, .i t.to, .i t.els], 0, true, 6⟩ ∧ Env.get st.e 0 = .c (.sl uid 0 0 us.length) ∧ Env.get st.e 3 = .c (.p X.length 0 0) ∧ Env.get st.e 5 = .c (.b mk) ∧ Env.get st.e 19 = .c w ∧ Env.get st.e 20 = .c (.i b.phis.length) ∧ Env.get st.e 21 = .c (.i j) ∧
          Env.get st.e 32 = .c w2 ∧ Env.get st.e 33 = .c (.i ph.arms.length) ∧ Env.get st.e 34 = .c (.i k)) := ⟨_, fun _ _ => Iff.rfl⟩
      refine wp_for CM_mono ph.arms.length K ((hK _ _).2 ⟨ui, m, hZ.trans hpZ1, hU1, hR, fun hf => ⟨hc hf, by simp⟩, hpZ1.rdOb hBZ, by simp [e0, e3, e5, e19, e20, e21]⟩) ?_ ?_
      · rintro k ⟨e2, W⟩ hk hKs
        obtain ⟨uk, mk, hW, hUW, hRk, hck, hBW, e0, e3, e5, e19, e20, e21, e32, e33, e34⟩ := (hK _ _).1 hKs
        simp only at hW hUW hBW e0 e3 e5 e19 e20 e21 e32 e33 e34 ⊢
        obtain ⟨id3, g3, off3, m1, ⟨m2, m3, m4⟩, m5, m6, m7⟩ := Arms.get (qa.pre hW) hk
        obtain ⟨a, ha⟩ : ∃ a, ph.arms[k] = a := ⟨_, rfl⟩
        have hamem : a ∈ ph.arms := ha ▸ List.getElem_mem hk
        have hav := (harm k hk).2
        rw [ha] at m2 m3 m4 hav
        obtain ⟨W1, hW1⟩ : ∃ W1, W ++ [(⟨[.i a.fr, .i a.v], 0, true, 2⟩ : Ob)] = W1 := ⟨_, rfl⟩
        have hpW1 : Pre W W1 := ⟨_, hW1.symm⟩
        have h9 : rdOb W1 W.length 0 = some ⟨[.i a.fr, .i a.v], 0, true, 2⟩ := by rw [← hW1]; simp
        obtain ⟨W2, hW2⟩ : ∃ W2, W1 ++ [(⟨[.i a.v], 0, true, 1⟩ : Ob)] = W2 := ⟨_, rfl⟩
        have hpW2 : Pre W1 W2 := ⟨_, hW2.symm⟩
        have hrow : IsI W2 (.sl W1.length 0 0 1) [a.v] := one_row (by rw [← hW2]; simp)
        have hU2 := (hpW1.trans hpW2).rdOb hUW
        have hukl : uk.length = us.length := hRk.len
        have hvals : Vals uk.length [a.v] := fun v hv => by
          simp at hv; subst hv
          obtain ⟨c, h1, h2⟩ := val_nat hav
          exact ⟨c, h1, by omega⟩
        have hua := fun k => implUseAll hU2 hrow hvals (by simp [BIG]) k
        rw [hukl] at hua
        have hRn := hRk.mark (vs := [a.v]) (by rw [← hukl]; exact hvals) (fun v hv => by simp at hv; rw [hv]; exact .phi hb hmem hud hamem)
        obtain ⟨W3, hW3⟩ : ∃ W3, W2.set uid (UsOb (markAll uk [a.v])) = W3 := ⟨_, rfl⟩
        have hU3 : rdOb W3 uid 0 = some (UsOb (markAll uk [a.v])) := by rw [← hW3, rdOb_set_self (rdOb_lt hU2)]; simp [UsOb]
        have hB3 : rdOb W3 X.length 0 = some ⟨[w, u, .i t.kind, .i t.a, .i t.to, .i t.els], 0, true, 6⟩ := by rw [← hW3, rdOb_set_ne hne]; exact (hpW1.trans hpW2).rdOb hBW
        have hpH3 : Pre H W3 := by rw [← hW3]; exact ((hW.trans hpW1).trans hpW2).set hu _
        have hcl : moreF uk [a.v] = false → mk = false → (TermOk us b ∧ ∀ p ∈ b.phis.take j, PhiOk us p) ∧ ∀ a ∈ ph.arms.take (k + 1), Us us a.v := fun h1 h2 => by
          refine ⟨(hck h2).1, all_take (P := fun a : ArmR => Us us a.v) hk (hck h2).2 ?_⟩
          rw [ha, ← hRk.no h2]; exact moreF_no h1 _ (by simp)
        unfold vf108b0
        cases hmo : moreF uk [a.v] with
        | true =>
          rw [hmo, Bool.or_true] at hRn
          simp [e0, e3, e5, e19, e20, e21, e32, e33, e34, hk, m1, m4, putD0, putL0, hW1, rdC_ob h9, hW2, hua, hmo, hW3, up1 hk (show ph.arms.length ≤ BIG by simp only [BIG]; omega)]
          exact (hK _ _).2 ⟨_, true, hpH3, hU3, hRn, (fun h => by cases h), hB3, by simp [e0, e3, e19, e20, e21, e32, e33]⟩
        | false =>
          rw [hmo, Bool.or_false] at hRn
          simp [e0, e3, e5, e19, e20, e21, e32, e33, e34, hk, m1, m4, putD0, putL0, hW1, rdC_ob h9, hW2, hua, hmo, hW3, up1 hk (show ph.arms.length ≤ BIG by simp only [BIG]; omega)]
          exact (hK _ _).2 ⟨_, mk, hpH3, hU3, hRn, hcl hmo, hB3, by simp [e0, e3, e5, e19, e20, e21, e32, e33]⟩
      · rintro ⟨e2, W⟩ hKs
        obtain ⟨uk, mk, hW, hUW, hRk, hck, hBW, e0, e3, e5, e19, e20, e21, e32, e33, e34⟩ := (hK _ _).1 hKs
        simp only at hW hUW hBW e0 e3 e5 e19 e20 e21 e32 e33 e34 ⊢
        rw [List.take_length] at hck
        unfold vf108b0
        simp [e0, e3, e5, e19, e20, e21, e32, e33, e34, up1 hj qpl]
        exact hnext uk mk _ _ hW hUW hRk (fun hf => ⟨(hck hf).1.1, all_take hj (hck hf).1.2 (by rw [hph]; exact fun _ => (hck hf).2)⟩) hBW (by simp [e0, e3, e5, e19, e20])
  · rintro ⟨e, Z⟩ hIs
    obtain ⟨ui, m, hZ, hU, hR, hc, hBZ, e0, e3, e5, e19, e20, e21⟩ := (hI _ _).1 hIs
    simp only at hZ hU hBZ e0 e3 e5 e19 e20 e21 ⊢
    rw [List.take_length] at hc
    unfold vf108b1
    simp [e0, e3, e5, e19, e20, e21, rdC_ob hBZ, hll]
    obtain ⟨J, hJ⟩ : ∃ J : Nat → St → Prop, ∀ j st, J j st ↔ (∃ ui m, Pre H st.h ∧ rdOb st.h uid 0 = some (UsOb ui) ∧ Rnd f.blocks us ui m ∧ (m = false → (TermOk us b ∧ ∀ p ∈ b.phis, PhiOk us p) ∧ ∀ x ∈ b.list.take j, InsOk us x) ∧
        Env.get st.e 0 = .c (.sl uid 0 0 us.length) ∧ Env.get st.e 5 = .c (.b m) ∧ Env.get st.e 46 = .c u ∧ Env.get st.e 47 = .c (.i b.list.length) ∧ Env.get st.e 48 = .c (.i j)) := ⟨_, fun _ _ => Iff.rfl⟩
    refine wp_for CM_mono b.list.length J ((hJ _ _).2 ⟨ui, m, hZ, hU, hR, fun h => ⟨hc h, by simp⟩, by simp [e0, e5]⟩) ?_ ?_
    · rintro j ⟨e', W⟩ hj hJs
      obtain ⟨ui, m, hW, hUW, hR, hc, e0, e5, e46, e47, e48⟩ := (hJ _ _).1 hJs
      simp only at hW hUW e0 e5 e46 e47 e48 ⊢
      obtain ⟨id2, g2, off2, r1, _, r2, _⟩ := List5.get ql hj
      obtain ⟨GW, hGW⟩ := id hW
      have r2' := r2 GW
      rw [← hGW] at r2'
      obtain ⟨x, hx⟩ : ∃ x, b.list[j] = x := ⟨_, rfl⟩
      have hmem : x ∈ b.list := hx ▸ List.getElem_mem hj
      have hxB := shape_ins hsh hb hmem
      rw [hx] at r2'
      have hul : ui.length = us.length := hR.len
      obtain ⟨W1, hW1⟩ : ∃ W1, W ++ [(⟨[.i x.op, .i x.d, .i x.a, .i x.b, .i x.n], 0, true, 5⟩ : Ob)] = W1 := ⟨_, rfl⟩
      have hpW1 : Pre W W1 := ⟨_, hW1.symm⟩
      have h11 : rdOb W1 W.length 0 = some ⟨[.i x.op, .i x.d, .i x.a, .i x.b, .i x.n], 0, true, 5⟩ := by rw [← hW1]; simp
      have hU1 := hpW1.rdOb hUW
      obtain ⟨uw, L, hw, hcall⟩ := implUses W1 x
      obtain ⟨W2, hW2⟩ : ∃ W2, W1 ++ L = W2 := ⟨_, rfl⟩
      have hwI := hw.isI
      have hpW2 : Pre W1 W2 := ⟨_, hW2.symm⟩
      rw [hW2] at hwI
      have hU2 := hpW2.rdOb hU1
      have hvx := uses_vals hsh hb hmem
      have hua := fun k => implUseAll hU2 hwI (by rw [hul, hl]; exact hvx) (Nat.le_trans (usesF_le x) (by simp [BIG])) k
      rw [hul] at hua
      obtain ⟨W3, hW3⟩ : ∃ W3, W2.set uid (UsOb (markAll ui (usesF x))) = W3 := ⟨_, rfl⟩
      have hU3 : rdOb W3 uid 0 = some (UsOb (markAll ui (usesF x))) := by rw [← hW3, rdOb_set_self (rdOb_lt hU2)]; simp [UsOb]
      have hpH3 : Pre H W3 := by rw [← hW3]; exact ((hW.trans hpW1).trans hpW2).set hu _
      have hgo : (keepsF x.op = true ∨ (0 ≤ insDefF x ∧ Us ui (insDefF x))) → Rnd f.blocks us (markAll ui (usesF x)) (m || moreF ui (usesF x)) := fun hk => hR.mark (by rw [hl]; exact hvx) (fun v hv => by
        rcases hk with hk | ⟨hd, hk⟩
        · exact .stay hb hmem hk hv
        · refine .make hb hmem hd ?_ hv
          obtain ⟨k, h1, _⟩ := ins_def hxB hd
          unfold Us at hk
          rw [h1, Int.toNat_natCast] at hk
          rw [h1]; exact hR.snd k hk)
      have hcl : moreF ui (usesF x) = false → m = false → (TermOk us b ∧ ∀ p ∈ b.phis, PhiOk us p) ∧ ∀ x ∈ b.list.take (j + 1), InsOk us x := fun h1 h2 => by
        refine ⟨(hc h2).1, all_take hj (hc h2).2 ?_⟩
        rw [hx, ← hR.no h2]; exact fun _ => moreF_no h1
      have hskip : ¬ (keepsF x.op = true ∨ (0 ≤ insDefF x ∧ Us ui (insDefF x))) → m = false → (TermOk us b ∧ ∀ p ∈ b.phis, PhiOk us p) ∧ ∀ x ∈ b.list.take (j + 1), InsOk us x := fun h1 h2 => by
        refine ⟨(hc h2).1, all_take hj (hc h2).2 ?_⟩
        rw [hx, ← hR.no h2]; exact fun hk => absurd hk h1
      have hfin : ∀ (e'' : Env), (keepsF x.op = true ∨ (0 ≤ insDefF x ∧ Us ui (insDefF x))) → (Env.get e'' 0 = .c (.sl uid 0 0 us.length) ∧ Env.get e'' 5 = .c (.b (m || moreF ui (usesF x))) ∧ Env.get e'' 46 = .c u ∧ Env.get e'' 47 = .c (.i b.list.length) ∧ Env.get e'' 48 = .c (.i (j + 1 : Nat))) → J (j + 1) ⟨e'', W3⟩ := fun e'' hk he => (hJ _ _).2 ⟨_, _, hpH3, hU3, hgo hk, fun hf => by
          rw [Bool.or_eq_false_iff] at hf; exact hcl hf.2 hf.1, he⟩
      unfold vf108b2
      cases hkp : keepsF x.op with
      | true =>
        cases hmo : moreF ui (usesF x) <;>
        · simp [e0, e5, e46, e47, e48, hj, r1, r2'.2.2.2.2.2, put5, hW1, rdN_ob h11, rdC_ob h11, implInsDef, keeps_call, hkp, hcall, hW2, hua, hmo, hW3, up1 hj qll]
          exact hfin _ (.inl hkp) (by rw [hmo]; simp [e0, e5, e46, e47])
      | false =>
        by_cases hd : 0 ≤ insDefF x
        · obtain ⟨k, hk1, hk2⟩ := ins_def hxB hd
          have hrd := rdU hU1 (k := k) (by omega)
          have hix : idxOf 1 (.sl uid 0 0 us.length) (k : Int) = some (.p uid 0 k) := idx1 (by omega)
          cases hb0 : ui.getD k false with
          | true =>
            rw [hb0] at hrd
            have hus : Us ui (insDefF x) := by unfold Us; rw [hk1, Int.toNat_natCast]; exact hb0
            cases hmo : moreF ui (usesF x) <;>
            · simp [e0, e5, e46, e47, e48, hj, r1, r2'.2.2.2.2.2, put5, hW1, rdN_ob h11, rdC_ob h11, implInsDef, keeps_call, hkp, hk1, hix, hrd, hcall, hW2, hua, hmo, hW3, up1 hj qll]
              exact hfin _ (.inr ⟨hd, hus⟩) (by rw [hmo]; simp [e0, e5, e46, e47])
          | false =>
            rw [hb0] at hrd
            have hno : ¬ (keepsF x.op = true ∨ (0 ≤ insDefF x ∧ Us ui (insDefF x))) := fun h => by
              rcases h with h | ⟨_, h⟩
              · rw [hkp] at h; cases h
              · unfold Us at h; rw [hk1, Int.toNat_natCast, hb0] at h; cases h
            simp [e0, e5, e46, e47, e48, hj, r1, r2'.2.2.2.2.2, put5, hW1, rdN_ob h11, rdC_ob h11, implInsDef, keeps_call, hkp, hk1, hix, hrd, up1 hj qll]
            exact (hJ _ _).2 ⟨ui, m, hW.trans hpW1, hU1, hR, hskip hno, by simp [e0, e5, e46, e47]⟩
        · have hno : ¬ (keepsF x.op = true ∨ (0 ≤ insDefF x ∧ Us ui (insDefF x))) := fun h => by
            rcases h with h | ⟨h, _⟩
            · rw [hkp] at h; cases h
            · exact hd h
          simp [e0, e5, e46, e47, e48, hj, r1, r2'.2.2.2.2.2, put5, hW1, rdN_ob h11, rdC_ob h11, implInsDef, keeps_call, hkp, hd, up1 hj qll]
          exact (hJ _ _).2 ⟨ui, m, hW.trans hpW1, hU1, hR, hskip hno, by simp [e0, e5, e46, e47]⟩
    · rintro ⟨e', W⟩ hJs
      obtain ⟨ui, m, hW, hUW, hR, hc, e0, e5, e46, e47, e48⟩ := (hJ _ _).1 hJs
      simp only at hW hUW e0 e5 e46 e47 e48 ⊢
      rw [List.take_length] at hc
      unfold vf108b2
      simp [e0, e5, e46, e47, e48]
      exact BlkRes.gc hp ho hW hUW hR fun hf => ⟨(hc hf).1.1, (hc hf).1.2, (hc hf).2⟩
end Go.Proofs.YtgdfgnppeekfjaaGreat.Vm
end
section
/- Used: the program's side. No conditions. -/
namespace Go.Proofs.YtgdfgnppeekfjaaGreat.Vm
open Go.RowKit (wrap64)
set_option linter.unusedSimpArgs false
set_option linter.unusedVariables false
noncomputable def used0 (f : FnR) : List Bool := if checkF f = 0 then usedW f else []
theorem usedW_len (f : FnR) : (usedW f).length = f.values.toNat := by simp [usedW]
theorem cf_reps (n : Nat) : cf (List.replicate n false) = n := by unfold cf; rw [List.count_replicate]; simp
set_option maxRecDepth 100000 in
theorem implUsed {H : Hp} {v : CV} {f : FnR} (hv : Blocks H v f.blocks) (hb : f.blocks.length ≤ BIG) :
    ∃ w L, RowB H w L (used0 f) ∧ ∀ k : IV × Hp → Prop, CM 39 [.agg [v, .i f.values]] H k = k (.c w, H ++ L) := by
  obtain ⟨X, hX⟩ : ∃ X, H ++ [(⟨[v, .i f.values], 0, true, 2⟩ : Ob)] = X := ⟨_, rfl⟩
  have hp : Pre H X := ⟨_, hX.symm⟩
  have hB : rdOb X H.length 0 = some ⟨[v, .i f.values], 0, true, 2⟩ := by rw [← hX]; simp
  have hvX := Blocks.pre hp hv
  by_cases hck : checkF f = 0
  · obtain ⟨hsh, _, _, _, _⟩ := check_well hck
    obtain ⟨s1, s2, s3, s4⟩ := shape_len hsh
    have hu0 : used0 f = usedW f := by unfold used0; rw [if_pos hck]
    refine ⟨.sl H.length 0 0 (usedW f).length, [⟨(usedW f).map .b, 0, true, 1⟩], .inr ⟨by rw [hu0], by rw [hu0]⟩, fun k => det (cw39 ?_) k⟩
    unfold vf39c
    have hm1 : (0 ≤ f.values ∧ f.values ≤ (LIM : Int)) = True := eq_true ⟨s3, by simp only [LIM]; omega⟩
    obtain ⟨X1, hX1⟩ : ∃ X1, X ++ [(⟨List.replicate f.values.toNat (.b false), 0, true, 1⟩ : Ob)] = X1 := ⟨_, rfl⟩
    have hp1 : Pre X X1 := ⟨_, hX1.symm⟩
    have hlX : X.length = H.length + 1 := by rw [← hX]; simp
    have hU1 : rdOb X1 X.length 0 = some (UsOb (List.replicate f.values.toNat false)) := by rw [← hX1]; simp [UsOb]
    have hB1 := hp1.rdOb hB
    have hl := hv.lenOf
    simp [hX, rdN_ob hB, rdC_ob hB, implCheck hvX hb, hck, hm1, hX1]
    obtain ⟨O, hO⟩ : ∃ O : Nat → St → Prop, ∀ n st, O n st ↔ (∃ us m, Pre X st.h ∧ rdOb st.h X.length 0 = some (UsOb us) ∧ us.length = f.values.toNat ∧ (∀ j : Nat, us.getD j false = true → UsedP f.blocks j) ∧ (m = false → ∀ b ∈ f.blocks, ClosedB us b) ∧ cf us + (if m = true then 1 else 0) ≤ n ∧
        Env.get st.e 1 = .c (.p H.length 0 0) ∧ Env.get st.e 3 = .c (.sl X.length 0 0 f.values.toNat) ∧ Env.get st.e 4 = .c (.b m)) := ⟨_, fun _ _ => Iff.rfl⟩
    refine wp_loop CM_mono O (k := f.values.toNat + 1) ((hO _ _).2 ⟨_, true, hp1, hU1, by simp, fun j hj => ?_, fun h => (by cases h), by rw [cf_reps]; simp, by simp⟩) ?_
    · rw [List.getD_eq_getElem?_getD, List.getElem?_replicate] at hj
      split at hj <;> simp at hj
    · rintro n ⟨e, Y⟩ hOs
      obtain ⟨us, m, hY, hUY, hul, hs, hc, hcf, e1, e3, e4⟩ := (hO _ _).1 hOs
      simp only at hY hUY e1 e3 e4 ⊢
      have hBY := hY.rdOb hB
      unfold vf39b1
      cases m with
      | false =>
        have hfin := used_done hul hs (hc rfl)
        simp [e1, e3, e4]
        rw [hfin] at hUY
        rw [gcRet_row (o := UsOb (usedW f)) (hp.trans hY) (by omega) hUY rfl (by simp [UsOb, flatC])]
        simp [UsOb, usedW_len]
      | true =>
        simp [e1, e3, e4, rdC_ob hBY, hl]
        obtain ⟨I, hI⟩ : ∃ I : Nat → St → Prop, ∀ i st, I i st ↔ (∃ ui m, Pre X st.h ∧ rdOb st.h X.length 0 = some (UsOb ui) ∧ Rnd f.blocks us ui m ∧ (m = false → ∀ b ∈ f.blocks.take i, ClosedB us b) ∧
            Env.get st.e 1 = .c (.p H.length 0 0) ∧ Env.get st.e 3 = .c (.sl X.length 0 0 f.values.toNat) ∧ Env.get st.e 4 = .c (.b m) ∧ Env.get st.e 15 = .c v ∧ Env.get st.e 16 = .c (.i f.blocks.length) ∧ Env.get st.e 17 = .c (.i i)) := ⟨_, fun _ _ => Iff.rfl⟩
        refine wp_for CM_mono f.blocks.length I ((hI _ _).2 ⟨us, false, hY, hUY, Rnd.refl hs, fun _ => by simp, by simp [e1, e3]⟩) ?_ ?_
        · rintro i ⟨e', Z⟩ hi hIs
          obtain ⟨ui, m, hZ, hUZ, hR, hc, e1, e3, e4, e15, e16, e17⟩ := (hI _ _).1 hIs
          simp only at hZ hUZ e1 e3 e4 e15 e16 e17 ⊢
          have hmem : f.blocks[i] ∈ f.blocks := List.getElem_mem hi
          obtain ⟨i0, g0, off0, w, u, q1, _, q2, qp, ql, qpl, qll, _, _⟩ := Blocks.get hvX hi
          obtain ⟨GY, hGY⟩ := id hZ
          have q2' := q2 GY
          rw [← hGY] at q2'
          obtain ⟨t, ht⟩ : ∃ t, f.blocks[i].term = t := ⟨_, rfl⟩
          rw [ht] at q2'
          have huil : ui.length = us.length := hR.len
          obtain ⟨Z1, hZ1⟩ : ∃ Z1, Z ++ [(⟨[w, u, .i t.kind, .i t.a, .i t.to, .i t.els], 0, true, 6⟩ : Ob)] = Z1 := ⟨_, rfl⟩
          have hpZ1 : Pre Z Z1 := ⟨_, hZ1.symm⟩
          have h6 : rdOb Z1 Z.length 0 = some ⟨[w, u, .i t.kind, .i t.a, .i t.to, .i t.els], 0, true, 6⟩ := by rw [← hZ1]; simp
          have hU1 := hpZ1.rdOb hUZ
          unfold vf39b0
          simp [e1, e3, e4, e15, e16, e17, hi, q1, q2'.2.2.2.2.2.2.2.2.2.2, put66c, hZ1, rdN_ob h6]
          have hub := useBlock_call hsh hmem qp ql qpl qll (hZ.trans hpZ1) (uid := X.length) (Nat.le_refl _) hU1 (by omega) hR.snd ht
          rw [show ui.length = f.values.toNat by omega] at hub
          refine hub.mono ?_
          rintro _ ⟨u2, m2, Z2, rfl, hZ2, hU2, hR2, hc2⟩
          have hRn := hR.trans hR2
          have hcl : (m || m2) = false → ∀ b ∈ f.blocks.take (i + 1), ClosedB us b := fun h => by
            rw [Bool.or_eq_false_iff] at h
            exact all_take hi (hc h.1) (by rw [← hR.no h.1]; exact hc2 h.2)
          cases m2 with
          | true =>
            rw [Bool.or_true] at hRn hcl
            simp [e1, e3, e4, e15, e16, e17, up1 hi hb]
            exact (hI _ _).2 ⟨u2, true, hZ2, hU2, hRn, hcl, by simp [e1, e3, e15, e16]⟩
          | false =>
            rw [Bool.or_false] at hRn hcl
            simp [e1, e3, e4, e15, e16, e17, up1 hi hb]
            exact (hI _ _).2 ⟨u2, m, hZ2, hU2, hRn, hcl, by simp [e1, e3, e4, e15, e16]⟩
        · rintro ⟨e', Z⟩ hIs
          obtain ⟨ui, m, hZ, hUZ, hR, hc, e1, e3, e4, e15, e16, e17⟩ := (hI _ _).1 hIs
          simp only at hZ hUZ e1 e3 e4 e15 e16 e17 ⊢
          rw [List.take_length] at hc
          unfold vf39b0
          simp [e1, e3, e4, e15, e16, e17]
          simp at hcf
          have hlen := hR.len
          cases m with
          | true =>
            have := hR.yes rfl
            exact ⟨n - 1, by omega, (hO _ _).2 ⟨ui, true, hZ, hUZ, by omega, hR.snd, fun h => (by cases h), by simp; omega, by simp [e1, e3, e4]⟩⟩
          | false =>
            have hno := hR.no rfl
            exact ⟨n - 1, by omega, (hO _ _).2 ⟨ui, false, hZ, hUZ, by omega, hR.snd, fun _ => (by rw [hno]; exact hc rfl), by rw [hno]; simp; omega, by simp [e1, e3, e4]⟩⟩
  · have hu0 : used0 f = [] := by unfold used0; rw [if_neg hck]
    refine ⟨.ns, [], .inl ⟨rfl, rfl, hu0⟩, fun k => det (cw39 ?_) k⟩
    unfold vf39c
    simp [hX, rdN_ob hB, implCheck hvX hb, hck]
    rw [gcRet_flat hp rfl]
end Go.Proofs.YtgdfgnppeekfjaaGreat.Vm
end
section
/- A round of what is used: the specification's side. No conditions. -/
namespace Go.Proofs.YtgdfgnppeekfjaaGreat.Vm
open Go.RowKit (wrap64)
set_option linter.unusedSimpArgs false
set_option linter.unusedVariables false
def RoundRes (H : Hp) (bs : List BlkR) (uid : Nat) (us : List Bool) (r : IV × Hp) : Prop :=
  ∃ us' m Y, r = (.c (.b m), Y) ∧ Pre H Y ∧ rdOb Y uid 0 = some (UsOb us') ∧ Rnd bs us us' m ∧ (m = false → ∀ b ∈ bs, ClosedB us b)
theorem RoundRes.gc {H X Y : Hp} {bs : List BlkR} {uid : Nat} {us us' : List Bool} {m : Bool} (hX : Pre H X) (ho : rdOb X uid 0 = some (UsOb us)) (hY : Pre H Y) (hU : rdOb Y uid 0 = some (UsOb us'))
    (hR : Rnd bs us us' m) (hc : m = false → ∀ b ∈ bs, ClosedB us b) : RoundRes H bs uid us (gcRet X (.c (.b m)) Y) := by
  unfold gcRet
  split
  · rename_i h
    have hp : Pre X Y := ⟨Y.drop X.length, by have := List.take_append_drop X.length Y; rw [h] at this; exact this.symm⟩
    have := hp.rdOb ho
    rw [hU] at this
    refine ⟨us', m, X, ?_, hX, by rw [ho, ← this], hR, hc⟩
    rw [if_pos (show flatV (.c (.b m)) = true from rfl)]
  · exact ⟨us', m, Y, rfl, hY, hU, hR, hc⟩
set_option maxRecDepth 100000 in
theorem round_call {H X : Hp} {v : CV} {f : FnR} (hv : Blocks H v f.blocks) (hbb : f.blocks.length ≤ BIG) (hsh : shapeB f = true) (hp : Pre H X) {uid : Nat} (hu : H.length ≤ uid) {us : List Bool}
    (ho : rdOb X uid 0 = some (UsOb us)) (hl : us.length = f.values.toNat) (hs : ∀ j : Nat, us.getD j false = true → UsedP f.blocks j) :
    CM 166 [.agg [v, .i f.values], .c (.sl uid 0 0 us.length)] X (RoundRes H f.blocks uid us) := by
  refine cw166 ?_
  unfold vf166c
  have hlt := rdOb_lt ho
  obtain ⟨X1, hX1⟩ : ∃ X1, X ++ [(⟨[v, .i f.values], 0, true, 2⟩ : Ob)] = X1 := ⟨_, rfl⟩
  have hp1 : Pre X X1 := ⟨_, hX1.symm⟩
  have hB1 : rdOb X1 X.length 0 = some ⟨[v, .i f.values], 0, true, 2⟩ := by rw [← hX1]; simp
  have hU1 := hp1.rdOb ho
  have hne : X.length ≠ uid := by omega
  have hvl := hv.lenOf
  simp [hX1]
  obtain ⟨I, hI⟩ : ∃ I : Nat → St → Prop, ∀ i st, I i st ↔ (∃ ui m, Pre H st.h ∧ rdOb st.h uid 0 = some (UsOb ui) ∧ Rnd f.blocks us ui m ∧ (m = false → ∀ b ∈ f.blocks.take i, ClosedB us b) ∧ rdOb st.h X.length 0 = some ⟨[v, .i f.values], 0, true, 2⟩ ∧
      Env.get st.e 1 = .c (.sl uid 0 0 us.length) ∧ Env.get st.e 2 = .c (.p X.length 0 0) ∧ Env.get st.e 5 = .c (.b m) ∧ Env.get st.e 6 = .c (.i i)) := ⟨_, fun _ _ => Iff.rfl⟩
  refine wp_for CM_mono f.blocks.length I ((hI _ _).2 ⟨us, false, hp.trans hp1, hU1, Rnd.refl hs, fun _ => by simp, hB1, by simp⟩) ?_ ?_
  · rintro i ⟨e, Z⟩ hi hIs
    obtain ⟨ui, m, hZ, hU, hR, hc, hBZ, e1, e2, e5, e6⟩ := (hI _ _).1 hIs
    simp only at hZ hU hBZ e1 e2 e5 e6 ⊢
    have hmem : f.blocks[i] ∈ f.blocks := List.getElem_mem hi
    obtain ⟨b, hb⟩ : ∃ b, f.blocks[i] = b := ⟨_, rfl⟩
    obtain ⟨i0, g0, off0, w, u, q1, _, q2, qp, ql, qpl, qll, _, _⟩ := Blocks.get hv hi
    obtain ⟨GZ, hGZ⟩ := id hZ
    have q2' := q2 GZ
    rw [← hGZ] at q2'
    rw [hb] at q2' qp ql qpl qll hmem
    obtain ⟨t, ht⟩ : ∃ t, b.term = t := ⟨_, rfl⟩
    rw [ht] at q2'
    obtain ⟨Z1, hZ1⟩ : ∃ Z1, Z ++ [(⟨[w, u, .i t.kind, .i t.a, .i t.to, .i t.els], 0, true, 6⟩ : Ob)] = Z1 := ⟨_, rfl⟩
    have hpZ1 : Pre Z Z1 := ⟨_, hZ1.symm⟩
    have h7 : rdOb Z1 Z.length 0 = some ⟨[w, u, .i t.kind, .i t.a, .i t.to, .i t.els], 0, true, 6⟩ := by rw [← hZ1]; simp
    have hU1 := hpZ1.rdOb hU
    have hltZ := rdOb_lt hU
    have hltB := rdOb_lt hBZ
    have hne7 : Z.length ≠ uid := by omega
    have hpl := qp.lenOf
    have hll := ql.lenOf
    unfold vf166b3
    simp [e1, e2, e5, e6, rdC_ob hBZ, hvl, hi, q1, q2'.2.2.2.2.2.2.2.2.2.2, put66c, hZ1]
    obtain ⟨J, hJ⟩ : ∃ J : Nat → St → Prop, ∀ j st, J j st ↔ (∃ ui m, Pre H st.h ∧ rdOb st.h uid 0 = some (UsOb ui) ∧ Rnd f.blocks us ui m ∧ (m = false → (∀ b ∈ f.blocks.take i, ClosedB us b) ∧ ∀ x ∈ b.list.take j, InsOk us x) ∧ rdOb st.h X.length 0 = some ⟨[v, .i f.values], 0, true, 2⟩ ∧ rdOb st.h Z.length 0 = some ⟨[w, u, .i t.kind, .i t.a, .i t.to, .i t.els], 0, true, 6⟩ ∧
            Env.get st.e 1 = .c (.sl uid 0 0 us.length) ∧ Env.get st.e 2 = .c (.p X.length 0 0) ∧ Env.get st.e 5 = .c (.b m) ∧ Env.get st.e 6 = .c (.i i) ∧ Env.get st.e 7 = .c (.p Z.length 0 0) ∧ Env.get st.e 8 = .c (.i j)) := ⟨_, fun _ _ => Iff.rfl⟩
    refine wp_for CM_mono b.list.length J ((hJ _ _).2 ⟨ui, m, hZ.trans hpZ1, hU1, hR, fun h => ⟨hc h, by simp⟩, hpZ1.rdOb hBZ, h7, by simp [e1, e2, e5, e6]⟩) ?_ ?_
    · rintro j ⟨e', W⟩ hj hJs
      obtain ⟨ui, m, hW, hUW, hR, hc, hBW, h7W, e1, e2, e5, e6, e7, e8⟩ := (hJ _ _).1 hJs
      simp only at hW hUW hBW h7W e1 e2 e5 e6 e7 e8 ⊢
      obtain ⟨id2, g2, off2, r1, _, r2, _⟩ := List5.get (List5.pre hW ql) hj
      have r2' := r2 []
      rw [List.append_nil] at r2'
      obtain ⟨x, hx⟩ : ∃ x, b.list[j] = x := ⟨_, rfl⟩
      have hxm : x ∈ b.list := hx ▸ List.getElem_mem hj
      have hxB := shape_ins hsh hmem hxm
      rw [hx] at r2'
      have hul : ui.length = us.length := hR.len
      obtain ⟨uw, L, hw, hcall⟩ := specUses W x
      obtain ⟨W2, hW2⟩ : ∃ W2, W ++ L = W2 := ⟨_, rfl⟩
      have hwI := hw.isI
      have hpW2 : Pre W W2 := ⟨_, hW2.symm⟩
      rw [hW2] at hwI
      have hU2 := hpW2.rdOb hUW
      have hvx := uses_vals hsh hmem hxm
      have hua := fun k => specMark hU2 hwI (by rw [hul, hl]; exact hvx) (Nat.le_trans (usesF_le x) (by simp [BIG])) k
      rw [hul] at hua
      obtain ⟨W3, hW3⟩ : ∃ W3, W2.set uid (UsOb (markAll ui (usesF x))) = W3 := ⟨_, rfl⟩
      have hU3 : rdOb W3 uid 0 = some (UsOb (markAll ui (usesF x))) := by rw [← hW3, rdOb_set_self (rdOb_lt hU2)]; simp [UsOb]
      have hpH3 : Pre H W3 := by rw [← hW3]; exact (hW.trans hpW2).set hu _
      have hB3 : rdOb W3 X.length 0 = some ⟨[v, .i f.values], 0, true, 2⟩ := by rw [← hW3, rdOb_set_ne hne]; exact hpW2.rdOb hBW
      have h73 : rdOb W3 Z.length 0 = some ⟨[w, u, .i t.kind, .i t.a, .i t.to, .i t.els], 0, true, 6⟩ := by rw [← hW3, rdOb_set_ne hne7]; exact hpW2.rdOb h7W
      have hgo : (keepsF x.op = true ∨ (0 ≤ insDefF x ∧ Us ui (insDefF x))) → Rnd f.blocks us (markAll ui (usesF x)) (m || moreF ui (usesF x)) := fun hk => hR.mark (by rw [hl]; exact hvx) (fun v hv => by
        rcases hk with hk | ⟨hd, hk⟩
        · exact .stay hmem hxm hk hv
        · refine .make hmem hxm hd ?_ hv
          obtain ⟨k, h1, _⟩ := ins_def hxB hd
          unfold Us at hk
          rw [h1, Int.toNat_natCast] at hk
          rw [h1]; exact hR.snd k hk)
      have hcl : moreF ui (usesF x) = false → m = false → (∀ b ∈ f.blocks.take i, ClosedB us b) ∧ ∀ x ∈ b.list.take (j + 1), InsOk us x := fun h1 h2 => by
        refine ⟨(hc h2).1, all_take hj (hc h2).2 ?_⟩
        rw [hx, ← hR.no h2]; exact fun _ => moreF_no h1
      have hskip : ¬ (keepsF x.op = true ∨ (0 ≤ insDefF x ∧ Us ui (insDefF x))) → m = false → (∀ b ∈ f.blocks.take i, ClosedB us b) ∧ ∀ x ∈ b.list.take (j + 1), InsOk us x := fun h1 h2 => by
        refine ⟨(hc h2).1, all_take hj (hc h2).2 ?_⟩
        rw [hx, ← hR.no h2]; exact fun hk => absurd hk h1
      have hfin : ∀ (e'' : Env), (keepsF x.op = true ∨ (0 ≤ insDefF x ∧ Us ui (insDefF x))) → (Env.get e'' 1 = .c (.sl uid 0 0 us.length) ∧ Env.get e'' 2 = .c (.p X.length 0 0) ∧ Env.get e'' 5 = .c (.b (m || moreF ui (usesF x))) ∧ Env.get e'' 6 = .c (.i i) ∧ Env.get e'' 7 = .c (.p Z.length 0 0) ∧ Env.get e'' 8 = .c (.i (j + 1 : Nat))) → J (j + 1) ⟨e'', W3⟩ := fun e'' hk he => (hJ _ _).2 ⟨_, _, hpH3, hU3, hgo hk, fun hf => by
          rw [Bool.or_eq_false_iff] at hf; exact hcl hf.2 hf.1, hB3, h73, he⟩
      unfold vf166b0
      cases h21 : decide (x.op = 21) with
      | true =>
        cases hmo : moreF ui (usesF x) <;>
        · simp [e1, e2, e5, e6, e7, e8, hll, hj, rdC_ob h7W, r1, r2'.1, r2'.2.2.2.2.2, specInsDef, h21, hcall, hW2, hua, hmo, hW3, up1 hj qll]
          exact hfin _ (.inl (by unfold keepsF; rw [h21]; simp)) (by rw [hmo]; simp [e1, e2, e5, e6, e7])
      | false =>
        cases h22 : decide (x.op = 22) with
        | true =>
          cases hmo : moreF ui (usesF x) <;>
          · simp [e1, e2, e5, e6, e7, e8, hll, hj, rdC_ob h7W, r1, r2'.1, r2'.2.2.2.2.2, specInsDef, h21, h22, hcall, hW2, hua, hmo, hW3, up1 hj qll]
            exact hfin _ (.inl (by unfold keepsF; rw [h22]; simp)) (by rw [hmo]; simp [e1, e2, e5, e6, e7])
        | false =>
          cases h23 : decide (x.op = 23) with
          | true =>
            cases hmo : moreF ui (usesF x) <;>
            · simp [e1, e2, e5, e6, e7, e8, hll, hj, rdC_ob h7W, r1, r2'.1, r2'.2.2.2.2.2, specInsDef, h21, h22, h23, hcall, hW2, hua, hmo, hW3, up1 hj qll]
              exact hfin _ (.inl (by unfold keepsF; rw [h23]; simp)) (by rw [hmo]; simp [e1, e2, e5, e6, e7])
          | false =>
            by_cases hd : 0 ≤ insDefF x
            · obtain ⟨k, hk1, hk2⟩ := ins_def hxB hd
              have hrd := rdU hUW (k := k) (by omega)
              have hix : idxOf 1 (.sl uid 0 0 us.length) (k : Int) = some (.p uid 0 k) := idx1 (by omega)
              have hkp : keepsF x.op = false := by unfold keepsF; rw [h21, h22, h23]; rfl
              cases hb0 : ui.getD k false with
              | true =>
                rw [hb0] at hrd
                have hus : Us ui (insDefF x) := by unfold Us; rw [hk1, Int.toNat_natCast]; exact hb0
                cases hmo : moreF ui (usesF x) <;>
                · simp [e1, e2, e5, e6, e7, e8, hll, hj, rdC_ob h7W, r1, r2'.1, r2'.2.2.2.2.2, specInsDef, h21, h22, h23, hk1, hix, hrd, hcall, hW2, hua, hmo, hW3, up1 hj qll]
                  exact hfin _ (.inr ⟨hd, hus⟩) (by rw [hmo]; simp [e1, e2, e5, e6, e7])
              | false =>
                rw [hb0] at hrd
                have hno : ¬ (keepsF x.op = true ∨ (0 ≤ insDefF x ∧ Us ui (insDefF x))) := fun h => by
                  rcases h with h | ⟨_, h⟩
                  · rw [hkp] at h; cases h
                  · unfold Us at h; rw [hk1, Int.toNat_natCast, hb0] at h; cases h
                simp [e1, e2, e5, e6, e7, e8, hll, hj, rdC_ob h7W, r1, r2'.1, r2'.2.2.2.2.2, specInsDef, h21, h22, h23, hk1, hix, hrd, up1 hj qll]
                exact (hJ _ _).2 ⟨ui, m, hW, hUW, hR, hskip hno, hBW, h7W, by simp [e1, e2, e5, e6, e7]⟩
            · have hkp : keepsF x.op = false := by unfold keepsF; rw [h21, h22, h23]; rfl
              have hno : ¬ (keepsF x.op = true ∨ (0 ≤ insDefF x ∧ Us ui (insDefF x))) := fun h => by
                rcases h with h | ⟨h, _⟩
                · rw [hkp] at h; cases h
                · exact hd h
              simp [e1, e2, e5, e6, e7, e8, hll, hj, rdC_ob h7W, r1, r2'.1, r2'.2.2.2.2.2, specInsDef, h21, h22, h23, hd, up1 hj qll]
              exact (hJ _ _).2 ⟨ui, m, hW, hUW, hR, hskip hno, hBW, h7W, by simp [e1, e2, e5, e6, e7]⟩
    · rintro ⟨e', W⟩ hJs
      obtain ⟨ui, m, hW, hUW, hR, hc, hBW, h7W, e1, e2, e5, e6, e7, e8⟩ := (hJ _ _).1 hJs
      simp only at hW hUW hBW h7W e1 e2 e5 e6 e7 e8 ⊢
      rw [List.take_length] at hc
      unfold vf166b0
      simp [e1, e2, e5, e6, e7, e8, rdC_ob h7W, hll]
      obtain ⟨A, hA⟩ : ∃ A : Nat → St → Prop, ∀ j st, A j st ↔ (∃ ui m, Pre H st.h ∧ rdOb st.h uid 0 = some (UsOb ui) ∧ Rnd f.blocks us ui m ∧ (m = false → ((∀ b ∈ f.blocks.take i, ClosedB us b) ∧ (∀ x ∈ b.list, InsOk us x)) ∧ ∀ p ∈ b.phis.take j, PhiOk us p) ∧ rdOb st.h X.length 0 = some ⟨[v, .i f.values], 0, true, 2⟩ ∧ rdOb st.h Z.length 0 = some ⟨[w, u, .i t.kind, .i t.a, .i t.to, .i t.els], 0, true, 6⟩ ∧
              Env.get st.e 1 = .c (.sl uid 0 0 us.length) ∧ Env.get st.e 2 = .c (.p X.length 0 0) ∧ Env.get st.e 5 = .c (.b m) ∧ Env.get st.e 6 = .c (.i i) ∧ Env.get st.e 7 = .c (.p Z.length 0 0) ∧ Env.get st.e 11 = .c (.i j)) := ⟨_, fun _ _ => Iff.rfl⟩
      refine wp_for CM_mono b.phis.length A ((hA _ _).2 ⟨ui, m, hW, hUW, hR, fun h => ⟨hc h, by simp⟩, hBW, h7W, by simp [e1, e2, e5, e6, e7]⟩) ?_ ?_
      · rintro j ⟨e', W⟩ hj hAs
        obtain ⟨ui, m, hW, hUW, hR, hc, hBW, h7W, e1, e2, e5, e6, e7, e11⟩ := (hA _ _).1 hAs
        simp only at hW hUW hBW h7W e1 e2 e5 e6 e7 e11 ⊢
        obtain ⟨id2, g2, off2, w2, r1, r2, _, qa, _⟩ := Phis.get (Phis.pre hW qp) hj
        obtain ⟨ph, hph⟩ : ∃ ph, b.phis[j] = ph := ⟨_, rfl⟩
        have hpm : ph ∈ b.phis := hph ▸ List.getElem_mem hj
        have hphB := shape_phi hsh hmem hpm
        rw [hph] at r2 qa
        obtain ⟨hvd, hal, harm⟩ := phi_vals hphB
        obtain ⟨kd, hkd, hkn⟩ := val_nat hvd
        have hul : ui.length = us.length := hR.len
        have hall := qa.lenOf
        have hrd := rdU hUW (k := kd) (by omega)
        have hix : idxOf 1 (.sl uid 0 0 us.length) ph.d = some (.p uid 0 kd) := by rw [hkd]; exact idx1 (by omega)
        unfold vf166b2
        simp [e1, e2, e5, e6, e7, e11, rdC_ob h7W, hpl, hj]
        cases hm : ui.getD kd false with
        | false =>
          rw [hm] at hrd
          obtain ⟨K, hK⟩ : ∃ K : Nat → St → Prop, ∀ k st, K k st ↔ (st.h = W ∧ Env.get st.e 1 = .c (.sl uid 0 0 us.length) ∧ Env.get st.e 2 = .c (.p X.length 0 0) ∧ Env.get st.e 5 = .c (.b m) ∧ Env.get st.e 6 = .c (.i i) ∧ Env.get st.e 7 = .c (.p Z.length 0 0) ∧ Env.get st.e 11 = .c (.i j) ∧ Env.get st.e 12 = .c (.i 0)) := ⟨_, fun _ _ => Iff.rfl⟩
          refine wp_for CM_mono 0 K ((hK _ _).2 ⟨rfl, by simp [e1, e2, e5, e6, e7, e11]⟩) (fun k st hk => absurd hk (by omega)) ?_
          rintro ⟨e2', U⟩ hKs
          obtain ⟨hU, e1, e2, e5, e6, e7, e11, e12⟩ := (hK _ _).1 hKs
          simp only at hU e1 e2 e5 e6 e7 e11 e12 ⊢
          subst hU
          have hdone : m = false → ((∀ b ∈ f.blocks.take i, ClosedB us b) ∧ (∀ x ∈ b.list, InsOk us x)) ∧ ∀ p ∈ b.phis.take (j + 1), PhiOk us p := fun hf => by
            refine ⟨(hc hf).1, all_take hj (hc hf).2 ?_⟩
            rw [hph]
            intro hd
            unfold Us at hd
            rw [hkd, Int.toNat_natCast, ← hR.no hf, hm] at hd
            cases hd
          unfold vf166b1
          by_cases h0 : 0 < ph.arms.length
          · simp [e1, e2, e5, e6, e7, e11, e12, rdC_ob h7W, r1, r2.1, r2.2.1, hall, h0, hix, hrd, up1 hj qpl]
            exact (hA _ _).2 ⟨ui, m, hW, hUW, hR, hdone, hBW, h7W, by simp [e1, e2, e5, e6, e7]⟩
          · simp [e1, e2, e5, e6, e7, e11, e12, rdC_ob h7W, r1, r2.1, r2.2.1, hall, h0, hix, hrd, up1 hj qpl]
            exact (hA _ _).2 ⟨ui, m, hW, hUW, hR, hdone, hBW, h7W, by simp [e1, e2, e5, e6, e7]⟩
        | true =>
          have hud : UsedP f.blocks ph.d := by rw [hkd]; exact hR.snd kd hm
          obtain ⟨K, hK⟩ : ∃ K : Nat → St → Prop, ∀ k st, K k st ↔ (∃ ui m, ui.getD kd false = true ∧ Pre H st.h ∧ rdOb st.h uid 0 = some (UsOb ui) ∧ Rnd f.blocks us ui m ∧ (m = false → (((∀ b ∈ f.blocks.take i, ClosedB us b) ∧ (∀ x ∈ b.list, InsOk us x)) ∧ ∀ p ∈ b.phis.take j, PhiOk us p) ∧ ∀ a ∈ ph.arms.take k, Us us a.v) ∧ rdOb st.h X.length 0 = some ⟨[v, .i f.values], 0, true, 2⟩ ∧ rdOb st.h Z.length 0 = some ⟨[w, u, .i t.kind, .i t.a, .i t.to, .i t.els], 0, true, 6⟩ ∧
              Env.get st.e 1 = .c (.sl uid 0 0 us.length) ∧ Env.get st.e 2 = .c (.p X.length 0 0) ∧ Env.get st.e 5 = .c (.b m) ∧ Env.get st.e 6 = .c (.i i) ∧ Env.get st.e 7 = .c (.p Z.length 0 0) ∧ Env.get st.e 11 = .c (.i j) ∧ Env.get st.e 12 = .c (.i k)) := ⟨_, fun _ _ => Iff.rfl⟩
          refine wp_for CM_mono ph.arms.length K ((hK _ _).2 ⟨ui, m, hm, hW, hUW, hR, fun h => ⟨hc h, by simp⟩, hBW, h7W, by simp [e1, e2, e5, e6, e7, e11]⟩) ?_ ?_
          · rintro k ⟨e2', U⟩ hk hKs
            obtain ⟨uk, mk, hmk, hU, hUU, hRk, hck, hBU, h7U, e1, e2, e5, e6, e7, e11, e12⟩ := (hK _ _).1 hKs
            simp only at hU hUU hBU h7U e1 e2 e5 e6 e7 e11 e12 ⊢
            obtain ⟨id2, g2, off2, w2, r1, r2, _, qa, _⟩ := Phis.get (Phis.pre hU qp) hj
            rw [hph] at r2 qa
            have hall := qa.lenOf
            obtain ⟨id3, g3, off3, m1, ⟨m2, m3, m4⟩, m5, m6, m7⟩ := Arms.get qa hk
            obtain ⟨a, ha⟩ : ∃ a, ph.arms[k] = a := ⟨_, rfl⟩
            have hamem : a ∈ ph.arms := ha ▸ List.getElem_mem hk
            have hav := (harm k hk).2
            rw [ha] at m2 m3 m4 hav
            have hukl : uk.length = us.length := hRk.len
            have hrd := rdU hUU (k := kd) (by omega)
            rw [hmk] at hrd
            obtain ⟨W2, hW2⟩ : ∃ W2, U ++ [(⟨[.i a.v], 0, true, 1⟩ : Ob)] = W2 := ⟨_, rfl⟩
            have hpW2 : Pre U W2 := ⟨_, hW2.symm⟩
            have hrow : IsI W2 (.sl U.length 0 0 1) [a.v] := one_row (by rw [← hW2]; simp)
            have hU2 := hpW2.rdOb hUU
            have hvals : Vals uk.length [a.v] := fun v hv => by
              simp at hv; subst hv
              obtain ⟨c, h1, h2⟩ := val_nat hav
              exact ⟨c, h1, by omega⟩
            have hua := fun k => specMark hU2 hrow hvals (by simp [BIG]) k
            rw [hukl] at hua
            have hRn := hRk.mark (vs := [a.v]) (by rw [← hukl]; exact hvals) (fun v hv => by simp at hv; rw [hv]; exact .phi hmem hpm hud hamem)
            have hmk2 : (markAll uk [a.v]).getD kd false = true := by rw [markAll_get, hmk]; rfl
            obtain ⟨W3, hW3⟩ : ∃ W3, W2.set uid (UsOb (markAll uk [a.v])) = W3 := ⟨_, rfl⟩
            have hU3 : rdOb W3 uid 0 = some (UsOb (markAll uk [a.v])) := by rw [← hW3, rdOb_set_self (rdOb_lt hU2)]; simp [UsOb]
            have hB3 : rdOb W3 X.length 0 = some ⟨[v, .i f.values], 0, true, 2⟩ := by rw [← hW3, rdOb_set_ne hne]; exact hpW2.rdOb hBU
            have h73 : rdOb W3 Z.length 0 = some ⟨[w, u, .i t.kind, .i t.a, .i t.to, .i t.els], 0, true, 6⟩ := by rw [← hW3, rdOb_set_ne hne7]; exact hpW2.rdOb h7U
            have hpH3 : Pre H W3 := by rw [← hW3]; exact (hU.trans hpW2).set hu _
            have hcl : moreF uk [a.v] = false → mk = false → (((∀ b ∈ f.blocks.take i, ClosedB us b) ∧ (∀ x ∈ b.list, InsOk us x)) ∧ ∀ p ∈ b.phis.take j, PhiOk us p) ∧ ∀ a ∈ ph.arms.take (k + 1), Us us a.v := fun h1 h2 => by
              refine ⟨(hck h2).1, all_take (P := fun a : ArmR => Us us a.v) hk (hck h2).2 ?_⟩
              rw [ha, ← hRk.no h2]; exact moreF_no h1 _ (by simp)
            unfold vf166b1
            cases hmo : moreF uk [a.v] with
            | true =>
              rw [hmo, Bool.or_true] at hRn
              simp [e1, e2, e5, e6, e7, e11, e12, rdC_ob h7U, r1, r2.1, r2.2.1, hall, hk, hix, hrd, m1, m3, putL0, hW2, hua, hmo, hW3, up1 hk (show ph.arms.length ≤ BIG by simp only [BIG]; omega)]
              exact (hK _ _).2 ⟨_, true, hmk2, hpH3, hU3, hRn, (fun h => by cases h), hB3, h73, by simp [e1, e2, e6, e7, e11]⟩
            | false =>
              rw [hmo, Bool.or_false] at hRn
              simp [e1, e2, e5, e6, e7, e11, e12, rdC_ob h7U, r1, r2.1, r2.2.1, hall, hk, hix, hrd, m1, m3, putL0, hW2, hua, hmo, hW3, up1 hk (show ph.arms.length ≤ BIG by simp only [BIG]; omega)]
              exact (hK _ _).2 ⟨_, mk, hmk2, hpH3, hU3, hRn, hcl hmo, hB3, h73, by simp [e1, e2, e5, e6, e7, e11]⟩
          · rintro ⟨e2', U⟩ hKs
            obtain ⟨uk, mk, hmk, hU, hUU, hRk, hck, hBU, h7U, e1, e2, e5, e6, e7, e11, e12⟩ := (hK _ _).1 hKs
            simp only at hU hUU hBU h7U e1 e2 e5 e6 e7 e11 e12 ⊢
            rw [List.take_length] at hck
            obtain ⟨id2, g2, off2, w2, r1, r2, _, qa, _⟩ := Phis.get (Phis.pre hU qp) hj
            rw [hph] at r2 qa
            have hall := qa.lenOf
            unfold vf166b1
            simp [e1, e2, e5, e6, e7, e11, e12, rdC_ob h7U, r1, r2.1, r2.2.1, hall, up1 hj qpl]
            exact (hA _ _).2 ⟨uk, mk, hU, hUU, hRk, fun hf => ⟨(hck hf).1.1, all_take hj (hck hf).1.2 (by rw [hph]; exact fun _ => (hck hf).2)⟩, hBU, h7U, by simp [e1, e2, e5, e6, e7]⟩
      · rintro ⟨e', W⟩ hAs
        obtain ⟨ui, m, hW, hUW, hR, hc, hBW, h7W, e1, e2, e5, e6, e7, e11⟩ := (hA _ _).1 hAs
        simp only at hW hUW hBW h7W e1 e2 e5 e6 e7 e11 ⊢
        rw [List.take_length] at hc
        have hul : ui.length = us.length := hR.len
        obtain ⟨tw, L, hw, hcall⟩ := specTUses W t
        obtain ⟨W2, hW2⟩ : ∃ W2, W ++ L = W2 := ⟨_, rfl⟩
        have hwI := hw.isI
        have hpW2 : Pre W W2 := ⟨_, hW2.symm⟩
        rw [hW2] at hwI
        have hU2 := hpW2.rdOb hUW
        have hvt := tuses_vals hsh hmem
        rw [ht] at hvt
        have hua := fun k => specMark hU2 hwI (by rw [hul, hl]; exact hvt) (Nat.le_trans (tusesF_le t) (by simp [BIG])) k
        rw [hul] at hua
        have hRn := hR.mark (vs := tusesF t) (by rw [hl]; exact hvt) (fun v hv => .term hmem (by rw [ht]; exact hv))
        obtain ⟨W3, hW3⟩ : ∃ W3, W2.set uid (UsOb (markAll ui (tusesF t))) = W3 := ⟨_, rfl⟩
        have hU3 : rdOb W3 uid 0 = some (UsOb (markAll ui (tusesF t))) := by rw [← hW3, rdOb_set_self (rdOb_lt hU2)]; simp [UsOb]
        have hB3 : rdOb W3 X.length 0 = some ⟨[v, .i f.values], 0, true, 2⟩ := by rw [← hW3, rdOb_set_ne hne]; exact hpW2.rdOb hBW
        have hpH3 : Pre H W3 := by rw [← hW3]; exact (hW.trans hpW2).set hu _
        have hcl : (m || moreF ui (tusesF t)) = false → ∀ b ∈ f.blocks.take (i + 1), ClosedB us b := fun h => by
          rw [Bool.or_eq_false_iff] at h
          refine all_take hi (hc h.1).1.1 ?_
          rw [hb]
          exact ⟨by rw [ht, ← hR.no h.1]; exact moreF_no h.2, (hc h.1).2, (hc h.1).1.2⟩
        unfold vf166b2
        cases hmo : moreF ui (tusesF t) with
        | true =>
          rw [hmo, Bool.or_true] at hRn hcl
          simp [e1, e2, e5, e6, e7, e11, rdC_ob h7W, rdN_ob h7W, hpl, hcall, hW2, hua, hmo, hW3, up1 hi hbb]
          exact (hI _ _).2 ⟨_, true, hpH3, hU3, hRn, hcl, hB3, by simp [e1, e2]⟩
        | false =>
          rw [hmo, Bool.or_false] at hRn hcl
          simp [e1, e2, e5, e6, e7, e11, rdC_ob h7W, rdN_ob h7W, hpl, hcall, hW2, hua, hmo, hW3, up1 hi hbb]
          exact (hI _ _).2 ⟨_, m, hpH3, hU3, hRn, hcl, hB3, by simp [e1, e2, e5]⟩
  · rintro ⟨e, Z⟩ hIs
    obtain ⟨ui, m, hZ, hU, hR, hc, hBZ, e1, e2, e5, e6⟩ := (hI _ _).1 hIs
    simp only at hZ hU hBZ e1 e2 e5 e6 ⊢
    rw [List.take_length] at hc
    unfold vf166b3
    simp [e1, e2, e5, e6, rdC_ob hBZ, hvl]
    exact RoundRes.gc hp ho hZ hU hR hc
end Go.Proofs.YtgdfgnppeekfjaaGreat.Vm
end
section
/- Used: the specification's side. No conditions. -/
namespace Go.Proofs.YtgdfgnppeekfjaaGreat.Vm
open Go.RowKit (wrap64)
set_option linter.unusedSimpArgs false
set_option linter.unusedVariables false
set_option maxRecDepth 100000 in
theorem specUsedL {H : Hp} {v : CV} {f : FnR} (hv : Blocks H v f.blocks) (hb : f.blocks.length ≤ BIG) (hsh : shapeB f = true) (k : IV × Hp → Prop) :
    CM 107 [.agg [v, .i f.values]] H k = k (.c (.sl H.length 0 0 f.values.toNat), H ++ [⟨(usedW f).map .b, 0, true, 1⟩]) := by
  refine det (cw107 ?_) k
  unfold vf107c
  obtain ⟨s1, s2, s3, s4⟩ := shape_len hsh
  obtain ⟨X, hX⟩ : ∃ X, H ++ [(⟨[v, .i f.values], 0, true, 2⟩ : Ob)] = X := ⟨_, rfl⟩
  have hp : Pre H X := ⟨_, hX.symm⟩
  have hB : rdOb X H.length 0 = some ⟨[v, .i f.values], 0, true, 2⟩ := by rw [← hX]; simp
  have hvX := Blocks.pre hp hv
  have hm1 : (0 ≤ f.values ∧ f.values ≤ (LIM : Int)) = True := eq_true ⟨s3, by simp only [LIM]; omega⟩
  obtain ⟨X1, hX1⟩ : ∃ X1, X ++ [(⟨List.replicate f.values.toNat (.b false), 0, true, 1⟩ : Ob)] = X1 := ⟨_, rfl⟩
  have hp1 : Pre X X1 := ⟨_, hX1.symm⟩
  have hlX : X.length = H.length + 1 := by rw [← hX]; simp
  have hU1 : rdOb X1 X.length 0 = some (UsOb (List.replicate f.values.toNat false)) := by rw [← hX1]; simp [UsOb]
  simp [hX, rdN_ob hB, rdC_ob hB, hm1, hX1]
  obtain ⟨O, hO⟩ : ∃ O : Nat → St → Prop, ∀ n st, O n st ↔ (∃ us, Pre X st.h ∧ rdOb st.h X.length 0 = some (UsOb us) ∧ us.length = f.values.toNat ∧ (∀ j : Nat, us.getD j false = true → UsedP f.blocks j) ∧ cf us ≤ n ∧
      Env.get st.e 1 = .c (.p H.length 0 0) ∧ Env.get st.e 3 = .c (.sl X.length 0 0 f.values.toNat)) := ⟨_, fun _ _ => Iff.rfl⟩
  refine wp_loop CM_mono O (k := f.values.toNat) ((hO _ _).2 ⟨_, hp1, hU1, by simp, fun j hj => ?_, by rw [cf_reps]; exact Nat.le_refl _, by simp⟩) ?_
  · rw [List.getD_eq_getElem?_getD, List.getElem?_replicate] at hj
    split at hj <;> simp at hj
  · rintro n ⟨e, Y⟩ hOs
    obtain ⟨us, hY, hUY, hul, hs, hcf, e1, e3⟩ := (hO _ _).1 hOs
    simp only at hY hUY e1 e3 ⊢
    have hBY := hY.rdOb hB
    have hrc := round_call hvX hb hsh hY (Nat.le_refl _) hUY hul hs
    rw [hul] at hrc
    unfold vf107b0
    simp [e1, e3, rdN_ob hBY]
    refine hrc.mono ?_
    rintro _ ⟨u2, m2, Y2, rfl, hY2, hU2, hR2, hc2⟩
    have hlen := hR2.len
    cases m2 with
    | true =>
      have := hR2.yes rfl
      simp [e1, e3]
      exact ⟨n - 1, by omega, (hO _ _).2 ⟨u2, hY2, hU2, by omega, hR2.snd, by omega, by simp [e1, e3]⟩⟩
    | false =>
      have hno := hR2.no rfl
      have hfin := used_done hul hs (hc2 rfl)
      rw [hno, hfin] at hU2
      simp [e1, e3]
      rw [gcRet_row (o := UsOb (usedW f)) (hp.trans hY2) (by omega) hU2 rfl (by simp [UsOb, flatC])]
      simp [UsOb]
end Go.Proofs.YtgdfgnppeekfjaaGreat.Vm
end
