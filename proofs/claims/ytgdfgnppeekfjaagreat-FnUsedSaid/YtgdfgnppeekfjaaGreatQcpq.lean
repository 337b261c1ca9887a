import Derived.Test.YtgdfgnppeekfjaaGreatP5
section
section
/- Values made used: both sides. No conditions. -/
namespace Go.Proofs.YtgdfgnppeekfjaaGreat.Vm
open Go.RowKit (wrap64)
set_option linter.unusedSimpArgs false
set_option linter.unusedVariables false
def mk1 (us : List Bool) (v : Int) : List Bool := us.set v.toNat true
def markAll (us : List Bool) (vs : List Int) : List Bool := vs.foldl mk1 us
def moreF (us : List Bool) (vs : List Int) : Bool := vs.any fun v => !us.getD v.toNat false
def Vals (n : Nat) (vs : List Int) : Prop := ∀ v ∈ vs, ∃ k : Nat, v = k ∧ k < n
theorem mk1_len (us : List Bool) (v : Int) : (mk1 us v).length = us.length := by simp [mk1]
theorem markAll_len : ∀ (vs : List Int) (us : List Bool), (markAll us vs).length = us.length := by
  intro vs
  induction vs with
  | nil => intro us; rfl
  | cons v r ih => intro us; unfold markAll at ih ⊢; rw [List.foldl_cons, ih, mk1_len]
theorem mk1_get (us : List Bool) (v : Int) (j : Nat) : (mk1 us v).getD j false = (us.getD j false || (decide (v.toNat = j) && decide (j < us.length))) := by
  unfold mk1
  rw [List.getD_eq_getElem?_getD, List.getElem?_set, List.getD_eq_getElem?_getD]
  by_cases h : v.toNat = j
  · subst h
    by_cases hl : v.toNat < us.length
    · simp [hl]
    · simp [hl]
  · simp [h]
theorem markAll_get : ∀ (vs : List Int) (us : List Bool) (j : Nat), (markAll us vs).getD j false = (us.getD j false || (vs.any (fun v => decide (v.toNat = j)) && decide (j < us.length))) := by
  intro vs
  induction vs with
  | nil => intro us j; simp [markAll]
  | cons v r ih =>
    intro us j
    have : markAll us (v :: r) = markAll (mk1 us v) r := rfl
    rw [this, ih, mk1_get, mk1_len, List.any_cons]
    cases us.getD j false <;> cases decide (v.toNat = j) <;> cases decide (j < us.length) <;> simp
theorem moreF_snoc {n : Nat} {us : List Bool} {vs : List Int} {i : Nat} (hn : us.length = n) (hv : Vals n vs) (hi : i < vs.length) :
    moreF us (vs.take (i + 1)) = (moreF us (vs.take i) || !(markAll us (vs.take i)).getD (vs[i].toNat) false) := by
  unfold moreF
  rw [List.take_succ_eq_append_getElem hi, List.any_append, markAll_get]
  obtain ⟨k, hk, hkn⟩ := hv _ (List.getElem_mem hi)
  rw [hk]
  simp only [List.any_cons, List.any_nil, Bool.or_false, Int.toNat_natCast, hn, hkn, decide_true, Bool.and_true]
  cases hu : us.getD k false with
  | true => simp
  | false =>
    cases ha : (vs.take i).any (fun v => decide (v.toNat = k)) with
    | false => simp
    | true =>
      obtain ⟨v, hv1, hv2⟩ := List.any_eq_true.1 ha
      have : ((vs.take i).any fun v => !us.getD v.toNat false) = true := List.any_eq_true.2 ⟨v, hv1, by rw [of_decide_eq_true hv2, hu]; rfl⟩
      rw [this]; simp
theorem markAll_snoc {us : List Bool} {vs : List Int} {i : Nat} (hi : i < vs.length) : markAll us (vs.take (i + 1)) = mk1 (markAll us (vs.take i)) vs[i] := by
  unfold markAll
  rw [List.take_succ_eq_append_getElem hi, List.foldl_append]; rfl
theorem set_true {us : List Bool} {k : Nat} (h : us.getD k false = true) : us.set k true = us := by
  apply List.ext_getElem?
  intro j
  rw [List.getElem?_set]
  by_cases e : k = j
  · subst e
    rw [if_pos rfl]
    rw [List.getD_eq_getElem?_getD] at h
    cases hj : us[k]? with
    | none => rw [hj] at h; simp at h
    | some b =>
      rw [hj] at h
      simp at h
      subst h
      have := (List.getElem?_eq_some_iff.1 hj).1
      simp [this]
  · rw [if_neg e]
def UsOb (us : List Bool) : Ob := ⟨us.map .b, 0, true, 1⟩
theorem IsI.set_us {X : Hp} {w : CV} {vs : List Int} (h : IsI X w vs) {uid : Nat} {us us' : List Bool} (ho : rdOb X uid 0 = some (UsOb us)) (hl : us'.length = us.length) : IsI (X.set uid (UsOb us')) w vs := by
  rcases h with ⟨h1, h2, h3⟩ | ⟨id, g, off, ob, h1, h2, h3, h4, h5⟩
  · exact .inl ⟨h1, h2, h3⟩
  · by_cases hne : id = uid
    · subst hne
      have a := rdOb_some.1 ho
      have b := rdOb_some.1 h2
      have e : ob = UsOb us := by rw [a.1] at b; injection b.1 with b; exact b.symm
      have hg : g = 0 := by have := b.2; rw [e] at this; exact this.symm
      subst hg
      subst e
      refine .inr ⟨id, 0, off, UsOb us', h1, by rw [rdOb_set_self (rdOb_lt ho)]; simp [UsOb], h3, ?_, ?_⟩
      · simpa [UsOb, hl] using h4
      · cases vs with
        | nil => simp
        | cons v r =>
          exfalso
          have := congrArg (fun l => l[0]?) h5
          simp [UsOb, List.getElem?_take, List.getElem?_drop] at this
    · exact .inr ⟨id, g, off, ob, h1, by rw [rdOb_set_ne hne]; exact h2, h3, h4, h5⟩
end Go.Proofs.YtgdfgnppeekfjaaGreat.Vm
end
end
section
section
/- What is used, plain: the least that holds what must be. No conditions. -/
namespace Go.Proofs.YtgdfgnppeekfjaaGreat.Vm
open Go.RowKit (wrap64)
set_option linter.unusedSimpArgs false
set_option linter.unusedVariables false
def keepsF (op : Int) : Bool := decide (op = 22) || decide (op = 23) || decide (op = 21)
inductive UsedP (bs : List BlkR) : Int → Prop
  | term {b : BlkR} (hb : b ∈ bs) {v : Int} (hv : v ∈ tusesF b.term) : UsedP bs v
  | stay {b : BlkR} (hb : b ∈ bs) {x : InsR} (hx : x ∈ b.list) (hs : keepsF x.op = true) {v : Int} (hv : v ∈ usesF x) : UsedP bs v
  | make {b : BlkR} (hb : b ∈ bs) {x : InsR} (hx : x ∈ b.list) (hd : 0 ≤ insDefF x) (hu : UsedP bs (insDefF x)) {v : Int} (hv : v ∈ usesF x) : UsedP bs v
  | phi {b : BlkR} (hb : b ∈ bs) {p : PhiR} (hp : p ∈ b.phis) (hu : UsedP bs p.d) {a : ArmR} (ha : a ∈ p.arms) : UsedP bs a.v
def Us (us : List Bool) (v : Int) : Prop := us.getD v.toNat false = true
structure Rnd (bs : List BlkR) (us0 us : List Bool) (m : Bool) : Prop where
  len : us.length = us0.length
  snd : ∀ j : Nat, us.getD j false = true → UsedP bs j
  no : m = false → us = us0
  yes : m = true → cf us < cf us0
theorem moreF_no {us : List Bool} {vs : List Int} (h : moreF us vs = false) : ∀ v ∈ vs, Us us v := by
  intro v hv
  unfold moreF at h
  rw [List.any_eq_false] at h
  have := h v hv
  unfold Us
  simpa using this
theorem markAll_no : ∀ {vs : List Int} {us : List Bool}, (∀ v ∈ vs, Us us v) → markAll us vs = us := by
  intro vs
  induction vs with
  | nil => intro us _; rfl
  | cons v r ih =>
    intro us h
    have e : markAll us (v :: r) = markAll (mk1 us v) r := rfl
    have : mk1 us v = us := set_true (h v (by simp))
    rw [e, this]
    exact ih fun x hx => h x (by simp [hx])
theorem mk1_cf {us : List Bool} {v : Int} (hv : v.toNat < us.length) (h : us.getD v.toNat false = false) : cf (mk1 us v) + 1 = cf us := by
  refine cf_set ?_
  rw [List.getD_eq_getElem?_getD] at h ⊢
  rw [List.getElem?_eq_getElem hv] at h ⊢
  exact h
theorem markAll_cf_le : ∀ (vs : List Int) {us : List Bool}, Vals us.length vs → cf (markAll us vs) ≤ cf us := by
  intro vs
  induction vs with
  | nil => intro us _; exact Nat.le_refl _
  | cons v r ih =>
    intro us h
    have e : markAll us (v :: r) = markAll (mk1 us v) r := rfl
    obtain ⟨k, hk, hkn⟩ := h v (by simp)
    have h2 : Vals (mk1 us v).length r := by rw [mk1_len]; exact fun x hx => h x (by simp [hx])
    have := ih h2
    rw [e]
    cases hu : us.getD v.toNat false with
    | true => rw [show mk1 us v = us from set_true hu] at this ⊢; exact this
    | false => have := mk1_cf (us := us) (v := v) (by omega) hu; omega
theorem markAll_cf : ∀ {vs : List Int} {us : List Bool}, Vals us.length vs → moreF us vs = true → cf (markAll us vs) < cf us := by
  intro vs
  induction vs with
  | nil => intro us _ h; simp [moreF] at h
  | cons v r ih =>
    intro us h hm
    have e : markAll us (v :: r) = markAll (mk1 us v) r := rfl
    obtain ⟨k, hk, hkn⟩ := h v (by simp)
    have h2 : Vals (mk1 us v).length r := by rw [mk1_len]; exact fun x hx => h x (by simp [hx])
    rw [e]
    cases hu : us.getD v.toNat false with
    | true =>
      have e1 : mk1 us v = us := set_true hu
      rw [e1] at h2 ⊢
      refine ih h2 ?_
      unfold moreF at hm ⊢
      rw [List.any_cons, hu] at hm
      simpa using hm
    | false =>
      have a := mk1_cf (us := us) (v := v) (by omega) hu
      have b := markAll_cf_le r h2
      omega
theorem Rnd.refl {bs : List BlkR} {us : List Bool} (h : ∀ j : Nat, us.getD j false = true → UsedP bs j) : Rnd bs us us false := ⟨rfl, h, fun _ => rfl, fun h => by cases h⟩
theorem Rnd.mark {bs : List BlkR} {us0 us : List Bool} {m : Bool} (h : Rnd bs us0 us m) {vs : List Int} (hv : Vals us0.length vs) (hu : ∀ v ∈ vs, UsedP bs v) : Rnd bs us0 (markAll us vs) (m || moreF us vs) := by
  refine ⟨by rw [markAll_len, h.len], fun j hj => ?_, fun hf => ?_, fun ht => ?_⟩
  · rw [markAll_get, Bool.or_eq_true] at hj
    rcases hj with hj | hj
    · exact h.snd j hj
    · rw [Bool.and_eq_true] at hj
      obtain ⟨v, hv1, hv2⟩ := List.any_eq_true.1 hj.1
      obtain ⟨k, hk, _⟩ := hv v hv1
      have : v.toNat = j := of_decide_eq_true hv2
      have e : v = (j : Int) := by omega
      rw [← e]; exact hu v hv1
  · rw [Bool.or_eq_false_iff] at hf
    rw [markAll_no (moreF_no hf.2)]
    exact h.no hf.1
  · have hv' : Vals us.length vs := by rw [h.len]; exact hv
    have hle := markAll_cf_le vs hv'
    cases hm : m with
    | true => have := h.yes hm; omega
    | false =>
      rw [hm, Bool.false_or] at ht
      have := markAll_cf hv' ht
      rw [h.no hm] at this ⊢
      exact this
theorem Rnd.trans {bs : List BlkR} {a b c : List Bool} {m n : Bool} (h : Rnd bs a b m) (k : Rnd bs b c n) : Rnd bs a c (m || n) := by
  refine ⟨k.len.trans h.len, k.snd, fun hf => ?_, fun ht => ?_⟩
  · rw [Bool.or_eq_false_iff] at hf
    rw [k.no hf.2, h.no hf.1]
  · cases hm : m with
    | true =>
      have a1 := h.yes hm
      cases hn : n with
      | true => have := k.yes hn; omega
      | false => rw [k.no hn]; exact a1
    | false =>
      rw [hm, Bool.false_or] at ht
      rw [← h.no hm]; exact k.yes ht
/-- All that a block takes for what is used is used. -/
structure ClosedB (us : List Bool) (b : BlkR) : Prop where
  term : ∀ v ∈ tusesF b.term, Us us v
  phi : ∀ p ∈ b.phis, Us us p.d → ∀ a ∈ p.arms, Us us a.v
  ins : ∀ x ∈ b.list, (keepsF x.op = true ∨ (0 ≤ insDefF x ∧ Us us (insDefF x))) → ∀ v ∈ usesF x, Us us v
theorem closed_all {bs : List BlkR} {us : List Bool} (h : ∀ b ∈ bs, ClosedB us b) : ∀ {v : Int}, UsedP bs v → Us us v := by
  intro v hv
  induction hv with
  | term hb hv => exact (h _ hb).term _ hv
  | stay hb hx hs hv => exact (h _ hb).ins _ hx (.inl hs) _ hv
  | make hb hx hd _ hv ih => exact (h _ hb).ins _ hx (.inr ⟨hd, ih⟩) _ hv
  | phi hb hp _ ha ih => exact (h _ hb).phi _ hp ih _ ha
noncomputable def usedW (f : FnR) : List Bool := (List.range f.values.toNat).map fun (j : Nat) => pB (UsedP f.blocks j)
theorem used_done {f : FnR} {us : List Bool} (hl : us.length = f.values.toNat) (hs : ∀ j : Nat, us.getD j false = true → UsedP f.blocks j) (hc : ∀ b ∈ f.blocks, ClosedB us b) : us = usedW f := by
  refine List.ext_getElem (by simp [usedW, hl]) fun j h1 h2 => ?_
  simp only [usedW, List.getElem_map, List.getElem_range]
  have e : us.getD j false = us[j] := by rw [List.getD_eq_getElem?_getD, List.getElem?_eq_getElem h1]; rfl
  cases hu : us[j] with
  | true => rw [pB_true (hs j (by rw [e, hu]))]
  | false =>
    rw [pB_false fun hc' => ?_]
    have := closed_all hc hc'
    unfold Us at this
    rw [Int.toNat_natCast, e, hu] at this
    cases this
end Go.Proofs.YtgdfgnppeekfjaaGreat.Vm
end
end
