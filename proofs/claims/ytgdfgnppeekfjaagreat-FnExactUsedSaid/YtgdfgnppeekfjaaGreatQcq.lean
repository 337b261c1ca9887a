import Derived.Test.YtgdfgnppeekfjaaGreatQcp
section
/- What is used, plain: the least that holds what must be. No conditions. -/
namespace Go.Proofs.YtgdfgnppeekfjaaGreat.Vm
open Go.RowKit (wrap64)
set_option linter.unusedSimpArgs false
set_option linter.unusedVariables false
def keepsF (op : Int) : Bool := decide (op = 22) || decide (op = 23) || decide (op = 21)
inductive UsedP (bs : List BlkR) : Int → Prop
  | term {b : BlkR} (hb : b ∈ bs) {v : Int} (hv : v ∈ tusesF b.term) : UsedP bs v
  | stay {b : BlkR} (hb : b ∈ bs) {x : InsR} (hx : x ∈ b.list) (hs : keepsF x.op = true) {v : Int} (hv : v ∈ usesF x) : UsedP bs v
  | make {b : BlkR} (hb : b ∈ bs) {x : InsR} (hx : x ∈ b.list) (hd : 0 ≤ insDefF x) (hu : UsedP bs (insDefF x)) {v : Int} (hv : v ∈ usesF x) : UsedP bs v
  | phi {b : BlkR} (hb : b ∈ bs) {p : PhiR} (hp : p ∈ b.phis) (hu : UsedP bs p.d) {a : ArmR} (ha : a ∈ p.arms) : UsedP bs a.v
def Us (us : List Bool) (v : Int) : Prop := us.getD v.toNat false = true
structure Rnd (bs : List BlkR) (us0 us : List Bool) (m : Bool) : Prop where
  len : us.length = us0.length
  snd : ∀ j : Nat, us.getD j false = true → UsedP bs j
  no : m = false → us = us0
  yes : m = true → cf us < cf us0
theorem moreF_no {us : List Bool} {vs : List Int} (h : moreF us vs = false) : ∀ v ∈ vs, Us us v := by
  intro v hv
  unfold moreF at h
  rw [List.any_eq_false] at h
  have := h v hv
  unfold Us
  simpa using this
theorem markAll_no : ∀ {vs : List Int} {us : List Bool}, (∀ v ∈ vs, Us us v) → markAll us vs = us := by
  intro vs
  induction vs with
  | nil => intro us _; rfl
  | cons v r ih =>
    intro us h
    have e : markAll us (v :: r) = markAll (mk1 us v) r := rfl
    have : mk1 us v = us := set_true (h v (by simp))
    rw [e, this]
    exact ih fun x hx => h x (by simp [hx])
theorem mk1_cf {us : List Bool} {v : Int} (hv : v.toNat < us.length) (h : us.getD v.toNat false = false) : cf (mk1 us v) + 1 = cf us := by
  refine cf_set ?_
  rw [List.getD_eq_getElem?_getD] at h ⊢
  rw [List.getElem?_eq_getElem hv] at h ⊢
  exact h
theorem markAll_cf_le : ∀ (vs : List Int) {us : List Bool}, Vals us.length vs → cf (markAll us vs) ≤ cf us := by
  intro vs
  induction vs with
  | nil => intro us _; exact Nat.le_refl _
  | cons v r ih =>
    intro us h
    have e : markAll us (v :: r) = markAll (mk1 us v) r := rfl
    obtain ⟨k, hk, hkn⟩ := h v (by simp)
    have h2 : Vals (mk1 us v).length r := by rw [mk1_len]; exact fun x hx => h x (by simp [hx])
    have := ih h2
    rw [e]
    cases hu : us.getD v.toNat false with
    | true => rw [show mk1 us v = us from set_true hu] at this ⊢; exact this
    | false => have := mk1_cf (us := us) (v := v) (by omega) hu; omega
theorem markAll_cf : ∀ {vs : List Int} {us : List Bool}, Vals us.length vs → moreF us vs = true → cf (markAll us vs) < cf us := by
  intro vs
  induction vs with
  | nil => intro us _ h; simp [moreF] at h
  | cons v r ih =>
    intro us h hm
    have e : markAll us (v :: r) = markAll (mk1 us v) r := rfl
    obtain ⟨k, hk, hkn⟩ := h v (by simp)
    have h2 : Vals (mk1 us v).length r := by rw [mk1_len]; exact fun x hx => h x (by simp [hx])
    rw [e]
    cases hu : us.getD v.toNat false with
    | true =>
      have e1 : mk1 us v = us := set_true hu
      rw [e1] at h2 ⊢
      refine ih h2 ?_
      unfold moreF at hm ⊢
      rw [List.any_cons, hu] at hm
      simpa using hm
    | false =>
      have a := mk1_cf (us := us) (v := v) (by omega) hu
      have b := markAll_cf_le r h2
      omega
theorem Rnd.refl {bs : List BlkR} {us : List Bool} (h : ∀ j : Nat, us.getD j false = true → UsedP bs j) : Rnd bs us us false := ⟨rfl, h, fun _ => rfl, fun h => by cases h⟩
theorem Rnd.mark {bs : List BlkR} {us0 us : List Bool} {m : Bool} (h : Rnd bs us0 us m) {vs : List Int} (hv : Vals us0.length vs) (hu : ∀ v ∈ vs, UsedP bs v) : Rnd bs us0 (markAll us vs) (m || moreF us vs) := by
  refine ⟨by rw [markAll_len, h.len], fun j hj => ?_, fun hf => ?_, fun ht => ?_⟩
  · rw [markAll_get, Bool.or_eq_true] at hj
    rcases hj with hj | hj
    · exact h.snd j hj
    · rw [Bool.and_eq_true] at hj
      obtain ⟨v, hv1, hv2⟩ := List.any_eq_true.1 hj.1
      obtain ⟨k, hk, _⟩ := hv v hv1
      have : v.toNat = j := of_decide_eq_true hv2
      have e : v = (j : Int) := by omega
      rw [← e]; exact hu v hv1
  · rw [Bool.or_eq_false_iff] at hf
    rw [markAll_no (moreF_no hf.2)]
    exact h.no hf.1
  · have hv' : Vals us.length vs := by rw [h.len]; exact hv
    have hle := markAll_cf_le vs hv'
    cases hm : m with
    | true => have := h.yes hm; omega
    | false =>
      rw [hm, Bool.false_or] at ht
      have := markAll_cf hv' ht
      rw [h.no hm] at this ⊢
      exact this
theorem Rnd.trans {bs : List BlkR} {a b c : List Bool} {m n : Bool} (h : Rnd bs a b m) (k : Rnd bs b c n) : Rnd bs a c (m || n) := by
  refine ⟨k.len.trans h.len, k.snd, fun hf => ?_, fun ht => ?_⟩
  · rw [Bool.or_eq_false_iff] at hf
    rw [k.no hf.2, h.no hf.1]
  · cases hm : m with
    | true =>
      have a1 := h.yes hm
      cases hn : n with
      | true => have := k.yes hn; omega
      | false => rw [k.no hn]; exact a1
    | false =>
      rw [hm, Bool.false_or] at ht
      rw [← h.no hm]; exact k.yes ht
/-- All that a block takes for what is used is used. -/
structure ClosedB (us : List Bool) (b : BlkR) : Prop where
  term : ∀ v ∈ tusesF b.term, Us us v
  phi : ∀ p ∈ b.phis, Us us p.d → ∀ a ∈ p.arms, Us us a.v
  ins : ∀ x ∈ b.list, (keepsF x.op = true ∨ (0 ≤ insDefF x ∧ Us us (insDefF x))) → ∀ v ∈ usesF x, Us us v
theorem closed_all {bs : List BlkR} {us : List Bool} (h : ∀ b ∈ bs, ClosedB us b) : ∀ {v : Int}, UsedP bs v → Us us v := by
  intro v hv
  induction hv with
  | term hb hv => exact (h _ hb).term _ hv
  | stay hb hx hs hv => exact (h _ hb).ins _ hx (.inl hs) _ hv
  | make hb hx hd _ hv ih => exact (h _ hb).ins _ hx (.inr ⟨hd, ih⟩) _ hv
  | phi hb hp _ ha ih => exact (h _ hb).phi _ hp ih _ ha
noncomputable def usedW (f : FnR) : List Bool := (List.range f.values.toNat).map fun (j : Nat) => pB (UsedP f.blocks j)
theorem used_done {f : FnR} {us : List Bool} (hl : us.length = f.values.toNat) (hs : ∀ j : Nat, us.getD j false = true → UsedP f.blocks j) (hc : ∀ b ∈ f.blocks, ClosedB us b) : us = usedW f := by
  refine List.ext_getElem (by simp [usedW, hl]) fun j h1 h2 => ?_
  simp only [usedW, List.getElem_map, List.getElem_range]
  have e : us.getD j false = us[j] := by rw [List.getD_eq_getElem?_getD, List.getElem?_eq_getElem h1]; rfl
  cases hu : us[j] with
  | true => rw [pB_true (hs j (by rw [e, hu]))]
  | false =>
    rw [pB_false fun hc' => ?_]
    have := closed_all hc hc'
    unfold Us at this
    rw [Int.toNat_natCast, e, hu] at this
    cases this
end Go.Proofs.YtgdfgnppeekfjaaGreat.Vm
end
