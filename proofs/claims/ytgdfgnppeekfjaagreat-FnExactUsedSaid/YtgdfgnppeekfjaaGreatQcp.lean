import Derived.Test.YtgdfgnppeekfjaaGreatP5
section
/- Values made used: both sides. No conditions. -/
namespace Go.Proofs.YtgdfgnppeekfjaaGreat.Vm
open Go.RowKit (wrap64)
set_option linter.unusedSimpArgs false
set_option linter.unusedVariables false
def mk1 (us : List Bool) (v : Int) : List Bool := us.set v.toNat true
def markAll (us : List Bool) (vs : List Int) : List Bool := vs.foldl mk1 us
def moreF (us : List Bool) (vs : List Int) : Bool := vs.any fun v => !us.getD v.toNat false
def Vals (n : Nat) (vs : List Int) : Prop := ∀ v ∈ vs, ∃ k : Nat, v = k ∧ k < n
theorem mk1_len (us : List Bool) (v : Int) : (mk1 us v).length = us.length := by simp [mk1]
theorem markAll_len : ∀ (vs : List Int) (us : List Bool), (markAll us vs).length = us.length := by
  intro vs
  induction vs with
  | nil => intro us; rfl
  | cons v r ih => intro us; unfold markAll at ih ⊢; rw [List.foldl_cons, ih, mk1_len]
theorem mk1_get (us : List Bool) (v : Int) (j : Nat) : (mk1 us v).getD j false = (us.getD j false || (decide (v.toNat = j) && decide (j < us.length))) := by
  unfold mk1
  rw [List.getD_eq_getElem?_getD, List.getElem?_set, List.getD_eq_getElem?_getD]
  by_cases h : v.toNat = j
  · subst h
    by_cases hl : v.toNat < us.length
    · simp [hl]
    · simp [hl]
  · simp [h]
theorem markAll_get : ∀ (vs : List Int) (us : List Bool) (j : Nat), (markAll us vs).getD j false = (us.getD j false || (vs.any (fun v => decide (v.toNat = j)) && decide (j < us.length))) := by
  intro vs
  induction vs with
  | nil => intro us j; simp [markAll]
  | cons v r ih =>
    intro us j
    have : markAll us (v :: r) = markAll (mk1 us v) r := rfl
    rw [this, ih, mk1_get, mk1_len, List.any_cons]
    cases us.getD j false <;> cases decide (v.toNat = j) <;> cases decide (j < us.length) <;> simp
theorem moreF_snoc {n : Nat} {us : List Bool} {vs : List Int} {i : Nat} (hn : us.length = n) (hv : Vals n vs) (hi : i < vs.length) :
    moreF us (vs.take (i + 1)) = (moreF us (vs.take i) || !(markAll us (vs.take i)).getD (vs[i].toNat) false) := by
  unfold moreF
  rw [List.take_succ_eq_append_getElem hi, List.any_append, markAll_get]
  obtain ⟨k, hk, hkn⟩ := hv _ (List.getElem_mem hi)
  rw [hk]
  simp only [List.any_cons, List.any_nil, Bool.or_false, Int.toNat_natCast, hn, hkn, decide_true, Bool.and_true]
  cases hu : us.getD k false with
  | true => simp
  | false =>
    cases ha : (vs.take i).any (fun v => decide (v.toNat = k)) with
    | false => simp
    | true =>
      obtain ⟨v, hv1, hv2⟩ := List.any_eq_true.1 ha
      have : ((vs.take i).any fun v => !us.getD v.toNat false) = true := List.any_eq_true.2 ⟨v, hv1, by rw [of_decide_eq_true hv2, hu]; rfl⟩
      rw [this]; simp
theorem markAll_snoc {us : List Bool} {vs : List Int} {i : Nat} (hi : i < vs.length) : markAll us (vs.take (i + 1)) = mk1 (markAll us (vs.take i)) vs[i] := by
  unfold markAll
  rw [List.take_succ_eq_append_getElem hi, List.foldl_append]; rfl
theorem set_true {us : List Bool} {k : Nat} (h : us.getD k false = true) : us.set k true = us := by
  apply List.ext_getElem?
  intro j
  rw [List.getElem?_set]
  by_cases e : k = j
  · subst e
    rw [if_pos rfl]
    rw [List.getD_eq_getElem?_getD] at h
    cases hj : us[k]? with
    | none => rw [hj] at h; simp at h
    | some b =>
      rw [hj] at h
      simp at h
      subst h
      have := (List.getElem?_eq_some_iff.1 hj).1
      simp [this]
  · rw [if_neg e]
def UsOb (us : List Bool) : Ob := ⟨us.map .b, 0, true, 1⟩
theorem IsI.set_us {X : Hp} {w : CV} {vs : List Int} (h : IsI X w vs) {uid : Nat} {us us' : List Bool} (ho : rdOb X uid 0 = some (UsOb us)) (hl : us'.length = us.length) : IsI (X.set uid (UsOb us')) w vs := by
  rcases h with ⟨h1, h2, h3⟩ | ⟨id, g, off, ob, h1, h2, h3, h4, h5⟩
  · exact .inl ⟨h1, h2, h3⟩
  · by_cases hne : id = uid
    · subst hne
      have a := rdOb_some.1 ho
      have b := rdOb_some.1 h2
      have e : ob = UsOb us := by rw [a.1] at b; injection b.1 with b; exact b.symm
      have hg : g = 0 := by have := b.2; rw [e] at this; exact this.symm
      subst hg
      subst e
      refine .inr ⟨id, 0, off, UsOb us', h1, by rw [rdOb_set_self (rdOb_lt ho)]; simp [UsOb], h3, ?_, ?_⟩
      · simpa [UsOb, hl] using h4
      · cases vs with
        | nil => simp
        | cons v r =>
          exfalso
          have := congrArg (fun l => l[0]?) h5
          simp [UsOb, List.getElem?_take, List.getElem?_drop] at this
    · exact .inr ⟨id, g, off, ob, h1, by rw [rdOb_set_ne hne]; exact h2, h3, h4, h5⟩
end Go.Proofs.YtgdfgnppeekfjaaGreat.Vm
end
