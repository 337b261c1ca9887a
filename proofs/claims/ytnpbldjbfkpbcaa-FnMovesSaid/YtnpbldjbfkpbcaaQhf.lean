import Derived.Test.YtnpbldjbfkpbcaaQhe
section
/- Copies in order do what the copies at once do. Plain. No conditions. -/
namespace Go.Proofs.Ytnpbldjbfkpbcaa.Vm
set_option linter.unusedSimpArgs false
set_option linter.unusedVariables false

theorem pigeon : ∀ {a b : List Int}, a.Nodup → (∀ x ∈ a, x ∈ b) → b.length ≤ a.length → ∀ x ∈ b, x ∈ a := by
  intro a
  induction a with
  | nil =>
    intro b _ _ hl x hx
    cases b with
    | nil => exact hx
    | cons y r => simp at hl
  | cons y r ih =>
    intro b hn hs hl x hx
    rw [List.nodup_cons] at hn
    have hy : y ∈ b := hs y (by simp)
    by_cases e : x = y
    · rw [e]; simp
    · have h1 : x ∈ b.erase y := (List.mem_erase_of_ne e).2 hx
      refine List.mem_cons_of_mem _ (ih hn.2 (fun z hz => ?_) ?_ x h1)
      · refine (List.mem_erase_of_ne ?_).2 (hs z (List.mem_cons_of_mem _ hz))
        rintro rfl; exact hn.1 hz
      · rw [List.length_erase_of_mem hy]; simp at hl; omega
/-- What stands at a place once all that is left is done at once. -/
def valM (left : List ArmR) (cur : List Int) (k : Int) : Int := match left.find? fun m => decide (m.fr = k) with
  | some m => cur.getD m.v.toNat 0
  | none => cur.getD k.toNat 0
def frs (ms : List ArmR) : List Int := ms.map (·.fr)
theorem valM_some {left : List ArmR} (hn : (frs left).Nodup) {m : ArmR} (hm : m ∈ left) (cur : List Int) : valM left cur m.fr = cur.getD m.v.toNat 0 := by
  have h : left.find? (fun x => decide (x.fr = m.fr)) = some m := by
    induction left with
    | nil => cases hm
    | cons a r ih =>
      rw [List.find?_cons]
      simp only [frs, List.map_cons, List.nodup_cons] at hn
      by_cases e : a = m
      · subst e; simp
      · have hr : m ∈ r := by
          cases hm with
          | head => exact absurd rfl e
          | tail _ h => exact h
        have hne : ¬ a.fr = m.fr := fun h => hn.1 (by rw [h]; exact List.mem_map.2 ⟨m, hr, rfl⟩)
        simp only [hne, decide_false]
        exact ih hn.2 hr
  unfold valM
  rw [h]
theorem valM_none {left : List ArmR} {k : Int} (h : ∀ m ∈ left, m.fr ≠ k) (cur : List Int) : valM left cur k = cur.getD k.toNat 0 := by
  have e : left.find? (fun x => decide (x.fr = k)) = none := by
    rw [List.find?_eq_none]
    intro m hm; simpa using h m hm
  unfold valM
  rw [e]
theorem getDI_set (l : List Int) (i j : Nat) (x : Int) (hi : i < l.length) : (l.set i x).getD j 0 = if i = j then x else l.getD j 0 := by
  rw [List.getD_eq_getElem?_getD, List.getElem?_set]
  split
  · rename_i h; subst h; simp [hi]
  · rw [List.getD_eq_getElem?_getD]
/-- What holds all along: targets apart, no copy onto itself, all places there. -/
structure SInv (n : Nat) (left : List ArmR) : Prop where
  nd : (frs left).Nodup
  ok : ∀ m ∈ left, m.fr ≠ m.v ∧ 0 ≤ m.fr ∧ m.fr < n ∧ 0 ≤ m.v ∧ m.v ≤ n
theorem eachSt {n : Nat} {cur : List Int} (hc : cur.length = n + 1) {p q : Int} (hp : 0 ≤ p ∧ p ≤ n) (hq : 0 ≤ q ∧ q ≤ n) : eachStep (n + 1) cur ⟨p, q⟩ = cur.set p.toNat (cur.getD q.toNat 0) := by
  unfold eachStep
  rw [if_pos ⟨hp.1, by simp only; omega, hq.1, by simp only; omega⟩]
theorem SInv.erase {n : Nat} {left : List ArmR} (h : SInv n left) (i : Nat) : SInv n (left.eraseIdx i) :=
  ⟨h.nd.sublist (List.Sublist.map _ (List.eraseIdx_sublist _ _)), fun m hm => h.ok m (List.mem_of_mem_eraseIdx hm)⟩
theorem SInv.turn {n : Nat} {left : List ArmR} (h : SInv n left) (b : Int) : SInv n (left.map (turnM n b)) := by
  have e : frs (left.map (turnM n b)) = frs left := by
    unfold frs
    rw [List.map_map]
    apply List.map_congr_left
    intro m _
    simp only [Function.comp, turnM]
    split <;> rfl
  refine ⟨by rw [e]; exact h.nd, fun m hm => ?_⟩
  rw [List.mem_map] at hm
  obtain ⟨a, ha, rfl⟩ := hm
  have := h.ok a ha
  unfold turnM
  split
  · simp only; omega
  · exact this
theorem val_erase {n : Nat} {left : List ArmR} {cur : List Int} (h : SInv n left) (hc : cur.length = n + 1) {i : Nat} (hi : i < left.length) (hf : frB left left[i] = true) {k : Int} (hk : 0 ≤ k ∧ k < n) :
    valM (left.eraseIdx i) (eachStep (n + 1) cur left[i]) k = valM left cur k := by
  obtain ⟨m, hm⟩ : ∃ m, m = left[i] := ⟨_, rfl⟩
  have hmem : m ∈ left := by rw [hm]; exact List.getElem_mem hi
  rw [← hm] at hf ⊢
  have ok := h.ok m hmem
  have hst : eachStep (n + 1) cur m = cur.set m.fr.toNat (cur.getD m.v.toNat 0) := eachSt hc ⟨ok.2.1, by omega⟩ ⟨ok.2.2.2.1, ok.2.2.2.2⟩
  rw [hst]
  have hsub : ∀ o ∈ left.eraseIdx i, o ∈ left := fun o ho => List.mem_of_mem_eraseIdx ho
  have hnot : ∀ o ∈ left.eraseIdx i, o.fr ≠ m.fr := by
    have hn := h.nd
    have e : left = left.take i ++ m :: left.drop (i + 1) := by rw [hm, ← List.drop_eq_getElem_cons hi, List.take_append_drop]
    rw [e] at hn
    unfold frs at hn
    rw [List.map_append, List.map_cons, List.nodup_append] at hn
    obtain ⟨_, hn2, hn3⟩ := hn
    rw [List.nodup_cons] at hn2
    intro o ho
    rw [List.eraseIdx_eq_take_drop_succ, List.mem_append] at ho
    rcases ho with ho | ho
    · exact hn3 _ (List.mem_map.2 ⟨o, ho, rfl⟩) _ (by simp)
    · exact fun e => hn2.1 (by rw [← e]; exact List.mem_map.2 ⟨o, ho, rfl⟩)
  by_cases hkm : k = m.fr
  · subst hkm
    rw [valM_none hnot, valM_some h.nd hmem, getDI_set _ _ _ _ (by omega), if_pos rfl]
  · by_cases hex : ∃ o ∈ left.eraseIdx i, o.fr = k
    · obtain ⟨o, ho, rfl⟩ := hex
      have oo := h.ok o (hsub o ho)
      rw [valM_some (h.erase i).nd ho, valM_some h.nd (hsub o ho), getDI_set _ _ _ _ (by omega), if_neg]
      intro e
      unfold frB at hf
      rw [Bool.not_eq_true', List.any_eq_false] at hf
      have := hf o (hsub o ho)
      simp only [decide_eq_true_eq] at this
      omega
    · have h1 : ∀ o ∈ left.eraseIdx i, o.fr ≠ k := fun o ho e => hex ⟨o, ho, e⟩
      have h2 : ∀ o ∈ left, o.fr ≠ k := by
        intro o ho e
        obtain ⟨j, hj, rfl⟩ := List.getElem_of_mem ho
        by_cases eij : j = i
        · subst eij; rw [← hm] at e; exact hkm e.symm
        · refine hex ⟨left[j], ?_, e⟩
          rw [List.mem_eraseIdx_iff_getElem]
          exact ⟨j, hj, eij, rfl⟩
      rw [valM_none h1, valM_none h2, getDI_set _ _ _ _ (by omega), if_neg (by omega)]
theorem stuck_in {n : Nat} {left : List ArmR} (h : SInv n left) (hf : left.any (frB left) = false) : ∀ m ∈ left, m.v < n := by
  have hsub : ∀ x ∈ frs left, x ∈ left.map (·.v) := by
    intro x hx
    unfold frs at hx
    rw [List.mem_map] at hx
    obtain ⟨m, hm, rfl⟩ := hx
    rw [List.any_eq_false] at hf
    have h1 := hf m hm
    unfold frB at h1
    simp only [Bool.not_eq_true', Bool.not_eq_false, List.any_eq_true, decide_eq_true_eq] at h1
    obtain ⟨o, ho, e⟩ := h1
    exact List.mem_map.2 ⟨o, ho, e⟩
  intro m hm
  have := pigeon h.nd hsub (by simp [frs]) m.v (List.mem_map.2 ⟨m, hm, rfl⟩)
  unfold frs at this
  rw [List.mem_map] at this
  obtain ⟨o, ho, e⟩ := this
  have := (h.ok o ho).2.2.1
  omega
theorem val_turn {n : Nat} {left : List ArmR} {cur : List Int} (h : SInv n left) (hc : cur.length = n + 1) (hf : left.any (frB left) = false) {b : Int} (hb : 0 ≤ b ∧ b < n) {k : Int} (hk : 0 ≤ k ∧ k < n) :
    valM (left.map (turnM n b)) (eachStep (n + 1) cur ⟨n, b⟩) k = valM left cur k := by
  have hst : eachStep (n + 1) cur ⟨n, b⟩ = cur.set n (cur.getD b.toNat 0) := by
    rw [eachSt hc ⟨by omega, by omega⟩ ⟨hb.1, by omega⟩, Int.toNat_natCast]
  rw [hst]
  have hin := stuck_in h hf
  have frt : ∀ a : ArmR, (turnM n b a).fr = a.fr := fun a => by unfold turnM; split <;> rfl
  by_cases hex : ∃ o ∈ left, o.fr = k
  · obtain ⟨o, ho, rfl⟩ := hex
    have oo := h.ok o ho
    have ov := hin o ho
    have h1 := valM_some (h.turn b).nd (List.mem_map.2 ⟨o, ho, rfl⟩ : turnM n b o ∈ left.map (turnM n b)) (cur.set n (cur.getD b.toNat 0))
    rw [frt] at h1
    rw [h1, valM_some h.nd ho, getDI_set _ _ _ _ (by omega)]
    unfold turnM
    by_cases e : o.v = b
    · rw [if_pos e]
      simp only [Int.toNat_natCast, if_true]
      rw [e]
    · rw [if_neg e, if_neg (by omega)]
  · have h2 : ∀ o ∈ left, o.fr ≠ k := fun o ho e => hex ⟨o, ho, e⟩
    have h1 : ∀ o ∈ left.map (turnM n b), o.fr ≠ k := by
      intro o ho
      rw [List.mem_map] at ho
      obtain ⟨a, ha, rfl⟩ := ho
      rw [frt]; exact h2 a ha
    rw [valM_none h1, valM_none h2, getDI_set _ _ _ _ (by omega), if_neg (by omega)]
theorem seq_val {n : Nat} : ∀ (f : Nat) (left out : List ArmR) (cur vs : List Int), SInv n left → cur.length = n + 1 → vs.length = n + 1 → muM left ≤ f → out.foldl (eachStep (n + 1)) vs = cur →
    ∀ k : Int, 0 ≤ k ∧ k < n → ((seqF n f left out).foldl (eachStep (n + 1)) vs).getD k.toNat 0 = valM left cur k := by
  intro f
  induction f with
  | zero =>
    intro left out cur vs h hc hv hmu he k hk
    have : left = [] := List.length_eq_zero_iff.1 (by unfold muM at hmu; omega)
    subst this
    show (List.foldl (eachStep (n + 1)) vs out).getD k.toNat 0 = _
    rw [he]; rfl
  | succ f ih =>
    intro left out cur vs h hc hv hmu he k hk
    unfold seqF
    by_cases h0 : left.length = 0
    · rw [if_pos h0]
      have : left = [] := List.length_eq_zero_iff.1 h0
      subst this
      rw [he]; rfl
    · rw [if_neg h0]
      by_cases hfr : 0 ≤ findI (frB left) left
      · rw [if_pos hfr]
        obtain ⟨i, hfi, hi, hfp⟩ := findI_at hfr
        rw [hfi, Int.toNat_natCast, getD_idx hi]
        have := mu_erase hi
        rw [ih (left.eraseIdx i) (out ++ [left[i]]) (eachStep (n + 1) cur left[i]) vs (h.erase i) (by rw [eachStep_len]; exact hc) hv (by omega) (by rw [List.foldl_append, he]; rfl) k hk]
        exact val_erase h hc hi hfp hk
      · rw [if_neg hfr]
        have hno : left.any (frB left) = false := by
          cases ha : left.any (frB left) with
          | false => rfl
          | true => have := findI_nonneg.2 ha; omega
        have hg : GoodM n left := fun m hm => ⟨(h.ok m hm).1, (h.ok m hm).2.2.1⟩
        have := mu_turn hg (by omega) (by omega)
        have hb : (left.getD 0 ⟨0, 0⟩) ∈ left := by rw [getD_idx (by omega)]; exact List.getElem_mem _
        have ob := h.ok _ hb
        generalize (left.getD 0 ⟨0, 0⟩).fr = b at this ob ⊢
        rw [ih (left.map (turnM n b)) (out ++ [(⟨(n : Int), b⟩ : ArmR)]) (eachStep (n + 1) cur ⟨n, b⟩) vs (h.turn b) (by rw [eachStep_len]; exact hc) hv (by omega) (by rw [List.foldl_append, he]; rfl) k hk]
        exact val_turn h hc hno ⟨ob.2.1, ob.2.2.1⟩ hk
theorem turn_free {n : Int} {ms : List ArmR} (h : GoodM n ms) (h0 : 0 < ms.length) : (ms.map (turnM n (ms.getD 0 ⟨0, 0⟩).fr)).any (frB (ms.map (turnM n (ms.getD 0 ⟨0, 0⟩).fr))) = true := by
  match ms, h0 with
  | a :: r, _ =>
    have hga := h a (by simp)
    rw [List.any_eq_true]
    refine ⟨turnM n a.fr a, by simp, ?_⟩
    unfold frB
    rw [Bool.not_eq_true', List.any_eq_false]
    intro o ho
    rw [List.mem_map] at ho
    obtain ⟨c, hc, rfl⟩ := ho
    have e : (turnM n a.fr a).fr = a.fr := by unfold turnM; split <;> rfl
    rw [e]
    simp only [decide_eq_true_eq]
    simp only [List.getD_cons_zero]
    unfold turnM
    split
    · simp only; omega
    · assumption
def nuM (ms : List ArmR) : Nat := 2 * ms.length - (if ms.any (frB ms) = true then 1 else 0)
theorem seq_two {n : Int} : ∀ (f : Nat) (left out : List ArmR), GoodM n left → muM left ≤ f → (seqF n f left out).length ≤ out.length + nuM left := by
  intro f
  induction f with
  | zero => intro left out _ _; show out.length ≤ _; omega
  | succ f ih =>
    intro left out h hmu
    unfold seqF
    by_cases h0 : left.length = 0
    · rw [if_pos h0]; omega
    · rw [if_neg h0]
      by_cases hfr : 0 ≤ findI (frB left) left
      · rw [if_pos hfr]
        obtain ⟨i, hfi, hi, hfp⟩ := findI_at hfr
        rw [hfi, Int.toNat_natCast]
        have h1 := mu_erase hi
        have h2 := ih (left.eraseIdx i) (out ++ [left.getD i ⟨0, 0⟩]) (good_erase h i) (by omega)
        have h3 : nuM (left.eraseIdx i) ≤ 2 * (left.length - 1) := by unfold nuM; rw [List.length_eraseIdx, if_pos hi]; omega
        have h4 : nuM left = 2 * left.length - 1 := by unfold nuM; rw [if_pos (findI_nonneg.1 hfr)]
        rw [List.length_append] at h2
        simp only [List.length_cons, List.length_nil] at h2
        omega
      · rw [if_neg hfr]
        have hno : left.any (frB left) = false := by
          cases ha : left.any (frB left) with
          | false => rfl
          | true => have := findI_nonneg.2 ha; omega
        have h1 := mu_turn h (by omega) (by omega)
        have h5 := turn_free h (by omega)
        generalize (left.getD 0 ⟨0, 0⟩).fr = b at h1 h5 ⊢
        have h2 := ih (left.map (turnM n b)) (out ++ [(⟨n, b⟩ : ArmR)]) (good_turn h) (by omega)
        have h3 : nuM (left.map (turnM n b)) = 2 * left.length - 1 := by unfold nuM; rw [if_pos h5, List.length_map]
        have h4 : nuM left = 2 * left.length := by unfold nuM; rw [hno]; simp
        rw [List.length_append] at h2
        simp only [List.length_cons, List.length_nil] at h2
        omega
end Go.Proofs.Ytnpbldjbfkpbcaa.Vm
end
