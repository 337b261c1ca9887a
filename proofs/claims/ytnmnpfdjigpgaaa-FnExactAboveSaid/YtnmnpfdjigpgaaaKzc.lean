/- Who stands just above. Plain. No conditions. -/
import Derived.Test.YtnmnpfdjigpgaaaKzb
import Derived.Test.YtnmnpfdjigpgaaaKma
namespace Go.Proofs.Ytnmnpfdjigpgaaa.Vm
set_option linter.unusedSimpArgs false
set_option linter.unusedVariables false

theorem on_falses {n j : Nat} (hj : j < n) : ¬ On (falses n) j := by
  unfold On falses
  rw [List.getD_eq_getElem?_getD, List.getElem?_eq_getElem (by simpa using hj)]; simp
theorem getD_dd {l : List Bool} {j : Nat} (hj : j < l.length) : l.getD j false = true ↔ On l j := by
  unfold On
  rw [getD_at hj, getD_at hj]
theorem seen_rch {bs : List BlkR} (hin : InRange bs) {j : Nat} (hj : j < bs.length) : (seenF bs).getD j false = true ↔ Rch bs (fun _ => False) 0 j := by
  have h0 : 0 < bs.length := by omega
  rw [getD_dd (by rw [show (seenF bs).length = bs.length from (walk0_ok h0).1]; exact hj)]
  have h := walkF_rch hin (n := bs.length) (b := 0) (p := (List.replicate bs.length false, [])) (getD_falses h0) (by rw [cf_falses]; exact Nat.le_refl _) (by simp) j hj
  unfold seenF walk0
  rw [h]
  clear h
  have hb : ∀ k, k < bs.length → ¬ On (List.replicate bs.length false) k := fun k hk => on_falses hk
  have hr : ∀ {k}, Rch bs (On (List.replicate bs.length false)) 0 k → Rch bs (fun _ => False) 0 k := fun hk => hk.mono fun _ h => h.elim
  constructor
  · rintro (h | h)
    · exact absurd h (hb j hj)
    · exact hr h
  · intro h
    refine .inr ?_
    clear hj
    induction h with
    | start _ => exact .start (hb 0 h0)
    | @step a k _ hs _ ih => exact .step ih hs (hb k (by have := (hin a k hs).2; omega))
theorem rch_zero {bs : List BlkR} {j : Nat} (h : Rch bs (· = 0) 0 j) : False := by
  induction h with
  | start h => exact h rfl
  | step _ _ _ ih => exact ih
theorem without_rch {bs : List BlkR} (hin : InRange bs) {a b : Nat} (ha : a < bs.length) (hb : b < bs.length) : (withoutF bs a).getD b false = true ↔ Rch bs (· = a) 0 b := by
  have h0 : 0 < bs.length := by omega
  unfold withoutF
  by_cases e : a = 0
  · rw [if_pos e]
    subst e
    rw [getD_dd (by simpa [falses] using hb)]
    exact ⟨fun h => absurd h (on_falses hb), fun h => (rch_zero h).elim⟩
  · rw [if_neg e]
    have hwl : (walkB bs a).1.length = bs.length := by unfold walkB; rw [(walkF_ok bs bs.length 0 _).1.len]; simp [falses]
    have hr := walkF_rch hin (n := bs.length) (b := 0) (p := ((falses bs.length).set a true, [])) (getD_falses' h0 e) (Nat.le_trans (cf_le_len _) (by simp [falses])) (by simp [falses])
    have hon : ∀ k, k < bs.length → (On ((falses bs.length).set a true) k ↔ k = a) := fun k hk => by
      rw [on_set (by simpa [falses] using ha)]
      exact ⟨fun h => h.resolve_left (on_falses hk), .inr⟩
    have hto : ∀ {k}, Rch bs (On ((falses bs.length).set a true)) 0 k ↔ Rch bs (· = a) 0 k := by
      intro k
      constructor
      · intro h
        exact h.mono fun j hj => by subst hj; exact (hon j ha).2 rfl
      · intro h
        induction h with
        | start h => exact .start fun h' => h ((hon 0 h0).1 h')
        | @step j k _ hs hk ih => exact .step ih hs fun h' => hk ((hon k (by have := (hin j k hs).2; omega)).1 h')
    by_cases eb : b = a
    · subst eb
      rw [List.getD_eq_getElem?_getD, List.getElem?_set, if_pos rfl, if_pos (by omega)]
      constructor
      · intro h; simp at h
      · intro h; exact absurd rfl h.free
    · have e1 : ((walkB bs a).1.set a false).getD b false = (walkB bs a).1.getD b false := by
        rw [List.getD_eq_getElem?_getD, List.getD_eq_getElem?_getD, List.getElem?_set, if_neg (fun h => eb h.symm)]
      rw [e1, getD_dd (by omega)]
      unfold walkB
      rw [hr b hb, hto, hon b hb]
      exact ⟨fun h => h.resolve_left eb, .inr⟩
/-- Dominance. -/
def Dom (bs : List BlkR) (a b : Nat) : Prop := Rch bs (fun _ => False) 0 a ∧ Rch bs (fun _ => False) 0 b ∧ ¬ Rch bs (· = a) 0 b
theorem domB_iff {bs : List BlkR} (hin : InRange bs) {a b : Nat} (ha : a < bs.length) (hb : b < bs.length) : domB bs b a = true ↔ Dom bs a b := by
  unfold domB Dom
  rw [Bool.and_eq_true, Bool.and_eq_true, seen_rch hin ha, seen_rch hin hb, Bool.not_eq_true', ← without_rch hin ha hb, and_assoc]
  constructor
  · rintro ⟨h1, h2, h3⟩; exact ⟨h1, h2, by rw [h3]; simp⟩
  · rintro ⟨h1, h2, h3⟩; exact ⟨h1, h2, by simpa using h3⟩
theorem Dom.trans {bs : List BlkR} {x a b : Nat} (h : Dom bs x a) (k : Dom bs a b) : Dom bs x b := by
  refine ⟨h.1, k.2.1, fun hr => ?_⟩
  rcases rch_trans (a := a) hr with h1 | h1
  · exact k.2.2 h1
  · exact h.2.2 h1
theorem Dom.anti {bs : List BlkR} {a b : Nat} (hab : a ≠ b) (h : Dom bs a b) (k : Dom bs b a) : False := by
  rcases rch_anti hab h.2.1 with h1 | h1 | h1
  · exact h.2.2 h1
  · exact k.2.2 h1
  · exact h.2.2 h1.1
theorem Dom.self {bs : List BlkR} {b : Nat} (h : Rch bs (fun _ => False) 0 b) : Dom bs b b := ⟨h, h, fun hr => hr.free rfl⟩
theorem filter_le {l : List Nat} {p q : Nat → Bool} (h : ∀ x, p x = true → q x = true) : (l.filter p).length ≤ (l.filter q).length := by
  induction l with
  | nil => simp
  | cons a r ih =>
    cases hp : p a with
    | true => simp [hp, h a hp]; exact ih
    | false => cases hq : q a <;> simp [hp, hq] <;> omega
theorem filter_eq {l : List Nat} {p q : Nat → Bool} (h : ∀ x, p x = true → q x = true) : (l.filter p).length = (l.filter q).length ↔ ∀ x ∈ l, q x = true → p x = true := by
  induction l with
  | nil => simp
  | cons a r ih =>
    have hle := filter_le (l := r) h
    cases hp : p a with
    | true =>
      have hq := h a hp
      simp [hp, hq]
      rw [ih]
    | false =>
      cases hq : q a with
      | false => simp [hp, hq]; rw [ih]
      | true =>
        simp [hp, hq]
        omega
theorem filter_one {n b : Nat} {q : Nat → Bool} (hb : b < n) (hq : q b = true) : ((List.range n).filter q).length = ((List.range n).filter fun x => q x && decide (x ≠ b)).length + 1 := by
  induction n with
  | zero => omega
  | succ n ih =>
    rw [List.range_succ, List.filter_append, List.filter_append, List.length_append, List.length_append]
    by_cases e : b = n
    · subst e
      have e2 : (List.range b).filter (fun x => q x && decide (x ≠ b)) = (List.range b).filter q := by
        apply List.filter_congr
        intro x hx
        have := List.mem_range.1 hx
        rw [decide_eq_true (by omega : x ≠ b), Bool.and_true]
      rw [e2]
      simp [hq]
    · have := ih (by omega)
      have e3 : (q n && decide (n ≠ b)) = q n := by rw [decide_eq_true (by omega : n ≠ b), Bool.and_true]
      rw [show [n].filter (fun x => q x && decide (x ≠ b)) = [n].filter q from List.filter_congr (fun x hx => by rw [List.mem_singleton.1 hx]; exact e3)]
      omega
theorem domF_length (bs : List BlkR) (b : Nat) : (domF bs b).length = ((List.range bs.length).filter (domB bs b)).length := by simp [domF, domTo]
/-- The one with one fewer above it is the one that all the others stand above. -/
theorem above_iff {bs : List BlkR} (hin : InRange bs) {a b : Nat} (ha : a < bs.length) (hb : b < bs.length) (hab : a ≠ b) (hd : domB bs b a = true) :
    (domF bs a).length + 1 = (domF bs b).length ↔ ∀ x, x < bs.length → domB bs b x = true → x ≠ b → domB bs a x = true := by
  have hD := (domB_iff hin ha hb).1 hd
  have hbb : domB bs b b = true := (domB_iff hin hb hb).2 (Dom.self hD.2.1)
  rw [domF_length, domF_length, filter_one hb hbb]
  have hmono : ∀ x, x < bs.length → domB bs a x = true → (domB bs b x && decide (x ≠ b)) = true := by
    intro x hx h
    have h1 := (domB_iff hin hx ha).1 h
    rw [Bool.and_eq_true]
    exact ⟨(domB_iff hin hx hb).2 (h1.trans hD), decide_eq_true fun e => by subst e; exact Dom.anti hab hD h1⟩
  have e1 : (List.range bs.length).filter (domB bs a) = (List.range bs.length).filter fun x => decide (x < bs.length) && domB bs a x := by
    apply List.filter_congr
    intro x hx
    rw [decide_eq_true (List.mem_range.1 hx), Bool.true_and]
  rw [e1]
  have hf := filter_eq (l := List.range bs.length) (p := fun x => decide (x < bs.length) && domB bs a x) (q := fun x => domB bs b x && decide (x ≠ b)) (fun x h => by
    rw [Bool.and_eq_true, decide_eq_true_eq] at h
    exact hmono x h.1 h.2)
  constructor
  · intro h x hx h1 h2
    have := hf.1 (by omega) x (List.mem_range.2 hx) (by rw [h1, decide_eq_true h2]; rfl)
    rw [Bool.and_eq_true] at this
    exact this.2
  · intro h
    have := hf.2 fun x hx hq => by
      rw [Bool.and_eq_true, decide_eq_true_eq] at hq ⊢
      exact ⟨List.mem_range.1 hx, h x (List.mem_range.1 hx) hq.1 hq.2⟩
    omega
end Go.Proofs.Ytnmnpfdjigpgaaa.Vm
