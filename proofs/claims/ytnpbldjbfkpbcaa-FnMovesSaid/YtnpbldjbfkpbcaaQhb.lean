import Derived.Test.YtnpbldjbfkpbcaaQha
section
/- One copy dropped; who is free; in which order copies may go, plain. No conditions. -/
namespace Go.Proofs.Ytnpbldjbfkpbcaa.Vm
open Go.RowKit (wrap64)
set_option linter.unusedSimpArgs false
set_option linter.unusedVariables false

theorem erase_split {ms : List ArmR} {i : Nat} (hi : i < ms.length) : ms.eraseIdx i = ms.take i ++ ms.drop (i + 1) := by rw [List.eraseIdx_eq_take_drop_succ]
theorem dropMove {X : Hp} {id : Nat} {ms : List ArmR} {rest : List CV} (h : MvO X id 0 ms rest) (hb : ms.length ≤ BIG) {i : Nat} (hi : i < ms.length) :
    CM 79 [.c (.sl id 0 0 ms.length), .c (.i i), .c (.i ((i : Int) + 1))] X fun r => ∃ Z rest', r = (.c (.sl id 0 0 (ms.eraseIdx i).length), Z) ∧ But id X Z ∧ MvO Z id 0 (ms.eraseIdx i) rest' := by
  refine cw79 ?_
  unfold vf79c
  have hlt := h.lt
  have ho : rdOb X id 0 = some ⟨edC ms ++ rest, 0, true, 2⟩ := h
  obtain ⟨n, hn⟩ : ∃ n, n = ms.length := ⟨_, rfl⟩
  have hel : (ms.eraseIdx i).length = n - 1 := by rw [List.length_eraseIdx, if_pos hi, hn]
  obtain ⟨D, hD⟩ : ∃ D, (edC ms ++ rest).drop (i * 2 + (edC (ms.drop (i + 1))).length) = D := ⟨_, rfl⟩
  have hDl : D.length = 2 + rest.length := by rw [← hD]; simp; omega
  have hput : putAt (edC ms ++ rest) (i * 2) (edC (ms.drop (i + 1))) = edC (ms.eraseIdx i) ++ D := by
    unfold putAt
    rw [hD, erase_split hi, edC_app]
    congr 2
    have : edC ms ++ rest = edC (ms.take i) ++ (edC (ms.drop i) ++ rest) := by rw [← List.append_assoc, ← edC_app, List.take_append_drop]
    rw [this, List.take_append_of_le_length (by rw [take_len2 hi]; exact Nat.le_refl _), List.take_of_length_le (by rw [take_len2 hi]; exact Nat.le_refl _)]
  obtain ⟨a, b, D', hD'⟩ : ∃ a b D', D = a :: b :: D' := by
    match D, hDl with
    | a :: b :: D', _ => exact ⟨a, b, D', rfl⟩
    | [a], h => simp at h; omega
    | [], h => simp at h; omega
  have hput2 : putAt (edC (ms.eraseIdx i) ++ D) ((n - 1) * 2) [.i 0, .i 0] = edC (ms.eraseIdx i) ++ (.i 0 :: .i 0 :: D') := by
    have hl : (edC (ms.eraseIdx i)).length = (n - 1) * 2 := by rw [edC_len, hel]
    rw [hD', ← hl]
    simp [putAt, List.drop_append]
  have hcl : (edC ms ++ rest).length = n * 2 + rest.length := by rw [hn]; simp
  have hcl2 : (edC (ms.eraseIdx i) ++ D).length = (n - 1) * 2 + (2 + rest.length) := by rw [List.length_append, edC_len, hel, hDl]
  have hsrc : srcOf X 2 (.sl id 0 ((i + 1) * 2) (n - (i + 1))) = some (n - (i + 1), edC (ms.drop (i + 1))) := by
    have e1 : ((edC ms ++ rest).drop ((i + 1) * 2)).take ((n - (i + 1)) * 2) = edC (ms.drop (i + 1)) := by
      have : edC ms ++ rest = edC (ms.take (i + 1)) ++ (edC (ms.drop (i + 1)) ++ rest) := by rw [← List.append_assoc, ← edC_app, List.take_append_drop]
      have hl : (edC (ms.take (i + 1))).length = (i + 1) * 2 := by simp; omega
      rw [this, ← hl, List.drop_left, List.take_append_of_le_length (by simp; omega), List.take_of_length_le (by simp; omega)]
    have h1 : (i + 1) * 2 + (n - (i + 1)) * 2 ≤ (edC ms ++ rest).length := by omega
    unfold srcOf
    simp only [ho, Option.bind_some]
    rw [if_pos h1, e1]
  have happ : doApp X 2 (.sl id 0 0 i) (n - (i + 1)) (edC (ms.drop (i + 1))) = some (.c (.sl id 0 0 (n - 1)), X.set id ⟨edC (ms.eraseIdx i) ++ D, 0, true, 2⟩) := by
    have h1 : i * 2 + (edC (ms.drop (i + 1))).length ≤ (edC ms ++ rest).length := by simp; omega
    have e : i + (n - (i + 1)) = n - 1 := by omega
    unfold doApp
    simp only [ho, Option.bind_some]
    rw [if_pos (by simp), if_pos h1, hput, e]
  generalize hc1 : edC ms ++ rest = c1 at ho hcl
  generalize hc2 : edC (ms.eraseIdx i) ++ D = c2 at happ hput2 hcl2
  have hs1 : doSlice X 2 (.sl id 0 0 n) none (some (.c (.i i))) = some (.c (.sl id 0 0 i)) := by
    simp [doSlice, ho] <;> omega
  have hs2 : doSlice X 2 (.sl id 0 0 n) (some (.c (.i ((i : Int) + 1)))) none = some (.c (.sl id 0 ((i + 1) * 2) (n - (i + 1)))) := by
    have e : ((i : Int) + 1).toNat = i + 1 := by omega
    simp [doSlice, ho, e] <;> omega
  obtain ⟨X2, hX2⟩ : ∃ X2, X.set id ⟨c2, 0, true, 2⟩ = X2 := ⟨_, rfl⟩
  have ho2 : rdOb X2 id 0 = some ⟨c2, 0, true, 2⟩ := by rw [← hX2, rdOb_set_self hlt]; simp
  have hs3 : doSlice X2 2 (.sl id 0 0 (n - 1)) (some (.c (.i ((n - 1 : Nat) : Int)))) (some (.c (.i n))) = some (.c (.sl id 0 ((n - 1) * 2) 1)) := by
    have e1 : ¬ ((n : Int) ≤ ((n - 1 : Nat) : Int)) := by omega
    have e2 : n - (n - 1) = 1 := by omega
    have e3 : ((n - 1 : Nat) : Int) ≤ n := by omega
    simp [doSlice, ho2, e1, e2, e3] <;> omega
  have hle : (n - 1) * 2 + 2 ≤ c2.length := by omega
  have hne : ¬ ((i : Int) = (i : Int) + 1) := by omega
  have hbk1 : (i : Int) + 1 ≤ (n : Int) := by omega
  have hbk0 : (i : Int) ≤ (i : Int) + 1 := by omega
  rw [← hn]
  have hlt2 : id < X2.length := rdOb_lt ho2
  simp [hne, hbk0, hs1, hs2, hsrc, happ, hX2, hs3, ho2, hle, hput2, hbk1]
  rw [gc_inner hlt]
  exact ⟨X2.set id ⟨edC (ms.eraseIdx i) ++ (.i 0 :: .i 0 :: D'), 0, true, 2⟩, by rw [hel], ⟨by simp [← hX2], fun j g o hj ho => by rw [rdOb_set_ne hj, ← hX2, rdOb_set_ne hj]; exact ho⟩, .i 0 :: .i 0 :: D', by show rdOb (X2.set id _) id 0 = _; rw [rdOb_set_self hlt2]; simp⟩
/-! ### Who is free -/
def frB (ms : List ArmR) (m : ArmR) : Bool := !ms.any fun o => decide (o.v = m.fr)
theorem rdC_pre {X Y : Hp} (hp : Pre X Y) {id g off : Nat} {c : CV} (h : rdC X id g off = some c) : rdC Y id g off = some c := by
  unfold rdC at h ⊢
  cases ho : rdOb X id g with
  | none => simp [ho] at h
  | some o => rw [hp.rdOb ho]; rw [ho] at h; exact h
theorem freeOther {X : Hp} {p g : Nat} {m : ArmR} (h : rdOb X p g = some ⟨[.i m.fr, .i m.v], g, true, 2⟩) (hne : m.fr ≠ m.v) (a : ArmR) (k : IV × Hp → Prop) :
    CM 120 [.agg [.i a.fr, .i a.v], .c (.p p g 0)] X k = k (.c (.b (decide (a.v = m.fr))), X) := by
  refine det (cw120 ?_) k
  unfold vf120c
  obtain ⟨a1, a2⟩ := a
  obtain ⟨m1, m2⟩ := m
  simp only at h hne ⊢
  obtain ⟨X1, hX1⟩ : ∃ X1, X ++ [(⟨[.i a1, .i a2], 0, true, 2⟩ : Ob)] = X1 := ⟨_, rfl⟩
  have h1 : rdOb X1 p g = some ⟨[.i m1, .i m2], g, true, 2⟩ := by rw [← hX1]; exact rdOb_app _ h
  have h2 : rdOb X1 X.length 0 = some ⟨[.i a1, .i a2], 0, true, 2⟩ := by rw [← hX1]; simp
  have n1 : rdN X1 p g 0 2 = some [.i m1, .i m2] := by rw [rdN_ob h1]; simp
  have n2 : rdN X1 X.length 0 0 2 = some [.i a1, .i a2] := by rw [rdN_ob h2]; simp
  have k1 : rdC X1 p g 0 = some (.i m1) := by rw [rdC_ob h1]; rfl
  have k2 : rdC X1 X.length 0 1 = some (.i a2) := by rw [rdC_ob h2]; rfl
  have hp : Pre X X1 := ⟨_, hX1.symm⟩
  have hne' : ¬ m2 = m1 := fun h => hne h.symm
  by_cases e1 : a1 = m1
  · subst e1
    by_cases e2 : a2 = m2
    · subst e2
      simp [hX1, n1, n2, k1, k2, hne', allInt]
      exact gcRet_flat hp rfl
    · by_cases e4 : a2 = a1
      · subst e4
        simp [hX1, n1, n2, k1, k2, e2, allInt]
        exact gcRet_flat hp rfl
      · simp [hX1, n1, n2, k1, k2, e2, e4, allInt]
        exact gcRet_flat hp rfl
  · by_cases e4 : a2 = m1
    · subst e4
      simp [hX1, n1, n2, k1, k2, e1, allInt]
      exact gcRet_flat hp rfl
    · simp [hX1, n1, n2, k1, k2, e1, e4, allInt]
      exact gcRet_flat hp rfl
theorem freeOne {X : Hp} {q : Nat} {w : CV} {ms : List ArmR} (h : rdC X q 0 0 = some w) (hw : Arms X w ms) (hb : ms.length ≤ BIG) {m : ArmR} (hne : m.fr ≠ m.v) (k : IV × Hp → Prop) :
    CM 119 [.agg [.i m.fr, .i m.v], .c (.p q 0 0)] X k = k (.c (.b (frB ms m)), X) := by
  refine det (cw119 ?_) k
  unfold vf119c
  obtain ⟨X1, hX1⟩ : ∃ X1, X ++ [(⟨[.i m.fr, .i m.v], 0, true, 2⟩ : Ob)] = X1 := ⟨_, rfl⟩
  have hp : Pre X X1 := ⟨_, hX1.symm⟩
  have h1 : rdC X1 q 0 0 = some w := rdC_pre hp h
  have h2 : rdOb X1 X.length 0 = some ⟨[.i m.fr, .i m.v], 0, true, 2⟩ := by rw [← hX1]; simp
  have hc := fun k => containsMove (Row.pre (fun _ _ => armP.pre) hp hw) hb (fid := 120) (caps := [.p X.length 0 0]) (fun o => decide (o.v = m.fr)) (fun i hi cs hcs k => by
    have hcs : cs = armC _ := hcs
    subst hcs
    exact freeOther h2 hne _ k) k
  simp [hX1, h1, hc]
  rw [gcRet_flat hp rfl]
  simp [frB]
theorem freeMove_call {X : Hp} {id g off n : Nat} {ms : List ArmR} (hw : Arms X (.sl id g off n) ms) (hb : ms.length ≤ BIG) (hne : ∀ m ∈ ms, m.fr ≠ m.v) (k : IV × Hp → Prop) :
    CM 78 [.c (.sl id g off n)] X k = k (.c (.i (findI (frB ms) ms)), X) := by
  refine det (cw78 ?_) k
  unfold vf78c
  obtain ⟨X1, hX1⟩ : ∃ X1, X ++ [(⟨[.sl id g off n], 0, true, 1⟩ : Ob)] = X1 := ⟨_, rfl⟩
  have hp : Pre X X1 := ⟨_, hX1.symm⟩
  have h2 : rdOb X1 X.length 0 = some ⟨[.sl id g off n], 0, true, 1⟩ := by rw [← hX1]; simp
  have h1 : rdC X1 X.length 0 0 = some (.sl id g off n) := by rw [rdC_ob h2]; rfl
  have hw1 := Row.pre (fun _ _ => armP.pre) hp hw
  have hc := fun k => indexMove hw1 hb (fid := 119) (caps := [.p X.length 0 0]) (frB ms) (fun i hi cs hcs k => by
    have hcs : cs = armC _ := hcs
    subst hcs
    exact freeOne h1 hw1 hb (hne _ (List.getElem_mem hi)) k) k
  simp [hX1, h1, hc]
  rw [gcRet_flat hp rfl]
/-! ### Plain -/
def turnM (n b : Int) (a : ArmR) : ArmR := if a.v = b then ⟨a.fr, n⟩ else a
def seqF (n : Int) : Nat → List ArmR → List ArmR → List ArmR
  | 0, _, out => out
  | f + 1, left, out =>
    if left.length = 0 then out
    else if 0 ≤ findI (frB left) left then seqF n f (left.eraseIdx (findI (frB left) left).toNat) (out ++ [left.getD (findI (frB left) left).toNat ⟨0, 0⟩])
    else seqF n f (left.map (turnM n (left.getD 0 ⟨0, 0⟩).fr)) (out ++ [⟨n, (left.getD 0 ⟨0, 0⟩).fr⟩])
def GoodM (n : Int) (ms : List ArmR) : Prop := ∀ m ∈ ms, m.fr ≠ m.v ∧ m.fr < n
def muM (ms : List ArmR) : Nat := 2 * ms.length + (if ms.any (frB ms) = true then 0 else 1)
theorem seq_nil (n : Int) (f : Nat) (out : List ArmR) : seqF n f [] out = out := by cases f <;> rfl
theorem findI_at {p : ArmR → Bool} {xs : List ArmR} (h : 0 ≤ findI p xs) : ∃ i : Nat, findI p xs = i ∧ ∃ hi : i < xs.length, p xs[i] = true := by
  unfold findI at h ⊢
  cases hf : xs.findIdx? p with
  | none => rw [hf] at h; exact absurd h (by decide)
  | some j =>
    rw [List.findIdx?_eq_some_iff_getElem] at hf
    obtain ⟨hj, h2, h3⟩ := hf
    exact ⟨j, rfl, hj, h2⟩
theorem good_erase {n : Int} {ms : List ArmR} (h : GoodM n ms) (i : Nat) : GoodM n (ms.eraseIdx i) := fun m hm => h m (List.mem_of_mem_eraseIdx hm)
theorem mu_erase {ms : List ArmR} {i : Nat} (hi : i < ms.length) : muM (ms.eraseIdx i) < muM ms := by
  unfold muM
  rw [List.length_eraseIdx, if_pos hi]
  split <;> split <;> omega
theorem good_turn {n b : Int} {ms : List ArmR} (h : GoodM n ms) : GoodM n (ms.map (turnM n b)) := by
  intro m hm
  rw [List.mem_map] at hm
  obtain ⟨a, ha, rfl⟩ := hm
  have := h a ha
  unfold turnM
  split
  · exact ⟨by simp only; omega, this.2⟩
  · exact this
theorem mu_turn {n : Int} {ms : List ArmR} (h : GoodM n ms) (h0 : 0 < ms.length) (hf : findI (frB ms) ms < 0) : muM (ms.map (turnM n (ms.getD 0 ⟨0, 0⟩).fr)) < muM ms := by
  have hno : ms.any (frB ms) = false := by
    cases ha : ms.any (frB ms) with
    | false => rfl
    | true => have := findI_nonneg.2 ha; omega
  unfold muM
  rw [List.length_map, hno]
  have hyes : (ms.map (turnM n (ms.getD 0 ⟨0, 0⟩).fr)).any (frB (ms.map (turnM n (ms.getD 0 ⟨0, 0⟩).fr))) = true := by
    match ms, h0 with
    | a :: r, _ =>
      have hga := h a (by simp)
      rw [List.any_eq_true]
      refine ⟨turnM n a.fr a, by simp, ?_⟩
      unfold frB
      rw [Bool.not_eq_true', List.any_eq_false]
      intro o ho
      rw [List.mem_map] at ho
      obtain ⟨c, hc, rfl⟩ := ho
      have e : (turnM n a.fr a).fr = a.fr := by unfold turnM; split <;> rfl
      rw [e]
      simp only [decide_eq_true_eq]
      simp only [List.getD_cons_zero]
      unfold turnM
      split
      · simp only; omega
      · assumption
  rw [hyes]
  simp
end Go.Proofs.Ytnpbldjbfkpbcaa.Vm
end
