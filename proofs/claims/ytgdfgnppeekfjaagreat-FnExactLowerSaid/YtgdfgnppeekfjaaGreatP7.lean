import Derived.Test.YtgdfgnppeekfjaaGreatP5
section
/- What is well is made once, plain. No conditions. -/
namespace Go.Proofs.YtgdfgnppeekfjaaGreat.Vm
open Go.RowKit (wrap64)
set_option linter.unusedSimpArgs false
set_option linter.unusedVariables false
def defI (x : InsR) : List Int := if 0 ≤ insDefF x then [insDefF x] else []
def defsB (b : BlkR) : List Int := b.phis.map (·.d) ++ b.list.flatMap defI
theorem tickB_defs (vs : List Int) (b : BlkR) : tickB vs b = (defsB b).foldl tick vs := by
  unfold tickB defsB
  rw [List.foldl_append, List.foldl_map, List.foldl_flatMap]
  congr 1
  funext ws x
  unfold tickI defI
  split <;> rfl
theorem madeF_defs (f : FnR) : madeF f = (f.blocks.flatMap defsB).foldl tick (List.replicate f.values.toNat 0) := by
  unfold madeF
  rw [List.foldl_flatMap]
  congr 1
  funext ws b
  exact tickB_defs ws b
theorem tick_count {n : Nat} {d : Nat} (hd : d < n) : ∀ (ds vs : List Int), vs.length = n → (∀ x ∈ ds, ∃ k : Nat, x = k ∧ k < n) → (ds.foldl tick vs).getD d 0 = vs.getD d 0 + (ds.count (d : Int) : Int) := by
  intro ds
  induction ds with
  | nil => intro vs _ _; simp
  | cons x r ih =>
    intro vs hl h
    obtain ⟨k, rfl, hk⟩ := h x (by simp)
    rw [List.foldl_cons, ih _ (by rw [tick_len]; exact hl) (fun y hy => h y (by simp [hy])), List.count_cons]
    unfold tick
    rw [Int.toNat_natCast, List.getD_eq_getElem?_getD, List.getElem?_set]
    by_cases e : k = d
    · subst e
      simp [hl, hk]; omega
    · have e2 : ¬ ((k : Int) = (d : Int)) := by omega
      rw [if_neg e, ← List.getD_eq_getElem?_getD]
      simp [e2]
theorem flat2 {β : Type} {f : β → List Int} {d : Int} : ∀ (bs : List β) (i j : Nat) (hj : j < bs.length) (hij : i < j), d ∈ f (bs[i]'(by omega)) → d ∈ f bs[j] → 2 ≤ (bs.flatMap f).count d := by
  intro bs
  induction bs with
  | nil => intro i j hj; simp at hj
  | cons b r ih =>
    intro i j hj hij h1 h2
    rw [List.flatMap_cons, List.count_append]
    cases j with
    | zero => omega
    | succ j =>
      have hj' : j < r.length := by simpa using hj
      cases i with
      | zero =>
        have a : 0 < (f b).count d := List.count_pos_iff.2 (by simpa using h1)
        have c : 0 < (r.flatMap f).count d := List.count_pos_iff.2 (List.mem_flatMap.2 ⟨_, List.getElem_mem hj', by simpa using h2⟩)
        omega
      | succ i =>
        have := ih i j hj' (by omega) (by simpa using h1) (by simpa using h2)
        omega
theorem count_part {β : Type} {f : β → List Int} {d : Int} {bs : List β} {b : β} (hb : b ∈ bs) : (f b).count d ≤ (bs.flatMap f).count d := by
  induction bs with
  | nil => simp at hb
  | cons c r ih =>
    rw [List.flatMap_cons, List.count_append]
    rcases List.mem_cons.1 hb with rfl | h
    · omega
    · have := ih h; omega
theorem made_defs {f : FnR} (hsh : shapeB f = true) : ∀ x ∈ f.blocks.flatMap defsB, ∃ k : Nat, x = k ∧ k < f.values.toNat := by
  intro x hx
  obtain ⟨b, hb, hx⟩ := List.mem_flatMap.1 hx
  unfold defsB at hx
  rcases List.mem_append.1 hx with h | h
  · obtain ⟨p, hp, rfl⟩ := List.mem_map.1 h
    exact val_nat (phi_vals (shape_phi hsh hb hp)).1
  · obtain ⟨y, hy, h⟩ := List.mem_flatMap.1 h
    unfold defI at h
    by_cases h0 : 0 ≤ insDefF y
    · rw [if_pos h0] at h
      simp at h
      rw [h]
      exact ins_def (shape_ins hsh hb hy) h0
    · rw [if_neg h0] at h; simp at h
theorem once {f : FnR} (hsh : shapeB f = true) (hm : ((madeF f).any fun n => decide (1 < n)) = false) (d : Int) : (f.blocks.flatMap defsB).count d ≤ 1 := by
  by_cases hd : d ∈ f.blocks.flatMap defsB
  · obtain ⟨k, rfl, hk⟩ := made_defs hsh d hd
    have h := tick_count hk (f.blocks.flatMap defsB) (List.replicate f.values.toNat 0) (by simp) (made_defs hsh)
    rw [← madeF_defs] at h
    have hl : (madeF f).length = f.values.toNat := by unfold madeF; rw [ticksB_len]; simp
    have hlt : k < (madeF f).length := by omega
    rw [List.any_eq_false] at hm
    have h1 := hm _ (List.getElem_mem hlt)
    have h2 : (madeF f).getD k 0 = (madeF f)[k] := by rw [List.getD_eq_getElem?_getD, List.getElem?_eq_getElem hlt]; rfl
    have h3 : (List.replicate f.values.toNat (0 : Int)).getD k 0 = 0 := by rw [List.getD_eq_getElem?_getD, List.getElem?_replicate]; split <;> rfl
    rw [h2, h3] at h
    simp at h1
    omega
  · rw [List.count_eq_zero.2 hd]; omega
end Go.Proofs.YtgdfgnppeekfjaaGreat.Vm
end
section
/- Values made used: both sides. No conditions. -/
namespace Go.Proofs.YtgdfgnppeekfjaaGreat.Vm
open Go.RowKit (wrap64)
set_option linter.unusedSimpArgs false
set_option linter.unusedVariables false
def UsOb (us : List Bool) : Ob := ⟨us.map .b, 0, true, 1⟩
end Go.Proofs.YtgdfgnppeekfjaaGreat.Vm
end
section
/- What is used, plain: the least that holds what must be. No conditions. -/
namespace Go.Proofs.YtgdfgnppeekfjaaGreat.Vm
open Go.RowKit (wrap64)
set_option linter.unusedSimpArgs false
set_option linter.unusedVariables false
def keepsF (op : Int) : Bool := decide (op = 22) || decide (op = 23) || decide (op = 21)
inductive UsedP (bs : List BlkR) : Int → Prop
  | term {b : BlkR} (hb : b ∈ bs) {v : Int} (hv : v ∈ tusesF b.term) : UsedP bs v
  | stay {b : BlkR} (hb : b ∈ bs) {x : InsR} (hx : x ∈ b.list) (hs : keepsF x.op = true) {v : Int} (hv : v ∈ usesF x) : UsedP bs v
  | make {b : BlkR} (hb : b ∈ bs) {x : InsR} (hx : x ∈ b.list) (hd : 0 ≤ insDefF x) (hu : UsedP bs (insDefF x)) {v : Int} (hv : v ∈ usesF x) : UsedP bs v
  | phi {b : BlkR} (hb : b ∈ bs) {p : PhiR} (hp : p ∈ b.phis) (hu : UsedP bs p.d) {a : ArmR} (ha : a ∈ p.arms) : UsedP bs a.v
def Us (us : List Bool) (v : Int) : Prop := us.getD v.toNat false = true
structure Rnd (bs : List BlkR) (us0 us : List Bool) (m : Bool) : Prop where
  len : us.length = us0.length
  snd : ∀ j : Nat, us.getD j false = true → UsedP bs j
  no : m = false → us = us0
  yes : m = true → cf us < cf us0
theorem Rnd.trans {bs : List BlkR} {a b c : List Bool} {m n : Bool} (h : Rnd bs a b m) (k : Rnd bs b c n) : Rnd bs a c (m || n) := by
  refine ⟨k.len.trans h.len, k.snd, fun hf => ?_, fun ht => ?_⟩
  · rw [Bool.or_eq_false_iff] at hf
    rw [k.no hf.2, h.no hf.1]
  · cases hm : m with
    | true =>
      have a1 := h.yes hm
      cases hn : n with
      | true => have := k.yes hn; omega
      | false => rw [k.no hn]; exact a1
    | false =>
      rw [hm, Bool.false_or] at ht
      rw [← h.no hm]; exact k.yes ht
/-- All that a block takes for what is used is used. -/
structure ClosedB (us : List Bool) (b : BlkR) : Prop where
  term : ∀ v ∈ tusesF b.term, Us us v
  phi : ∀ p ∈ b.phis, Us us p.d → ∀ a ∈ p.arms, Us us a.v
  ins : ∀ x ∈ b.list, (keepsF x.op = true ∨ (0 ≤ insDefF x ∧ Us us (insDefF x))) → ∀ v ∈ usesF x, Us us v
end Go.Proofs.YtgdfgnppeekfjaaGreat.Vm
end
section
/- Values made used: both sides. No conditions. -/
namespace Go.Proofs.YtgdfgnppeekfjaaGreat.Vm
open Go.RowKit (wrap64)
set_option linter.unusedSimpArgs false
set_option linter.unusedVariables false
end Go.Proofs.YtgdfgnppeekfjaaGreat.Vm
end
section
/- One block's round of what is used: the program's side. No conditions. -/
namespace Go.Proofs.YtgdfgnppeekfjaaGreat.Vm
open Go.RowKit (wrap64)
set_option linter.unusedSimpArgs false
set_option linter.unusedVariables false
end Go.Proofs.YtgdfgnppeekfjaaGreat.Vm
end
section
/- One block's round of what is used: the program's side, the walk. No conditions. -/
namespace Go.Proofs.YtgdfgnppeekfjaaGreat.Vm
open Go.RowKit (wrap64)
set_option linter.unusedSimpArgs false
set_option linter.unusedVariables false
def BlkRes (H : Hp) (bs : List BlkR) (uid : Nat) (us : List Bool) (b : BlkR) (r : IV × Hp) : Prop :=
  ∃ us' m Y, r = (.c (.b m), Y) ∧ Pre H Y ∧ rdOb Y uid 0 = some (UsOb us') ∧ Rnd bs us us' m ∧ (m = false → ClosedB us b)
end Go.Proofs.YtgdfgnppeekfjaaGreat.Vm
end
section
/- Used: the program's side. No conditions. -/
namespace Go.Proofs.YtgdfgnppeekfjaaGreat.Vm
open Go.RowKit (wrap64)
set_option linter.unusedSimpArgs false
set_option linter.unusedVariables false
end Go.Proofs.YtgdfgnppeekfjaaGreat.Vm
end
section
/- A round of what is used: the specification's side. No conditions. -/
namespace Go.Proofs.YtgdfgnppeekfjaaGreat.Vm
open Go.RowKit (wrap64)
set_option linter.unusedSimpArgs false
set_option linter.unusedVariables false
def RoundRes (H : Hp) (bs : List BlkR) (uid : Nat) (us : List Bool) (r : IV × Hp) : Prop :=
  ∃ us' m Y, r = (.c (.b m), Y) ∧ Pre H Y ∧ rdOb Y uid 0 = some (UsOb us') ∧ Rnd bs us us' m ∧ (m = false → ∀ b ∈ bs, ClosedB us b)
end Go.Proofs.YtgdfgnppeekfjaaGreat.Vm
end
section
/- Used: the specification's side. No conditions. -/
namespace Go.Proofs.YtgdfgnppeekfjaaGreat.Vm
open Go.RowKit (wrap64)
set_option linter.unusedSimpArgs false
set_option linter.unusedVariables false
end Go.Proofs.YtgdfgnppeekfjaaGreat.Vm
end
