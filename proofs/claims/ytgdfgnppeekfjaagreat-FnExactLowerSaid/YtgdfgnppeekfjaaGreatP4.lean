import Derived.Test.YtgdfgnppeekfjaaGreatP2
import Derived.Test.YtgdfgnppeekfjaaGreatP1
import Derived.Test.YtgdfgnppeekfjaaGreatP3
import Derived.Test.YtgdfgnppeekfjaaGreatVmX
section
/- What a program tells. Plain. No conditions. -/
namespace Go.Proofs.YtgdfgnppeekfjaaGreat.Vm
set_option linter.unusedSimpArgs false
set_option linter.unusedVariables false
/-- Where a run is. -/
structure RunS where
  vals : List Int
  cells : List Int
  reads : List Int
  told : List Int
  path : List Int
def RunS.get (s : RunS) (v : Int) : Int := s.vals.getD v.toNat 0
def RunS.put (s : RunS) (v x : Int) : RunS := { s with vals := s.vals.set v.toNat x }
def blk0 : BlkR := ⟨[], [], ⟨0, 0, 0, 0⟩⟩
/-! ### What holds of it all along -/
structure RunOk (n : Nat) (s : RunS) : Prop where
  vals : s.vals.length = n
  cells : s.cells.length = 8
theorem RunS.put_len (s : RunS) (v x : Int) : (s.put v x).vals.length = s.vals.length := by simp [RunS.put]
theorem blk_at {bs : List BlkR} {b : Nat} (h : b < bs.length) : bs.getD b blk0 = bs[b] := by simp [List.getD_eq_getElem?_getD, h]
/-! ### Each place, by what it is -/
theorem insB_word {x : InsR} {m : Int} (h : insB x m = true) (hw : wordOk x.op = true) : valB x.d m = true ∧ valB x.a m = true ∧ valB x.b m = true := by
  unfold insB at h; rw [if_pos hw] at h
  simp only [Bool.and_eq_true] at h; exact ⟨h.1.1.1, h.1.1.2, h.1.2⟩
theorem ins_kinds {x : InsR} {m : Int} (h : insB x m = true) : wordOk x.op = true ∨ (wordOk x.op = false ∧ (x.op = 20 ∨ x.op = 21 ∨ x.op = 22 ∨ x.op = 23 ∨ x.op = 24 ∨ x.op = 25)) := by
  cases hw : wordOk x.op with
  | true => exact .inl rfl
  | false =>
    refine .inr ⟨rfl, ?_⟩
    unfold insB at h
    rw [hw] at h
    simp only [Bool.false_eq_true, if_false] at h
    by_cases h1 : x.op = 20
    · exact .inl h1
    · rw [if_neg h1] at h
      by_cases h2 : x.op = 21 ∨ x.op = 25
      · rcases h2 with h2 | h2
        · exact .inr (.inl h2)
        · exact .inr (.inr (.inr (.inr (.inr h2))))
      · rw [if_neg h2] at h
        by_cases h3 : x.op = 22
        · exact .inr (.inr (.inl h3))
        · rw [if_neg h3] at h
          by_cases h4 : x.op = 23
          · exact .inr (.inr (.inr (.inl h4)))
          · rw [if_neg h4] at h
            by_cases h5 : x.op = 24
            · exact .inr (.inr (.inr (.inr (.inl h5))))
            · rw [if_neg h5] at h; cases h
theorem val_nat {v m : Int} (h : valB v m = true) : ∃ k : Nat, v = k ∧ k < m.toNat := by
  have := of_decide_eq_true h
  exact ⟨v.toNat, by omega, by omega⟩
end Go.Proofs.YtgdfgnppeekfjaaGreat.Vm
end
section
/- A run as it lies in memory: the same on both sides. No conditions. -/
namespace Go.Proofs.YtgdfgnppeekfjaaGreat.Vm
open Go.RowKit (wrap64)
set_option linter.unusedSimpArgs false
set_option linter.unusedVariables false
abbrev RK := Nat → Nat
def RK.new (κ : RK) (lo hi k : Nat) : RK := fun id => if lo ≤ id ∧ id < hi then k else κ id
def layR (side : Bool) (v : CV) (m e : Int) (vv cv rv tv pv : CV) (fu : Int) : List CV :=
  if side = true then [v, .i m, vv, cv, rv, .i fu, tv, pv, .i e] else [vv, cv, rv, tv, pv, .i fu]
def szR (side : Bool) : Nat := if side = true then 9 else 6
/-- The parts of a run. -/
structure RP (side : Bool) (v : CV) (m : Int) (n : Nat) (κ : RK) (X : Hp) (c : Nat) (e : Int) (s : RunS) (fu : Int) (vi gv ci : Nat) (rv tv pv : CV) : Prop where
  ok : RunOk n s
  ob : rdOb X c 0 = some ⟨layR side v m e (.sl vi gv 0 n) (.sl ci 0 0 8) rv tv pv fu, 0, true, szR side⟩
  kc : κ c = 1
  kv : κ vi = 2
  ki : κ ci = 3
  vals : rdOb X vi gv = some ⟨s.vals.map .i, gv, true, 1⟩
  cells : rdOb X ci 0 = some ⟨s.cells.map .i, 0, true, 1⟩
  reads : IsI X rv s.reads
  kr : ∀ id g off k, rv = .sl id g off k → κ id = 0
  told : OutR X tv s.told
  kt : ∀ id, IsOut tv id → κ id = 4
  path : OutR X pv s.path
  kp : ∀ id, IsOut pv id → κ id = 5
  fr : ∀ id, X.length ≤ id → κ id = 0
/-- What is no part of the run stays. -/
structure Fr (κ κ' : RK) (X Y : Hp) : Prop where
  le : X.length ≤ Y.length
  same : ∀ id, id < X.length → κ' id = κ id
  keep : ∀ id g o, κ id = 0 → rdOb X id g = some o → rdOb Y id g = some o
def RInv (side : Bool) (v : CV) (m : Int) (n : Nat) (κ : RK) (X : Hp) (c : Nat) (e : Int) (s : RunS) (fu : Int) : Prop :=
  ∃ vi gv ci rv tv pv, RP side v m n κ X c e s fu vi gv ci rv tv pv
theorem Fr.trans {κ κ' κ'' : RK} {X Y Z : Hp} (h : Fr κ κ' X Y) (k : Fr κ' κ'' Y Z) : Fr κ κ'' X Z :=
  ⟨Nat.le_trans h.le k.le, fun id hi => (k.same id (Nat.lt_of_lt_of_le hi h.le)).trans (h.same id hi), fun id g o h0 ho => k.keep id g o (by rw [h.same id (rdOb_lt ho)]; exact h0) (h.keep id g o h0 ho)⟩
theorem Fr.app (κ : RK) (X L : Hp) : Fr κ κ X (X ++ L) := ⟨by simp, fun _ _ => rfl, fun _ _ _ _ h => rdOb_app L h⟩
theorem Fr.set {κ : RK} {X : Hp} {i : Nat} (h : κ i ≠ 0) (o : Ob) : Fr κ κ X (X.set i o) := ⟨by simp, fun _ _ => rfl, fun id g ob h0 ho => by rw [rdOb_set_ne (fun e => h (by rw [← e]; exact h0))]; exact ho⟩
theorem Fr.pre {H X Y : Hp} {κ κ' : RK} (h : Fr κ κ' X Y) (hp : Pre H X) (hk : ∀ id, id < H.length → κ id = 0) : Pre H Y :=
  Low.pre (lo := H.length) (fun id g o hi ho => h.keep id g o (hk id hi) ho) hp (Nat.le_refl _)
theorem Fr.isI {X Y : Hp} {κ κ' : RK} (h : Fr κ κ' X Y) {w : CV} {xs : List Int} (hw : IsI X w xs) (hk : ∀ id g off k, w = .sl id g off k → κ id = 0) : IsI Y w xs := by
  rcases hw with hw | ⟨id, g, off, o, rfl, h2, h3⟩
  · exact .inl hw
  · exact .inr ⟨id, g, off, o, rfl, h.keep _ _ _ (hk _ _ _ _ rfl) h2, h3⟩
section
variable {side : Bool} {v : CV} {m e : Int} {n : Nat} {κ : RK} {X : Hp} {c : Nat} {s : RunS} {fu : Int} {vi gv ci : Nat} {rv tv pv : CV}
theorem RP.app (h : RP side v m n κ X c e s fu vi gv ci rv tv pv) (L : Hp) : RP side v m n κ (X ++ L) c e s fu vi gv ci rv tv pv :=
  ⟨h.ok, rdOb_app L h.ob, h.kc, h.kv, h.ki, rdOb_app L h.vals, rdOb_app L h.cells, Sl.app L h.reads, h.kr, h.told.keep fun _ _ _ _ k => rdOb_app L k, h.kt, h.path.keep fun _ _ _ _ k => rdOb_app L k, h.kp,
    fun id hi => h.fr id (by simp only [List.length_append] at hi; omega)⟩
theorem RInv.app (h : RInv side v m n κ X c e s fu) (L : Hp) : RInv side v m n κ (X ++ L) c e s fu := by
  obtain ⟨vi, gv, ci, rv, tv, pv, h⟩ := h; exact ⟨vi, gv, ci, rv, tv, pv, h.app L⟩
theorem isI_keep {X Y : Hp} {w : CV} {xs : List Int} (hw : IsI X w xs) (hk : ∀ id g off k o, w = .sl id g off k → rdOb X id g = some o → rdOb Y id g = some o) : IsI Y w xs := by
  rcases hw with hw | ⟨id, g, off, o, rfl, h2, h3⟩
  · exact .inl hw
  · exact .inr ⟨id, g, off, o, rfl, hk _ _ _ _ _ rfl h2, h3⟩
theorem RP.put (h : RP side v m n κ X c e s fu vi gv ci rv tv pv) (k : Int) (x : Int) : RP side v m n κ (X.set vi ⟨(s.put k x).vals.map .i, gv, true, 1⟩) c e (s.put k x) fu vi gv ci rv tv pv := by
  have ne : ∀ id j, κ id = j → j ≠ 2 → id ≠ vi := fun id j h1 h2 e => h2 (by rw [← h1, e, h.kv])
  refine ⟨⟨by rw [RunS.put_len]; exact h.ok.vals, h.ok.cells⟩, ?_, h.kc, h.kv, h.ki, ?_, ?_, ?_, h.kr, ?_, h.kt, ?_, h.kp, ?_⟩
  · rw [rdOb_set_ne (ne _ _ h.kc (by omega))]; exact h.ob
  · rw [rdOb_set_self (rdOb_lt h.vals)]; simp
  · rw [rdOb_set_ne (ne _ _ h.ki (by omega))]; exact h.cells
  · exact isI_keep h.reads fun id g off k o he ho => by rw [rdOb_set_ne (ne _ _ (h.kr _ _ _ _ he) (by omega))]; exact ho
  · exact h.told.keep fun id g o hi ho => by rw [rdOb_set_ne (ne _ _ (h.kt _ hi) (by omega))]; exact ho
  · exact h.path.keep fun id g o hi ho => by rw [rdOb_set_ne (ne _ _ (h.kp _ hi) (by omega))]; exact ho
  · intro id hi; rw [List.length_set] at hi; exact h.fr id hi
theorem RP.cell (h : RP side v m n κ X c e s fu vi gv ci rv tv pv) (k : Nat) (x : Int) : RP side v m n κ (X.set ci ⟨(s.cells.set k x).map .i, 0, true, 1⟩) c e { s with cells := s.cells.set k x } fu vi gv ci rv tv pv := by
  have ne : ∀ id j, κ id = j → j ≠ 3 → id ≠ ci := fun id j h1 h2 e => h2 (by rw [← h1, e, h.ki])
  refine ⟨⟨h.ok.vals, by simp [h.ok.cells]⟩, ?_, h.kc, h.kv, h.ki, ?_, ?_, ?_, h.kr, ?_, h.kt, ?_, h.kp, ?_⟩
  · rw [rdOb_set_ne (ne _ _ h.kc (by omega))]; exact h.ob
  · rw [rdOb_set_ne (ne _ _ h.kv (by omega))]; exact h.vals
  · rw [rdOb_set_self (rdOb_lt h.cells)]; simp
  · exact isI_keep h.reads fun id g off k o he ho => by rw [rdOb_set_ne (ne _ _ (h.kr _ _ _ _ he) (by omega))]; exact ho
  · exact h.told.keep fun id g o hi ho => by rw [rdOb_set_ne (ne _ _ (h.kt _ hi) (by omega))]; exact ho
  · exact h.path.keep fun id g o hi ho => by rw [rdOb_set_ne (ne _ _ (h.kp _ hi) (by omega))]; exact ho
  · intro id hi; rw [List.length_set] at hi; exact h.fr id hi
theorem RP.own (h : RP side v m n κ X c e s fu vi gv ci rv tv pv) {e' fu' : Int} {rv' : CV} {rs : List Int} (hr : IsI X rv' rs) (kr : ∀ id g off k, rv' = .sl id g off k → κ id = 0) :
    RP side v m n κ (X.set c ⟨layR side v m e' (.sl vi gv 0 n) (.sl ci 0 0 8) rv' tv pv fu', 0, true, szR side⟩) c e' { s with reads := rs } fu' vi gv ci rv' tv pv := by
  have ne : ∀ id j, κ id = j → j ≠ 1 → id ≠ c := fun id j h1 h2 e => h2 (by rw [← h1, e, h.kc])
  refine ⟨⟨h.ok.vals, h.ok.cells⟩, ?_, h.kc, h.kv, h.ki, ?_, ?_, ?_, kr, ?_, h.kt, ?_, h.kp, ?_⟩
  · rw [rdOb_set_self (rdOb_lt h.ob)]; simp
  · rw [rdOb_set_ne (ne _ _ h.kv (by omega))]; exact h.vals
  · rw [rdOb_set_ne (ne _ _ h.ki (by omega))]; exact h.cells
  · exact isI_keep hr fun id g off k o he ho => by rw [rdOb_set_ne (ne _ _ (kr _ _ _ _ he) (by omega))]; exact ho
  · exact h.told.keep fun id g o hi ho => by rw [rdOb_set_ne (ne _ _ (h.kt _ hi) (by omega))]; exact ho
  · exact h.path.keep fun id g o hi ho => by rw [rdOb_set_ne (ne _ _ (h.kp _ hi) (by omega))]; exact ho
  · intro id hi; rw [List.length_set] at hi; exact h.fr id hi
end
end Go.Proofs.YtgdfgnppeekfjaaGreat.Vm
end
section
/- The program's runner: fuel, reading, a place of a list, coming to a block. No conditions. -/
namespace Go.Proofs.YtgdfgnppeekfjaaGreat.Vm
open Go.RowKit (wrap64)
set_option linter.unusedSimpArgs false
set_option linter.unusedVariables false
theorem idx1 {id g n j : Nat} (h : j < n) : idxOf 1 (.sl id g 0 n) (j : Int) = some (.p id g j) := by simp [idxOf, h]
def InsRes (side : Bool) (v : CV) (m : Int) (n : Nat) (κ : RK) (X : Hp) (c : Nat) (q : Int × Nat × RunS) (r : IV × Hp) : Prop :=
  ∃ κ' Z fu', r = (.c (.i q.1), Z) ∧ RInv side v m n κ' Z c 0 q.2.2 fu' ∧ Fr κ κ' X Z ∧ (q.1 = 0 → fu' = (q.2.1 : Int))
end Go.Proofs.YtgdfgnppeekfjaaGreat.Vm
end
section
/- The program's runner: coming to a block, and the whole run. No conditions. -/
namespace Go.Proofs.YtgdfgnppeekfjaaGreat.Vm
open Go.RowKit (wrap64)
set_option linter.unusedSimpArgs false
set_option linter.unusedVariables false
def UnitRes (side : Bool) (v : CV) (m : Int) (n : Nat) (κ : RK) (X : Hp) (c : Nat) (s' : RunS) (fu : Int) (r : IV × Hp) : Prop :=
  ∃ κ' Z, r = (.tup [], Z) ∧ RInv side v m n κ' Z c 0 s' fu ∧ Fr κ κ' X Z
theorem phi_vals {n m : Int} {p : PhiR} (h : phiB n m p = true) : valB p.d m = true ∧ p.arms.length ≤ 16 ∧ ∀ i (hi : i < p.arms.length), inB p.arms[i].fr 0 (n - 1) = true ∧ valB p.arms[i].v m = true := by
  unfold phiB at h
  simp only [Bool.and_eq_true, decide_eq_true_eq] at h
  refine ⟨h.1.1, h.1.2, fun i hi => ?_⟩
  have h2 := h.2
  unfold armsB at h2
  rw [List.all_eq_true] at h2
  have h3 := h2 i (List.mem_range.2 hi)
  rw [armB_at hi] at h3
  simp only [Bool.and_eq_true] at h3
  exact ⟨h3.1.1, h3.1.2⟩
end Go.Proofs.YtgdfgnppeekfjaaGreat.Vm
end
section
/- The program's runner: the whole run. No conditions. -/
namespace Go.Proofs.YtgdfgnppeekfjaaGreat.Vm
open Go.RowKit (wrap64)
set_option linter.unusedSimpArgs false
set_option linter.unusedVariables false
theorem put5 (a b c d e p q r s t : CV) : putAt [a, b, c, d, e] 0 [p, q, r, s, t] = [p, q, r, s, t] := rfl
def RunRes (side : Bool) (v : CV) (m : Int) (n : Nat) (κ : RK) (X : Hp) (c : Nat) (q : Int × Int × RunS) (r : IV × Hp) : Prop :=
  ∃ κ' Z fu', r = (.c (.i q.1), Z) ∧ RInv side v m n κ' Z c q.2.1 q.2.2 fu' ∧ Fr κ κ' X Z
end Go.Proofs.YtgdfgnppeekfjaaGreat.Vm
end
section
/- The program's runs: Run and Path. No conditions. -/
namespace Go.Proofs.YtgdfgnppeekfjaaGreat.Vm
open Go.RowKit (wrap64)
set_option linter.unusedSimpArgs false
set_option linter.unusedVariables false
def RunOut (H : Hp) (q : Int × Int × RunS) (r : IV × Hp) : Prop :=
  ∃ Z tv, r = (.tup [(false, [tv]), (false, [.i q.1]), (false, [.i q.2.1])], Z) ∧ Pre H Z ∧ OutR Z tv q.2.2.told ∧ ∀ id, IsOut tv id → H.length ≤ id
theorem OutR.form {X : Hp} {w : CV} {xs : List Int} (h : OutR X w xs) : w = .ns ∨ ∃ id g n, w = .sl id g 0 n := by
  rcases h with ⟨h, _⟩ | ⟨o, g, h, _⟩
  · exact .inl h
  · exact .inr ⟨o, g, _, h⟩
end Go.Proofs.YtgdfgnppeekfjaaGreat.Vm
end
section
/- The specification's run: a place of a list, the phis of a block. No conditions. -/
namespace Go.Proofs.YtgdfgnppeekfjaaGreat.Vm
open Go.RowKit (wrap64)
set_option linter.unusedSimpArgs false
set_option linter.unusedVariables false
def SInsRes (v : CV) (m : Int) (n : Nat) (κ : RK) (X : Hp) (c : Nat) (fu : Int) (q : Int × RunS) (r : IV × Hp) : Prop :=
  ∃ κ' Z, r = (.c (.i q.1), Z) ∧ RInv false v m n κ' Z c 0 q.2 fu ∧ Fr κ κ' X Z
end Go.Proofs.YtgdfgnppeekfjaaGreat.Vm
end
section
/- The specification's run: the phis of a block, and the whole run. No conditions. -/
namespace Go.Proofs.YtgdfgnppeekfjaaGreat.Vm
open Go.RowKit (wrap64)
set_option linter.unusedSimpArgs false
set_option linter.unusedVariables false
end Go.Proofs.YtgdfgnppeekfjaaGreat.Vm
end
section
/- The specification's run, whole. No conditions. -/
namespace Go.Proofs.YtgdfgnppeekfjaaGreat.Vm
open Go.RowKit (wrap64)
set_option linter.unusedSimpArgs false
set_option linter.unusedVariables false
def SRunRes (v : CV) (m : Int) (n : Nat) (κ : RK) (X : Hp) (c : Nat) (q : Int × Int × RunS) (r : IV × Hp) : Prop :=
  ∃ κ' Z fu', r = (.tup [(false, [.i q.1]), (false, [.i q.2.1])], Z) ∧ RInv false v m n κ' Z c 0 q.2.2 fu' ∧ Fr κ κ' X Z
end Go.Proofs.YtgdfgnppeekfjaaGreat.Vm
end
section
/- The specification's run: where it begins; Run and Path. No conditions. -/
namespace Go.Proofs.YtgdfgnppeekfjaaGreat.Vm
open Go.RowKit (wrap64)
set_option linter.unusedSimpArgs false
set_option linter.unusedVariables false
def NewPs (m : Int) (reads : List Int) (κ : RK) (h : Hp) (vi ci ri g ti pi : Nat) : Prop :=
  (κ vi = 2 ∧ rdOb h vi 0 = some ⟨List.replicate m.toNat (.i 0), 0, true, 1⟩) ∧ (κ ci = 3 ∧ rdOb h ci 0 = some ⟨List.replicate 8 (.i 0), 0, true, 1⟩) ∧ (κ ri = 6 ∧ rdOb h ri g = some ⟨reads.map .i, g, true, 1⟩) ∧
  (κ ti = 4 ∧ rdOb h ti 0 = some ⟨[], 0, true, 1⟩) ∧ (κ pi = 5 ∧ rdOb h pi 0 = some ⟨[], 0, true, 1⟩)
def newP (m fuel φ : Int) (rv : CV) (reads : List Int) (κ : RK) (h : Hp) (u : IV) : Nat → Prop
  | 0 => u = .c (.i m)
  | 1 => ∃ i, u = .c (.sl i 0 0 m.toNat) ∧ κ i = 2 ∧ rdOb h i 0 = some ⟨List.replicate m.toNat (.i 0), 0, true, 1⟩
  | 2 => ∃ i, u = .c (.sl i 0 0 8) ∧ κ i = 3 ∧ rdOb h i 0 = some ⟨List.replicate 8 (.i 0), 0, true, 1⟩
  | 3 => ∃ i, u = .c (.sl i 0 0 0) ∧ κ i = 6 ∧ rdOb h i 0 = some ⟨[], 0, true, 1⟩
  | 4 => u = .c rv
  | 5 => ∃ i g, u = .c (.sl i g 0 reads.length) ∧ κ i = 6 ∧ rdOb h i g = some ⟨reads.map .i, g, true, 1⟩
  | 6 => ∃ i, u = .c (.sl i 0 0 0) ∧ κ i = 4 ∧ rdOb h i 0 = some ⟨[], 0, true, 1⟩
  | 7 => ∃ i, u = .c (.sl i 0 0 0) ∧ κ i = 5 ∧ rdOb h i 0 = some ⟨[], 0, true, 1⟩
  | 8 => u = .c (.i fuel)
  | 9 => u = .c (.i φ)
  | 10 => ∃ vi ci ri g ti pi, u = .agg [.sl vi 0 0 m.toNat, .sl ci 0 0 8, .sl ri g 0 reads.length, .sl ti 0 0 0, .sl pi 0 0 0, .i φ] ∧ NewPs m reads κ h vi ci ri g ti pi
  | _ => ∃ c vi ci ri g ti pi, u = .c (.p c 0 0) ∧ κ c = 1 ∧ rdOb h c 0 = some ⟨[.sl vi 0 0 m.toNat, .sl ci 0 0 8, .sl ri g 0 reads.length, .sl ti 0 0 0, .sl pi 0 0 0, .i φ], 0, true, 6⟩ ∧ NewPs m reads κ h vi ci ri g ti pi
section
variable {m fuel φ : Int} {rv : CV} {reads : List Int} {κ κ' : RK} {h h' : Hp} {u : IV}
theorem NewPs.keep {vi ci ri g ti pi : Nat} (hp : NewPs m reads κ h vi ci ri g ti pi) (hk : ∀ id gg o, κ id ≠ 0 → rdOb h id gg = some o → rdOb h' id gg = some o ∧ κ' id = κ id) : NewPs m reads κ' h' vi ci ri g ti pi := by
  obtain ⟨⟨a1, a2⟩, ⟨b1, b2⟩, ⟨c1, c2⟩, ⟨d1, d2⟩, ⟨e1, e2⟩⟩ := hp
  have A := hk _ _ _ (by omega) a2; have B := hk _ _ _ (by omega) b2; have C := hk _ _ _ (by omega) c2; have D := hk _ _ _ (by omega) d2; have E := hk _ _ _ (by omega) e2
  exact ⟨⟨by rw [A.2]; exact a1, A.1⟩, ⟨by rw [B.2]; exact b1, B.1⟩, ⟨by rw [C.2]; exact c1, C.1⟩, ⟨by rw [D.2]; exact d1, D.1⟩, ⟨by rw [E.2]; exact e1, E.1⟩⟩
theorem newP.keep {j : Nat} (hp : newP m fuel φ rv reads κ h u j) (hk : ∀ id gg o, κ id ≠ 0 → rdOb h id gg = some o → rdOb h' id gg = some o ∧ κ' id = κ id) : newP m fuel φ rv reads κ' h' u j := by
  match j, hp with
  | 0, hp => exact hp
  | 1, ⟨i, a, b, c⟩ => have A := hk _ _ _ (by omega) c; exact ⟨i, a, by rw [A.2]; exact b, A.1⟩
  | 2, ⟨i, a, b, c⟩ => have A := hk _ _ _ (by omega) c; exact ⟨i, a, by rw [A.2]; exact b, A.1⟩
  | 3, ⟨i, a, b, c⟩ => have A := hk _ _ _ (by omega) c; exact ⟨i, a, by rw [A.2]; exact b, A.1⟩
  | 4, hp => exact hp
  | 5, ⟨i, g, a, b, c⟩ => have A := hk _ _ _ (by omega) c; exact ⟨i, g, a, by rw [A.2]; exact b, A.1⟩
  | 6, ⟨i, a, b, c⟩ => have A := hk _ _ _ (by omega) c; exact ⟨i, a, by rw [A.2]; exact b, A.1⟩
  | 7, ⟨i, a, b, c⟩ => have A := hk _ _ _ (by omega) c; exact ⟨i, a, by rw [A.2]; exact b, A.1⟩
  | 8, hp => exact hp
  | 9, hp => exact hp
  | 10, ⟨vi, ci, ri, g, ti, pi, a, b⟩ => exact ⟨vi, ci, ri, g, ti, pi, a, b.keep hk⟩
  | j + 11, ⟨c, vi, ci, ri, g, ti, pi, a, b, d, e⟩ => have A := hk _ _ _ (by omega) d; exact ⟨c, vi, ci, ri, g, ti, pi, a, by rw [A.2]; exact b, A.1, e.keep hk⟩
end
end Go.Proofs.YtgdfgnppeekfjaaGreat.Vm
end
section
/- The specification's runs: Run and Path. No conditions. -/
namespace Go.Proofs.YtgdfgnppeekfjaaGreat.Vm
open Go.RowKit (wrap64)
set_option linter.unusedSimpArgs false
set_option linter.unusedVariables false
end Go.Proofs.YtgdfgnppeekfjaaGreat.Vm
end
