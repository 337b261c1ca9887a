/- Copies one behind the other: what they do. No conditions. -/
import Derived.Test.YtnpbldjbfkpbcaaKzf
import Derived.Test.YtnpbldjbfkpbcaaKv
namespace Go.Proofs.Ytnpbldjbfkpbcaa.Vm
/-- One copy, where both places are there. -/
def eachStep (n : Nat) (vs : List Int) (a : ArmR) : List Int := if 0 ≤ a.fr ∧ a.fr < n ∧ 0 ≤ a.v ∧ a.v < n then vs.set a.fr.toNat (vs.getD a.v.toNat 0) else vs
def eachF (ms : List ArmR) (vs : List Int) : List Int := ms.foldl (eachStep vs.length) vs
def eachTo (ms : List ArmR) (vs : List Int) (i : Nat) : List Int := (ms.take i).foldl (eachStep vs.length) vs
theorem eachTo_succ {ms : List ArmR} {vs : List Int} {i : Nat} (hi : i < ms.length) : eachTo ms vs (i + 1) = eachStep vs.length (eachTo ms vs i) ms[i] := by
  unfold eachTo; rw [List.take_succ_eq_append_getElem hi, List.foldl_append]; rfl
theorem eachStep_len (n : Nat) (vs : List Int) (a : ArmR) : (eachStep n vs a).length = vs.length := by
  unfold eachStep; split <;> simp
theorem eachTo_len (ms : List ArmR) (vs : List Int) (i : Nat) : (eachTo ms vs i).length = vs.length := by
  unfold eachTo
  generalize ms.take i = l
  generalize hn : vs.length = n
  have : ∀ l : List ArmR, ∀ ws : List Int, ws.length = n → (l.foldl (eachStep n) ws).length = n := by
    intro l
    induction l with
    | nil => intro ws h; exact h
    | cons a r ih => intro ws h; exact ih _ (by rw [eachStep_len]; exact h)
  exact this l vs hn
end Go.Proofs.Ytnpbldjbfkpbcaa.Vm
