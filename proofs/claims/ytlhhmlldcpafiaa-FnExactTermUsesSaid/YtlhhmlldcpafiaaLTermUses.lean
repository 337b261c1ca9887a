/- The law of TermUses on the ideal machine. No conditions. -/
import Derived.Test.YtlhhmlldcpafiaaCb
namespace Go.Proofs.Ytlhhmlldcpafiaa.Vm
open Go.RowKit (wrap64)
set_option linter.unusedSimpArgs false
set_option linter.unusedVariables false

theorem toTerm_call (H : Hp) (a b c d : Int) : call M noX 22 [.agg [.i a, .i b, .i c, .i d]] H = some (.agg [.i a, .i b, .i c, .i d], H) := by
  refine call_ofG (vf := vf22) rfl dr22 ?_
  simp [vf22, vf22v, putAt]
  exact gc_flat H _ rfl

theorem specTermUses_call (H : Hp) (a b c d : Int) : call M noX 21 [.agg [.i a, .i b, .i c, .i d]] H =
    some (if a = 2 ∨ a = 3 then (.c (.sl H.length 0 0 1), H ++ [⟨[.i b], 0, true, 1⟩]) else (.c (.sl H.length 0 0 0), H ++ [⟨[], 0, true, 1⟩])) := by
  refine call_ofG (vf := vf21) rfl dr21 ?_
  by_cases h2 : a = 2
  · simp [vf21, vf21v, putAt, beqD, h2]
    exact gc_row H [⟨[.i 2, .i b, .i c, .i d], 0, true, 4⟩, ⟨[.i b], 0, true, 1⟩] (k := 1) (o := ⟨[.i b], 0, true, 1⟩) (by simp) rfl rfl
  · by_cases h3 : a = 3
    · simp [vf21, vf21v, putAt, beqD, h3]
      exact gc_row H [⟨[.i 3, .i b, .i c, .i d], 0, true, 4⟩, ⟨[.i b], 0, true, 1⟩] (k := 1) (o := ⟨[.i b], 0, true, 1⟩) (by simp) rfl rfl
    · simp [vf21, vf21v, putAt, beqD, h2, h3]
      exact gc_row H [⟨[.i a, .i b, .i c, .i d], 0, true, 4⟩, ⟨[], 0, true, 1⟩] (k := 1) (o := ⟨[], 0, true, 1⟩) (by simp) rfl rfl

theorem implTermUses_call (H : Hp) (a b c d : Int) : call M noX 23 [.agg [.i a, .i b, .i c, .i d]] H =
    some (if a = 2 ∨ a = 3 then (.c (.sl H.length 0 0 1), H ++ [⟨[.i b], 0, true, 1⟩]) else (.c .ns, H)) := by
  refine call_ofG (vf := vf23) rfl dr23 ?_
  by_cases h2 : a = 2
  · simp [vf23, vf23v, putAt, beqD, h2]
    exact gc_row H [⟨[.i 2, .i b, .i c, .i d], 0, true, 4⟩, ⟨[.i b], 0, true, 1⟩] (k := 1) (o := ⟨[.i b], 0, true, 1⟩) (by simp) rfl rfl
  · by_cases h3 : a = 3
    · simp [vf23, vf23v, putAt, beqD, h3]
      exact gc_row H [⟨[.i 3, .i b, .i c, .i d], 0, true, 4⟩, ⟨[.i b], 0, true, 1⟩] (k := 1) (o := ⟨[.i b], 0, true, 1⟩) (by simp) rfl rfl
    · simp [vf23, vf23v, putAt, beqD, h2, h3]

theorem law_TermUses (H : Hp) (a b c d : Int) : ∃ H', call M noX 7 [.agg [.i a, .i b, .i c, .i d]] H = some (.c (.b true), H') := by
  refine ⟨H, call_ofG (vf := vf7) rfl dr7 ?_⟩
  by_cases h : a = 2 ∨ a = 3
  · have e1 := eqIntS_call (H := H ++ [⟨[.i a, .i b, .i c, .i d], 0, true, 4⟩, ⟨[.i b], 0, true, 1⟩, ⟨[.i b], 0, true, 1⟩]) (v := .sl (H.length + 2) 0 0 1) (w := .sl (H.length + 1) 0 0 1) (xs := [b]) (ys := [b])
      (IsI.mk (xs := [b]) (o := ⟨[.i b], 0, true, 1⟩) (by simp) rfl (by simp) rfl) (IsI.mk (xs := [b]) (o := ⟨[.i b], 0, true, 1⟩) (by simp) rfl (by simp) rfl) (by simp [maxLen])
    have e2 := markIntS_sl (H := H ++ [⟨[.i a, .i b, .i c, .i d], 0, true, 4⟩, ⟨[.i b], 0, true, 1⟩, ⟨[.i b], 0, true, 1⟩]) (id := H.length + 2) (g := 0) (off := 0) (n := 1) (sz := 1) (cs := [.i b]) (k := 1) (by simp) (by simp) (by omega) (by omega) (by simp [maxLen])
    have e3 := heldIntS_call (H := H ++ [⟨[.i a, .i b, .i c, .i d], 0, true, 4⟩, ⟨[.i b], 0, true, 1⟩, ⟨[.i 1], 0, true, 1⟩]) (v := .sl (H.length + 2) 0 0 1) (xs := [1]) (k := 1)
      (IsI.mk (xs := [1]) (o := ⟨[.i 1], 0, true, 1⟩) (by simp) rfl (by simp) rfl) (by omega) (by simp) (by simp [maxLen])
    have e4 := eqIntS_call (H := H ++ [⟨[.i a, .i b, .i c, .i d], 0, true, 4⟩, ⟨[.i b], 0, true, 1⟩, ⟨[.i 1], 0, true, 1⟩, ⟨[.i b], 0, true, 1⟩]) (v := .sl (H.length + 3) 0 0 1) (w := .sl (H.length + 1) 0 0 1) (xs := [b]) (ys := [b])
      (IsI.mk (xs := [b]) (o := ⟨[.i b], 0, true, 1⟩) (by simp) rfl (by simp) rfl) (IsI.mk (xs := [b]) (o := ⟨[.i b], 0, true, 1⟩) (by simp) rfl (by simp) rfl) (by simp [maxLen])
    have e5 := heldIntS_call (H := H ++ [⟨[.i a, .i b, .i c, .i d], 0, true, 4⟩, ⟨[.i b], 0, true, 1⟩, ⟨[.i 1], 0, true, 1⟩, ⟨[.i b], 0, true, 1⟩]) (v := .sl (H.length + 2) 0 0 1) (xs := [1]) (k := 1)
      (IsI.mk (xs := [1]) (o := ⟨[.i 1], 0, true, 1⟩) (by simp) rfl (by simp) rfl) (by omega) (by simp) (by simp [maxLen])
    simp [ups, putAt] at e1 e2 e3 e4 e5
    simp [vf7, vf7v, toTerm_call, specTermUses_call, implTermUses_call, h, e1, e2, e3, e4, e5]
  · have e1 := eqIntS_call (H := H ++ [⟨[.i a, .i b, .i c, .i d], 0, true, 4⟩, ⟨[], 0, true, 1⟩]) (v := .ns) (w := .sl (H.length + 1) 0 0 0) (xs := []) (ys := [])
      (IsI.ns _) (IsI.mk (xs := []) (o := ⟨[], 0, true, 1⟩) (by simp) rfl (by simp) rfl) (by simp)
    have e2 := markIntS_ns (H := H ++ [⟨[.i a, .i b, .i c, .i d], 0, true, 4⟩, ⟨[], 0, true, 1⟩]) (k := 1)
    have e3 := heldIntS_call (H := H ++ [⟨[.i a, .i b, .i c, .i d], 0, true, 4⟩, ⟨[], 0, true, 1⟩]) (v := .ns) (xs := []) (k := 1) (IsI.ns _) (by omega) (by simp) (by simp)
    simp [ups] at e1 e2 e3
    simp [vf7, vf7v, toTerm_call, specTermUses_call, implTermUses_call, h, e1, e2, e3]

end Go.Proofs.Ytlhhmlldcpafiaa.Vm
