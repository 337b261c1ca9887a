/- The law of InsUses on the ideal machine. No conditions. -/
import Derived.Test.YtlhhmlldcpafiaaCb
import Derived.Test.YtlhhmlldcpafiaaLInsDef
namespace Go.Proofs.Ytlhhmlldcpafiaa.Vm
open Go.RowKit (wrap64)
set_option linter.unusedSimpArgs false
set_option linter.unusedVariables false

/-- What a place takes. -/
def usesF (op a b : Int) : List Int := if wordOk op = true ∨ op = 22 then [a, b] else if op = 21 ∨ op = 23 ∨ op = 25 then [a] else []
theorem usesF_le (op a b : Int) : (usesF op a b).length ≤ 2 := by
  unfold usesF
  repeat' split
  all_goals simp

theorem specInsUses_call (H : Hp) (a b c d e : Int) : call M noX 47 [.agg [.i a, .i b, .i c, .i d, .i e]] H =
    some (.c (.sl H.length 0 0 (usesF a c d).length), H ++ [⟨(usesF a c d).map .i, 0, true, 1⟩]) := by
  refine call_ofG (vf := vf47) rfl dr47 ?_
  unfold usesF
  have g : ∀ (n : Nat) (cs : List CV), cs.all flatC = true → gcRet H (.c (.sl (H.length + 1) 0 0 n)) (H ++ [⟨[.i a, .i b, .i c, .i d, .i e], 0, true, 5⟩, ⟨cs, 0, true, 1⟩]) = (.c (.sl H.length 0 0 n), H ++ [⟨cs, 0, true, 1⟩]) :=
    fun n cs h => gc_row H [⟨[.i a, .i b, .i c, .i d, .i e], 0, true, 5⟩, ⟨cs, 0, true, 1⟩] (k := 1) (o := ⟨cs, 0, true, 1⟩) (by simp) rfl h
  cases hw : wordOk a with
  | true => simp [vf47, vf47v, specWordOk_call, hw, beqD, putAt, g]
  | false =>
    by_cases h2 : a = 22
    · subst h2; simp [vf47, vf47v, specWordOk_call, hw, beqD, putAt, g]
    · by_cases h1 : a = 21
      · subst h1; simp [vf47, vf47v, specWordOk_call, hw, beqD, putAt, g]
      · by_cases h3 : a = 23
        · subst h3; simp [vf47, vf47v, specWordOk_call, hw, beqD, putAt, g]
        · by_cases h5 : a = 25
          · subst h5; simp [vf47, vf47v, specWordOk_call, hw, beqD, putAt, g]
          · simp [vf47, vf47v, specWordOk_call, hw, beqD, putAt, g, h1, h2, h3, h5]
            exact g 0 [] rfl

theorem hasAB (op a b : Int) : (if hasF op 65 = true then [a] else []) ++ (if hasF op 66 = true then [b] else []) = usesF op a b := by
  have hb : ∀ (l : List UInt8), bytesI ⟨⟨l⟩⟩ = l.map fun b => (b.toNat : Int) := fun _ => rfl
  unfold hasF usesF formF wordOk
  by_cases h0 : op = 20
  · subst h0; simp [hb]
  · by_cases h1 : op = 21
    · subst h1; simp [hb]
    · by_cases h5 : op = 25
      · subst h5; simp [hb]
      · by_cases h2 : op = 22
        · subst h2; simp [hb]
        · by_cases h3 : op = 23
          · subst h3; simp [hb]
          · by_cases h4 : op = 24
            · subst h4; simp [hb]
            · by_cases hw : 1 ≤ op ∧ op ≤ 10 <;> simp [h0, h1, h2, h3, h4, h5, hb, hw]

theorem implInsUses_call (H : Hp) (a b c d e : Int) : call M noX 48 [.agg [.i a, .i b, .i c, .i d, .i e]] H =
    some (.c (.sl H.length 0 0 (usesF a c d).length), H ++ [⟨(usesF a c d).map .i, 0, true, 1⟩]) := by
  refine call_ofG (vf := vf48) rfl dr48 ?_
  rw [← hasAB]
  have g : ∀ (n k : Nat) (cs : List CV) (L : Hp), cs.all flatC = true → gcRet H (.c (.sl (H.length + 1) k 0 n)) (H ++ ⟨[.i a, .i b, .i c, .i d, .i e], 0, true, 5⟩ :: ⟨cs, k, true, 1⟩ :: L) = (.c (.sl H.length 0 0 n), H ++ [⟨cs, 0, true, 1⟩]) :=
    fun n k cs L h => gc_row H (⟨[.i a, .i b, .i c, .i d, .i e], 0, true, 5⟩ :: ⟨cs, k, true, 1⟩ :: L) (k := 1) (o := ⟨cs, k, true, 1⟩) (by simp) rfl h
  cases hA : hasF a 65 <;> cases hB : hasF a 66 <;> simp [vf48, vf48v, has_call, hA, hB, beqD, putAt, g, srcOf, doApp, LIM]
  exact g 0 0 [] [] rfl

theorem putAt_full {cs xs : List CV} (h : xs.length = cs.length) : putAt cs 0 xs = xs := by unfold putAt; simp [h]

theorem law_InsUses (H : Hp) (a b c d e : Int) : ∃ H', call M noX 13 [.agg [.i a, .i b, .i c, .i d, .i e]] H = some (.c (.b true), H') := by
  refine ⟨H, call_ofG (vf := vf13) rfl dr13 ?_⟩
  have hle := usesF_le a c d
  generalize hx : usesF a c d = xs at hle
  have hI : ∀ (L : Hp) (k : Nat), rdOb L k 0 = some ⟨xs.map .i, 0, true, 1⟩ → IsI (H ++ L) (.sl (H.length + k) 0 0 xs.length) xs := fun L k h => IsI.mk (o := ⟨xs.map .i, 0, true, 1⟩) (by rw [rdOb_r]; exact h) rfl (by simp) (by rw [List.drop_zero, List.take_of_length_le (by simp)])
  have hU : ∀ (L : Hp) (k : Nat), rdOb L k 0 = some ⟨(ups 1 xs.length).map .i, 0, true, 1⟩ → IsI (H ++ L) (.sl (H.length + k) 0 0 xs.length) (ups 1 xs.length) := fun L k h => by
    have := IsI.mk (H := H ++ L) (id := H.length + k) (g := 0) (off := 0) (xs := ups 1 xs.length) (o := ⟨(ups 1 xs.length).map .i, 0, true, 1⟩) (by rw [rdOb_r]; exact h) rfl (by simp) (by rw [List.drop_zero, List.take_of_length_le (by simp)])
    rwa [ups_length] at this
  have hm : xs.length ≤ maxLen := by simp only [maxLen]; omega
  have e1 := eqIntS_call (hI [⟨[.i a, .i b, .i c, .i d, .i e], 0, true, 5⟩, ⟨xs.map .i, 0, true, 1⟩, ⟨xs.map .i, 0, true, 1⟩] 2 (by simp)) (hI [⟨[.i a, .i b, .i c, .i d, .i e], 0, true, 5⟩, ⟨xs.map .i, 0, true, 1⟩, ⟨xs.map .i, 0, true, 1⟩] 1 (by simp)) hm
  have e2 := markIntS_sl (H := H ++ [⟨[.i a, .i b, .i c, .i d, .i e], 0, true, 5⟩, ⟨xs.map .i, 0, true, 1⟩, ⟨xs.map .i, 0, true, 1⟩]) (id := H.length + 2) (g := 0) (off := 0) (n := xs.length) (sz := 1) (cs := xs.map .i) (k := 1) (by simp) (by simp) (by omega) (by omega) hm
  have e3 := heldIntS_call (k := 1) (hU [⟨[.i a, .i b, .i c, .i d, .i e], 0, true, 5⟩, ⟨xs.map .i, 0, true, 1⟩, ⟨(ups 1 xs.length).map .i, 0, true, 1⟩] 2 (by simp)) (by omega) (by rw [ups_length]; omega) (by rw [ups_length]; exact hm)
  have e4 := eqIntS_call (hI [⟨[.i a, .i b, .i c, .i d, .i e], 0, true, 5⟩, ⟨xs.map .i, 0, true, 1⟩, ⟨(ups 1 xs.length).map .i, 0, true, 1⟩, ⟨xs.map .i, 0, true, 1⟩] 3 (by simp)) (hI [⟨[.i a, .i b, .i c, .i d, .i e], 0, true, 5⟩, ⟨xs.map .i, 0, true, 1⟩, ⟨(ups 1 xs.length).map .i, 0, true, 1⟩, ⟨xs.map .i, 0, true, 1⟩] 1 (by simp)) hm
  have e5 := heldIntS_call (k := 1) (hU [⟨[.i a, .i b, .i c, .i d, .i e], 0, true, 5⟩, ⟨xs.map .i, 0, true, 1⟩, ⟨(ups 1 xs.length).map .i, 0, true, 1⟩, ⟨xs.map .i, 0, true, 1⟩] 2 (by simp)) (by omega) (by rw [ups_length]; omega) (by rw [ups_length]; exact hm)
  rw [putAt_full (by simp)] at e2
  have hne : ¬ (1 + (xs.length : Int) < 0) := by omega
  simp at e1 e2 e3 e4 e5
  simp [vf13, vf13v, toIns_call, specInsUses_call, implInsUses_call, hx, e1, e2, e3, e4, e5, hne]

end Go.Proofs.Ytlhhmlldcpafiaa.Vm
