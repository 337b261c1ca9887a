/- What the helpers that mark rows of numbers do. No conditions. -/
import Derived.Test.YtlhhmlldcpafiaaCa
namespace Go.Proofs.Ytlhhmlldcpafiaa.Vm
open Go.RowKit (wrap64)
set_option linter.unusedSimpArgs false
set_option linter.unusedVariables false

theorem wrap_up {k : Int} {n i : Nat} (hk : -9223372036854775808 ≤ k) (hkn : k + n ≤ 9223372036854775807) (hi : i < n) : wrap64 (k + (i : Int) + 1) = k + ((i : Int) + 1) :=
  (wrap64_id (by omega)).trans (by omega)

/-- Numbers that count up. -/
def ups (k : Int) (n : Nat) : List Int := (List.range n).map fun (j : Nat) => k + (j : Int)
@[simp] theorem ups_length (k : Int) (n : Nat) : (ups k n).length = n := by simp [ups]
theorem ups_succ (k : Int) (n : Nat) : ups k (n + 1) = ups k n ++ [k + n] := by simp [ups, List.range_succ]

theorem putAt_snoc (cs : List CV) (off : Nat) (xs : List CV) (x : CV) (h : off + xs.length < cs.length) : putAt (putAt cs off xs) (off + xs.length) [x] = putAt cs off (xs ++ [x]) := by
  unfold putAt
  have h1 : (List.take off cs).length = off := by simp; omega
  have h2 : (List.take off cs ++ xs).length = off + xs.length := by simp; omega
  rw [List.take_append_of_le_length (by omega), List.take_of_length_le (by omega), List.drop_append, h2, List.drop_eq_nil_of_le (by rw [h2]; omega), List.drop_drop]
  simp
  rw [Nat.add_assoc]

theorem markIntS_ns {H : Hp} {k : Int} : call M noX 25 [.c .ns, .c (.i k)] H = some (.c (.i k), H) := by
  refine call_ofG (vf := vf25) rfl dr25 ?_
  have hl : loopF (exG (call M noX) [0, 1, 4, 5, 9] vf25b0) ⟨[(0, .c .ns), (1, .c (.i k)), (4, .c (.i 0)), (5, .c (.i 0)), (9, .c .non)], H⟩ =
      some (.exit 0, ⟨[(0, .c .ns), (1, .c (.i k)), (4, .c (.i 0)), (5, .c (.i 0)), (9, .c (.b false))], H⟩) := loopF_exit (by simp [vf25b0])
  simp [vf25, vf25v, hl]

theorem markIntS_sl {H : Hp} {id g off n sz : Nat} {cs : List CV} {k : Int} (h : rdOb H id g = some ⟨cs, g, true, sz⟩) (hn : off + n ≤ cs.length) (hk : -9223372036854775808 ≤ k) (hkn : k + n ≤ 9223372036854775807) (hb : n ≤ maxLen) :
    call M noX 25 [.c (.sl id g off n), .c (.i k)] H = some (.c (.i (k + n)), H.set id ⟨putAt cs off ((ups k n).map .i), g, true, sz⟩) := by
  refine call_ofG (vf := vf25) rfl dr25 ?_
  simp only [maxLen] at hb
  obtain ⟨ho, hg⟩ := rdOb_some.1 h
  have hid := rdOb_lt h
  have hrd : ∀ C : List CV, rdOb (H.set id ⟨C, g, true, sz⟩) id g = some ⟨C, g, true, sz⟩ := fun C => by rw [rdOb_set_self hid]; simp
  clear hg
  obtain ⟨⟨x, s⟩, hr, h1, h2, h3⟩ : ∃ r, loopF (exG (call M noX) vf25v vf25b0)
      ⟨[(0, .c (.sl id g off n)), (1, .c (.i k)), (4, .c (.i 0)), (5, .c (.i 0)), (9, .c .non)], H⟩ = some r ∧ r.1 = .exit 0 ∧
      r.2.h = H.set id ⟨putAt cs off ((ups k n).map .i), g, true, sz⟩ ∧ Env.get r.2.e 1 = .c (.i (k + n)) := by
    refine loop_rule (Inv := fun j s => ∃ (i : Nat) (a : IV), i + j = n ∧
      s = ⟨[(0, .c (.sl id g off n)), (1, .c (.i (k + i))), (4, .c (.i 0)), (5, .c (.i i)), (9, a)], H.set id ⟨putAt cs off ((ups k i).map .i), g, true, sz⟩⟩) ?_ (k := n) ⟨0, .c .non, by omega, ?_⟩
    · rintro j _ ⟨i, a, hi, rfl⟩
      by_cases hin : i < n
      · have hw : wrap64 ((i : Int) + 1) = (i : Int) + 1 := wrap64_id (by omega)
        have hw2 : wrap64 (k + (i : Int) + 1) = k + ((i : Int) + 1) := wrap_up hk hkn hin
        have hpl : (putAt cs off ((ups k i).map CV.i)).length = cs.length := putAt_length (by simp; omega)
        have hps := putAt_snoc cs off ((ups k i).map .i) (.i (k + i)) (by simp; omega)
        simp only [List.length_map, ups_length] at hps
        have hle : off + i + 1 ≤ cs.length := by omega
        have hstep : exG (call M noX) vf25v vf25b0 ⟨[(0, .c (.sl id g off n)), (1, .c (.i (k + i))), (4, .c (.i 0)), (5, .c (.i i)), (9, a)], H.set id ⟨putAt cs off ((ups k i).map .i), g, true, sz⟩⟩ =
            some (.norm, ⟨[(0, .c (.sl id g off n)), (1, .c (.i (k + (i + 1)))), (4, .c (.i 0)), (5, .c (.i (i + 1))), (9, .c (.b true))], H.set id ⟨putAt cs off ((ups k (i + 1)).map .i), g, true, sz⟩⟩) := by
          simp [vf25b0, vf25v, hin, hrd, hpl, hle, hw, hw2, hps, ups_succ]
        exact ⟨_, hstep, .inl ⟨rfl, j - 1, by omega, i + 1, _, by omega, rfl⟩⟩
      · have hin' : i = n := by omega
        subst hin'
        have hstep : exG (call M noX) vf25v vf25b0 ⟨[(0, .c (.sl id g off i)), (1, .c (.i (k + i))), (4, .c (.i 0)), (5, .c (.i i)), (9, a)], H.set id ⟨putAt cs off ((ups k i).map .i), g, true, sz⟩⟩ =
            some (.exit 0, ⟨[(0, .c (.sl id g off i)), (1, .c (.i (k + i))), (4, .c (.i 0)), (5, .c (.i i)), (9, .c (.b false))], H.set id ⟨putAt cs off ((ups k i).map .i), g, true, sz⟩⟩) := by
          simp [vf25b0, vf25v]
        exact ⟨_, hstep, .inr ⟨by simp, rfl, rfl, rfl⟩⟩
    · have : putAt cs off [] = cs := by simp [putAt]
      simp [ups, this]
      exact (set_same H id _ ho).symm
  simp only at h1 h2 h3
  subst h1
  simp [vf25v] at hr
  simp [vf25, vf25v, hr, h2, h3]
  exact gc_len (by simp) rfl

theorem heldIntS_call {H : Hp} {v : CV} {xs : List Int} {k : Int} (hv : IsI H v xs) (hk : -9223372036854775808 ≤ k) (hkn : k + xs.length ≤ 9223372036854775807) (hb : xs.length ≤ maxLen) :
    call M noX 26 [.c v, .c (.i k)] H = some (.c (.i (if xs = ups k xs.length then k + xs.length else -1)), H) := by
  refine call_ofG (vf := vf26) rfl dr26 ?_
  simp only [maxLen] at hb
  obtain ⟨⟨x, s⟩, hr, h2, h3⟩ : ∃ r, loopF (exG (call M noX) vf26v vf26b0)
      ⟨[(0, .c v), (1, .c (.i k)), (4, .c (.i 0)), (5, .c (.i 0)), (9, .c .non), (17, .c .non)], H⟩ = some r ∧ r.2.h = H ∧
      ((xs = ups k xs.length ∧ r.1 = .exit 0 ∧ Env.get r.2.e 1 = .c (.i (k + xs.length))) ∨ (xs ≠ ups k xs.length ∧ r.1 = .ret ∧ Env.get r.2.e 4 = .c (.i (-1)))) := by
    refine loop_rule (Inv := fun j s => ∃ (i : Nat) (a b : IV), i + j = xs.length ∧ xs.take i = ups k i ∧
      s = ⟨[(0, .c v), (1, .c (.i (k + i))), (4, .c (.i 0)), (5, .c (.i i)), (9, a), (17, b)], H⟩) ?_ (k := xs.length) ⟨0, .c .non, .c .non, by omega, by simp [ups], by simp⟩
    rintro j _ ⟨i, a, b, hi, ht, rfl⟩
    by_cases hin : i < xs.length
    · obtain ⟨id, g, off, o, q1, q2, q3⟩ := hv.get hin
      have hw : wrap64 ((i : Int) + 1) = (i : Int) + 1 := wrap64_id (by omega)
      have hw2 : wrap64 (k + (i : Int) + 1) = k + ((i : Int) + 1) := wrap_up hk hkn hin
      by_cases he : xs[i] = k + i
      · refine ⟨_, by simp [vf26b0, vf26v, hv.lenOf, hin, q1, q2, q3, he, hw, hw2]; with_reducible rfl, .inl ⟨rfl, j - 1, by omega, i + 1, _, _, by omega, ?_, rfl⟩⟩
        rw [List.take_succ_eq_append_getElem hin, ht, he, ups_succ]
      · refine ⟨_, by simp [vf26b0, vf26v, hv.lenOf, hin, q1, q2, q3, he, hw, hw2, bneD]; with_reducible rfl, .inr ⟨by simp, rfl, .inr ⟨fun hc => he ?_, rfl, rfl⟩⟩⟩
        have : xs[i]? = (ups k xs.length)[i]? := by rw [← hc]
        rw [List.getElem?_eq_getElem hin] at this
        simp [ups, hin] at this
        exact this
    · have hin' : i = xs.length := by omega
      subst hin'
      rw [List.take_length] at ht
      exact ⟨_, by simp [vf26b0, vf26v, hv.lenOf]; with_reducible rfl, .inr ⟨by simp, rfl, .inl ⟨ht, rfl, rfl⟩⟩⟩
  simp only at h2 h3
  simp [vf26v] at hr
  rcases h3 with ⟨he, rfl, h4⟩ | ⟨he, rfl, h4⟩
  · rw [if_pos he]
    simp [vf26, vf26v, hr, h2, h4]
  · rw [if_neg he]
    simp [vf26, vf26v, hr, h2, h4]

end Go.Proofs.Ytlhhmlldcpafiaa.Vm
