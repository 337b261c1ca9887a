import Derived.Test.YtnapgdlfeadhaaaQrn
import Derived.Test.YtnapgdlfeadhaaaQro
import Derived.Test.YtnapgdlfeadhaaaQrl
import Derived.Test.YtnapgdlfeadhaaaQgo
section
/- The laws of drawn runs: fuel, what is read, the way. No conditions. -/
namespace Go.Proofs.Ytnapgdlfeadhaaa.Vm
open Go.RowKit (wrap64)
set_option linter.unusedSimpArgs false
set_option linter.unusedVariables false

theorem isI_take {X : Hp} {w : CV} {xs : List Int} (h : IsI X w xs) {k : Nat} (hk : k ≤ xs.length) : ∃ w', doSlice X 1 w none (some (.c (.i k))) = some (.c w') ∧ IsI X w' (xs.take k) := by
  rcases h with ⟨rfl, h1, h2⟩ | ⟨id, g, off, o, rfl, h1, h2, h3, h4⟩
  · have hx : xs = [] := List.length_eq_zero_iff.1 h1
    subst hx
    have : k = 0 := by simpa using hk
    subst this
    exact ⟨.ns, by simp [doSlice], IsI.ns _⟩
  · rw [Nat.mul_one] at h3 h4
    refine ⟨.sl id g off k, by simp [doSlice, h1, h2, hk], ?_⟩
    have hl : (xs.take k).length = k := by simp; omega
    have := IsI.mk (xs := xs.take k) (off := off) h1 h2 (by rw [hl]; omega) (by
      rw [hl, List.map_take, ← h4, List.take_take, Nat.min_eq_left hk])
    rwa [hl] at this
theorem runW_pre {f : FnR} {reads : List Int} {x y : Int} (h0 : 0 ≤ x) (hxy : x ≤ y) : (runW f reads x).2.2.told <+: (runW f reads y).2.2.told := by
  obtain ⟨a, b⟩ := runW_fuel (f := f) (reads := reads) h0 hxy
  by_cases h : (runW f reads x).1 = 1
  · exact b h
  · rw [a h]; exact List.prefix_refl _
set_option maxRecDepth 100000 in
theorem fuel_law {H : Hp} {v : CV} {xs : List Int} (hv : IsB H v xs) : CM 7 [.c v] H Tru := by
  refine cw7 ?_
  unfold vf7c
  by_cases hbig : 1048576 < xs.length
  · simp [big_call hv.lenOf, hbig]
  have hb : xs.length ≤ BIG := by simp only [BIG]; omega
  simp [big_call hv.lenOf, hbig]
  refine (drawRun_call hv hb).mono ?_
  rintro _ ⟨X, w, m, bs, rv, reads, n, rfl, ⟨d, g, rfl⟩, hp, hB, hbl, h0, hO, _, hrl, hn1, hn2⟩
  obtain ⟨X1, hX1⟩ : ∃ X1, X ++ [(⟨[.sl d g 0 bs.length, .i m], 0, true, 2⟩ : Ob)] = X1 := ⟨_, rfl⟩
  have hp1 : Pre X X1 := ⟨_, hX1.symm⟩
  have hB1 : Blocks X1 (.sl d g 0 bs.length) bs := (hB _ (Hi.refl _ _)).pre hp1
  have hF1 : rdOb X1 X.length 0 = some ⟨[.sl d g 0 bs.length, .i m], 0, true, 2⟩ := by rw [← hX1]; simp
  have hR1 : IsI X1 rv reads := Sl.pre hp1 hO.isI
  have hrb : reads.length ≤ BIG := by simp only [BIG]; omega
  obtain ⟨f, hf⟩ : ∃ f : FnR, f = ⟨bs, m⟩ := ⟨_, rfl⟩
  obtain rfl : bs = f.blocks := by rw [hf]
  obtain rfl : m = f.values := by rw [hf]
  clear hf
  obtain ⟨vv, hvv⟩ : ∃ vv, CV.sl d g 0 f.blocks.length = vv := ⟨_, rfl⟩
  rw [hvv] at hX1 hB1 hF1
  obtain ⟨q, hq⟩ : ∃ q, runW f reads n = q := ⟨_, rfl⟩
  have htl := (runW_told f reads n).1
  rw [hq] at htl
  rcases hO.form with rfl | ⟨i1, g1, n1, rfl⟩
  all_goals
    simp [hvv, putD0', hX1, rdN_ob hF1]
    refine (implRun hB1 hbl hR1).mono ?_
    rw [hq]
    rintro _ ⟨X2, tI, rfl, hp2, hI2, _⟩
    simp [rdN_ob (hp2.rdOb hF1)]
    refine (specRun (hB1.pre hp2) hbl (Sl.pre hp2 hR1) hrb).mono ?_
    rw [hq]
    rintro _ ⟨X3, tS, rfl, hp3, hS3, _⟩
    have hI3 := Sl.pre hp3 hI2.isI
    have hF3 := (hp2.trans hp3).rdOb hF1
    have hB3 := hB1.pre (hp2.trans hp3)
    have hR3 := Sl.pre (hp2.trans hp3) hR1
    rcases runW_code f reads n with ⟨hc, hno⟩ | ⟨hc, hsh, hn0⟩
    · rw [hq] at hc
      have hbad := runW_bad (reads := reads) hno
      rw [hq] at hbad
      have htn : q.2.2.told = [] := by rw [hbad]
      have hl0 : lenOf tI = some 0 := by have := hI3.lenOf; rw [htn] at this; exact this
      by_cases hn0 : n < 0
      · simp [sameInts_call hI3 hS3.isI htl, hc, hl0, hn0]
      · have hsf : shapeB f = false := by
          cases hs : shapeB f with
          | false => rfl
          | true => exact absurd ⟨hs, Int.not_lt.1 hn0⟩ hno
        simp [sameInts_call hI3 hS3.isI htl, hc, hl0, hn0, rdN_ob hF3, implShape hB3 hbl, hsf]
    · rw [hq] at hc
      have hc3 : ¬ q.1 = 3 := by rcases hc with h | h | h <;> omega
      simp [sameInts_call hI3 hS3.isI htl, hc3, rdN_ob hF3, wrap64_id (show -9223372036854775808 ≤ n + 10 ∧ n + 10 ≤ 9223372036854775807 by omega)]
      refine (implRun hB3 hbl hR3).mono ?_
      obtain ⟨q3, hq3⟩ : ∃ q3, runW f reads (n + 10) = q3 := ⟨_, rfl⟩
      have htl3 := (runW_told f reads (n + 10)).1
      rw [hq3] at htl3 ⊢
      rintro _ ⟨X4, tJ, rfl, hp4, hJ4, _⟩
      have hF4 := hp4.rdOb hF3
      have hdv : 0 ≤ n.tdiv 2 ∧ n.tdiv 2 ≤ n := by rw [Int.tdiv_eq_ediv_of_nonneg hn0]; omega
      simp [rdN_ob hF4, wrap64_id (show -9223372036854775808 ≤ n.tdiv 2 ∧ n.tdiv 2 ≤ 9223372036854775807 by omega)]
      refine (implRun (hB3.pre hp4) hbl (Sl.pre hp4 hR3)).mono ?_
      obtain ⟨q4, hq4⟩ : ∃ q4, runW f reads (n.tdiv 2) = q4 := ⟨_, rfl⟩
      have htl4 := (runW_told f reads (n.tdiv 2)).1
      rw [hq4] at htl4 ⊢
      rintro _ ⟨X5, tK, rfl, hp5, hK5, _⟩
      have hI5 := Sl.pre (hp4.trans hp5) hI3
      have hJ5 := Sl.pre hp5 hJ4.isI
      have hpre4 : q4.2.2.told <+: q.2.2.told := by rw [← hq4, ← hq]; exact runW_pre hdv.1 hdv.2
      have hle4 := hpre4.length_le
      obtain ⟨w4, e4, i4⟩ := isI_take hI5 hle4
      rw [← List.prefix_iff_eq_take.1 hpre4] at i4
      have hlt4 : ¬ ((q.2.2.told.length : Int) < q4.2.2.told.length) := by omega
      obtain ⟨fa, fb⟩ := runW_fuel (f := f) (reads := reads) hn0 (show n ≤ n + 10 by omega)
      rw [hq, hq3] at fa fb
      by_cases h1 : q.1 = 1
      · have hpre3 := fb h1
        have hle3 := hpre3.length_le
        obtain ⟨w3, e3, i3⟩ := isI_take hJ5 hle3
        rw [← List.prefix_iff_eq_take.1 hpre3] at i3
        simp [hK5.isI.lenOf, hI5.lenOf, hJ5.lenOf, hlt4, e4, sameInts_call hK5.isI i4 htl4, h1, hle3, e3, sameInts_call hI5 i3 htl]
      · have e := fa h1
        subst e
        simp [hK5.isI.lenOf, hI5.lenOf, hJ5.lenOf, hlt4, e4, sameInts_call hK5.isI i4 htl4, h1, sameInts_call hI5 hJ5 htl]
end Go.Proofs.Ytnapgdlfeadhaaa.Vm
end
