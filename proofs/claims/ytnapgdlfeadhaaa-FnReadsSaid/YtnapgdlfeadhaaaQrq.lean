import Derived.Test.YtnapgdlfeadhaaaQrp
section
/- The law of drawn runs with noughts behind what they read. No conditions. -/
namespace Go.Proofs.Ytnapgdlfeadhaaa.Vm
open Go.RowKit (wrap64)
set_option linter.unusedSimpArgs false
set_option linter.unusedVariables false

theorem app_two {X : Hp} {o g n : Nat} {xs : List Int} (h : rdOb X o g = some ⟨xs.map .i, g, true, 1⟩) (hn : xs.length = n) (hb : n ≤ BIG) (a b : Int) :
    doApp X 1 (.sl o g 0 n) 2 [.i a, .i b] = some (.c (.sl o (g + 1) 0 (n + 2)), X.set o ⟨xs.map .i ++ [.i a, .i b], g + 1, true, 1⟩) :=
  app_own h (by simp [hn]) (by simp) (by simp only [BIG] at hb; simp [LIM]; omega)
set_option maxRecDepth 100000 in
theorem reads_law {H : Hp} {v : CV} {xs : List Int} (hv : IsB H v xs) : CM 8 [.c v] H Tru := by
  refine cw8 ?_
  unfold vf8c
  by_cases hbig : 1048576 < xs.length
  · simp [big_call hv.lenOf, hbig]
  have hb : xs.length ≤ BIG := by simp only [BIG]; omega
  simp [big_call hv.lenOf, hbig]
  refine (drawRun_call hv hb).mono ?_
  rintro _ ⟨X, w, m, bs, rv, reads, n, rfl, ⟨d, g, rfl⟩, hp, hB, hbl, h0, hO, _, hrl, hn1, hn2⟩
  obtain ⟨X1, hX1⟩ : ∃ X1, X ++ [(⟨[.sl d g 0 bs.length, .i m], 0, true, 2⟩ : Ob)] = X1 := ⟨_, rfl⟩
  have hp1 : Pre X X1 := ⟨_, hX1.symm⟩
  have hB1 : Blocks X1 (.sl d g 0 bs.length) bs := (hB _ (Hi.refl _ _)).pre hp1
  have hF1 : rdOb X1 X.length 0 = some ⟨[.sl d g 0 bs.length, .i m], 0, true, 2⟩ := by rw [← hX1]; simp
  have hR1 : IsI X1 rv reads := Sl.pre hp1 hO.isI
  have hrb : reads.length ≤ BIG := by simp only [BIG]; omega
  obtain ⟨f, hf⟩ : ∃ f : FnR, f = ⟨bs, m⟩ := ⟨_, rfl⟩
  obtain rfl : bs = f.blocks := by rw [hf]
  obtain rfl : m = f.values := by rw [hf]
  clear hf
  obtain ⟨vv, hvv⟩ : ∃ vv, CV.sl d g 0 f.blocks.length = vv := ⟨_, rfl⟩
  rw [hvv] at hX1 hB1 hF1
  obtain ⟨q, hq⟩ : ∃ q, runW f reads n = q := ⟨_, rfl⟩
  have htl := (runW_told f reads n).1
  rw [hq] at htl
  obtain ⟨ra, rb, rc⟩ := runW_reads f reads 2 n
  rw [hq] at ra rb rc
  rcases hO.form with rfl | ⟨i1, g1, n1, rfl⟩
  all_goals
    simp [hvv, putD0', hX1, rdN_ob hF1]
    refine (implRun hB1 hbl hR1).mono ?_
    rw [hq]
    rintro _ ⟨X2, tI, rfl, hp2, hI2, _⟩
    simp [rdN_ob (hp2.rdOb hF1)]
    refine (specRun (hB1.pre hp2) hbl (Sl.pre hp2 hR1) hrb).mono ?_
    rw [hq]
    rintro _ ⟨X3, tS, rfl, hp3, hS3, _⟩
    have hI3 := Sl.pre hp3 hI2.isI
    have hF3 := (hp2.trans hp3).rdOb hF1
    have hB3 := hB1.pre (hp2.trans hp3)
    have hR3 := Sl.pre (hp2.trans hp3) hR1
    obtain ⟨q5, hq5⟩ : ∃ q5, runW f (reads ++ [0, 0]) n = q5 := ⟨_, rfl⟩
    have ra' : q5.1 = q.1 := by rw [← hq5]; exact ra
    have rb' : q5.2.1 = q.2.1 := by rw [← hq5]; exact rb
    have rc' : q5.2.2.told = q.2.2.told := by rw [← hq5]; exact rc
    have hrun : ∀ (Y : Hp) (i2 g2 : Nat), Pre X3 Y → rdOb Y i2 g2 = some ⟨reads.map .i ++ [.i 0, .i 0], g2, true, 1⟩ → CM 37 [.agg [vv, .i f.values], .c (.sl i2 g2 0 (reads.length + 2)), .c (.i n)] Y (RunOut Y q5) := by
      intro Y i2 g2 hpY ho
      have hI : IsI Y (.sl i2 g2 0 (reads.length + 2)) (reads ++ [0, 0]) := own_isI (by simpa using ho) (by simp)
      have := implRun (fuel := n) (hB3.pre hpY) hbl hI
      rwa [hq5] at this
    -- the three orders
    obtain ⟨A1, hA1⟩ : ∃ A1, X3 ++ [(⟨[], 0, true, 1⟩ : Ob)] = A1 := ⟨_, rfl⟩
    have pA1 : Pre X3 A1 := ⟨_, hA1.symm⟩
    have oA1 : rdOb A1 X3.length 0 = some ⟨[], 0, true, 1⟩ := by rw [← hA1]; simp
    have lA1 : A1.length = X3.length + 1 := by rw [← hA1]; simp
    obtain ⟨ga, eA⟩ := app_empty (xs := reads) oA1 hrb
    obtain ⟨A2, hA2⟩ : ∃ A2, A1.set X3.length ⟨reads.map .i, ga, true, 1⟩ = A2 := ⟨_, rfl⟩
    have pA2 : Pre X3 A2 := by rw [← hA2]; exact pA1.set (Nat.le_refl _) _
    have lA2 : A2.length = X3.length + 1 := by rw [← hA2]; simp [lA1]
    have oA2 : rdOb A2 X3.length ga = some ⟨reads.map .i, ga, true, 1⟩ := by rw [← hA2, rdOb_set_self (by omega)]; simp
    obtain ⟨A3, hA3⟩ : ∃ A3, A2 ++ [(⟨[.i 0, .i 0], 0, true, 1⟩ : Ob)] = A3 := ⟨_, rfl⟩
    have pA3 : Pre X3 A3 := by rw [← hA3]; exact pA2.app _
    have oA3 : rdOb A3 X3.length ga = some ⟨reads.map .i, ga, true, 1⟩ := by rw [← hA3]; exact rdOb_app _ oA2
    have tA3 : rdOb A3 A2.length 0 = some ⟨[.i 0, .i 0], 0, true, 1⟩ := by rw [← hA3]; simp
    have sA3 : srcOf A3 1 (.sl A2.length 0 0 2) = some (2, [.i 0, .i 0]) := by simp [srcOf, tA3]
    have eA3 := app_two oA3 rfl hrb 0 0
    have rA1 := IsI.src (Sl.pre pA1 hR3)
    have runA := hrun (A3.set X3.length ⟨reads.map .i ++ [.i 0, .i 0], ga + 1, true, 1⟩) X3.length (ga + 1) (pA3.set (Nat.le_refl _) _) (by rw [rdOb_set_self (rdOb_lt oA3)]; simp)
    -- between
    obtain ⟨B1, hB1'⟩ : ∃ B1, A1 ++ [(⟨[.i 0, .i 0], 0, true, 1⟩ : Ob)] = B1 := ⟨_, rfl⟩
    have pB1 : Pre X3 B1 := by rw [← hB1']; exact pA1.app _
    have oB1 : rdOb B1 X3.length 0 = some ⟨[], 0, true, 1⟩ := by rw [← hB1']; exact rdOb_app _ oA1
    have tB1 : rdOb B1 A1.length 0 = some ⟨[.i 0, .i 0], 0, true, 1⟩ := by rw [← hB1']; simp
    obtain ⟨gb, eB⟩ := app_empty (xs := reads) oB1 hrb
    obtain ⟨B2, hB2⟩ : ∃ B2, B1.set X3.length ⟨reads.map .i, gb, true, 1⟩ = B2 := ⟨_, rfl⟩
    have pB2 : Pre X3 B2 := by rw [← hB2]; exact pB1.set (Nat.le_refl _) _
    have oB2 : rdOb B2 X3.length gb = some ⟨reads.map .i, gb, true, 1⟩ := by rw [← hB2, rdOb_set_self (rdOb_lt oB1)]; simp
    have tB2 : rdOb B2 A1.length 0 = some ⟨[.i 0, .i 0], 0, true, 1⟩ := by rw [← hB2, rdOb_set_ne (by omega)]; exact tB1
    have sB2 : srcOf B2 1 (.sl A1.length 0 0 2) = some (2, [.i 0, .i 0]) := by simp [srcOf, tB2]
    have eB2 := app_two oB2 rfl hrb 0 0
    have rB1 := IsI.src (Sl.pre pB1 hR3)
    have runB := hrun (B2.set X3.length ⟨reads.map .i ++ [.i 0, .i 0], gb + 1, true, 1⟩) X3.length (gb + 1) (pB2.set (Nat.le_refl _) _) (by rw [rdOb_set_self (rdOb_lt oB2)]; simp)
    -- ahead
    obtain ⟨C1, hC1⟩ : ∃ C1, X3 ++ [(⟨[.i 0, .i 0], 0, true, 1⟩ : Ob)] = C1 := ⟨_, rfl⟩
    have pC1 : Pre X3 C1 := ⟨_, hC1.symm⟩
    have tC1 : rdOb C1 X3.length 0 = some ⟨[.i 0, .i 0], 0, true, 1⟩ := by rw [← hC1]; simp
    have lC1 : C1.length = X3.length + 1 := by rw [← hC1]; simp
    obtain ⟨C2, hC2⟩ : ∃ C2, C1 ++ [(⟨[], 0, true, 1⟩ : Ob)] = C2 := ⟨_, rfl⟩
    have pC2 : Pre X3 C2 := by rw [← hC2]; exact pC1.app _
    have oC2 : rdOb C2 C1.length 0 = some ⟨[], 0, true, 1⟩ := by rw [← hC2]; simp
    have tC2 : rdOb C2 X3.length 0 = some ⟨[.i 0, .i 0], 0, true, 1⟩ := by rw [← hC2]; exact rdOb_app _ tC1
    obtain ⟨gc, eC⟩ := app_empty (xs := reads) oC2 hrb
    obtain ⟨C3, hC3⟩ : ∃ C3, C2.set C1.length ⟨reads.map .i, gc, true, 1⟩ = C3 := ⟨_, rfl⟩
    have pC3 : Pre X3 C3 := by rw [← hC3]; exact pC2.set (by omega) _
    have oC3 : rdOb C3 C1.length gc = some ⟨reads.map .i, gc, true, 1⟩ := by rw [← hC3, rdOb_set_self (rdOb_lt oC2)]; simp
    have tC3 : rdOb C3 X3.length 0 = some ⟨[.i 0, .i 0], 0, true, 1⟩ := by rw [← hC3, rdOb_set_ne (by omega)]; exact tC2
    have sC3 : srcOf C3 1 (.sl X3.length 0 0 2) = some (2, [.i 0, .i 0]) := by simp [srcOf, tC3]
    have eC3 := app_two oC3 rfl hrb 0 0
    have rC2 := IsI.src (Sl.pre pC2 hR3)
    have runC := hrun (C3.set C1.length ⟨reads.map .i ++ [.i 0, .i 0], gc + 1, true, 1⟩) C1.length (gc + 1) (pC3.set (by omega) _) (by rw [rdOb_set_self (rdOb_lt oC3)]; simp)
    have hfin : ∀ (Y Z : Hp) (t : CV), Pre X3 Y → Pre Y Z → OutR Z t q5.2.2.told → IsI Z tI q.2.2.told ∧ IsI Z t q.2.2.told := fun Y Z t h1 h2 h3 => ⟨Sl.pre (h1.trans h2) hI3, by rw [← rc']; exact h3.isI⟩
    have kF : ∀ Y, Pre X3 Y → rdOb Y X.length 0 = rdOb X3 X.length 0 := fun Y hY => by rw [hY.rdOb hF3, hF3]
    simp [vf8t0, rdN_ob hF3, hA1, rA1, eA, hA2, putL0, putL1, hA3, sA3, eA3, hB1', rB1, eB, hB2, sB2, eB2, hC1, hC2, rC2, eC, hC3, sC3, eC3, kF _ pA1, kF _ pA2, kF _ pA3, kF _ pB1, kF _ pB2, kF _ pC1, kF _ pC2, kF _ pC3, rdN_ob (pA1.rdOb hF3), rdN_ob (pC1.rdOb hF3), rdN_ob (pC2.rdOb hF3), rdN_ob (pB1.rdOb hF3)]
    refine ⟨⟨⟨kF _ (pA3.set (Nat.le_refl _) _), ?_⟩, kF _ (pB2.set (Nat.le_refl _) _), ?_⟩, kF _ (pC3.set (by omega) _), ?_⟩
    · refine runA.mono ?_
      rintro _ ⟨Z, t, rfl, hZ, hO5, _⟩
      obtain ⟨f1, f2⟩ := hfin _ _ _ (pA3.set (Nat.le_refl _) _) hZ hO5
      simp [ra', rb', sameInts_call f1 f2 htl]
    · refine runB.mono ?_
      rintro _ ⟨Z, t, rfl, hZ, hO5, _⟩
      obtain ⟨f1, f2⟩ := hfin _ _ _ (pB2.set (Nat.le_refl _) _) hZ hO5
      simp [ra', rb', sameInts_call f1 f2 htl]
    · refine runC.mono ?_
      rintro _ ⟨Z, t, rfl, hZ, hO5, _⟩
      obtain ⟨f1, f2⟩ := hfin _ _ _ (pC3.set (by omega) _) hZ hO5
      simp [ra', rb', sameInts_call f1 f2 htl]
end Go.Proofs.Ytnapgdlfeadhaaa.Vm
end
