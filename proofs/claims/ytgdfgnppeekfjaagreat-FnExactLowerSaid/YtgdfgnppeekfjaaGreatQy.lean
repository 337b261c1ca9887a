import Derived.Test.YtgdfgnppeekfjaaGreatP2
section
/- Critical edges. No conditions. -/
namespace Go.Proofs.YtgdfgnppeekfjaaGreat.Vm
open Go.RowKit (wrap64)
set_option linter.unusedSimpArgs false
set_option linter.unusedVariables false
def phisAt (bs : List BlkR) (k : Int) : List PhiR := match bs[k.toNat]? with
  | some b => b.phis
  | none => []
def hot (bs : List BlkR) (k : Int) : Bool := decide (1 < (predsF bs k).length) || decide (0 < (phisAt bs k).length)
def critIn (bs : List BlkR) (i : Nat) (n : Nat) : List ArmR := (((succsAt bs i).take n).filter (hot bs)).map fun k => ⟨(i : Int), k⟩
def critAt (bs : List BlkR) (i : Nat) : List ArmR := if 1 < (succsAt bs i).length then critIn bs i (succsAt bs i).length else []
def critTo (bs : List BlkR) (n : Nat) : List ArmR := (List.range n).flatMap (critAt bs)
theorem critTo_succ (bs : List BlkR) (n : Nat) : critTo bs (n + 1) = critTo bs n ++ critAt bs n := by simp [critTo, List.range_succ]
theorem critIn_succ {bs : List BlkR} {i n : Nat} (hn : n < (succsAt bs i).length) : critIn bs i (n + 1) = critIn bs i n ++ (if hot bs (succsAt bs i)[n] = true then [⟨(i : Int), (succsAt bs i)[n]⟩] else []) := by
  unfold critIn
  rw [List.take_succ_eq_append_getElem hn, List.filter_append, List.map_append]
  congr 1
  cases h : hot bs (succsAt bs i)[n] <;> simp [h]
theorem succsAt_two (bs : List BlkR) (i : Nat) : (succsAt bs i).length ≤ 2 := by
  unfold succsAt
  split
  · exact succsF_le _
  · simp
theorem critIn_le (bs : List BlkR) (i n : Nat) : (critIn bs i n).length ≤ 2 := by
  unfold critIn
  rw [List.length_map]
  refine Nat.le_trans (List.length_filter_le _ _) ?_
  rw [List.length_take]
  have := succsAt_two bs i
  omega
theorem critAt_le (bs : List BlkR) (i : Nat) : (critAt bs i).length ≤ 2 := by
  unfold critAt
  split
  · exact critIn_le _ _ _
  · simp
theorem critTo_le (bs : List BlkR) (n : Nat) : (critTo bs n).length ≤ 2 * n := by
  induction n with
  | zero => simp [critTo]
  | succ n ih =>
    rw [critTo_succ, List.length_append]
    have := critAt_le bs n
    omega
/-- The row of edges so far, and what stands. -/
structure CInv (H : Hp) (v : CV) (m : Int) (out : List ArmR) (w : CV) (Y : Hp) : Prop where
  pre : Pre (H ++ [⟨[v, .i m], 0, true, 2⟩]) Y
  out : ∃ g, w = .sl (H.length + 1) g 0 out.length ∧ rdOb Y (H.length + 1) g = some ⟨edC out, g, true, 2⟩
theorem CInv.app {H Y : Hp} {v : CV} {m : Int} {out : List ArmR} {w : CV} (h : CInv H v m out w Y) (L : Hp) : CInv H v m out w (Y ++ L) := by
  obtain ⟨h1, g, h2, h3⟩ := h
  exact ⟨h1.app L, g, h2, rdOb_app L h3⟩
theorem CInv.push {H Y : Hp} {v : CV} {m : Int} {out : List ArmR} {w : CV} (h : CInv H v m out w Y) (a : ArmR) (hl : out.length < 4 * BIG) :
    ∃ w' Z, doApp Y 2 w 1 [.i a.fr, .i a.v] = some (.c w', Z) ∧ CInv H v m (out ++ [a]) w' Z ∧ ∀ id g ob, id ≠ H.length + 1 → rdOb Y id g = some ob → rdOb Z id g = some ob := by
  obtain ⟨h1, g, rfl, h3⟩ := h
  have hlt := rdOb_lt h3
  refine ⟨_, _, app_own h3 (by simp) (by simp) (by simp; simp only [BIG] at hl; simp only [LIM]; omega), ⟨h1.set (by simp) _, g + 1, by simp, ?_⟩, fun id g' ob hne ho => by rw [rdOb_set_ne hne]; exact ho⟩
  rw [rdOb_set_self hlt, edC_snoc]; simp [armC]
theorem CInv.box {H Y : Hp} {v : CV} {m : Int} {out : List ArmR} {w : CV} (h : CInv H v m out w Y) : rdOb Y H.length 0 = some ⟨[v, .i m], 0, true, 2⟩ := box_get h.pre
def crit0 (f : FnR) : List ArmR := if shapeB f = true then critTo f.blocks f.blocks.length else []
theorem specCrit {H : Hp} {v : CV} {bs : List BlkR} {m : Int} (hv : Blocks H v bs) (hin : InRange bs) (hb : bs.length ≤ BIG) (k : IV × Hp → Prop) :
    CM 111 [.agg [v, .i m]] H k = k (.c (.sl H.length 0 0 (critTo bs bs.length).length), H ++ [⟨edC (critTo bs bs.length), 0, true, 2⟩]) := by
  refine det (cw111 ?_) k
  unfold vf111c
  simp
  obtain ⟨I, hI⟩ : ∃ I : Nat → St → Prop, ∀ i st, I i st ↔ (∃ w, CInv H v m (critTo bs i) w st.h ∧ Env.get st.e 1 = .c (.p H.length 0 0) ∧ Env.get st.e 3 = .c w ∧ Env.get st.e 4 = .c (.i i)) := ⟨_, fun _ _ => Iff.rfl⟩
  refine wp_for CM_mono bs.length I ((hI _ _).2 ⟨_, ⟨⟨[⟨[], 0, true, 2⟩], by simp⟩, 0, rfl, by simp [critTo]⟩, by simp [critTo]⟩) ?_ ?_
  · rintro i ⟨e, X⟩ hi hIs
    obtain ⟨w, hC, h1, h3, h4⟩ := (hI _ _).1 hIs
    simp only at hC h1 h3 h4 ⊢
    have hvX : Blocks X v bs := hv.pre (Pre.trans ⟨_, rfl⟩ hC.pre)
    obtain ⟨ws, Ls, hws, hsc⟩ := specSuccs (m := m) hvX hi
    rw [← succsAt_eq hi] at hws
    have hbox := hC.box
    have hXl : H.length + 1 < X.length := by obtain ⟨g, _, h⟩ := hC.out; exact rdOb_lt h
    have hls := hws.len
    have h2 := succsAt_two bs i
    have hto := critTo_le bs i
    unfold vf111b1
    simp [h1, h3, h4, hi, rdN_ob hbox, rdC_ob hbox, hvX.lenOf, hsc]
    by_cases hgt : 1 < (succsAt bs i).length
    · have hgtI : (1 : Int) < ((succsAt bs i).length : Int) := by omega
      obtain ⟨J, hJ⟩ : ∃ J : Nat → St → Prop, ∀ j st, J j st ↔ (∃ w', CInv H v m (critTo bs i ++ critIn bs i j) w' st.h ∧ (∀ id g ob, id ≠ H.length + 1 → rdOb (X ++ Ls) id g = some ob → rdOb st.h id g = some ob) ∧ Env.get st.e 1 = .c (.p H.length 0 0) ∧ Env.get st.e 3 = .c w' ∧ Env.get st.e 4 = .c (.i i) ∧ Env.get st.e 5 = .c ws ∧ Env.get st.e 6 = .c (.i j)) := ⟨_, fun _ _ => Iff.rfl⟩
      refine wp_for CM_mono (succsAt bs i).length J ((hJ _ _).2 ⟨w, by simpa [critIn] using hC.app Ls, fun _ _ _ _ h => h, by simp [h1, h3, h4]⟩) ?_ ?_
      · rintro j ⟨e', Y⟩ hj hJs
        obtain ⟨w', hD, hk, h1, h3, h4, h5, h6⟩ := (hJ _ _).1 hJs
        simp only at hD hk h1 h3 h4 h5 h6 ⊢
        have hsv : IsI Y ws (succsAt bs i) := hws.isI' fun g ob h => hk _ g ob (by omega) h
        obtain ⟨id, g, off, q1, q2⟩ := hsv.at_ hj
        obtain ⟨n, hn, hnl⟩ : ∃ n : Nat, (succsAt bs i)[j] = n ∧ n < bs.length := by
          obtain ⟨a, b⟩ := hin i _ (List.getElem_mem hj)
          exact ⟨(succsAt bs i)[j].toNat, by omega, by omega⟩
        have hvY : Blocks Y v bs := hv.pre (Pre.trans ⟨_, rfl⟩ hD.pre)
        obtain ⟨wp, Lp, hwp, hpc⟩ := specPreds (m := m) (b := (n : Int)) hvY hb
        have hboxY := hD.box
        have hboxP := (hD.app Lp).box
        have hvP := hvY.app Lp
        obtain ⟨id', g', off', z, u, r1, ⟨r2, _⟩, _, hz, _⟩ := Blocks.get hvP hnl
        have hph : phisAt bs (n : Int) = bs[n].phis := by simp [phisAt, hnl]
        have hin2 := critIn_le bs i j
        have hsucc := critIn_succ hj
        rw [hn] at hsucc
        have hlw := hwp.len
        have hj2 : j + 1 ≤ 2 := by omega
        have hsvP : IsI (Y ++ Lp) ws (succsAt bs i) := hsv.app Lp
        obtain ⟨id2, g2, off2, q3, q4⟩ := hsvP.at_ hj
        have e12 : id2 = id ∧ g2 = g ∧ off2 = off := by
          have e := q3.symm.trans q1
          injection e with e; injection e with e1 e2 e3
          exact ⟨e1, e2, e3⟩
        obtain ⟨rfl, rfl, rfl⟩ := e12
        unfold vf111b0
        have hnext : ∀ Z, (∀ id g ob, id ≠ H.length + 1 → rdOb (Y ++ Lp) id g = some ob → rdOb Z id g = some ob) → ∀ id g ob, id ≠ H.length + 1 → rdOb (X ++ Ls) id g = some ob → rdOb Z id g = some ob := fun Z hz id g ob a b => hz id g ob a (rdOb_app _ (hk id g ob a b))
        cases hh : hot bs (n : Int) with
        | false =>
          have hh' := hh
          unfold hot at hh
          rw [Bool.or_eq_false_iff, hph] at hh
          obtain ⟨f1, f2⟩ := hh
          have f1 := of_decide_eq_false f1
          have f2 := of_decide_eq_false f2
          rw [hh'] at hsucc
          have f1I : ¬ (1 : Int) < ((predsF bs (n : Int)).length : Int) := by omega
          have f2I : ¬ (0 : Int) < (bs[n].phis.length : Int) := by omega
          have f2J : bs[n].phis = [] := List.length_eq_zero_iff.1 (by omega)
          simp [h1, h3, h4, h5, h6, hj, hls, hgtI, q1, q2, q4, hn, rdN_ob hboxY, hpc, hlw, f1I, rdC_ob hboxP, r1, r2, hz.lenOf, f2J, up1 hj (show (succsAt bs i).length ≤ BIG by simp only [BIG]; omega)]
          exact (hJ _ _).2 ⟨w', by rw [hsucc]; simpa using hD.app Lp, hnext _ fun _ _ _ _ h => h, by simp [h1, h3, h4, h5]⟩
        | true =>
          rw [hh] at hsucc
          have hlen : (critTo bs i ++ critIn bs i j).length < 4 * BIG := by rw [List.length_append]; omega
          obtain ⟨w2, Z, p1, p2, p3⟩ := ((hD.app Lp).app [⟨[.i (i : Int), .i (n : Int)], 0, true, 2⟩]).push ⟨(i : Int), (n : Int)⟩ hlen
          rw [List.append_assoc] at p1
          have hfin : ∀ id g ob, id ≠ H.length + 1 → rdOb (X ++ Ls) id g = some ob → rdOb Z id g = some ob := hnext Z fun id g ob a b => p3 id g ob a (rdOb_app _ b)
          unfold hot at hh
          rw [hph] at hh
          by_cases f1 : 1 < (predsF bs (n : Int)).length
          · have f1I : (1 : Int) < ((predsF bs (n : Int)).length : Int) := by omega
            simp [h1, h3, h4, h5, h6, hj, hls, hgtI, q1, q2, q4, hn, rdN_ob hboxY, hpc, hlw, f1I, rdC_ob hboxP, r1, r2, hz.lenOf, up1 hj (show (succsAt bs i).length ≤ BIG by simp only [BIG]; omega), srcOf, putAt, p1]
            exact (hJ _ _).2 ⟨w2, by rw [hsucc, ← List.append_assoc]; exact p2, hfin, by simp⟩
          · rw [decide_eq_false f1, Bool.false_or] at hh
            have f2 := of_decide_eq_true hh
            have f1I : ¬ (1 : Int) < ((predsF bs (n : Int)).length : Int) := by omega
            have f2I : (0 : Int) < (bs[n].phis.length : Int) := by omega
            simp [h1, h3, h4, h5, h6, hj, hls, hgtI, q1, q2, q4, hn, rdN_ob hboxY, hpc, hlw, f1I, rdC_ob hboxP, r1, r2, hz.lenOf, f2I, f2, up1 hj (show (succsAt bs i).length ≤ BIG by simp only [BIG]; omega), srcOf, putAt, p1]
            exact (hJ _ _).2 ⟨w2, by rw [hsucc, ← List.append_assoc]; exact p2, hfin, by simp⟩
      · rintro ⟨e', Y⟩ hJs
        obtain ⟨w', hD, hk, h1, h3, h4, h5, h6⟩ := (hJ _ _).1 hJs
        simp only at hD hk h1 h3 h4 h5 h6 ⊢
        unfold vf111b0
        simp [h1, h3, h4, h5, h6, hls, up1 hi hb]
        exact (hI _ _).2 ⟨w', by rw [critTo_succ, critAt, if_pos hgt]; exact hD, by simp [h1, h3]⟩
    · have hgtI : ¬ (1 : Int) < ((succsAt bs i).length : Int) := by omega
      refine wp_for CM_mono 0 (fun j st => st.h = X ++ Ls ∧ Env.get st.e 1 = .c (.p H.length 0 0) ∧ Env.get st.e 3 = .c w ∧ Env.get st.e 4 = .c (.i i) ∧ Env.get st.e 5 = .c ws ∧ Env.get st.e 6 = .c (.i j)) (by simp [h1, h3, h4]) (fun i s h => absurd h (by omega)) ?_
      rintro ⟨e', Y⟩ ⟨rfl, h1, h3, h4, h5, h6⟩
      simp only at h1 h3 h4 h5 h6 ⊢
      unfold vf111b0
      have hres : I (i + 1) ⟨e', X ++ Ls⟩ → True := fun _ => trivial
      have hfin : CInv H v m (critTo bs (i + 1)) w (X ++ Ls) := by rw [critTo_succ, critAt, if_neg hgt, List.append_nil]; exact hC.app Ls
      by_cases h0 : (succsAt bs i).length = 0
      · simp [h1, h3, h4, h5, h6, hls, hgtI, h0, up1 hi hb]
        exact (hI _ _).2 ⟨w, hfin, by simp [h1, h3]⟩
      · have h0I : (0 : Int) < ((succsAt bs i).length : Int) := by omega
        have h0J : 0 < (succsAt bs i).length := by omega
        simp [h1, h3, h4, h5, h6, hls, hgtI, h0I, h0J, up1 hi hb]
        exact (hI _ _).2 ⟨w, hfin, by simp [h1, h3]⟩
  · rintro ⟨e, X⟩ hIs
    obtain ⟨w, hC, h1, h3, h4⟩ := (hI _ _).1 hIs
    simp only at hC h1 h3 h4 ⊢
    have hvX : Blocks X v bs := hv.pre (Pre.trans ⟨_, rfl⟩ hC.pre)
    have hbox := hC.box
    obtain ⟨hp, g, rfl, ho⟩ := hC
    unfold vf111b1
    simp [h1, h3, h4, rdC_ob hbox, hvX.lenOf]
    rw [gcRet_row (Pre.trans ⟨_, rfl⟩ hp) (by omega) ho rfl (edC_flat _)]
theorem implCrit {H : Hp} {v : CV} {bs : List BlkR} {m : Int} (hv : Blocks H v bs) (hin : InRange bs) (hb : bs.length ≤ BIG) (hsh : shapeB ⟨bs, m⟩ = true) (k : IV × Hp → Prop) :
    CM 24 [.agg [v, .i m]] H k = k (.c (.sl H.length 0 0 (critTo bs bs.length).length), H ++ [⟨edC (critTo bs bs.length), 0, true, 2⟩]) := by
  refine det (cw24 ?_) k
  unfold vf24c
  simp [implShape (f := ⟨bs, m⟩) (hv.app _) hb, hsh, hv.lenOf, (hv.app _).lenOf]
  obtain ⟨I, hI⟩ : ∃ I : Nat → St → Prop, ∀ i st, I i st ↔ (∃ w, CInv H v m (critTo bs i) w st.h ∧ Env.get st.e 1 = .c (.p H.length 0 0) ∧ Env.get st.e 3 = .c w ∧ Env.get st.e 14 = .c (.i bs.length) ∧ Env.get st.e 15 = .c (.i i)) := ⟨_, fun _ _ => Iff.rfl⟩
  refine wp_for CM_mono bs.length I ((hI _ _).2 ⟨_, ⟨⟨[⟨[], 0, true, 2⟩], by simp⟩, 0, rfl, by simp [critTo]⟩, by simp [critTo]⟩) ?_ ?_
  · rintro i ⟨e, X⟩ hi hIs
    obtain ⟨w, hC, h1, h3, h14, h15⟩ := (hI _ _).1 hIs
    simp only at hC h1 h3 h14 h15 ⊢
    have hvX : Blocks X v bs := hv.pre (Pre.trans ⟨_, rfl⟩ hC.pre)
    obtain ⟨ws, Ls, hws, hsc⟩ := implSuccs (m := m) hvX hi
    rw [← succsAt_eq hi] at hws
    have hbox := hC.box
    have hXl : H.length + 1 < X.length := by obtain ⟨g, _, h⟩ := hC.out; exact rdOb_lt h
    have hls := hws.len
    have h2 := succsAt_two bs i
    have hto := critTo_le bs i
    unfold vf24b1
    by_cases hgt : 1 < (succsAt bs i).length
    · have hgtI : ((succsAt bs i).length : Int) = 2 := by omega
      have hgtN : (succsAt bs i).length = 2 := by omega
      simp [h1, h3, h14, h15, hi, rdN_ob hbox, rdC_ob hbox, hsc, hls, hgtI, hgtN]
      obtain ⟨J, hJ⟩ : ∃ J : Nat → St → Prop, ∀ j st, J j st ↔ (∃ w', CInv H v m (critTo bs i ++ critIn bs i j) w' st.h ∧ (∀ id g ob, id ≠ H.length + 1 → rdOb (X ++ Ls) id g = some ob → rdOb st.h id g = some ob) ∧ Env.get st.e 1 = .c (.p H.length 0 0) ∧ Env.get st.e 3 = .c w' ∧ Env.get st.e 4 = .c (.i i) ∧ Env.get st.e 14 = .c (.i bs.length) ∧ Env.get st.e 15 = .c (.i i) ∧ Env.get st.e 24 = .c ws ∧ Env.get st.e 25 = .c (.i 2) ∧ Env.get st.e 26 = .c (.i j)) := ⟨_, fun _ _ => Iff.rfl⟩
      refine wp_for CM_mono (succsAt bs i).length J ((hJ _ _).2 ⟨w, by simpa [critIn] using hC.app Ls, fun _ _ _ _ h => h, by simp [h1, h3, h14, h15]⟩) ?_ ?_
      · rintro j ⟨e', Y⟩ hj hJs
        obtain ⟨w', hD, hk, h1, h3, h4, h14, h15, h24, h25, h26⟩ := (hJ _ _).1 hJs
        simp only at hD hk h1 h3 h4 h14 h15 h24 h25 h26 ⊢
        have hsv : IsI Y ws (succsAt bs i) := hws.isI' fun g ob h => hk _ g ob (by omega) h
        obtain ⟨id, g, off, q1, q2⟩ := hsv.at_ hj
        obtain ⟨n, hn, hnl⟩ : ∃ n : Nat, (succsAt bs i)[j] = n ∧ n < bs.length := by
          obtain ⟨a, b⟩ := hin i _ (List.getElem_mem hj)
          exact ⟨(succsAt bs i)[j].toNat, by omega, by omega⟩
        have hvY : Blocks Y v bs := hv.pre (Pre.trans ⟨_, rfl⟩ hD.pre)
        obtain ⟨wp, Lp, hwp, hpc⟩ := implPreds (m := m) (b := (n : Int)) hvY hb
        have hboxY := hD.box
        have hboxP := (hD.app Lp).box
        have hvP := hvY.app Lp
        obtain ⟨id', g', off', z, u, r1, ⟨r2, _⟩, _, hz, _⟩ := Blocks.get hvP hnl
        have hph : phisAt bs (n : Int) = bs[n].phis := by simp [phisAt, hnl]
        have hin2 := critIn_le bs i j
        have hsucc := critIn_succ hj
        rw [hn] at hsucc
        have hlw := hwp.len
        have hj2 : j + 1 ≤ 2 := by omega
        have hsvP : IsI (Y ++ Lp) ws (succsAt bs i) := hsv.app Lp
        obtain ⟨id2, g2, off2, q3, q4⟩ := hsvP.at_ hj
        have e12 : id2 = id ∧ g2 = g ∧ off2 = off := by
          have e := q3.symm.trans q1
          injection e with e; injection e with e1 e2 e3
          exact ⟨e1, e2, e3⟩
        obtain ⟨rfl, rfl, rfl⟩ := e12
        unfold vf24b0
        have hnext : ∀ Z, (∀ id g ob, id ≠ H.length + 1 → rdOb (Y ++ Lp) id g = some ob → rdOb Z id g = some ob) → ∀ id g ob, id ≠ H.length + 1 → rdOb (X ++ Ls) id g = some ob → rdOb Z id g = some ob := fun Z hz id g ob a b => hz id g ob a (rdOb_app _ (hk id g ob a b))
        cases hh : hot bs (n : Int) with
        | false =>
          have hh' := hh
          unfold hot at hh
          rw [Bool.or_eq_false_iff, hph] at hh
          obtain ⟨f1, f2⟩ := hh
          have f1 := of_decide_eq_false f1
          have f2 := of_decide_eq_false f2
          rw [hh'] at hsucc
          have f1I : ¬ (1 : Int) < ((predsF bs (n : Int)).length : Int) := by omega
          have f2I : ¬ (0 : Int) < (bs[n].phis.length : Int) := by omega
          have f2J : bs[n].phis = [] := List.length_eq_zero_iff.1 (by omega)
          simp [h1, h3, h4, h14, h15, h24, h25, h26, show (j : Int) < 2 by omega, q1, q2, q4, hn, rdN_ob hboxY, hpc, hlw, f1I, rdC_ob hboxP, r1, r2, hz.lenOf, f2J, up1 hj (show (succsAt bs i).length ≤ BIG by simp only [BIG]; omega)]
          exact (hJ _ _).2 ⟨w', by rw [hsucc]; simpa using hD.app Lp, hnext _ fun _ _ _ _ h => h, by simp [h1, h3, h4, h14, h15, h24, h25]⟩
        | true =>
          rw [hh] at hsucc
          have hlen : (critTo bs i ++ critIn bs i j).length < 4 * BIG := by rw [List.length_append]; omega
          obtain ⟨w2, Z, p1, p2, p3⟩ := ((hD.app Lp).app [⟨[.i (i : Int), .i (n : Int)], 0, true, 2⟩]).push ⟨(i : Int), (n : Int)⟩ hlen
          rw [List.append_assoc] at p1
          have hfin : ∀ id g ob, id ≠ H.length + 1 → rdOb (X ++ Ls) id g = some ob → rdOb Z id g = some ob := hnext Z fun id g ob a b => p3 id g ob a (rdOb_app _ b)
          unfold hot at hh
          rw [hph] at hh
          by_cases f1 : 1 < (predsF bs (n : Int)).length
          · have f1I : (1 : Int) < ((predsF bs (n : Int)).length : Int) := by omega
            simp [h1, h3, h4, h14, h15, h24, h25, h26, show (j : Int) < 2 by omega, q1, q2, q4, hn, rdN_ob hboxY, hpc, hlw, f1I, rdC_ob hboxP, r1, r2, hz.lenOf, up1 hj (show (succsAt bs i).length ≤ BIG by simp only [BIG]; omega), srcOf, putAt, p1]
            exact (hJ _ _).2 ⟨w2, by rw [hsucc, ← List.append_assoc]; exact p2, hfin, by simp⟩
          · rw [decide_eq_false f1, Bool.false_or] at hh
            have f2 := of_decide_eq_true hh
            have f1I : ¬ (1 : Int) < ((predsF bs (n : Int)).length : Int) := by omega
            have f2I : (0 : Int) < (bs[n].phis.length : Int) := by omega
            simp [h1, h3, h4, h14, h15, h24, h25, h26, show (j : Int) < 2 by omega, q1, q2, q4, hn, rdN_ob hboxY, hpc, hlw, f1I, rdC_ob hboxP, r1, r2, hz.lenOf, f2I, f2, up1 hj (show (succsAt bs i).length ≤ BIG by simp only [BIG]; omega), srcOf, putAt, p1]
            exact (hJ _ _).2 ⟨w2, by rw [hsucc, ← List.append_assoc]; exact p2, hfin, by simp⟩
      · rintro ⟨e', Y⟩ hJs
        obtain ⟨w', hD, hk, h1, h3, h4, h14, h15, h24, h25, h26⟩ := (hJ _ _).1 hJs
        simp only at hD hk h1 h3 h4 h14 h15 h24 h25 h26 ⊢
        unfold vf24b0
        simp [h1, h3, h4, h14, h15, h24, h25, h26, hgtN, up1 hi hb]
        exact (hI _ _).2 ⟨w', by rw [critTo_succ, critAt, if_pos hgt]; exact hD, by simp [h1, h3, h14, h15]⟩
    · have hgtI : ¬ ((succsAt bs i).length : Int) = 2 := by omega
      have hgtN : ¬ (succsAt bs i).length = 2 := by omega
      have hfin : CInv H v m (critTo bs (i + 1)) w (X ++ Ls) := by rw [critTo_succ, critAt, if_neg hgt, List.append_nil]; exact hC.app Ls
      simp [h1, h3, h14, h15, hi, rdN_ob hbox, rdC_ob hbox, hsc, hls, hgtI, hgtN, up1 hi hb]
      exact (hI _ _).2 ⟨w, hfin, by simp [h1, h3, h14, h15]⟩
  · rintro ⟨e, X⟩ hIs
    obtain ⟨w, hC, h1, h3, h14, h15⟩ := (hI _ _).1 hIs
    simp only at hC h1 h3 h14 h15 ⊢
    have hvX : Blocks X v bs := hv.pre (Pre.trans ⟨_, rfl⟩ hC.pre)
    have hbox := hC.box
    obtain ⟨hp, g, rfl, ho⟩ := hC
    unfold vf24b1
    simp [h1, h3, h14, h15, rdC_ob hbox, hvX.lenOf]
    rw [gcRet_row (Pre.trans ⟨_, rfl⟩ hp) (by omega) ho rfl (edC_flat _)]
theorem implCrit0 {H : Hp} {v : CV} {f : FnR} (hv : Blocks H v f.blocks) (hb : f.blocks.length ≤ BIG) :
    ∃ w L, RowE H w L (crit0 f) ∧ ∀ k : IV × Hp → Prop, CM 24 [.agg [v, .i f.values]] H k = k (.c w, H ++ L) := by
  cases hsh : shapeB f with
  | false =>
    refine ⟨.ns, [], .inl ⟨rfl, rfl, by simp [crit0, hsh]⟩, fun k => det (cw24 ?_) k⟩
    unfold vf24c
    simp [implShape (hv.app _) hb, hsh]
  | true =>
    exact ⟨_, _, .inr ⟨by simp [crit0, hsh], by simp [crit0, hsh]⟩, fun k => implCrit (m := f.values) hv (shape_range hsh) hb hsh k⟩
end Go.Proofs.YtgdfgnppeekfjaaGreat.Vm
end
