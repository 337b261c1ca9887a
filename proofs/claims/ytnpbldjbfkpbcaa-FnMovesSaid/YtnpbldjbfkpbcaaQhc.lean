import Derived.Test.YtnpbldjbfkpbcaaQhb
import Derived.Test.YtnpbldjbfkpbcaaP3
section
/- In which order copies may go: the program's side. No conditions. -/
namespace Go.Proofs.Ytnpbldjbfkpbcaa.Vm
open Go.RowKit (wrap64)
set_option linter.unusedSimpArgs false
set_option linter.unusedVariables false

theorem MvO.but {id g i : Nat} {X Z : Hp} {ms : List ArmR} {rest : List CV} (h : MvO X i g ms rest) (hb : But id X Z) (hne : i ≠ id) : MvO Z i g ms rest := hb.2 _ _ _ hne h
theorem MvO.app {i g : Nat} {X : Hp} {ms : List ArmR} {rest : List CV} (h : MvO X i g ms rest) (L : Hp) : MvO (X ++ L) i g ms rest := rdOb_app L h
theorem MvO.push {X : Hp} {b g : Nat} {out : List ArmR} (h : MvO X b g out []) (hl : out.length ≤ 100) (a : ArmR) :
    doApp (X ++ [(⟨[.i a.fr, .i a.v], 0, true, 2⟩ : Ob)]) 2 (.sl b g 0 out.length) 1 [.i a.fr, .i a.v] = some (.c (.sl b (g + 1) 0 (out.length + 1)), (X ++ [(⟨[.i a.fr, .i a.v], 0, true, 2⟩ : Ob)]).set b ⟨edC (out ++ [a]), g + 1, true, 2⟩) ∧
    But b X ((X ++ [(⟨[.i a.fr, .i a.v], 0, true, 2⟩ : Ob)]).set b ⟨edC (out ++ [a]), g + 1, true, 2⟩) ∧ MvO ((X ++ [(⟨[.i a.fr, .i a.v], 0, true, 2⟩ : Ob)]).set b ⟨edC (out ++ [a]), g + 1, true, 2⟩) b (g + 1) (out ++ [a]) [] := by
  have hlt := h.lt
  have h' : rdOb X b g = some ⟨edC out, g, true, 2⟩ := by have h2 : rdOb X b g = some ⟨edC out ++ [], g, true, 2⟩ := h; rwa [List.append_nil] at h2
  have happ := app_own (X := X ++ [(⟨[.i a.fr, .i a.v], 0, true, 2⟩ : Ob)]) (o := b) (g := g) (n := out.length) (sz := 2) (m := 1) (cs := edC out) (xs := [.i a.fr, .i a.v]) (rdOb_app _ h') (by simp) (by simp) (by simp only [LIM, List.length_cons, List.length_nil, edC_len]; omega)
  have e : edC out ++ [.i a.fr, .i a.v] = edC (out ++ [a]) := by rw [edC_snoc]; rfl
  rw [e] at happ
  exact ⟨happ, (But.app _ _ _).trans (But.set _ _ _), by show rdOb _ _ _ = _; rw [rdOb_set_self (by simp; omega), List.append_nil]; simp⟩
def turnTo (n b : Int) (ms : List ArmR) (j : Nat) : List ArmR := (ms.take j).map (turnM n b) ++ ms.drop j
theorem turnTo_len (n b : Int) (ms : List ArmR) (j : Nat) : (turnTo n b ms j).length = ms.length := by
  unfold turnTo; rw [List.length_append, List.length_map, ← List.length_append, List.take_append_drop]
theorem turnTo_zero (n b : Int) (ms : List ArmR) : turnTo n b ms 0 = ms := rfl
theorem turnTo_all (n b : Int) (ms : List ArmR) : turnTo n b ms ms.length = ms.map (turnM n b) := by simp [turnTo]
theorem turnTo_at {n b : Int} {ms : List ArmR} {j : Nat} (hj : j < ms.length) : (turnTo n b ms j)[j]'(by rw [turnTo_len]; exact hj) = ms[j] := by
  unfold turnTo
  rw [List.getElem_append_right (by simp; omega), List.getElem_drop]
  congr 1
  simp; omega
theorem turnTo_succ {n b : Int} {ms : List ArmR} {j : Nat} (hj : j < ms.length) : turnTo n b ms (j + 1) = (turnTo n b ms j).set j (turnM n b ms[j]) := by
  unfold turnTo
  have hl : ((ms.take j).map (turnM n b)).length = j := by simp; omega
  have e : (ms.drop j).set 0 (turnM n b ms[j]) = turnM n b ms[j] :: ms.drop (j + 1) := by rw [List.drop_eq_getElem_cons hj]; rfl
  rw [List.set_append, if_neg (by omega), hl, Nat.sub_self, e, List.take_succ_eq_append_getElem hj, List.map_append, List.append_assoc]; rfl
theorem turnTo_same {n b : Int} {ms : List ArmR} {j : Nat} (hj : j < ms.length) (h : ¬ ms[j].v = b) : turnTo n b ms (j + 1) = turnTo n b ms j := by
  rw [turnTo_succ hj]
  have e : turnM n b ms[j] = (turnTo n b ms j)[j]'(by rw [turnTo_len]; exact hj) := by rw [turnTo_at hj]; unfold turnM; rw [if_neg h]
  rw [e, List.set_getElem_self]
theorem getD_idx {ms : List ArmR} {i : Nat} (h : i < ms.length) : ms.getD i ⟨0, 0⟩ = ms[i] := by rw [List.getD_eq_getElem?_getD, List.getElem?_eq_getElem h]; rfl
def idM (m : ArmR) : Bool := decide (m.fr = m.v)
theorem impl_idM (Y : Hp) (a : ArmR) (k : IV × Hp → Prop) : CM 77 [.agg [.i a.fr, .i a.v]] Y k = k (.c (.b (idM a)), Y) := by
  refine det (cw77 ?_) k
  unfold vf77c
  simp [idM]
def SeqRes (H : Hp) (ms : List ArmR) (n : Int) (r : IV × Hp) : Prop := ∃ Z b g, r = (.tup [(false, [.sl b g 0 (seqF n 60 (leftM idM ms ms.length) []).length]), (false, [.b true])], Z) ∧ Pre H Z ∧ H.length ≤ b ∧ MvO Z b g (seqF n 60 (leftM idM ms ms.length) []) []
theorem gc_tup3 {H : Hp} {w u : CV} (hu : flatC w = false) (Y : Hp) : gcRet H (.tup [(false, [w]), (false, [u])]) Y = (.tup [(false, [w]), (false, [u])], Y) := by
  unfold gcRet; split
  · rw [if_neg (by unfold flatV; simp only [List.all_cons, List.all_nil, Bool.and_true, hu, Bool.false_and]; decide)]
  · rfl
theorem mvB_all {n : Int} {ms : List ArmR} (h : movesB n ms = true) : ms.length ≤ 24 ∧ ∀ m ∈ ms, m.fr < n := by
  unfold movesB at h
  rw [Bool.and_eq_true, decide_eq_true_eq] at h
  refine ⟨h.2, fun m hm => ?_⟩
  obtain ⟨i, hi, rfl⟩ := List.getElem_of_mem hm
  have h1 := h.1
  unfold mvsB at h1
  rw [List.all_eq_true] at h1
  have h2 := h1 i (List.mem_range.2 hi)
  rw [mvB_at hi] at h2
  simp only [Bool.and_eq_true, decide_eq_true_eq] at h2
  omega
theorem left_good {n : Int} {ms : List ArmR} (h : ∀ m ∈ ms, m.fr < n) : GoodM n (leftM idM ms ms.length) := by
  intro m hm
  unfold leftM at hm
  rw [List.take_length, List.mem_filter] at hm
  refine ⟨fun e => ?_, h m hm.1⟩
  have := hm.2
  unfold idM at this
  simp [e] at this
theorem left_mu {ms : List ArmR} (h : ms.length ≤ 24) : muM (leftM idM ms ms.length) ≤ 60 ∧ (leftM idM ms ms.length).length ≤ 24 := by
  have := leftM_le idM ms ms.length
  unfold muM
  split <;> omega
set_option maxRecDepth 100000 in
theorem implSeq {H : Hp} {id0 g0 off0 n0 : Nat} {ms : List ArmR} {n : Int} (hw : Arms H (.sl id0 g0 off0 n0) ms) (hb : ms.length ≤ BIG) (hok : movesB n ms = true) : CM 18 [.c (.sl id0 g0 off0 n0), .c (.i n)] H (SeqRes H ms n) := by
  obtain ⟨h24, hfr⟩ := mvB_all hok
  refine cw18 ?_
  unfold vf18c
  simp [implMoves hw hb, hok, cloneMove hw (by simp) hb]
  obtain ⟨a, ha⟩ : ∃ a, a = H.length := ⟨_, rfl⟩
  have hM0 : MvO (H ++ [(⟨edC ms, 0, true, 2⟩ : Ob)]) a 0 ms [] := by show rdOb _ _ _ = _; rw [ha]; simp
  have hp0 : Pre H (H ++ [(⟨edC ms, 0, true, 2⟩ : Ob)]) := ⟨_, rfl⟩
  rw [← ha]
  generalize H ++ [(⟨edC ms, 0, true, 2⟩ : Ob)] = X0 at hM0 hp0 ⊢
  refine (deleteMove hM0 hb idM impl_idM).mono ?_
  rintro _ ⟨X1, rest1, rfl, hB1, hM1⟩
  obtain ⟨hmu, hl24⟩ := left_mu h24
  have hgood := left_good hfr
  unfold SeqRes
  generalize leftM idM ms ms.length = L0 at hM1 hmu hgood hl24 ⊢
  obtain ⟨F, hF⟩ : ∃ F, seqF n 60 L0 [] = F := ⟨_, rfl⟩
  rw [hF]
  have hlow1 : Low H.length X0 X1 := hB1.low (by omega)
  have hlt1 := hM1.lt
  simp
  obtain ⟨I, hI⟩ : ∃ I : Nat → St → Prop, ∀ f st, I f st ↔ ∃ left out rest b g, Low H.length X0 st.h ∧ MvO st.h a 0 left rest ∧ MvO st.h b g out [] ∧ X1.length ≤ b ∧ GoodM n left ∧ muM left ≤ f ∧ left.length ≤ 24 ∧ out.length + f ≤ 60 ∧ seqF n f left out = F ∧ Env.get st.e 1 = .c (.i n) ∧ Env.get st.e 6 = .c (.sl a 0 0 left.length) ∧ Env.get st.e 7 = .c (.sl b g 0 out.length) := ⟨_, fun _ _ => Iff.rfl⟩
  refine wp_loop CM_mono I (k := 60) ((hI _ _).2 ⟨L0, [], rest1, X1.length, 0, hlow1.trans (Low.app _ _ _), hM1.app _, by show rdOb _ _ _ = _; simp, Nat.le_refl _, hgood, hmu, hl24, by simp, hF, by simp⟩) ?_
  rintro f ⟨e, Y⟩ hIs
  obtain ⟨left, out, rest, b, g, hL, hMa, hMb, hbX, hG, hmu', hll, hol, hseq, e1, e6, e7⟩ := (hI _ _).1 hIs
  simp only at hL hMa hMb e1 e6 e7 ⊢
  have hab : a ≠ b := by omega
  have hlY := hMa.lt
  unfold vf18b1
  by_cases h0 : left.length = 0
  · have : left = [] := List.length_eq_zero_iff.1 h0
    subst this
    rw [seq_nil] at hseq
    subst hseq
    simp [e1, e6, e7, gc_tup3 (w := .sl b g 0 out.length) rfl]
    exact ⟨Y, b, g, ⟨⟨rfl, rfl⟩, rfl⟩, hL.pre hp0 (Nat.le_refl _), by have := hp0.le; have := hB1.1; omega, hMb⟩
  · have hpos : (0 : Int) < (left.length : Int) := by omega
    have hpos' : 0 < left.length := by omega
    obtain ⟨f', rfl⟩ : ∃ f', f = f' + 1 := ⟨f - 1, by unfold muM at hmu'; omega⟩
    have hne : ∀ m ∈ left, m.fr ≠ m.v := fun m hm => (hG m hm).1
    have hfm := fun k => freeMove_call hMa.row (by simp only [BIG]; omega) hne k
    by_cases hfr0 : 0 ≤ findI (frB left) left
    · obtain ⟨i, hfi, hi, hfp⟩ := findI_at hfr0
      have hseq' : seqF n f' (left.eraseIdx i) (out ++ [left[i]]) = F := by
        rw [← hseq]
        conv => rhs; unfold seqF
        rw [if_neg h0, if_pos hfr0, hfi, Int.toNat_natCast, getD_idx hi]
      obtain ⟨r1, r2, r3⟩ := hMa.at hi
      obtain ⟨p1, p2, p3⟩ := hMb.push (by omega) left[i]
      obtain ⟨Y2, hY2⟩ : ∃ Y2, (Y ++ [(⟨[.i left[i].fr, .i left[i].v], 0, true, 2⟩ : Ob)]).set b ⟨edC (out ++ [left[i]]), g + 1, true, 2⟩ = Y2 := ⟨_, rfl⟩
      rw [hY2] at p1 p2 p3
      have hMa2 := hMa.but p2 hab
      simp [e1, e6, e7, hpos, hpos', hfm, hfi, idxOf, hi, r1, srcOf, putD0, p1, up1 hi (show left.length ≤ BIG by simp only [BIG]; omega)]
      refine (dropMove hMa2 (by simp only [BIG]; omega) hi).mono ?_
      rintro _ ⟨Y3, rest', rfl, hB3, hMa3⟩
      simp
      refine ⟨f', by omega, (hI _ _).2 ⟨left.eraseIdx i, out ++ [left[i]], rest', b, g + 1, (hL.trans (p2.low (by have := hp0.le; have := hB1.1; omega))).trans (hB3.low (by omega)), hMa3, p3.but hB3 (Ne.symm hab), hbX, good_erase hG i, by have := mu_erase hi; omega, by rw [List.length_eraseIdx, if_pos hi]; omega, by simp; omega, hseq', by simp [e1]⟩⟩
    · have hfr1 : findI (frB left) left < 0 := by omega
      obtain ⟨m0, hm0⟩ : ∃ m0, left[0] = m0 := ⟨_, rfl⟩
      have hgd : left.getD 0 ⟨0, 0⟩ = m0 := by rw [getD_idx hpos', hm0]
      have hmt := mu_turn hG hpos' hfr1
      have hseq' : seqF n f' (left.map (turnM n m0.fr)) (out ++ [⟨n, m0.fr⟩]) = F := by
        rw [← hseq]
        conv => rhs; unfold seqF
        rw [if_neg h0, if_neg hfr0, hgd]
      rw [hgd] at hmt
      obtain ⟨r1, r2, r3⟩ := hMa.at hpos'
      rw [hm0] at r2
      rw [Nat.zero_mul] at r2
      obtain ⟨p1, p2, p3⟩ := hMb.push (by omega) ⟨n, m0.fr⟩
      simp only at p1 p2 p3
      obtain ⟨Y2, hY2⟩ : ∃ Y2, (Y ++ [(⟨[.i n, .i m0.fr], 0, true, 2⟩ : Ob)]).set b ⟨edC (out ++ [⟨n, m0.fr⟩]), g + 1, true, 2⟩ = Y2 := ⟨_, rfl⟩
      rw [hY2] at p1 p2 p3
      have hMa2 := hMa.but p2 hab
      simp [e1, e6, e7, hpos, hpos', hfm, hfr0, idxOf, r2, srcOf, putL0, putL1, putD0, p1]
      obtain ⟨T, hT⟩ : ∃ T : Nat → St → Prop, ∀ j st, T j st ↔ (But a Y2 st.h ∧ MvO st.h a 0 (turnTo n m0.fr left j) rest ∧ Env.get st.e 1 = .c (.i n) ∧ Env.get st.e 6 = .c (.sl a 0 0 left.length) ∧ Env.get st.e 7 = .c (.sl b (g + 1) 0 (out.length + 1)) ∧ Env.get st.e 9 = .c (.i m0.fr) ∧ Env.get st.e 49 = .c (.sl a 0 0 left.length) ∧ Env.get st.e 50 = .c (.i left.length) ∧ Env.get st.e 51 = .c (.i j)) := ⟨_, fun _ _ => Iff.rfl⟩
      refine wp_for CM_mono left.length T ((hT _ _).2 ⟨But.refl _ _, hMa2, by simp [e1, e6]⟩) ?_ ?_
      · rintro j ⟨e', W⟩ hj hTs
        obtain ⟨hBW, hMW, e1, e6, e7, e9, e49, e50, e51⟩ := (hT _ _).1 hTs
        simp only at hBW hMW e1 e6 e7 e9 e49 e50 e51 ⊢
        obtain ⟨s1, s2, s3⟩ := hMW.at (k := j) (by rw [turnTo_len]; exact hj)
        rw [turnTo_at hj] at s1 s2 s3
        obtain ⟨W1, hW1⟩ : ∃ W1, W ++ [(⟨[.i left[j].fr, .i left[j].v], 0, true, 2⟩ : Ob)] = W1 := ⟨_, rfl⟩
        have hMW1 : MvO W1 a 0 (turnTo n m0.fr left j) rest := by rw [← hW1]; exact hMW.app _
        have hBW1 : But a Y2 W1 := by rw [← hW1]; exact hBW.trans (But.app _ _ _)
        have hnew : rdC W1 W.length 0 1 = some (.i left[j].v) := by rw [← hW1, rdC_ob (o := ⟨[.i left[j].fr, .i left[j].v], 0, true, 2⟩) (by simp)]; rfl
        have hp2 : putAt [.i 0, .i 0] 0 [.i left[j].fr, .i left[j].v] = [.i left[j].fr, .i left[j].v] := rfl
        have hltW := hMW1.lt
        unfold vf18b0
        by_cases hv : left[j].v = m0.fr
        · obtain ⟨q1, q2⟩ := mv_putv (ms := turnTo n m0.fr left j) (rest := rest) (k := j) (by rw [turnTo_len]; exact hj) n
          rw [turnTo_at hj] at q1
          have hset : (turnTo n m0.fr left j).set j ⟨left[j].fr, n⟩ = turnTo n m0.fr left (j + 1) := by rw [turnTo_succ hj]; unfold turnM; rw [if_pos hv]
          rw [hset] at q1
          have hMo : rdOb W1 a 0 = some ⟨edC (turnTo n m0.fr left j) ++ rest, 0, true, 2⟩ := hMW1
          generalize hcs : edC (turnTo n m0.fr left j) ++ rest = cs at q1 q2 hMo
          rw [hv] at hW1 hnew hp2 s1
          simp [e1, e6, e7, e9, e49, e50, e51, hj, idxOf, s1, hp2, hW1, hnew, hMo, q1, q2, up1 hj (show left.length ≤ BIG by simp only [BIG]; omega)]
          exact (hT _ _).2 ⟨hBW1.trans (But.set _ _ _), by show rdOb (W1.set a _) a 0 = _; rw [rdOb_set_self hltW]; simp, by simp [e1, e6, e7, e9, e49, e50]⟩
        · have hsame := turnTo_same (n := n) hj hv
          simp [e1, e6, e7, e9, e49, e50, e51, hj, idxOf, s1, hp2, hW1, hnew, hv, up1 hj (show left.length ≤ BIG by simp only [BIG]; omega)]
          exact (hT _ _).2 ⟨hBW1, by rw [hsame]; exact hMW1, by simp [e1, e6, e7, e9, e49, e50]⟩
      · rintro ⟨e', W⟩ hTs
        obtain ⟨hBW, hMW, e1, e6, e7, e9, e49, e50, e51⟩ := (hT _ _).1 hTs
        simp only at hBW hMW e1 e6 e7 e9 e49 e50 e51 ⊢
        rw [turnTo_all] at hMW
        unfold vf18b0
        simp [e1, e6, e7, e9, e49, e50, e51]
        exact ⟨f', by omega, (hI _ _).2 ⟨left.map (turnM n m0.fr), out ++ [⟨n, m0.fr⟩], rest, b, g + 1, (hL.trans (p2.low (by have := hp0.le; have := hB1.1; omega))).trans (hBW.low (by omega)), hMW, p3.but hBW (Ne.symm hab), hbX, good_turn hG, by omega, by simpa using hll, by simp; omega, hseq', by simp [e1, e6, e7]⟩⟩
end Go.Proofs.Ytnpbldjbfkpbcaa.Vm
end
