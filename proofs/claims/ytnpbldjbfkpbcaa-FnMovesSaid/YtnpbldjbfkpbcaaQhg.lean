import Derived.Test.YtnpbldjbfkpbcaaQhf
import Derived.Test.YtnpbldjbfkpbcaaQgq
section
/- Copies in order do what the copies at once do: the law. No conditions. -/
namespace Go.Proofs.Ytnpbldjbfkpbcaa.Vm
open Go.RowKit (wrap64)
set_option linter.unusedSimpArgs false
set_option linter.unusedVariables false

theorem ok_nodup {n : Int} {ms : List ArmR} (h : movesB n ms = true) : (frs ms).Nodup := by
  unfold movesB mvsB at h
  rw [Bool.and_eq_true, List.all_eq_true] at h
  unfold frs List.Nodup
  rw [List.pairwise_iff_getElem]
  intro i j hi hj hij
  simp only [List.length_map] at hi hj
  have h1 := h.1 j (List.mem_range.2 hj)
  rw [mvB_at hj] at h1
  simp only [Bool.and_eq_true, Bool.not_eq_true', List.any_eq_false, decide_eq_true_eq] at h1
  simp only [List.getElem_map]
  exact h1.2 _ (List.mem_take_iff_getElem.2 ⟨i, by omega, rfl⟩)
theorem ok_in {n : Nat} {ms : List ArmR} (h : movesB n ms = true) : ∀ m ∈ ms, 0 ≤ m.fr ∧ m.fr < n ∧ 0 ≤ m.v ∧ m.v < n := by
  intro m hm
  obtain ⟨i, hi, rfl⟩ := List.getElem_of_mem hm
  obtain ⟨p, q, e, hp, hq⟩ := moves_in h hi
  rw [e]; simp only; omega
def valW (l : List ArmR) (vs ws : List Int) (k : Int) : Int := match l.find? fun m => decide (m.fr = k) with
  | some m => vs.getD m.v.toNat 0
  | none => ws.getD k.toNat 0
theorem valW_self (l : List ArmR) (vs : List Int) (k : Int) : valW l vs vs k = valM l vs k := by
  unfold valW valM
  cases l.find? (fun m => decide (m.fr = k)) <;> rfl
theorem fold_val {vs : List Int} : ∀ (l : List ArmR) (ws : List Int), (frs l).Nodup → (∀ m ∈ l, 0 ≤ m.fr ∧ m.fr < ws.length) → ∀ k : Int, 0 ≤ k →
    (l.foldl (fun ws a => ws.set a.fr.toNat (vs.getD a.v.toNat 0)) ws).getD k.toNat 0 = valW l vs ws k := by
  intro l
  induction l with
  | nil => intro ws _ _ k _; rfl
  | cons a r ih =>
    intro ws hn hin k hk
    simp only [frs, List.map_cons, List.nodup_cons] at hn
    have ha := hin a (by simp)
    rw [List.foldl_cons, ih (ws.set a.fr.toNat (vs.getD a.v.toNat 0)) hn.2 (fun m hm => by rw [List.length_set]; exact hin m (List.mem_cons_of_mem _ hm)) k hk]
    unfold valW
    rw [List.find?_cons]
    by_cases e : a.fr = k
    · have hno : r.find? (fun m => decide (m.fr = k)) = none := by
        rw [List.find?_eq_none]
        intro m hm
        simp only [decide_eq_true_eq]
        intro h
        exact hn.1 (by rw [e, ← h]; exact List.mem_map.2 ⟨m, hm, rfl⟩)
      rw [hno]
      simp only [e, decide_true]
      rw [getDI_set _ _ _ _ (by omega), if_pos rfl]
    · simp only [e, decide_false]
      cases r.find? (fun m => decide (m.fr = k)) with
      | some m => rfl
      | none =>
        simp only
        rw [getDI_set _ _ _ _ (by omega), if_neg (by omega)]
theorem left_inv {n : Nat} {ms : List ArmR} (h : movesB n ms = true) : SInv n (leftM idM ms ms.length) := by
  have hsub : (leftM idM ms ms.length).Sublist ms := by unfold leftM; rw [List.take_length]; exact List.filter_sublist
  refine ⟨(ok_nodup h).sublist (hsub.map _), fun m hm => ?_⟩
  have h1 := ok_in h m (hsub.subset hm)
  unfold leftM at hm
  rw [List.take_length, List.mem_filter] at hm
  refine ⟨fun e => ?_, by omega, by omega, by omega, by omega⟩
  have := hm.2
  unfold idM at this
  simp [e] at this
theorem getD_app (vs : List Int) (x : Int) {k : Nat} (h : k < vs.length) : (vs ++ [x]).getD k 0 = vs.getD k 0 := by
  rw [List.getD_eq_getElem?_getD, List.getD_eq_getElem?_getD, List.getElem?_append_left h]
theorem seq_plain {ms : List ArmR} {vs : List Int} (h : movesB vs.length ms = true) : (eachF (seqX vs.length ms) (vs ++ [77])).take vs.length = doF ms vs := by
  obtain ⟨n, hn⟩ : ∃ n, n = vs.length := ⟨_, rfl⟩
  rw [← hn] at h ⊢
  have hl1 := eachF_len (seqX n ms) (vs ++ [77])
  have hlv : (vs ++ [77]).length = n + 1 := by simp [hn]
  have hl2 := doF_len ms vs
  apply List.ext_getElem?
  intro k
  by_cases hk : k < n
  · have h24 := (mvB_all h).1
    have hv := seq_val 60 (leftM idM ms ms.length) [] (vs ++ [77]) (vs ++ [77]) (left_inv h) hlv hlv (left_mu h24).1 rfl (k : Int) ⟨by omega, by omega⟩
    have hs : seqX n ms = seqF n 60 (leftM idM ms ms.length) [] := by unfold seqX; rw [if_pos h]
    have he : eachF (seqX n ms) (vs ++ [77]) = (seqF n 60 (leftM idM ms ms.length) []).foldl (eachStep (n + 1)) (vs ++ [77]) := by unfold eachF; rw [hs, hlv]
    rw [← he] at hv
    have hd : doF ms vs = doTo ms vs ms.length := by unfold doF; rw [← hn, if_pos h]
    have hf := fold_val (vs := vs) ms vs (ok_nodup h) (fun m hm => by have := ok_in h m hm; omega) (k : Int) (by omega)
    have hdt : doTo ms vs ms.length = ms.foldl (fun ws a => ws.set a.fr.toNat (vs.getD a.v.toNat 0)) vs := by unfold doTo; rw [List.take_length]
    rw [← hdt, ← hd, valW_self] at hf
    have key : valM (leftM idM ms ms.length) (vs ++ [77]) (k : Int) = (doF ms vs).getD k 0 := by
      rw [Int.toNat_natCast] at hf
      rw [hf]
      have hsub : ∀ o ∈ leftM idM ms ms.length, o ∈ ms := fun o ho => by
        unfold leftM at ho; rw [List.take_length, List.mem_filter] at ho; exact ho.1
      by_cases hex : ∃ m ∈ ms, m.fr = (k : Int)
      · obtain ⟨m, hm, e⟩ := hex
        have hin := ok_in h m hm
        have h1 := valM_some (ok_nodup h) hm vs
        rw [e] at h1
        rw [h1]
        by_cases hid : m.fr = m.v
        · have hno : ∀ o ∈ leftM idM ms ms.length, o.fr ≠ (k : Int) := by
            intro o ho eo
            have h2 := valM_some (ok_nodup h) (hsub o ho) [0]
            have : o = m := by
              have hnd := ok_nodup h
              obtain ⟨i, hi, rfl⟩ := List.getElem_of_mem (hsub o ho)
              obtain ⟨j, hj, rfl⟩ := List.getElem_of_mem hm
              unfold frs List.Nodup at hnd
              rw [List.pairwise_iff_getElem] at hnd
              rcases Nat.lt_trichotomy i j with h3 | h3 | h3
              · have := hnd i j (by simpa using hi) (by simpa using hj) h3
                simp only [List.getElem_map] at this
                exact absurd (eo.trans e.symm) this
              · subst h3; rfl
              · have := hnd j i (by simpa using hj) (by simpa using hi) h3
                simp only [List.getElem_map] at this
                exact absurd (e.trans eo.symm) this
            subst this
            exact ((left_inv h).ok _ ho).1 hid
          rw [valM_none hno, Int.toNat_natCast, getD_app _ _ (by omega)]
          congr 1; omega
        · have hml : m ∈ leftM idM ms ms.length := by
            unfold leftM; rw [List.take_length, List.mem_filter]
            exact ⟨hm, by unfold idM; simpa using hid⟩
          have h2 := valM_some (left_inv h).nd hml (vs ++ [77])
          rw [e] at h2
          rw [h2, getD_app _ _ (by omega)]
      · have hno : ∀ o ∈ ms, o.fr ≠ (k : Int) := fun o ho eo => hex ⟨o, ho, eo⟩
        rw [valM_none hno vs, valM_none (fun o ho => hno o (hsub o ho)), Int.toNat_natCast, getD_app _ _ (by omega)]
    rw [key, Int.toNat_natCast] at hv
    rw [List.getElem?_take, if_pos hk, List.getElem?_eq_getElem (by omega), List.getElem?_eq_getElem (by omega)]
    rw [List.getD_eq_getElem?_getD, List.getD_eq_getElem?_getD, List.getElem?_eq_getElem (by omega), List.getElem?_eq_getElem (by omega)] at hv
    simpa using hv
  · rw [List.getElem?_eq_none (by simp; omega), List.getElem?_eq_none (by omega)]
theorem seq_len {n : Int} {ms : List ArmR} (h : movesB n ms = true) : (seqX n ms).length ≤ 2 * ms.length := by
  obtain ⟨h24, hfr⟩ := mvB_all h
  have h1 := seq_two 60 (leftM idM ms ms.length) [] (left_good hfr) (left_mu h24).1
  have h2 := leftM_le idM ms ms.length
  unfold seqX
  rw [if_pos h]
  have : nuM (leftM idM ms ms.length) ≤ 2 * (leftM idM ms ms.length).length := by unfold nuM; omega
  simp at h1
  omega
/-! ### The law -/
theorem drawDo {H : Hp} {v : CV} {xs : List Int} (hv : IsB H v xs) (hb : xs.length ≤ BIG) : CM 16 [.c v] H (ValsRes H) := by
  refine cw16 ?_
  unfold vf16c
  simp
  refine (drawVals hv hb).mono ?_
  rintro _ ⟨w, u, Z, ms, ys, rfl, h1, h2, h3, h4, h5, h6⟩
  simp [gc_tup2 h6]
  exact ⟨w, u, Z, ms, ys, rfl, h1, h2, h3, h4, h5, h6⟩
theorem implSeq_ns {H : Hp} {n : Int} : CM 18 [.c .ns, .c (.i n)] H (SeqO H [] n) := by
  have hok : movesB n [] = true := by simp [movesB, mvsB]
  have hcl : ∀ k : IV × Hp → Prop, CM 76 [.c .ns] H k = k (.c .ns, H) := fun k => det (cw76 (by
    unfold vf76c
    simp)) k
  have hix := fun (fid : Nat) k => indexMove (H := H) (v := .ns) (xs := []) Row.ns (by simp) (fid := fid) (caps := []) (fun _ => true) (fun i hi => absurd hi (by simp)) k
  have hf : findI (fun _ : ArmR => true) [] = -1 := rfl
  have hdl : ∀ (fid : Nat) (k : IV × Hp → Prop), CM 75 [.c .ns, .f fid []] H k = k (.c .ns, H) := fun fid k => det (cw75 (by
    unfold vf75c
    simp [hix, hf])) k
  refine cw18 ?_
  unfold vf18c
  simp [implMoves (xs := []) Row.ns (by simp), hok, hcl, hdl]
  refine wp_for CM_mono 0 (fun i s => s.h = H ++ [(⟨[], 0, true, 2⟩ : Ob)] ∧ Env.get s.e 6 = .c .ns ∧ Env.get s.e 7 = .c (.sl H.length 0 0 0)) (by simp) (fun i s h => absurd h (by omega)) ?_
  rintro ⟨e, X⟩ ⟨rfl, h6, h7⟩
  simp only at h6 h7 ⊢
  unfold vf18b1
  simp [h6, h7, gc_tup3 (w := .sl H.length 0 0 0) rfl]
  have hs : seqX n [] = [] := by unfold seqX; rw [if_pos hok]; exact seq_nil _ _ _
  exact ⟨_, _, by rw [hok], ⟨_, rfl⟩, .inr ⟨H.length, 0, by rw [hs]; rfl, Nat.le_refl _, by rw [hs]; show rdOb _ _ _ = _; simp⟩⟩
theorem implSeqA {H : Hp} {w : CV} {ms : List ArmR} {n : Int} (hw : Arms H w ms) (hb : ms.length ≤ BIG) : CM 18 [.c w, .c (.i n)] H (SeqO H ms n) := by
  obtain ⟨css, h1, h2, h3⟩ := id hw
  rcases h1 with ⟨rfl, h, _⟩ | ⟨id, g, off, o, rfl, _⟩
  · have : ms = [] := List.length_eq_zero_iff.1 h
    subst this
    exact implSeq_ns
  · exact implSeqX hw hb
set_option maxRecDepth 100000 in
theorem moves_law {H : Hp} {v : CV} {xs : List Int} (hv : IsB H v xs) : CM 3 [.c v] H Tru := by
  refine cw3 ?_
  unfold vf3c
  by_cases hbig : 1048576 < xs.length
  · simp [big_call hv.lenOf, hbig]
  · have hb : xs.length ≤ BIG := by simp only [BIG]; omega
    simp [big_call hv.lenOf, hbig]
    refine (drawDo hv hb).mono ?_
    rintro _ ⟨w, u, Z, ms, ys, rfl, hp, hw, hml, hu, hyl, hfu⟩
    have hm : ms.length ≤ BIG := by simp only [BIG]; omega
    have hy : ys.length ≤ BIG := by simp only [BIG]; omega
    have hun : u ≠ .ns := by rintro rfl; cases hfu
    simp [hu.lenOf, implMoves hw hm]
    refine (implSeqA hw hm).mono ?_
    rintro _ ⟨w7, Z1, rfl, p1, o7⟩
    simp
    refine (specSeqX (Row.pre (fun _ _ => armP.pre) p1 hw) hm).mono ?_
    rintro _ ⟨w9, Z2, rfl, p2, r9⟩
    have r7 := Row.pre (fun _ _ => armP.pre) p2 o7.row
    have p02 := p1.trans p2
    have hw2 := Row.pre (fun _ _ => armP.pre) p02 hw
    have hu2 := hu.pre p02
    have hF := doF_len ms ys
    obtain ⟨Z3, hZ3⟩ : ∃ Z3, Z2 ++ [(⟨(doF ms ys).map .i, 0, true, 1⟩ : Ob)] = Z3 := ⟨_, rfl⟩
    have p3 : Pre Z2 Z3 := ⟨_, hZ3.symm⟩
    have i3 := sl_isI (X := Z2) hF
    rw [hZ3] at i3
    have hw3 := Row.pre (fun _ _ => armP.pre) p3 hw2
    have hu3 := hu2.pre p3
    obtain ⟨Z4, hZ4⟩ : ∃ Z4, Z3 ++ [(⟨(doF ms ys).map .i, 0, true, 1⟩ : Ob)] = Z4 := ⟨_, rfl⟩
    have p4 : Pre Z3 Z4 := ⟨_, hZ4.symm⟩
    have i4 := sl_isI (X := Z3) hF
    rw [hZ4] at i4
    have hw4 := Row.pre (fun _ _ => armP.pre) p4 hw3
    have hu4 := hu3.pre p4
    have r7' := Row.pre (fun _ _ => armP.pre) (p3.trans p4) r7
    have hDb : (doF ms ys).length ≤ BIG := by rw [hF]; exact hy
    have d1 := fun k => implDo hw2 hm hu2 hun hy k
    have d2 := fun k => specDo hw3 hm hu3 hy k
    simp only [hZ3] at d1
    simp only [hZ4] at d2
    have e1 := fun k => sameInts_call (i3.pre p4) i4 hDb k
    have d4 := fun k => implDo hw4 hm hu4 hun hy k
    cases hok : movesB ys.length ms with
    | false =>
      have hsq : seqX ys.length ms = [] := by unfold seqX; rw [hok]; simp
      have hdo : doF ms ys = ys := by unfold doF; rw [hok]; simp
      have hl7 := r7.lenOf
      have hl9 := r9.lenOf
      rw [hsq] at hl7 hl9
      simp only [hdo] at d1 d2 d4 e1
      obtain ⟨Z5, hZ5⟩ : ∃ Z5, Z4 ++ [(⟨ys.map .i, 0, true, 1⟩ : Ob)] = Z5 := ⟨_, rfl⟩
      have p5 : Pre Z4 Z5 := ⟨_, hZ5.symm⟩
      have i5 := sl_isI (X := Z4) (xs := ys) rfl
      rw [hZ5] at i5
      simp only [hZ5] at d4
      simp [hok, specMoves hw2 hm, hl7, hl9, d1, d2, e1, d4, sameInts_call i5 (hu4.pre p5) hy]
    | true =>
      have hl7 := r7.lenOf
      have hl9 := r9.lenOf
      have hsl := seq_len hok
      have hsb := seqX_le ys.length ms
      obtain ⟨g, c1⟩ := cloneApp (H := Z4) ys hy
      have q4 : Pre Z4 (Z4 ++ [(⟨[], 0, true, 1⟩ : Ob)]) := ⟨_, rfl⟩
      have src1 := (hu4.pre q4).src
      obtain ⟨Z5, hZ5⟩ : ∃ Z5, Z4 ++ [(⟨ys.map .i, g, true, 1⟩ : Ob)] = Z5 := ⟨_, rfl⟩
      have ho5 : rdOb Z5 Z4.length g = some ⟨ys.map .i, g, true, 1⟩ := by rw [← hZ5]; simp
      have l5 : Z5.length = Z4.length + 1 := by rw [← hZ5]; simp
      have lo5 : Low Z4.length Z4 Z5 := by rw [← hZ5]; exact Low.app _ _ _
      rw [hZ5] at c1
      have src2 : srcOf (Z5 ++ [(⟨[.i 77], 0, true, 1⟩ : Ob)]) 1 (.sl Z5.length 0 0 1) = some (1, [.i 77]) := by simp [srcOf]
      have c2 := app_new (X := Z5) ho5 (by simp) hy 77
      obtain ⟨Z6, hZ6⟩ : ∃ Z6, (Z5 ++ [(⟨[.i 77], 0, true, 1⟩ : Ob)]).set Z4.length ⟨ys.map .i ++ [.i 77], g + 1, true, 1⟩ = Z6 := ⟨_, rfl⟩
      rw [hZ6] at c2
      have lo6 : Low Z4.length Z4 Z6 := fun id gg o hi ho => by rw [← hZ6, rdOb_set_ne (by omega)]; exact rdOb_app _ (lo5 id gg o hi ho)
      have p6 : Pre Z4 Z6 := lo6.pre (Pre.refl _) (Nat.le_refl _)
      have ho6 : rdOb Z6 Z4.length (g + 1) = some ⟨ys.map .i ++ [.i 77], g + 1, true, 1⟩ := by rw [← hZ6, rdOb_set_self (by simp; omega)]; simp
      have i6 : IsI Z6 (.sl Z4.length (g + 1) 0 (ys.length + 1)) (ys ++ [77]) := by
        have := IsI.mk (xs := ys ++ [77]) (off := 0) ho6 rfl (by simp) (by rw [List.drop_zero, List.take_of_length_le (by simp)]; simp)
        simpa using this
      have hF7 := eachF_len (seqX ys.length ms) (ys ++ [77])
      have hl77 : (ys ++ [77]).length = ys.length + 1 := by simp
      obtain ⟨Z7, hZ7⟩ : ∃ Z7, Z6 ++ [(⟨(eachF (seqX ys.length ms) (ys ++ [77])).map .i, 0, true, 1⟩ : Ob)] = Z7 := ⟨_, rfl⟩
      have p7 : Pre Z6 Z7 := ⟨_, hZ7.symm⟩
      have ho7 : rdOb Z7 Z6.length 0 = some ⟨(eachF (seqX ys.length ms) (ys ++ [77])).map .i, 0, true, 1⟩ := by rw [← hZ7]; simp
      have d5 := fun k => implEach (Row.pre (fun _ _ => armP.pre) p6 r7') hsb i6 (by simp) (by rw [hl77]; simp only [BIG]; omega) k
      rw [hl77] at d5 hF7
      simp only [hZ7] at d5
      have hs7 : doSlice Z7 1 (.sl Z6.length 0 0 (ys.length + 1)) none (some (.c (.i ys.length))) = some (.c (.sl Z6.length 0 0 ys.length)) := by
        simp [doSlice, ho7]; omega
      have htk : ((eachF (seqX ys.length ms) (ys ++ [77])).take ys.length).length = ys.length := by rw [List.length_take, hF7]; omega
      have i7 : IsI Z7 (.sl Z6.length 0 0 ys.length) ((eachF (seqX ys.length ms) (ys ++ [77])).take ys.length) := by
        have := IsI.mk (xs := (eachF (seqX ys.length ms) (ys ++ [77])).take ys.length) (off := 0) ho7 rfl (by simp only [List.length_map, htk, hF7]; omega) (by rw [htk]; simp [List.map_take])
        rwa [htk] at this
      rw [seq_plain hok] at i7
      have p47 := p6.trans p7
      have d6 := fun k => implDo (Row.pre (fun _ _ => armP.pre) p47 hw4) hm (hu4.pre p47) hun hy k
      obtain ⟨Z8, hZ8⟩ : ∃ Z8, Z7 ++ [(⟨(doF ms ys).map .i, 0, true, 1⟩ : Ob)] = Z8 := ⟨_, rfl⟩
      have p8 : Pre Z7 Z8 := ⟨_, hZ8.symm⟩
      have i8 := sl_isI (X := Z7) hF
      rw [hZ8] at i8
      simp only [hZ8] at d6
      have ho8 := p8.rdOb ho7
      have hw64 : wrap64 (2 * (ms.length : Int)) = 2 * (ms.length : Int) := wrap64_id (by omega)
      have hle : ((seqX ys.length ms).length : Int) ≤ 2 * (ms.length : Int) := by omega
      have e8 := fun k => sameInts_call (i7.pre p8) i8 hDb k
      simp [hok, specMoves hw2 hm, hl7, hl9, d1, d2, e1, src1, c1, src2, c2, putL0, d5, hs7, d6, ho7, ho8, sameAt, e8, hw.lenOf, hw64, hle]
end Go.Proofs.Ytnpbldjbfkpbcaa.Vm
end
