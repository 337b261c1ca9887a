import Derived.Test.YtnpbldjbfkpbcaaP3
import Derived.Test.YtnpbldjbfkpbcaaP1
section
/- Drawn programs: handed out. Where a value is made: the law. No conditions. -/
namespace Go.Proofs.Ytnpbldjbfkpbcaa.Vm
open Go.RowKit (wrap64)
set_option linter.unusedSimpArgs false
set_option linter.unusedVariables false

def FnOut (H : Hp) (r : IV × Hp) : Prop := ∃ X v m bs, r = (.agg [v, .i m], X) ∧ flatC v = false ∧ Pre H X ∧ Blocks X v bs ∧ bs.length ≤ BIG ∧ 0 < bs.length
def FnInt (H : Hp) (r : IV × Hp) : Prop := ∃ X v m bs q, r = (.tup [(true, [v, .i m]), (false, [.i q])], X) ∧ Pre H X ∧ Blocks X v bs ∧ bs.length ≤ BIG ∧ 0 < bs.length
theorem putD0' (a b x y : CV) : putAt [a, b] 0 [x, y] = [x, y] := by simp [putAt]
theorem drawDefAt {H : Hp} {v : CV} {xs : List Int} (hv : IsB H v xs) (hb : xs.length ≤ BIG) : CM 62 [.c v] H (FnInt H) := by
  refine cw62 ?_
  unfold vf62c
  simp
  have hv1 : IsB (H ++ [(⟨[.ns, .i 0], 0, true, 2⟩ : Ob)]) v xs := Sl.app _ hv
  have hl : (H ++ [(⟨[.ns, .i 0], 0, true, 2⟩ : Ob)]).length = H.length + 1 := by simp
  have hR : rdOb (H ++ [(⟨[.ns, .i 0], 0, true, 2⟩ : Ob)]) H.length 0 = some ⟨[.ns, .i 0], 0, true, 2⟩ := by simp
  have hp1 : Pre H (H ++ [(⟨[.ns, .i 0], 0, true, 2⟩ : Ob)]) := ⟨_, rfl⟩
  generalize H ++ [(⟨[.ns, .i 0], 0, true, 2⟩ : Ob)] = X0 at hv1 hl hR hp1 ⊢
  refine (new_call hv1 hb).mono ?_
  rintro _ ⟨h, rfl⟩
  have hc := new_cur hv1 hb h
  have hR1 := rdOb_app [(⟨[v, .i 0, .i h], 0, true, 3⟩ : Ob)] hR
  have hp2 : Pre H (X0 ++ [(⟨[v, .i 0, .i h], 0, true, 3⟩ : Ob)]) := hp1.app _
  have hl1 : (X0 ++ [(⟨[v, .i 0, .i h], 0, true, 3⟩ : Ob)]).length = H.length + 2 := by simp [hl]
  generalize X0 ++ [(⟨[v, .i 0, .i h], 0, true, 3⟩ : Ob)] = X1 at hc hR1 hp2 hl1 ⊢
  simp
  refine (draw_call hc).mono ?_
  rintro _ ⟨X, w, m, bs, rfl, ⟨d, g, rfl⟩, C, hB, hbl, hb0⟩
  have hRX := C.keep _ _ _ (by omega) hR1
  obtain ⟨X2, hX2⟩ : ∃ X2, X ++ [(⟨[.sl d g 0 bs.length, .i m], 0, true, 2⟩ : Ob)] = X2 := ⟨_, rfl⟩
  have hF2 : rdOb X2 X.length 0 = some ⟨[.sl d g 0 bs.length, .i m], 0, true, 2⟩ := by rw [← hX2]; simp
  have C2 : CurL X0.length X1 X2 := by rw [← hX2]; exact C.app _
  have hR2 := C2.keep _ _ _ (by omega) hR1
  obtain ⟨q, X3, _, _, _, C3, e3⟩ := below_call C2.cur (wrap64 ((if 1 < m then m else 1) + 2))
  have hXc : X.length ≠ X0.length := by have := C.le; omega
  have hF3 := C3.l.keep _ _ _ hXc hF2
  have hR3 := C3.l.keep _ _ _ (by omega) hR2
  have hrd : rdN (X3.set H.length ⟨[.sl d g 0 bs.length, .i m], 0, true, 2⟩) H.length 0 0 2 = some [.sl d g 0 bs.length, .i m] := by
    rw [rdN_ob (o := ⟨[.sl d g 0 bs.length, .i m], 0, true, 2⟩) (by rw [rdOb_set_self (rdOb_lt hR3)]; simp)]; simp
  have hr20 : rdN X2 X.length 0 0 2 = some [.sl d g 0 bs.length, .i m] := by rw [rdN_ob hF2]; simp
  have hr21 : rdC X2 X.length 0 1 = some (.i m) := by rw [rdC_ob hF2]; rfl
  have hgc : ∀ (Y : Hp) (qq : Int), gcRet H (.tup [(true, [.sl d g 0 bs.length, .i m]), (false, [.i qq])]) Y = (.tup [(true, [.sl d g 0 bs.length, .i m]), (false, [.i qq])], Y) := fun Y qq => by
    unfold gcRet; split
    · rw [if_neg (by simp [flatV, flatC])]
    · rfl
  simp [putD0', hX2, hr20, hr21, specMax, e3, hF2, hF3, hR3, hrd, hgc]
  refine ⟨_, _, m, bs, _, rfl, ((C2.trans C3.l).pre hp2 (by omega)).set (Nat.le_refl _) _, hB _ ?_, hbl, hb0⟩
  exact ((((Pre.hi (lo := X1.length) ⟨_, hX2.symm⟩).trans (C3.l.hi (lo := X1.length) (by omega)) (Nat.le_refl _)).trans (Hi.set (lo := X1.length) (by omega) _) (Nat.le_refl _)))
theorem defGo_spec (v : Int) : ∀ (bs : List BlkR) (j : Nat), ((defGo v bs j).2 = -2 ∧ (defGo v bs j).1 = -1) ∨ ∃ i, ∃ hi : i < bs.length, (defGo v bs j).1 = ((j + i : Nat) : Int) ∧
    (((defGo v bs j).2 = -1 ∧ bs[i].phis.any (fun p => decide (p.d = v)) = true) ∨ ∃ n, ∃ hn : n < bs[i].list.length, (defGo v bs j).2 = (n : Int) ∧ madeAt v bs[i].list[n] = true) := by
  intro bs
  induction bs with
  | nil => intro j; exact .inl ⟨rfl, rfl⟩
  | cons b r ih =>
    intro j
    cases hd : defBlk b v with
    | none =>
      have e : defGo v (b :: r) j = defGo v r (j + 1) := by simp [defGo, hd]
      rw [e]
      rcases ih (j + 1) with h | ⟨i, hi, h1, h2⟩
      · exact .inl h
      · exact .inr ⟨i + 1, by simpa using hi, by rw [h1]; congr 1; omega, h2⟩
    | some p =>
      have e : defGo v (b :: r) j = ((j : Int), p) := by simp [defGo, hd]
      rw [e]
      refine .inr ⟨0, by simp, by simp, ?_⟩
      unfold defBlk at hd
      split at hd
      · rename_i hp
        injection hd with hd
        exact .inl ⟨hd.symm, hp⟩
      · split at hd
        · rename_i h0
          injection hd with hd
          right
          have : ∃ n, ∃ hn : n < b.list.length, findI (madeAt v) b.list = (n : Int) ∧ madeAt v b.list[n] = true := by
            have hany := findI_nonneg.1 h0
            unfold findI at h0 ⊢
            cases hf : b.list.findIdx? (madeAt v) with
            | none => rw [hf] at h0; simp at h0
            | some n =>
              rw [List.findIdx?_eq_some_iff_getElem] at hf
              obtain ⟨h1, h2, _⟩ := hf
              exact ⟨n, h1, rfl, h2⟩
          obtain ⟨n, hn, h1, h2⟩ := this
          exact ⟨n, hn, by rw [← hd]; exact h1, h2⟩
        · cases hd
theorem defAt_spec (f : FnR) (v : Int) : ((defAtF f v).2 = -2 ∧ (defAtF f v).1 = -1) ∨ ∃ i, ∃ hi : i < f.blocks.length, (defAtF f v).1 = (i : Int) ∧
    (((defAtF f v).2 = -1 ∧ f.blocks[i].phis.any (fun p => decide (p.d = v)) = true) ∨ ∃ n, ∃ hn : n < f.blocks[i].list.length, (defAtF f v).2 = (n : Int) ∧ madeAt v f.blocks[i].list[n] = true) := by
  unfold defAtF
  split
  · have := defGo_spec v f.blocks 0
    simpa using this
  · exact .inl ⟨rfl, rfl⟩
set_option maxRecDepth 100000 in
theorem defAt_law {H : Hp} {v : CV} {xs : List Int} (hv : IsB H v xs) : CM 13 [.c v] H Tru := by
  refine cw13 ?_
  unfold vf13c
  by_cases hbig : 1048576 < xs.length
  · simp [big_call hv.lenOf, hbig]
  · have hb : xs.length ≤ BIG := by simp only [BIG]; omega
    simp [big_call hv.lenOf, hbig]
    refine (drawDefAt hv hb).mono ?_
    rintro _ ⟨X, w, m, bs, q, rfl, hp, hB, hbl, hb0⟩
    obtain ⟨X1, hX1⟩ : ∃ X1, X ++ [(⟨[w, .i m], 0, true, 2⟩ : Ob)] = X1 := ⟨_, rfl⟩
    have hB1 : Blocks X1 w bs := by rw [← hX1]; exact hB.app _
    have hF1 : rdOb X1 X.length 0 = some ⟨[w, .i m], 0, true, 2⟩ := by rw [← hX1]; simp
    have hr1 : rdN X1 X.length 0 0 2 = some [w, .i m] := by rw [rdN_ob hF1]; simp
    have hr0 : rdC X1 X.length 0 0 = some w := by rw [rdC_ob hF1]; rfl
    have ei := fun k => implDefAt (f := ⟨bs, m⟩) (v := q) hB1 hbl k
    have es := fun k => specDefAt0 (f := ⟨bs, m⟩) (v := q) hB1 hbl k
    simp only at ei es
    have spec := defAt_spec ⟨bs, m⟩ q
    generalize hdd : defAtF ⟨bs, m⟩ q = dd at ei es spec
    obtain ⟨db, dk⟩ := dd
    simp only at ei es spec
    simp [putD0', hX1, hr1, ei, es]
    rcases spec with ⟨rfl, rfl⟩ | ⟨i, hi, rfl, ⟨rfl, hany⟩ | ⟨n, hn, rfl, hmade⟩⟩
    · simp
    · obtain ⟨id, g, off, pw, pu, q1, ⟨q2, q3, _⟩, _, hph, hli, hpl, _⟩ := hB1.get hi
      simp
      refine wp_for CM_mono bs[i].phis.length (fun j st => st.h = X1 ∧ Env.get st.e 3 = .c (.p X.length 0 0) ∧ Env.get st.e 4 = .c (.i q) ∧ Env.get st.e 5 = .c (.i i) ∧ Env.get st.e 9 = .c (.b ((bs[i].phis.take j).any fun p => decide (p.d = q))) ∧ Env.get st.e 10 = .c (.i j)) (by simp) ?_ ?_
      · rintro j ⟨e, Y⟩ hj ⟨rfl, e3, e4, e5, e9, e10⟩
        simp only at e3 e4 e5 e9 e10 hr0 hB1 hph ⊢
        obtain ⟨id2, g2, off2, w2, t1, ⟨t2, _⟩, _⟩ := hph.get hj
        unfold vf13b0
        have hsucc : ((bs[i].phis.take (j + 1)).any fun p => decide (p.d = q)) = (((bs[i].phis.take j).any fun p => decide (p.d = q)) || decide (bs[i].phis[j].d = q)) := by
          rw [List.take_succ_eq_append_getElem hj, List.any_append]; simp
        cases ha : ((bs[i].phis.take j).any fun p => decide (p.d = q)) with
        | true =>
          rw [ha] at e9 hsucc
          simp at hsucc
          simp [e3, e4, e5, e9, e10, hr0, q1, q2, hph.lenOf, hj, up1 hj hpl]
          simpa using hsucc
        | false =>
          rw [ha] at e9 hsucc
          by_cases hd : bs[i].phis[j].d = q
          · simp [hd] at hsucc
            simp [e3, e4, e5, e9, e10, hr0, q1, q2, hph.lenOf, hj, t1, t2, hd, up1 hj hpl]
            simpa using hsucc
          · simp [hd] at hsucc
            simp [e3, e4, e5, e9, e10, hr0, q1, q2, hph.lenOf, hj, t1, t2, hd, up1 hj hpl]
            simpa using hsucc
      · rintro ⟨e, Y⟩ ⟨rfl, e3, e4, e5, e9, e10⟩
        simp only at e3 e4 e5 e9 e10 hr0 hB1 hph ⊢
        rw [List.take_length] at e9
        rw [hany] at e9
        unfold vf13b0
        simp [e3, e4, e5, e9, e10, hr0, q1, q2, hph.lenOf]
    · obtain ⟨id, g, off, pw, pu, q1, ⟨q2, q3, _⟩, _, hph, hli, hpl, _⟩ := hB1.get hi
      obtain ⟨id2, g2, off2, t1, ⟨_, _, _, _, _, t2⟩, _⟩ := hli.get hn
      have hdef : insDefF bs[i].list[n] = q := by
        unfold madeAt at hmade
        rw [Bool.and_eq_true, decide_eq_true_eq] at hmade
        unfold insDefF
        rw [if_pos hmade.1]; exact hmade.2
      have hk2 : ¬ ((n : Int) = -2) := by omega
      simp [hk2, hr0, q1, q3, t1, t2, implInsDef, hdef]
end Go.Proofs.Ytnpbldjbfkpbcaa.Vm
end
