import Derived.Test.YtnpbldjbfkpbcaaP2
import Derived.Test.YtnpbldjbfkpbcaaP3
section
/- FnTakes. No conditions. -/
namespace Go.Proofs.Ytnpbldjbfkpbcaa.Vm
open Go.RowKit (wrap64)
set_option linter.unusedSimpArgs false
set_option linter.unusedVariables false

set_option maxRecDepth 100000 in
theorem drawIns {X : Hp} {c : Nat} (h : Cur X c) : ∃ x : InsR, ∃ Z, CurL c X Z ∧ ∀ k : IV × Hp → Prop, CM 104 [.c (.p c 0 0)] X k = k (.agg [.i x.op, .i x.d, .i x.a, .i x.b, .i x.n], Z) := by
  obtain ⟨X1, hX1⟩ : ∃ X1, X ++ [(⟨[.i 0, .i 0, .i 0, .i 0, .i 0], 0, true, 5⟩ : Ob)] = X1 := ⟨_, rfl⟩
  have hc1 : CurL c X X1 := by rw [← hX1]; exact CurL.mk' (Z := X) h _
  have hR1 : rdOb X1 X.length 0 = some ⟨[.i 0, .i 0, .i 0, .i 0, .i 0], 0, true, 5⟩ := by rw [← hX1]; simp
  obtain ⟨pl, hpl⟩ : ∃ pl : List CV, [.i 0, .i 1, .i 5, .i 10, .i 11, .i 20, .i 21, .i 22, .i 23, .i 24, .i 25, .i 26] = pl := ⟨_, rfl⟩
  have hplx : pl = ([0, 1, 5, 10, 11, 20, 21, 22, 23, 24, 25, 26] : List Int).map .i := by rw [← hpl]; rfl
  obtain ⟨X2, hX2⟩ : ∃ X2, X1 ++ [(⟨pl, 0, true, 1⟩ : Ob)] = X2 := ⟨_, rfl⟩
  have hc2 : CurL c X X2 := by rw [← hX2]; exact hc1.app _
  have hI : IsI X2 (.sl X1.length 0 0 12) [0, 1, 5, 10, 11, 20, 21, 22, 23, 24, 25, 26] := by rw [← hX2]; exact own_ints hplx
  obtain ⟨op, X3, _, C3, e3⟩ := pick_call hc2.cur hI (by simp)
  obtain ⟨d, X4, _, _, _, C4, e4⟩ := below_call C3.cur 9
  obtain ⟨a, X5, _, _, _, C5, e5⟩ := below_call C4.cur 9
  obtain ⟨b, X6, _, _, _, C6, e6⟩ := below_call C5.cur 9
  obtain ⟨n, X7, _, _, _, C7, e7⟩ := below_call C6.cur 3
  have hXc : X.length ≠ c := by have := h.lt; omega
  have C := C3.trans (C4.trans (C5.trans (C6.trans C7)))
  have hR2 := rdOb_app [(⟨pl, 0, true, 1⟩ : Ob)] hR1
  rw [hX2] at hR2
  have hR7 : rdOb X7 X.length 0 = some ⟨[.i 0, .i 0, .i 0, .i 0, .i 0], 0, true, 5⟩ := C.l.keep _ _ _ hXc hR2
  have hl7 := rdOb_lt hR7
  obtain ⟨X8, hX8⟩ : ∃ X8, X7.set X.length ⟨[.i op, .i d, .i a, .i b, .i n], 0, true, 5⟩ = X8 := ⟨_, rfl⟩
  have hR8 : rdN X8 X.length 0 0 5 = some [.i op, .i d, .i a, .i b, .i n] := by rw [← hX8, rdN_ob (o := ⟨[.i op, .i d, .i a, .i b, .i n], 0, true, 5⟩) (by rw [rdOb_set_self hl7]; simp)]; simp
  have hc8 : CurL c X X8 := by
    have hc7 := hc2.trans C.l
    rw [← hX8]
    refine ⟨hc7.cur.set (Ne.symm hXc) fun g ob ho => ?_, by simpa using hc7.le, fun id g o hne ho => ?_⟩
    · have a1 := (rdOb_some.1 ho).1
      rw [(rdOb_some.1 hR7).1] at a1
      injection a1 with a1
      rw [← a1]; simp
    · rw [rdOb_set_ne (by have := rdOb_lt ho; omega)]; exact hc7.keep id g o hne ho
  obtain ⟨Z, z1, z2⟩ := hc8.gc h (r := .agg [.i op, .i d, .i a, .i b, .i n]) (by simp [flatV, flatC])
  refine ⟨⟨op, d, a, b, n⟩, Z, z2, fun k => det (cw104 ?_) k⟩
  unfold vf104c
  have p5 : ∀ (a b c d e f x : CV) (r : List CV), putAt (a :: b :: c :: d :: e :: f :: r) 5 [x] = a :: b :: c :: d :: e :: x :: r := fun a b c d e f x r => by simp [putAt]
  have hput : putAt [.i 0, .i 0, .i 0, .i 0, .i 0] 0 [.i op, .i d, .i a, .i b, .i n] = [.i op, .i d, .i a, .i b, .i n] := by simp [putAt]
  have hpp : (lay [.i 0, .i 0, .i 0, .i 0, .i 0, .i 0, .i 0, .i 0, .i 0, .i 0, .i 0, .i 0] [(0, [.i 0]), (1, [.i 1]), (2, [.i 5]), (3, [.i 10]), (4, [.i 11]), (5, [.i 20]), (6, [.i 21]), (7, [.i 22]), (8, [.i 23]), (9, [.i 24]), (10, [.i 25]), (11, [.i 26])] : Option (List CV)) = some pl := by rw [← hpl]; rfl
  have hl5 : lay [.i 0, .i 0, .i 0, .i 0, .i 0] [(0, [.i op]), (1, [.i d]), (2, [.i a]), (3, [.i b]), (4, [.i n])] = some [.i op, .i d, .i a, .i b, .i n] := rfl
  simp [-lay, hl5, hX1, hpp, hX2, e3, e4, e5, e6, e7, putL0, putL1, putL2, putL3, putL4, hR7, hput, hX8, hR8, z1]
def InsRes (H : Hp) (r : IV × Hp) : Prop := ∃ x : InsR, ∃ Z, r = (.agg [.i x.op, .i x.d, .i x.a, .i x.b, .i x.n], Z) ∧ Pre H Z
def TrmRes (H : Hp) (r : IV × Hp) : Prop := ∃ x : TrmR, ∃ Z, r = (.agg [.i x.kind, .i x.a, .i x.to, .i x.els], Z) ∧ Pre H Z
theorem drawInsUses {H : Hp} {v : CV} {xs : List Int} (hv : IsB H v xs) (hb : xs.length ≤ BIG) : CM 53 [.c v] H (InsRes H) := by
  refine cw53 ?_
  unfold vf53c
  simp
  have hv1 : IsB (H ++ [(⟨[.i 0, .i 0, .i 0, .i 0, .i 0], 0, true, 5⟩ : Ob)]) v xs := Sl.app _ hv
  have hl : (H ++ [(⟨[.i 0, .i 0, .i 0, .i 0, .i 0], 0, true, 5⟩ : Ob)]).length = H.length + 1 := by simp
  have hR : rdOb (H ++ [(⟨[.i 0, .i 0, .i 0, .i 0, .i 0], 0, true, 5⟩ : Ob)]) H.length 0 = some ⟨[.i 0, .i 0, .i 0, .i 0, .i 0], 0, true, 5⟩ := by simp
  have hp1 : Pre H (H ++ [(⟨[.i 0, .i 0, .i 0, .i 0, .i 0], 0, true, 5⟩ : Ob)]) := ⟨_, rfl⟩
  generalize H ++ [(⟨[.i 0, .i 0, .i 0, .i 0, .i 0], 0, true, 5⟩ : Ob)] = X0 at hv1 hl hR hp1 ⊢
  refine (new_call hv1 hb).mono ?_
  rintro _ ⟨h, rfl⟩
  have hc := new_cur hv1 hb h
  have hR1 := rdOb_app [(⟨[v, .i 0, .i h], 0, true, 3⟩ : Ob)] hR
  have hp2 : Pre H (X0 ++ [(⟨[v, .i 0, .i h], 0, true, 3⟩ : Ob)]) := hp1.app _
  generalize X0 ++ [(⟨[v, .i 0, .i h], 0, true, 3⟩ : Ob)] = X1 at hc hR1 hp2 ⊢
  obtain ⟨x, Z, C, e⟩ := drawIns hc
  have hRZ := C.keep _ _ _ (by omega) hR1
  have hlZ := rdOb_lt hRZ
  have hput : putAt [.i 0, .i 0, .i 0, .i 0, .i 0] 0 [.i x.op, .i x.d, .i x.a, .i x.b, .i x.n] = [.i x.op, .i x.d, .i x.a, .i x.b, .i x.n] := by simp [putAt]
  have hrd : rdN (Z.set H.length ⟨[.i x.op, .i x.d, .i x.a, .i x.b, .i x.n], 0, true, 5⟩) H.length 0 0 5 = some [.i x.op, .i x.d, .i x.a, .i x.b, .i x.n] := by
    rw [rdN_ob (o := ⟨[.i x.op, .i x.d, .i x.a, .i x.b, .i x.n], 0, true, 5⟩) (by rw [rdOb_set_self hlZ]; simp)]; simp
  simp [e, hRZ, hput, hrd]
  rw [gcRet_flat ((C.pre hp2 (by omega)).set (Nat.le_refl _) _) (by simp [flatV, flatC])]
  exact ⟨x, H, rfl, Pre.refl _⟩
theorem drawTermUses {H : Hp} {v : CV} {xs : List Int} (hv : IsB H v xs) (hb : xs.length ≤ BIG) : CM 56 [.c v] H (TrmRes H) := by
  refine cw56 ?_
  unfold vf56c
  simp
  have hv1 : IsB (H ++ [(⟨[.i 0, .i 0, .i 0, .i 0], 0, true, 4⟩ : Ob)]) v xs := Sl.app _ hv
  have hl : (H ++ [(⟨[.i 0, .i 0, .i 0, .i 0], 0, true, 4⟩ : Ob)]).length = H.length + 1 := by simp
  have hR : rdOb (H ++ [(⟨[.i 0, .i 0, .i 0, .i 0], 0, true, 4⟩ : Ob)]) H.length 0 = some ⟨[.i 0, .i 0, .i 0, .i 0], 0, true, 4⟩ := by simp
  have hp1 : Pre H (H ++ [(⟨[.i 0, .i 0, .i 0, .i 0], 0, true, 4⟩ : Ob)]) := ⟨_, rfl⟩
  generalize H ++ [(⟨[.i 0, .i 0, .i 0, .i 0], 0, true, 4⟩ : Ob)] = X0 at hv1 hl hR hp1 ⊢
  refine (new_call hv1 hb).mono ?_
  rintro _ ⟨h, rfl⟩
  have hc := new_cur hv1 hb h
  have hR1 := rdOb_app [(⟨[v, .i 0, .i h], 0, true, 3⟩ : Ob)] hR
  have hp2 : Pre H (X0 ++ [(⟨[v, .i 0, .i h], 0, true, 3⟩ : Ob)]) := hp1.app _
  generalize X0 ++ [(⟨[v, .i 0, .i h], 0, true, 3⟩ : Ob)] = X1 at hc hR1 hp2 ⊢
  obtain ⟨a, X3, _, _, _, C3, e3⟩ := below_call hc 5
  obtain ⟨b, X4, _, _, _, C4, e4⟩ := below_call C3.cur 9
  obtain ⟨d, X5, _, _, _, C5, e5⟩ := below_call C4.cur 5
  obtain ⟨f, X6, _, _, _, C6, e6⟩ := below_call C5.cur 5
  have C := (C3.trans (C4.trans (C5.trans C6))).l
  have hRZ := C.keep _ _ _ (by omega) hR1
  have hlZ := rdOb_lt hRZ
  have hput : putAt [.i 0, .i 0, .i 0, .i 0] 0 [.i a, .i b, .i d, .i f] = [.i a, .i b, .i d, .i f] := by simp [putAt]
  have hl4 : lay [.i 0, .i 0, .i 0, .i 0] [(0, [.i a]), (1, [.i b]), (2, [.i d]), (3, [.i f])] = some [.i a, .i b, .i d, .i f] := rfl
  have hrd : rdN (X6.set H.length ⟨[.i a, .i b, .i d, .i f], 0, true, 4⟩) H.length 0 0 4 = some [.i a, .i b, .i d, .i f] := by
    rw [rdN_ob (o := ⟨[.i a, .i b, .i d, .i f], 0, true, 4⟩) (by rw [rdOb_set_self hlZ]; simp)]; simp
  simp [-lay, e3, e4, e5, e6, hl4, hRZ, hput, hrd]
  rw [gcRet_flat ((C.pre hp2 (by omega)).set (Nat.le_refl _) _) (by simp [flatV, flatC])]
  exact ⟨⟨a, b, d, f⟩, H, rfl, Pre.refl _⟩
theorem RowRes.keepI {H L X : Hp} {w : CV} {xs : List Int} (h : RowRes H w L xs) (hp : Pre (H ++ L) X) : IsI X w xs := h.isI.pre hp
set_option maxRecDepth 100000 in
theorem takes_law {H : Hp} {v : CV} {xs : List Int} (hv : IsB H v xs) : CM 10 [.c v] H Tru := by
  refine cw10 ?_
  unfold vf10c
  by_cases hbig : 1048576 < xs.length
  · simp [big_call hv.lenOf, hbig]
  · have hb : xs.length ≤ BIG := by simp only [BIG]; omega
    simp [big_call hv.lenOf, hbig]
    refine (drawInsUses hv hb).mono ?_
    rintro _ ⟨x, Z1, rfl, hp1⟩
    have hp5 : ∀ (a b c d e f g h i j : CV), putAt [a, b, c, d, e] 0 [f, g, h, i, j] = [f, g, h, i, j] := fun a b c d e f g h i j => by simp [putAt]
    have hp4 : ∀ (a b c d f g h i : CV), putAt [a, b, c, d] 0 [f, g, h, i] = [f, g, h, i] := fun a b c d f g h i => by simp [putAt]
    obtain ⟨X1, hX1⟩ : ∃ X1, Z1 ++ [(⟨[.i x.op, .i x.d, .i x.a, .i x.b, .i x.n], 0, true, 5⟩ : Ob)] = X1 := ⟨_, rfl⟩
    have hx1 : rdOb X1 Z1.length 0 = some ⟨[.i x.op, .i x.d, .i x.a, .i x.b, .i x.n], 0, true, 5⟩ := by rw [← hX1]; simp
    have hpX : Pre H X1 := by rw [← hX1]; exact hp1.app _
    obtain ⟨w, L, hw, e1⟩ := implUses X1 x
    obtain ⟨X2, hX2⟩ : ∃ X2, X1 ++ L = X2 := ⟨_, rfl⟩
    have hp2 : Pre X1 X2 := ⟨_, hX2.symm⟩
    have hw2 := hw.isI
    rw [hX2] at hw2
    have hx2 := hp2.rdOb hx1
    simp [hp5, hX1, rdN_ob hx1, e1, hX2, rdN_ob hx2, implInsDef]
    refine (drawTermUses (show IsB X2 v xs from Sl.pre (hpX.trans hp2) hv) hb).mono ?_
    rintro _ ⟨t, Z3, rfl, hp3⟩
    obtain ⟨X3, hX3⟩ : ∃ X3, Z3 ++ [(⟨[.i t.kind, .i t.a, .i t.to, .i t.els], 0, true, 4⟩ : Ob)] = X3 := ⟨_, rfl⟩
    have ht3 : rdOb X3 Z3.length 0 = some ⟨[.i t.kind, .i t.a, .i t.to, .i t.els], 0, true, 4⟩ := by rw [← hX3]; simp
    have hp33 : Pre X2 X3 := by rw [← hX3]; exact hp3.app _
    obtain ⟨y, M, hy, e3⟩ := implTUses X3 t
    obtain ⟨X4, hX4⟩ : ∃ X4, X3 ++ M = X4 := ⟨_, rfl⟩
    have hp4' : Pre X3 X4 := ⟨_, hX4.symm⟩
    have hy4 := hy.isI
    rw [hX4] at hy4
    have hx4 := hp4'.rdOb (hp33.rdOb hx2)
    have ht4 := hp4'.rdOb ht3
    obtain ⟨w5, L5, hw5, e5⟩ := specUses X4 x
    obtain ⟨X5, hX5⟩ : ∃ X5, X4 ++ L5 = X5 := ⟨_, rfl⟩
    have hp5' : Pre X4 X5 := ⟨_, hX5.symm⟩
    have hw55 := hw5.isI
    rw [hX5] at hw55
    have hwX5 := hw2.pre (hp33.trans (hp4'.trans hp5'))
    have hx5 := hp5'.rdOb hx4
    have ht5 := hp5'.rdOb ht4
    obtain ⟨w6, L6, hw6, e6⟩ := specTUses X5 t
    obtain ⟨X6, hX6⟩ : ∃ X6, X5 ++ L6 = X6 := ⟨_, rfl⟩
    have hp6 : Pre X5 X6 := ⟨_, hX6.symm⟩
    have hw66 := hw6.isI
    rw [hX6] at hw66
    have hy6 := hy4.pre (hp5'.trans hp6)
    have hw6' := hwX5.pre hp6
    have hx6 := hp6.rdOb hx5
    have ht6 := hp6.rdOb ht5
    have hu2 := usesF_le x
    have ht2 := tusesF_le t
    have q5 := fun k => sameInts_call hwX5 hw55 (by simp only [BIG]; omega) k
    have q6 := fun k => sameInts_call hy6 hw66 (by simp only [BIG]; omega) k
    simp [hp4, hX3, rdN_ob ht3, e3, hX4, rdN_ob hx4, e5, hX5, q5, rdN_ob hx5, specInsDef, rdN_ob ht5, e6, hX6, q6]
    have hdef : insDefF x = -1 ∨ insDefF x = x.d := by unfold insDefF; split <;> simp
    have hlenw := hw6'.lenOf
    have hleny := hy6.lenOf
    have hu : usesF x = [] ∨ usesF x = [x.a] ∨ usesF x = [x.a, x.b] := by unfold usesF; (repeat' split) <;> simp
    have hd : (insDefF x = -1) ∨ (insDefF x = x.d ∧ ¬ x.d = -1) := by
      rcases hdef with h | h
      · exact .inl h
      · by_cases e : x.d = -1
        · exact .inl (h.trans e)
        · exact .inr ⟨h, e⟩
    have he : (tusesF t = [] ∧ lenOf y = some 0) ∨ (tusesF t = [t.a] ∧ lenOf y = some 1 ∧ ∃ id g off, idxOf 1 y 0 = some (.p id g off) ∧ rdC X6 id g off = some (.i t.a)) := by
      have : tusesF t = [] ∨ tusesF t = [t.a] := by unfold tusesF; split <;> simp
      rcases this with h | h
      · left; rw [h] at hleny; exact ⟨h, hleny⟩
      · right
        rw [h] at hleny hy6
        obtain ⟨id, g, off, r1, r2⟩ := hy6.at_ (k := 0) (by simp)
        exact ⟨h, hleny, id, g, off, r1, r2⟩
    have r0 : rdC X6 Z1.length 0 1 = some (.i x.d) := by rw [rdC_ob hx6]; rfl
    have r2 : rdC X6 Z1.length 0 2 = some (.i x.a) := by rw [rdC_ob hx6]; rfl
    have r3 : rdC X6 Z1.length 0 3 = some (.i x.b) := by rw [rdC_ob hx6]; rfl
    have s1 : rdC X6 Z3.length 0 1 = some (.i t.a) := by rw [rdC_ob ht6]; rfl
    rcases hu with hu | hu | hu
    · rw [hu] at hlenw
      simp only [List.length_nil] at hlenw
      rcases hd with h1 | ⟨h1, h2⟩ <;> rcases he with ⟨h3, h4⟩ | ⟨h3, h4, id, g, off, h5, h6⟩
      · simp [hlenw, h1, h4]
      · simp [hlenw, h1, h4, h5, h6, s1]
      · simp [hlenw, h1, h2, r0, h4]
      · simp [hlenw, h1, h2, r0, h4, h5, h6, s1]
    · rw [hu] at hlenw hw6'
      simp only [List.length_cons, List.length_nil, Nat.zero_add] at hlenw
      obtain ⟨ia, ga, oa, a1, a2⟩ := hw6'.at_ (k := 0) (by simp)
      have a1 : idxOf 1 w 0 = some (.p ia ga oa) := a1
      simp only [List.getElem_cons_zero] at a2
      rcases hd with h1 | ⟨h1, h2⟩ <;> rcases he with ⟨h3, h4⟩ | ⟨h3, h4, id, g, off, h5, h6⟩
      · simp [hlenw, a1, a2, r2, h1, h4]
      · simp [hlenw, a1, a2, r2, h1, h4, h5, h6, s1]
      · simp [hlenw, a1, a2, r2, h1, h2, r0, h4]
      · simp [hlenw, a1, a2, r2, h1, h2, r0, h4, h5, h6, s1]
    · rw [hu] at hlenw hw6'
      simp only [List.length_cons, List.length_nil, Nat.zero_add, Nat.reduceAdd] at hlenw
      obtain ⟨ia, ga, oa, a1, a2⟩ := hw6'.at_ (k := 0) (by simp)
      obtain ⟨ib, gb, ob, b1, b2⟩ := hw6'.at_ (k := 1) (by simp)
      have a1 : idxOf 1 w 0 = some (.p ia ga oa) := a1
      have b1 : idxOf 1 w 1 = some (.p ib gb ob) := b1
      simp only [List.getElem_cons_zero, List.getElem_cons_succ] at a2 b2
      rcases hd with h1 | ⟨h1, h2⟩ <;> rcases he with ⟨h3, h4⟩ | ⟨h3, h4, id, g, off, h5, h6⟩
      · simp [hlenw, a1, a2, r2, b1, b2, r3, h1, h4]
      · simp [hlenw, a1, a2, r2, b1, b2, r3, h1, h4, h5, h6, s1]
      · simp [hlenw, a1, a2, r2, b1, b2, r3, h1, h2, r0, h4]
      · simp [hlenw, a1, a2, r2, b1, b2, r3, h1, h2, r0, h4, h5, h6, s1]
end Go.Proofs.Ytnpbldjbfkpbcaa.Vm
end
