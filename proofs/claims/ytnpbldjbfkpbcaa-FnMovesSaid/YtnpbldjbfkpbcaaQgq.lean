import Derived.Test.YtnpbldjbfkpbcaaQgp
import Derived.Test.YtnpbldjbfkpbcaaQfc
section
/- Draws of copies, and of numbers; copies one behind the other, cut in two. No conditions. -/
namespace Go.Proofs.Ytnpbldjbfkpbcaa.Vm
open Go.RowKit (wrap64)
set_option linter.unusedSimpArgs false
set_option linter.unusedVariables false

def ValsRes (H : Hp) (r : IV × Hp) : Prop := ∃ w u Z ms ys, r = (.tup [(false, [w]), (false, [u])], Z) ∧ Pre H Z ∧ Row armP 2 Z w ms ∧ ms.length ≤ 64 ∧ IsI Z u ys ∧ ys.length ≤ 26 ∧ flatC u = false
theorem gc_tup2 {H : Hp} {w u : CV} (hu : flatC u = false) (Y : Hp) : gcRet H (.tup [(false, [w]), (false, [u])]) Y = (.tup [(false, [w]), (false, [u])], Y) := by
  unfold gcRet; split
  · rw [if_neg (by unfold flatV; simp only [List.all_cons, List.all_nil, Bool.and_true, hu, Bool.and_false]; decide)]
  · rfl
theorem drawVals {H : Hp} {v : CV} {xs : List Int} (hv : IsB H v xs) (hb : xs.length ≤ BIG) : CM 72 [.c v] H (ValsRes H) := by
  refine cw72 ?_
  unfold vf72c
  simp
  refine (new_call hv hb).mono ?_
  rintro _ ⟨h, rfl⟩
  have hc := new_cur hv hb h
  obtain ⟨X1, hX1⟩ : ∃ X1, H ++ [(⟨[v, .i 0, .i h], 0, true, 3⟩ : Ob)] = X1 := ⟨_, rfl⟩
  have hp1 : Pre H X1 := ⟨_, hX1.symm⟩
  have hl1 : X1.length = H.length + 1 := by rw [← hX1]; simp
  rw [hX1] at hc ⊢
  simp
  refine (l9Draw_call hc).mono ?_
  rintro _ ⟨w, Z0, n, l, rfl, C0, hA, hl, hn1, hn2⟩
  obtain ⟨N, rfl⟩ : ∃ N : Nat, n = N := ⟨n.toNat, by omega⟩
  have hcl : H.length < X1.length := by omega
  have hcz : H.length < Z0.length := by have := C0.le; omega
  simp
  obtain ⟨I, hI⟩ : ∃ I : Nat → St → Prop, ∀ i st, I i st ↔ ∃ id g ys, CurL H.length Z0 st.h ∧ rdOb st.h id g = some ⟨List.map CV.i ys, g, true, 1⟩ ∧ Z0.length ≤ id ∧ ys.length = i ∧ Env.get st.e 4 = .c (.p H.length 0 0) ∧ Env.get st.e 5 = .c w ∧ Env.get st.e 6 = .c (.i N) ∧ Env.get st.e 7 = .c (.sl id g 0 i) ∧ Env.get st.e 8 = .c (.i i) := ⟨_, fun _ _ => Iff.rfl⟩
  refine wp_for CM_mono N I ((hI _ _).2 ⟨Z0.length, 0, [], (CurL.refl C0.cur).app _, by simp, Nat.le_refl _, rfl, by simp⟩) ?_ ?_
  · rintro i ⟨e, Y⟩ hi hIs
    obtain ⟨id, g, ys, C, ho, hid, hyl, e4, e5, e6, e7, e8⟩ := (hI _ _).1 hIs
    simp only at C ho e4 e5 e6 e7 e8 ⊢
    obtain ⟨r, Y2, _, _, _, D, eb⟩ := below_call C.cur 5
    have C2 := C.trans D.l
    have ho2 := D.l.keep _ _ _ (by omega) ho
    obtain ⟨x, hx⟩ : ∃ x, wrap64 (wrap64 (10 * (i : Int)) + r) = x := ⟨_, rfl⟩
    have ea := app_new (X := Y2) ho2 (by simp [hyl]) (show i ≤ BIG by simp only [BIG]; omega) x
    have hlt := rdOb_lt ho2
    unfold vf72b0
    simp [e4, e5, e6, e7, e8, hi, eb, hx, srcOf, putL0, ea, up1 hi (show N ≤ BIG by simp only [BIG]; omega)]
    exact (hI _ _).2 ⟨id, g + 1, ys ++ [x], (C2.app _).setHi hcz hid _, by rw [rdOb_set_self (by simp; omega)]; simp, hid, by simp [hyl], by simp [e4, e5, e6]⟩
  · rintro ⟨e, Y⟩ hIs
    obtain ⟨id, g, ys, C, ho, hid, hyl, e4, e5, e6, e7, e8⟩ := (hI _ _).1 hIs
    simp only at C ho e4 e5 e6 e7 e8 ⊢
    obtain ⟨b, Y2, D, eo⟩ := once_call C.cur 9
    have ho2 := D.l.keep _ _ _ (by omega) ho
    have C2 := C.trans D.l
    have fin : ∀ (Y3 : Hp) (k : Nat), CurL H.length Z0 Y3 → rdOb Y3 id g = some ⟨List.map CV.i ys, g, true, 1⟩ → k ≤ N → ValsRes H (.tup [(false, [w]), (false, [.sl id g 0 k])], Y3) := fun Y3 k C3 ho3 hk => by
      obtain ⟨ms, hms, hml⟩ := (hA.keep (c := H.length) hcl C3.keep).row
      have hyk : (ys.take k).length = k := by simp; omega
      have hrow : IsI Y3 (.sl id g 0 k) (ys.take k) := by
        have := IsI.mk (xs := ys.take k) ho3 rfl (off := 0) (by simp; omega) (by rw [hyk]; simp [List.map_take])
        rwa [hyk] at this
      exact ⟨w, _, Y3, ms, ys.take k, rfl, C3.pre (C0.pre hp1 (Nat.le_refl _)) (Nat.le_refl _), hms, by omega, hrow, by omega, rfl⟩
    unfold vf72b0
    cases b with
    | true =>
      have hw1 : wrap64 ((N : Int) + 1) = (N : Int) + 1 := wrap64_id (by omega)
      obtain ⟨r, Y3, r0, r1, _, D3, eb⟩ := below_call D.cur ((N : Int) + 1)
      have r2 := r1 (by omega)
      obtain ⟨k, rfl⟩ : ∃ k : Nat, r = k := ⟨r.toNat, by omega⟩
      have ho3 := D3.l.keep _ _ _ (by omega) ho2
      have hk : k ≤ N := by omega
      have hsl : doSlice Y3 1 (.sl id g 0 N) none (some (.c (.i k))) = some (.c (.sl id g 0 k)) := by
        simp [doSlice, ho3, hk]
      simp [e4, e5, e6, e7, e8, eo, hw1, eb, hsl, gc_tup2 (u := .sl id g 0 k) rfl]
      exact fin Y3 k (C2.trans D3.l) ho3 hk
    | false =>
      simp [e4, e5, e6, e7, e8, eo, gc_tup2 (u := .sl id g 0 N) rfl]
      exact fin Y2 N C2 ho2 (Nat.le_refl _)
theorem drawEach {H : Hp} {v : CV} {xs : List Int} (hv : IsB H v xs) (hb : xs.length ≤ BIG) : CM 51 [.c v] H (ValsRes H) := by
  refine cw51 ?_
  unfold vf51c
  simp
  refine (drawVals hv hb).mono ?_
  rintro _ ⟨w, u, Z, ms, ys, rfl, h1, h2, h3, h4, h5, h6⟩
  simp [gc_tup2 h6]
  exact ⟨w, u, Z, ms, ys, rfl, h1, h2, h3, h4, h5, h6⟩
theorem at_call {H : Hp} {v : CV} {xs : List Int} (hv : IsB H v xs) (hx : ∀ x ∈ xs, 0 ≤ x ∧ x ≤ 255) (hb : xs.length ≤ BIG) {i : Nat} (hi : i ≤ 100) : ∃ r : Int, 0 ≤ r ∧ ∀ k : IV × Hp → Prop, CM 52 [.c v, .c (.i i)] H k = k (.c (.i r), H) := by
  by_cases h : i < xs.length
  · obtain ⟨id, g, off, q1, q2⟩ := hv.at_ h
    have hr := hx _ (List.getElem_mem h)
    exact ⟨xs[i], hr.1, fun k => det (cw52 (by
      unfold vf52c
      simp [hv.lenOf, h, q1, q2, wrap64_id (show -9223372036854775808 ≤ xs[i] ∧ xs[i] ≤ 9223372036854775807 by omega)])) k⟩
  · have hw1 : wrap64 ((i : Int) * 7) = (i : Int) * 7 := wrap64_id (by omega)
    have hw2 : wrap64 ((i : Int) * 7 + (xs.length : Int)) = (i : Int) * 7 + (xs.length : Int) := wrap64_id (by simp only [BIG] at hb; omega)
    exact ⟨((i : Int) * 7 + (xs.length : Int)).tmod 256, (tmod_in (by omega) (by omega)).1, fun k => det (cw52 (by
      unfold vf52c
      simp [hv.lenOf, h, hw1, hw2])) k⟩
theorem eachF_cut (ms : List ArmR) (vs : List Int) (k : Nat) : eachF (ms.drop k) (eachF (ms.take k) vs) = eachF ms vs := by
  have h : (eachF (ms.take k) vs).length = vs.length := eachF_len _ _
  unfold eachF at h ⊢
  rw [h, ← List.foldl_append, List.take_append_drop]
section
variable {P : Program} {H : Hp}
theorem arg_bytesR {t e : TypeId} {n : Nat} {iv : IV} (hu : P.underlying t = some (.slice e)) (he : P.underlying e = some (.int .u8)) (hls : leafTs P 8 e = some [e]) (hsz : P.cellsOf e = 1) (hp : plainT P n t = true) (ha : aggOf P t = some false)
    (h : ArgTy P H n t iv) : ∃ v xs, iv = .c v ∧ IsB H v xs ∧ xs.length ≤ maxLen ∧ ∀ x ∈ xs, 0 ≤ x ∧ x ≤ 255 := by
  obtain ⟨c, rfl, hl⟩ := h.one hp ha
  obtain ⟨xs, h1, h2⟩ := leaf_row (R := fun _ cs (x : Int) => cs = [.y x] ∧ 0 ≤ x ∧ x ≤ 255) hu hls hsz (fun cs hl hc => by
    match cs, hl with
    | [a], _ =>
      obtain ⟨m, rfl, hm⟩ := Leaf.byte he (hc 0 _ a rfl rfl)
      exact ⟨m, rfl, by omega, by omega⟩) hl
  refine ⟨c, xs, rfl, (h1.imp fun _ _ _ h => h.1).flat, h2, fun x hx => ?_⟩
  obtain ⟨k, hk, rfl⟩ := List.getElem_of_mem hx
  obtain ⟨_, _, _, _, _, _, _, h3⟩ := h1.get hk
  exact h3.2
end
theorem Sl.same {H X : Hp} {sz n : Nat} {v : CV} {cs : List CV} (h : Sl H sz v n cs) (hp : Pre H X) : sameAt v H X := by
  rcases h with ⟨rfl, _, _⟩ | ⟨id, g, off, o, rfl, h2, _⟩
  · exact trivial
  · show rdOb X id g = rdOb H id g
    rw [h2]; exact hp.rdOb h2
theorem each_law {H : Hp} {v : CV} {xs : List Int} (hv : IsB H v xs) (hr : ∀ x ∈ xs, 0 ≤ x ∧ x ≤ 255) : CM 9 [.c v] H Tru := by
  refine cw9 ?_
  unfold vf9c
  by_cases hbig : 1048576 < xs.length
  · simp [big_call hv.lenOf, hbig]
  · have hb : xs.length ≤ BIG := by simp only [BIG]; omega
    simp [big_call hv.lenOf, hbig]
    refine (drawEach hv hb).mono ?_
    rintro _ ⟨w, u, Z, ms, ys, rfl, hp, hw, hml, hu, hyl, hfu⟩
    have hm : ms.length ≤ BIG := by simp only [BIG]; omega
    have hy : ys.length ≤ BIG := by simp only [BIG]; omega
    have hun : u ≠ .ns := by rintro rfl; cases hfu
    have hF := eachF_len ms ys
    obtain ⟨Z1, hZ1⟩ : ∃ Z1, Z ++ [(⟨(eachF ms ys).map .i, 0, true, 1⟩ : Ob)] = Z1 := ⟨_, rfl⟩
    have hp1 : Pre Z Z1 := ⟨_, hZ1.symm⟩
    have i1 := sl_isI (X := Z) hF
    rw [hZ1] at i1
    obtain ⟨Z2, hZ2⟩ : ∃ Z2, Z1 ++ [(⟨(eachF ms ys).map .i, 0, true, 1⟩ : Ob)] = Z2 := ⟨_, rfl⟩
    have hp2 : Pre Z1 Z2 := ⟨_, hZ2.symm⟩
    have i2 := sl_isI (X := Z1) hF
    rw [hZ2] at i2
    obtain ⟨r, r0, ea0⟩ := at_call (i := 1) (show IsB Z2 v xs from Sl.pre (hp.trans (hp1.trans hp2)) hv) hr hb (by omega)
    have ea : ∀ k : IV × Hp → Prop, CM 52 [.c v, .c (.i 1)] Z2 k = k (.c (.i r), Z2) := ea0
    have hw2 := Row.pre (fun _ _ => armP.pre) (hp1.trans hp2) hw
    have hwl : wrap64 ((ms.length : Int) + 1) = (ms.length : Int) + 1 := wrap64_id (by omega)
    have hne : ¬ ((ms.length : Int) + 1 = 0) := by omega
    obtain ⟨k, hk, hkl⟩ : ∃ k : Nat, r.tmod ((ms.length : Int) + 1) = k ∧ k ≤ ms.length := by
      have := tmod_in (r := r) (n := (ms.length : Int) + 1) r0 (by omega)
      exact ⟨(r.tmod ((ms.length : Int) + 1)).toNat, by omega, by omega⟩
    obtain ⟨wa, s1, ra, s2, s3⟩ := hw2.slice (l := 0) (m := k) (Nat.zero_le _) hkl
    obtain ⟨wb, t1, rb, t2, t3⟩ := hw2.slice (l := k) (m := ms.length) hkl (Nat.le_refl _)
    have s4 := s2 rfl
    have t4 := t3 rfl
    simp only [List.drop_zero, Nat.sub_zero] at ra
    rw [List.take_of_length_le (by simp)] at rb
    obtain ⟨Z3, hZ3⟩ : ∃ Z3, Z2 ++ [(⟨(eachF (ms.take k) ys).map .i, 0, true, 1⟩ : Ob)] = Z3 := ⟨_, rfl⟩
    have hp3 : Pre Z2 Z3 := ⟨_, hZ3.symm⟩
    have hF3 := eachF_len (ms.take k) ys
    have i3 := sl_isI (X := Z2) hF3
    rw [hZ3] at i3
    have el := implEach (H := Z2) ra (by simp; omega) (hu.pre (hp1.trans hp2)) hun hy
    have el2 := implEach (H := Z3) (Row.pre (fun _ _ => armP.pre) hp3 rb) (by simp; omega) i3 (by simp) (by rw [hF3]; exact hy)
    have hF4 := eachF_len (ms.drop k) (eachF (ms.take k) ys)
    rw [hF3] at hF4 el2
    obtain ⟨Z4, hZ4⟩ : ∃ Z4, Z3 ++ [(⟨(eachF (ms.drop k) (eachF (ms.take k) ys)).map .i, 0, true, 1⟩ : Ob)] = Z4 := ⟨_, rfl⟩
    have hp4 : Pre Z3 Z4 := ⟨_, hZ4.symm⟩
    have i4 := sl_isI (X := Z3) hF4
    rw [hZ4] at i4
    rw [hZ4] at el2
    rw [hZ3] at el
    have i1' := i1.pre (hp2.trans (hp3.trans hp4))
    rw [eachF_cut] at i4
    simp [implEach hw hm hu hun hy, hZ1, specEach (Row.pre (fun _ _ => armP.pre) hp1 hw) hm (hu.pre hp1) hy, hZ2, sameInts_call (i1.pre hp2) i2 (by rw [hF]; exact hy), ea, hw.lenOf, hwl, hne, hk, s4, t4, el, el2, sameInts_call i4 i1' (by rw [hF]; exact hy), hu.lenOf]
    obtain ⟨css, hsl, _⟩ := hw2
    exact Sl.same hsl hp3
end Go.Proofs.Ytnpbldjbfkpbcaa.Vm
end
