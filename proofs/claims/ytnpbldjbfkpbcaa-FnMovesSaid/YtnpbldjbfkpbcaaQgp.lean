import Derived.Test.YtnpbldjbfkpbcaaP2
import Derived.Test.YtnpbldjbfkpbcaaP3
section
/- Draws of copies. No conditions. -/
namespace Go.Proofs.Ytnpbldjbfkpbcaa.Vm
open Go.RowKit (wrap64)
set_option linter.unusedSimpArgs false
set_option linter.unusedVariables false

theorem Cur.setHi {X : Hp} {c i : Nat} {o : Ob} (h : Cur X c) (hi : c < i) : Cur (X.set i o) c := by
  obtain ⟨bs, j, hh, xs, h1, h2, h3, h4, h5⟩ := h
  refine ⟨bs, j, hh, xs, by rw [rdOb_set_ne (by omega)]; exact h1, ?_, h3, h4, h5⟩
  rcases h2 with ⟨a, b, d⟩ | ⟨id, g, off, ob, a, b, d, e⟩
  · exact .inl ⟨a, b, d⟩
  · refine .inr ⟨id, g, off, ob, a, ?_, d, e⟩
    have := h5 _ _ _ _ a
    rw [rdOb_set_ne (by omega)]; exact b
theorem CurL.setHi {X Z : Hp} {c i : Nat} (h : CurL c X Z) (hc : c < X.length) (hi : X.length ≤ i) (o : Ob) : CurL c X (Z.set i o) :=
  ⟨h.cur.setHi (by omega), by simp; exact h.le, fun id g ob hne ho => by have := rdOb_lt ho; rw [rdOb_set_ne (by omega)]; exact h.keep id g ob hne ho⟩
/-- A row of copies of one's own, its numbers whatever. -/
def ArI (lo : Nat) (Z : Hp) (w : CV) (l : Nat) : Prop := (w = .ns ∧ l = 0) ∨ ∃ id g cs, w = .sl id g 0 l ∧ lo ≤ id ∧ rdOb Z id g = some ⟨cs, g, true, 2⟩ ∧ cs.length = l * 2 ∧ allInt cs = true
theorem ArI.keep {lo l c : Nat} {Y Z : Hp} {w : CV} (h : ArI lo Y w l) (hc : c < lo) (hk : ∀ id g o, id ≠ c → rdOb Y id g = some o → rdOb Z id g = some o) : ArI lo Z w l := by
  rcases h with h | ⟨id, g, cs, h1, h2, h3, h4⟩
  · exact .inl h
  · exact .inr ⟨id, g, cs, h1, h2, hk _ _ _ (by omega) h3, h4⟩
theorem ArI.lenOf {lo l : Nat} {Y : Hp} {w : CV} (h : ArI lo Y w l) : lenOf w = some l := by
  rcases h with ⟨rfl, rfl⟩ | ⟨id, g, cs, rfl, _⟩ <;> rfl
theorem ArI.push {c l : Nat} {X Z : Hp} {w : CV} (C : CurL c X Z) (hc : c < X.length) (h : ArI X.length Z w l) (hl : l ≤ 100) (a b : Int) :
    ∃ w' Z', doApp (Z ++ [(⟨[.i a, .i b], 0, true, 2⟩ : Ob)]) 2 w 1 [.i a, .i b] = some (.c w', Z') ∧ CurL c X Z' ∧ ArI X.length Z' w' (l + 1) := by
  rcases h with ⟨rfl, rfl⟩ | ⟨id, g, cs, rfl, h2, h3, h4, h5⟩
  · refine ⟨.sl (Z.length + 1) 0 0 1, Z ++ [⟨[.i a, .i b], 0, true, 2⟩, ⟨[.i a, .i b], 0, true, 2⟩], ?_, C.app _, .inr ⟨Z.length + 1, 0, [.i a, .i b], rfl, by have := C.le; omega, by simp, rfl, rfl⟩⟩
    simp [doApp, fresh, LIM]
  · have hlt := rdOb_lt h3
    have happ := app_own (X := Z ++ [(⟨[.i a, .i b], 0, true, 2⟩ : Ob)]) (o := id) (g := g) (n := l) (sz := 2) (m := 1) (cs := cs) (xs := [.i a, .i b]) (rdOb_app _ h3) h4.symm (by simp) (by simp only [LIM, List.length_cons, List.length_nil]; omega)
    exact ⟨_, _, happ, (C.app _).setHi hc h2 _, .inr ⟨id, g + 1, cs ++ [.i a, .i b], rfl, h2, by rw [rdOb_set_self (by simp; omega)]; simp, by simp [h4]; omega, allInt_app h5 rfl⟩⟩
theorem ArI.row {lo l : Nat} {Z : Hp} {w : CV} (h : ArI lo Z w l) : ∃ ms : List ArmR, Row armP 2 Z w ms ∧ ms.length = l := by
  rcases h with ⟨rfl, rfl⟩ | ⟨id, g, cs, rfl, _, h3, h4, h5⟩
  · exact ⟨[], Row.ns, rfl⟩
  · obtain ⟨xs, e, h⟩ := row_of (P := armP) (sz := 2) (n := l) (off := 0) h3 rfl (by show 0 + l * 2 ≤ cs.length; omega) fun k hk => by
      show ∃ x, armP Z ((cs.drop (0 + k * 2)).take 2) x
      have hk' : (k + 1) * 2 ≤ l * 2 := Nat.mul_le_mul_right _ hk
      obtain ⟨a, ha⟩ := allInt_at h5 (j := 0 + k * 2) (by omega)
      obtain ⟨b, hb⟩ := allInt_at h5 (j := 0 + k * 2 + 1) (by omega)
      exact ⟨⟨a, b⟩, cells2 (by rw [List.getElem?_eq_getElem (by omega), ha]) (by rw [List.getElem?_eq_getElem (by omega), hb])⟩
    exact ⟨xs, h, e⟩
theorem putAt_two {cs : List CV} {j : Nat} (h : j + 2 ≤ cs.length) (x y : CV) : putAt cs j [x, y] = (cs.set j x).set (j + 1) y := by
  apply List.ext_getElem?
  intro i
  simp only [putAt, List.length_cons, List.length_nil, Nat.zero_add, Nat.reduceAdd]
  rw [List.getElem?_set, List.getElem?_set]
  rcases Nat.lt_trichotomy i j with h1 | h1 | h1
  · rw [if_neg (by omega), if_neg (by omega), List.append_assoc, List.getElem?_append_left (by simp; omega), List.getElem?_take, if_pos h1]
  · subst h1
    rw [if_neg (by omega), if_pos rfl, if_pos (by omega), List.append_assoc, List.getElem?_append_right (by simp; omega)]
    simp [Nat.min_eq_left (show i ≤ cs.length by omega)]
  · by_cases h2 : i = j + 1
    · subst h2
      rw [if_pos rfl, if_pos (by simp; omega), List.append_assoc, List.getElem?_append_right (by simp; omega)]
      simp [Nat.min_eq_left (show j ≤ cs.length by omega), show j + 1 - j = 1 by omega]
    · rw [if_neg (by omega), if_neg (by omega), List.getElem?_append_right (by simp; omega), List.getElem?_drop]
      congr 1
      simp; omega
theorem two_at {Z : Hp} {id g l : Nat} {cs : List CV} (h3 : rdOb Z id g = some ⟨cs, g, true, 2⟩) (h4 : cs.length = l * 2) (h5 : allInt cs = true) {k : Nat} (hk : k < l) :
    ∃ a b : Int, rdN Z id g (k * 2) 2 = some [.i a, .i b] ∧ rdC Z id g (k * 2) = some (.i a) := by
  have hk' : (k + 1) * 2 ≤ l * 2 := Nat.mul_le_mul_right _ hk
  obtain ⟨a, ha⟩ := allInt_at h5 (j := k * 2) (by omega)
  obtain ⟨b, hb⟩ := allInt_at h5 (j := k * 2 + 1) (by omega)
  refine ⟨a, b, ?_, ?_⟩
  · rw [rdN_ob h3, if_pos (by show k * 2 + 2 ≤ cs.length; omega)]
    show some ((cs.drop (k * 2)).take 2) = _
    rw [cells2 (by rw [List.getElem?_eq_getElem (by omega), ha]) (by rw [List.getElem?_eq_getElem (by omega), hb])]
  · rw [rdC_ob h3]
    show cs[k * 2]? = _
    rw [List.getElem?_eq_getElem (by omega), ha]
theorem int2 {cs : List CV} {l k : Nat} (h4 : cs.length = l * 2) (h5 : allInt cs = true) (hk : k < l) (a b : Int) : (putAt cs (k * 2) [.i a, .i b]).length = l * 2 ∧ allInt (putAt cs (k * 2) [.i a, .i b]) = true ∧ k * 2 + 2 ≤ cs.length := by
  have hk' : (k + 1) * 2 ≤ l * 2 := Nat.mul_le_mul_right _ hk
  rw [putAt_two (by omega)]
  exact ⟨by simp [h4], allInt_set (allInt_set h5 _ _) _ _, by omega⟩
def L9Res (X : Hp) (c : Nat) (r : IV × Hp) : Prop := ∃ w Z n l, r = (.tup [(false, [w]), (false, [.i n])], Z) ∧ CurL c X Z ∧ ArI X.length Z w l ∧ l ≤ 64 ∧ 1 ≤ n ∧ n ≤ 26
theorem l9_fin {X Y : Hp} {c l : Nat} {w : CV} {n : Int} (hc : Cur X c) (C : CurL c X Y) (hA : ArI X.length Y w l) (hl : l ≤ 64) (hn : 1 ≤ n ∧ n ≤ 26) : L9Res X c (gcRet X (.tup [(false, [w]), (false, [.i n])]) Y) := by
  rcases hA with ⟨rfl, rfl⟩ | ⟨id, g, cs, rfl, h2, h3, h4⟩
  · obtain ⟨Z, e, h⟩ := C.gc hc (r := .tup [(false, [.ns]), (false, [.i n])]) rfl
    rw [e]
    exact ⟨_, _, n, 0, rfl, h, .inl ⟨rfl, rfl⟩, hl, hn⟩
  · have e : gcRet X (.tup [(false, [.sl id g 0 l]), (false, [.i n])]) Y = (.tup [(false, [.sl id g 0 l]), (false, [.i n])], Y) := by
      unfold gcRet; split
      · rw [if_neg (by simp [flatV, flatC])]
      · rfl
    rw [e]
    exact ⟨_, _, n, l, rfl, C, .inr ⟨id, g, cs, rfl, h2, h3, h4⟩, hl, hn⟩
set_option maxRecDepth 100000 in
theorem l9Draw_call {X : Hp} {c : Nat} (hc : Cur X c) : CM 117 [.c (.p c 0 0)] X (L9Res X c) := by
  have hcl := hc.lt
  refine cw117 ?_
  unfold vf117c
  obtain ⟨n, X1, n0, n1, _, C1, en⟩ := below_call hc 7
  have n2 := n1 (by omega)
  have hw1 : wrap64 (1 + n) = 1 + n := wrap64_id (by omega)
  simp [en, hw1]
  obtain ⟨N, hN⟩ : ∃ N : Nat, (N : Int) = 1 + n := ⟨(1 + n).toNat, by omega⟩
  rw [← hN]
  have hN1 : 1 ≤ N ∧ N ≤ 7 := by omega
  have hl1 := C1.len
  obtain ⟨I, hI⟩ : ∃ I : Nat → St → Prop, ∀ i st, I i st ↔ ∃ w l, CurL c X st.h ∧ ArI X.length st.h w l ∧ l ≤ i ∧ Env.get st.e 0 = .c (.p c 0 0) ∧ Env.get st.e 4 = .c (.i N) ∧ Env.get st.e 5 = .c w ∧ Env.get st.e 6 = .c (.i i) := ⟨_, fun _ _ => Iff.rfl⟩
  refine wp_for CM_mono N I ((hI _ _).2 ⟨_, 0, C1.l.app _, .inr ⟨X1.length, 0, [], rfl, by omega, by simp, rfl, rfl⟩, Nat.le_refl _, by simp [hN]⟩) ?_ ?_
  · rintro i ⟨e, Y⟩ hi hIs
    obtain ⟨w, l, C, hA, hl, e0, e4, e5, e6⟩ := (hI _ _).1 hIs
    simp only at C hA e0 e4 e5 e6 ⊢
    obtain ⟨b, Y1, D1, eo⟩ := once_call C.cur 3
    have C1 := C.trans D1.l
    have hA1 := hA.keep (c := c) hcl D1.l.keep
    unfold vf117b0
    cases b with
    | true =>
      simp [e0, e4, e5, e6, hi, eo, up1 hi (show N ≤ BIG by simp only [BIG]; omega)]
      exact (hI _ _).2 ⟨w, l, C1, hA1, by omega, by simp [e0, e4, e5]⟩
    | false =>
      obtain ⟨r, Y2, _, _, _, D2, eb⟩ := below_call D1.cur (N : Int)
      have C2 := C1.trans D2.l
      have hA2 := hA1.keep (c := c) hcl D2.l.keep
      obtain ⟨w', Y3, ea, C3, hA3⟩ := ArI.push C2 hcl hA2 (by omega) (i : Int) r
      simp [e0, e4, e5, e6, hi, eo, eb, srcOf, putL0, putL1, putD0, ea, up1 hi (show N ≤ BIG by simp only [BIG]; omega)]
      exact (hI _ _).2 ⟨w', l + 1, C3, hA3, by omega, by simp [e0, e4]⟩
  · rintro ⟨e, Y⟩ hIs
    obtain ⟨w, l, C, hA, hl, e0, e4, e5, e6⟩ := (hI _ _).1 hIs
    simp only at C hA e0 e4 e5 e6 ⊢
    unfold vf117b0
    by_cases hl1 : 1 < l
    · obtain ⟨b, Y1, D1, eo⟩ := once_call C.cur 3
      have C1 := C.trans D1.l
      have hA1 := hA.keep (c := c) hcl D1.l.keep
      have hl1' : (1 : Int) < (l : Int) := by omega
      cases b with
      | true =>
        simp [e0, e4, e5, e6, hA.lenOf, hl1, hl1', eo]
        obtain ⟨T, hT⟩ : ∃ T : Nat → St → Prop, ∀ i st, T i st ↔ (CurL c X st.h ∧ ArI X.length st.h w l ∧ Env.get st.e 0 = .c (.p c 0 0) ∧ Env.get st.e 4 = .c (.i N) ∧ Env.get st.e 5 = .c w ∧ Env.get st.e 7 = .c (.i i)) := ⟨_, fun _ _ => Iff.rfl⟩
        refine wp_for CM_mono l T ((hT _ _).2 ⟨C1, hA1, by simp [e0, e4, e5]⟩) ?_ ?_
        · rintro i ⟨e2, Y2⟩ hi hTs
          obtain ⟨C2, hA2, e0, e4, e5, e7⟩ := (hT _ _).1 hTs
          simp only at C2 hA2 e0 e4 e5 e7 ⊢
          rcases id hA2 with ⟨_, h⟩ | ⟨id, g, cs, rfl, h2, h3, h4, h5⟩
          · omega
          have hk : ((i : Int) + 1).tmod (l : Int) = (((i + 1) % l : Nat) : Int) := by
            rw [Int.tmod_eq_emod_of_nonneg (by omega)]; norm_cast
          have hkl : (i + 1) % l < l := Nat.mod_lt _ (by omega)
          generalize (i + 1) % l = q at hk hkl
          obtain ⟨a, b, p1, p2⟩ := two_at h3 h4 h5 hkl
          have hi2 : (i + 1) * 2 ≤ l * 2 := Nat.mul_le_mul_right _ hi
          have hst : i * 2 + 1 + 1 ≤ cs.length := by omega
          have hlt := rdOb_lt h3
          have hl0 : ¬ (l : Int) = 0 := by omega
          have hl0' : ¬ l = 0 := by omega
          have hpu : putAt cs (i * 2 + 1) [.i a] = cs.set (i * 2 + 1) (.i a) := putAt_get (by omega)
          unfold vf117b1
          simp [e0, e4, e5, e7, hi, idxOf, up1 hi (show l ≤ BIG by simp only [BIG]; omega), hl0, hl0', hk, hkl, p1, p2, h3, hst, hpu]
          exact (hT _ _).2 ⟨C2.setHi hcl h2 _, .inr ⟨id, g, cs.set (i * 2 + 1) (.i a), rfl, h2, by rw [rdOb_set_self hlt]; simp, by simp [h4], allInt_set h5 _ _⟩, by simp [e0, e4, e5]⟩
        · rintro ⟨e2, Y2⟩ hTs
          obtain ⟨C, hA, e0, e4, e5, e7⟩ := (hT _ _).1 hTs
          simp only at C hA e0 e4 e5 e7 ⊢
          unfold vf117b1
          simp [e0, e4, e5, e7, hA.lenOf]
          clear hT hTs T
          obtain ⟨J, hJ⟩ : ∃ J : Nat → St → Prop, ∀ i st, J i st ↔ (CurL c X st.h ∧ ArI X.length st.h w l ∧ Env.get st.e 0 = .c (.p c 0 0) ∧ Env.get st.e 4 = .c (.i N) ∧ Env.get st.e 5 = .c w ∧ Env.get st.e 8 = .c (.i i)) := ⟨_, fun _ _ => Iff.rfl⟩
          refine wp_for CM_mono l J ((hJ _ _).2 ⟨C, hA, by simp [e0, e4, e5]⟩) ?_ ?_
          · rintro i ⟨e3, Z⟩ hi hJs
            obtain ⟨C2, hA2, e0, e4, e5, e8⟩ := (hJ _ _).1 hJs
            simp only at C2 hA2 e0 e4 e5 e8 ⊢
            obtain ⟨r, Z2, r0, r1, _, D2, eb⟩ := below_call C2.cur (l : Int)
            have r2 := r1 (by omega)
            obtain ⟨q, rfl⟩ : ∃ q : Nat, r = q := ⟨r.toNat, by omega⟩
            have hq : q < l := by omega
            have C3 := C2.trans D2.l
            rcases hA2.keep (c := c) hcl D2.l.keep with ⟨_, h⟩ | ⟨id, g, cs, rfl, h2, h3, h4, h5⟩
            · omega
            obtain ⟨a, b, p1, p2⟩ := two_at h3 h4 h5 hi
            obtain ⟨Z3, hZ3⟩ : ∃ Z3, Z2 ++ [(⟨[.i a, .i b], 0, true, 2⟩ : Ob)] = Z3 := ⟨_, rfl⟩
            have hz : rdOb Z3 Z2.length 0 = some ⟨[.i a, .i b], 0, true, 2⟩ := by rw [← hZ3]; simp
            have h3' : rdOb Z3 id g = some ⟨cs, g, true, 2⟩ := by rw [← hZ3]; exact rdOb_app _ h3
            obtain ⟨a2, b2, q1, q2⟩ := two_at h3' h4 h5 hq
            have hlt := rdOb_lt h3
            have hlt3 := rdOb_lt h3'
            obtain ⟨u1, u2, u3⟩ := int2 h4 h5 hi a2 b2
            obtain ⟨cs2, hcs2⟩ : ∃ cs2, putAt cs (i * 2) [.i a2, .i b2] = cs2 := ⟨_, rfl⟩
            rw [hcs2] at u1 u2
            obtain ⟨Z4, hZ4⟩ : ∃ Z4, Z3.set id ⟨cs2, g, true, 2⟩ = Z4 := ⟨_, rfl⟩
            have h6 : rdOb Z4 id g = some ⟨cs2, g, true, 2⟩ := by rw [← hZ4, rdOb_set_self hlt3]; simp
            have h7 : rdN Z4 Z2.length 0 0 2 = some [.i a, .i b] := by rw [← hZ4, rdN_ob (o := ⟨[.i a, .i b], 0, true, 2⟩) (by rw [rdOb_set_ne (by omega)]; exact hz)]; simp
            obtain ⟨v1, v2, v3⟩ := int2 u1 u2 hq a b
            obtain ⟨cs3, hcs3⟩ : ∃ cs3, putAt cs2 (q * 2) [.i a, .i b] = cs3 := ⟨_, rfl⟩
            rw [hcs3] at v1 v2
            have hp2 : putAt [.i 0, .i 0] 0 [.i a, .i b] = [.i a, .i b] := rfl
            unfold vf117b2
            simp [e0, e4, e5, e8, hi, eb, idxOf, hq, p1, hp2, putD0, hZ3, q1, h3', u3, hcs2, hZ4, h7, h6, v3, hcs3, up1 hi (show l ≤ BIG by simp only [BIG]; omega)]
            refine (hJ _ _).2 ⟨?_, .inr ⟨id, g, cs3, rfl, h2, by rw [rdOb_set_self (by rw [← hZ4]; simpa using hlt3)]; simp, v1, v2⟩, by simp [e0, e4, e5]⟩
            rw [← hZ4, ← hZ3]
            exact ((C3.app _).setHi hcl h2 _).setHi hcl h2 _
          · rintro ⟨e3, Z⟩ hJs
            obtain ⟨C2, hA2, e0, e4, e5, e8⟩ := (hJ _ _).1 hJs
            simp only at C2 hA2 e0 e4 e5 e8 ⊢
            obtain ⟨r, Z2, r0, r1, _, D2, eb⟩ := below_call C2.cur 20
            have C3 := C2.trans D2.l
            have hA3 := hA2.keep (c := c) hcl D2.l.keep
            unfold vf117b2
            by_cases hr0 : r = 0
            · subst hr0
              have hw2 : wrap64 ((N : Int) + 2) = (N : Int) + 2 := wrap64_id (by omega)
              obtain ⟨x, Z3, _, _, _, D3, eb3⟩ := below_call D2.cur ((N : Int) + 2)
              obtain ⟨y, Z4, _, _, _, D4, eb4⟩ := below_call D3.cur ((N : Int) + 2)
              have C5 := (C3.trans D3.l).trans D4.l
              have hA5 := (hA3.keep (c := c) hcl D3.l.keep).keep (c := c) hcl D4.l.keep
              obtain ⟨w', Z5, ea, C6, hA6⟩ := ArI.push C5 hcl hA5 (by omega) (wrap64 (x - 1)) (wrap64 (y - 1))
              simp [e0, e4, e5, e8, hA2.lenOf, eb, hw2, eb3, eb4, srcOf, putL0, putL1, putD0, ea]
              exact l9_fin hc C6 hA6 (by omega) (by omega)
            · by_cases hr1 : r = 1
              · subst hr1
                simp [e0, e4, e5, e8, hA2.lenOf, eb]
                obtain ⟨K, hK⟩ : ∃ K : Nat → St → Prop, ∀ i st, K i st ↔ ∃ w', CurL c X st.h ∧ ArI X.length st.h w' i ∧ Env.get st.e 0 = .c (.p c 0 0) ∧ Env.get st.e 4 = .c (.i 26) ∧ Env.get st.e 5 = .c w' ∧ Env.get st.e 11 = .c (.i i) := ⟨_, fun _ _ => Iff.rfl⟩
                refine wp_for CM_mono 25 K ((hK _ _).2 ⟨.ns, C3, .inl ⟨rfl, rfl⟩, by simp [e0]⟩) ?_ ?_
                · rintro i ⟨e4', W⟩ hi hKs
                  obtain ⟨w', C4, hA4, e0, e4, e5, e11⟩ := (hK _ _).1 hKs
                  simp only at C4 hA4 e0 e4 e5 e11 ⊢
                  obtain ⟨s, W2, s0, s1, _, D5, es⟩ := below_call C4.cur 2
                  have s2 := s1 (by omega)
                  have hws : wrap64 (24 + s) = 24 + s := wrap64_id (by omega)
                  have C5 := C4.trans D5.l
                  have hA5 := hA4.keep (c := c) hcl D5.l.keep
                  unfold vf117b3
                  by_cases hlt : (i : Int) < 24 + s
                  · obtain ⟨w2, W3, ea, C6, hA6⟩ := ArI.push C5 hcl hA5 (by omega) (i : Int) ((i : Int) + 1)
                    simp [e0, e4, e5, e11, es, hws, hlt, srcOf, putL0, putL1, putD0, ea, up1 hi (show 25 ≤ BIG by simp only [BIG]; omega)]
                    exact (hK _ _).2 ⟨w2, C6, hA6, by simp [e0, e4]⟩
                  · simp [e0, e4, e5, e11, es, hws, hlt]
                    exact l9_fin hc C5 hA5 (by omega) (by omega)
                · rintro ⟨e4', W⟩ hKs
                  obtain ⟨w', C4, hA4, e0, e4, e5, e11⟩ := (hK _ _).1 hKs
                  simp only at C4 hA4 e0 e4 e5 e11 ⊢
                  obtain ⟨s, W2, s0, s1, _, D5, es⟩ := below_call C4.cur 2
                  have s2 := s1 (by omega)
                  have hws : wrap64 (24 + s) = 24 + s := wrap64_id (by omega)
                  have C5 := C4.trans D5.l
                  have hA5 := hA4.keep (c := c) hcl D5.l.keep
                  have hlt : ¬ (25 : Int) < 24 + s := by omega
                  unfold vf117b3
                  simp [e0, e4, e5, e11, es, hws, hlt]
                  exact l9_fin hc C5 hA5 (by omega) (by omega)
              · simp [e0, e4, e5, e8, hA2.lenOf, eb, hr0, hr1]
                exact l9_fin hc C3 hA3 (by omega) (by omega)
      | false =>
        simp [e0, e4, e5, e6, hA.lenOf, hl1, hl1', eo]
        replace hA := hA1
        replace C := C1
        clear C1 hA1
        obtain ⟨J, hJ⟩ : ∃ J : Nat → St → Prop, ∀ i st, J i st ↔ (CurL c X st.h ∧ ArI X.length st.h w l ∧ Env.get st.e 0 = .c (.p c 0 0) ∧ Env.get st.e 4 = .c (.i N) ∧ Env.get st.e 5 = .c w ∧ Env.get st.e 8 = .c (.i i)) := ⟨_, fun _ _ => Iff.rfl⟩
        refine wp_for CM_mono l J ((hJ _ _).2 ⟨C, hA, by simp [e0, e4, e5]⟩) ?_ ?_
        · rintro i ⟨e3, Z⟩ hi hJs
          obtain ⟨C2, hA2, e0, e4, e5, e8⟩ := (hJ _ _).1 hJs
          simp only at C2 hA2 e0 e4 e5 e8 ⊢
          obtain ⟨r, Z2, r0, r1, _, D2, eb⟩ := below_call C2.cur (l : Int)
          have r2 := r1 (by omega)
          obtain ⟨q, rfl⟩ : ∃ q : Nat, r = q := ⟨r.toNat, by omega⟩
          have hq : q < l := by omega
          have C3 := C2.trans D2.l
          rcases hA2.keep (c := c) hcl D2.l.keep with ⟨_, h⟩ | ⟨id, g, cs, rfl, h2, h3, h4, h5⟩
          · omega
          obtain ⟨a, b, p1, p2⟩ := two_at h3 h4 h5 hi
          obtain ⟨Z3, hZ3⟩ : ∃ Z3, Z2 ++ [(⟨[.i a, .i b], 0, true, 2⟩ : Ob)] = Z3 := ⟨_, rfl⟩
          have hz : rdOb Z3 Z2.length 0 = some ⟨[.i a, .i b], 0, true, 2⟩ := by rw [← hZ3]; simp
          have h3' : rdOb Z3 id g = some ⟨cs, g, true, 2⟩ := by rw [← hZ3]; exact rdOb_app _ h3
          obtain ⟨a2, b2, q1, q2⟩ := two_at h3' h4 h5 hq
          have hlt := rdOb_lt h3
          have hlt3 := rdOb_lt h3'
          obtain ⟨u1, u2, u3⟩ := int2 h4 h5 hi a2 b2
          obtain ⟨cs2, hcs2⟩ : ∃ cs2, putAt cs (i * 2) [.i a2, .i b2] = cs2 := ⟨_, rfl⟩
          rw [hcs2] at u1 u2
          obtain ⟨Z4, hZ4⟩ : ∃ Z4, Z3.set id ⟨cs2, g, true, 2⟩ = Z4 := ⟨_, rfl⟩
          have h6 : rdOb Z4 id g = some ⟨cs2, g, true, 2⟩ := by rw [← hZ4, rdOb_set_self hlt3]; simp
          have h7 : rdN Z4 Z2.length 0 0 2 = some [.i a, .i b] := by rw [← hZ4, rdN_ob (o := ⟨[.i a, .i b], 0, true, 2⟩) (by rw [rdOb_set_ne (by omega)]; exact hz)]; simp
          obtain ⟨v1, v2, v3⟩ := int2 u1 u2 hq a b
          obtain ⟨cs3, hcs3⟩ : ∃ cs3, putAt cs2 (q * 2) [.i a, .i b] = cs3 := ⟨_, rfl⟩
          rw [hcs3] at v1 v2
          have hp2 : putAt [.i 0, .i 0] 0 [.i a, .i b] = [.i a, .i b] := rfl
          unfold vf117b2
          simp [e0, e4, e5, e8, hi, eb, idxOf, hq, p1, hp2, putD0, hZ3, q1, h3', u3, hcs2, hZ4, h7, h6, v3, hcs3, up1 hi (show l ≤ BIG by simp only [BIG]; omega)]
          refine (hJ _ _).2 ⟨?_, .inr ⟨id, g, cs3, rfl, h2, by rw [rdOb_set_self (by rw [← hZ4]; simpa using hlt3)]; simp, v1, v2⟩, by simp [e0, e4, e5]⟩
          rw [← hZ4, ← hZ3]
          exact ((C3.app _).setHi hcl h2 _).setHi hcl h2 _
        · rintro ⟨e3, Z⟩ hJs
          obtain ⟨C2, hA2, e0, e4, e5, e8⟩ := (hJ _ _).1 hJs
          simp only at C2 hA2 e0 e4 e5 e8 ⊢
          obtain ⟨r, Z2, r0, r1, _, D2, eb⟩ := below_call C2.cur 20
          have C3 := C2.trans D2.l
          have hA3 := hA2.keep (c := c) hcl D2.l.keep
          unfold vf117b2
          by_cases hr0 : r = 0
          · subst hr0
            have hw2 : wrap64 ((N : Int) + 2) = (N : Int) + 2 := wrap64_id (by omega)
            obtain ⟨x, Z3, _, _, _, D3, eb3⟩ := below_call D2.cur ((N : Int) + 2)
            obtain ⟨y, Z4, _, _, _, D4, eb4⟩ := below_call D3.cur ((N : Int) + 2)
            have C5 := (C3.trans D3.l).trans D4.l
            have hA5 := (hA3.keep (c := c) hcl D3.l.keep).keep (c := c) hcl D4.l.keep
            obtain ⟨w', Z5, ea, C6, hA6⟩ := ArI.push C5 hcl hA5 (by omega) (wrap64 (x - 1)) (wrap64 (y - 1))
            simp [e0, e4, e5, e8, hA2.lenOf, eb, hw2, eb3, eb4, srcOf, putL0, putL1, putD0, ea]
            exact l9_fin hc C6 hA6 (by omega) (by omega)
          · by_cases hr1 : r = 1
            · subst hr1
              simp [e0, e4, e5, e8, hA2.lenOf, eb]
              obtain ⟨K, hK⟩ : ∃ K : Nat → St → Prop, ∀ i st, K i st ↔ ∃ w', CurL c X st.h ∧ ArI X.length st.h w' i ∧ Env.get st.e 0 = .c (.p c 0 0) ∧ Env.get st.e 4 = .c (.i 26) ∧ Env.get st.e 5 = .c w' ∧ Env.get st.e 11 = .c (.i i) := ⟨_, fun _ _ => Iff.rfl⟩
              refine wp_for CM_mono 25 K ((hK _ _).2 ⟨.ns, C3, .inl ⟨rfl, rfl⟩, by simp [e0]⟩) ?_ ?_
              · rintro i ⟨e4', W⟩ hi hKs
                obtain ⟨w', C4, hA4, e0, e4, e5, e11⟩ := (hK _ _).1 hKs
                simp only at C4 hA4 e0 e4 e5 e11 ⊢
                obtain ⟨s, W2, s0, s1, _, D5, es⟩ := below_call C4.cur 2
                have s2 := s1 (by omega)
                have hws : wrap64 (24 + s) = 24 + s := wrap64_id (by omega)
                have C5 := C4.trans D5.l
                have hA5 := hA4.keep (c := c) hcl D5.l.keep
                unfold vf117b3
                by_cases hlt : (i : Int) < 24 + s
                · obtain ⟨w2, W3, ea, C6, hA6⟩ := ArI.push C5 hcl hA5 (by omega) (i : Int) ((i : Int) + 1)
                  simp [e0, e4, e5, e11, es, hws, hlt, srcOf, putL0, putL1, putD0, ea, up1 hi (show 25 ≤ BIG by simp only [BIG]; omega)]
                  exact (hK _ _).2 ⟨w2, C6, hA6, by simp [e0, e4]⟩
                · simp [e0, e4, e5, e11, es, hws, hlt]
                  exact l9_fin hc C5 hA5 (by omega) (by omega)
              · rintro ⟨e4', W⟩ hKs
                obtain ⟨w', C4, hA4, e0, e4, e5, e11⟩ := (hK _ _).1 hKs
                simp only at C4 hA4 e0 e4 e5 e11 ⊢
                obtain ⟨s, W2, s0, s1, _, D5, es⟩ := below_call C4.cur 2
                have s2 := s1 (by omega)
                have hws : wrap64 (24 + s) = 24 + s := wrap64_id (by omega)
                have C5 := C4.trans D5.l
                have hA5 := hA4.keep (c := c) hcl D5.l.keep
                have hlt : ¬ (25 : Int) < 24 + s := by omega
                unfold vf117b3
                simp [e0, e4, e5, e11, es, hws, hlt]
                exact l9_fin hc C5 hA5 (by omega) (by omega)
            · simp [e0, e4, e5, e8, hA2.lenOf, eb, hr0, hr1]
              exact l9_fin hc C3 hA3 (by omega) (by omega)
    · have hl1' : ¬ (1 : Int) < (l : Int) := by omega
      simp [e0, e4, e5, e6, hA.lenOf, hl1, hl1']
      obtain ⟨J, hJ⟩ : ∃ J : Nat → St → Prop, ∀ i st, J i st ↔ (CurL c X st.h ∧ ArI X.length st.h w l ∧ Env.get st.e 0 = .c (.p c 0 0) ∧ Env.get st.e 4 = .c (.i N) ∧ Env.get st.e 5 = .c w ∧ Env.get st.e 8 = .c (.i i)) := ⟨_, fun _ _ => Iff.rfl⟩
      refine wp_for CM_mono l J ((hJ _ _).2 ⟨C, hA, by simp [e0, e4, e5]⟩) ?_ ?_
      · rintro i ⟨e3, Z⟩ hi hJs
        obtain ⟨C2, hA2, e0, e4, e5, e8⟩ := (hJ _ _).1 hJs
        simp only at C2 hA2 e0 e4 e5 e8 ⊢
        obtain ⟨r, Z2, r0, r1, _, D2, eb⟩ := below_call C2.cur (l : Int)
        have r2 := r1 (by omega)
        obtain ⟨q, rfl⟩ : ∃ q : Nat, r = q := ⟨r.toNat, by omega⟩
        have hq : q < l := by omega
        have C3 := C2.trans D2.l
        rcases hA2.keep (c := c) hcl D2.l.keep with ⟨_, h⟩ | ⟨id, g, cs, rfl, h2, h3, h4, h5⟩
        · omega
        obtain ⟨a, b, p1, p2⟩ := two_at h3 h4 h5 hi
        obtain ⟨Z3, hZ3⟩ : ∃ Z3, Z2 ++ [(⟨[.i a, .i b], 0, true, 2⟩ : Ob)] = Z3 := ⟨_, rfl⟩
        have hz : rdOb Z3 Z2.length 0 = some ⟨[.i a, .i b], 0, true, 2⟩ := by rw [← hZ3]; simp
        have h3' : rdOb Z3 id g = some ⟨cs, g, true, 2⟩ := by rw [← hZ3]; exact rdOb_app _ h3
        obtain ⟨a2, b2, q1, q2⟩ := two_at h3' h4 h5 hq
        have hlt := rdOb_lt h3
        have hlt3 := rdOb_lt h3'
        obtain ⟨u1, u2, u3⟩ := int2 h4 h5 hi a2 b2
        obtain ⟨cs2, hcs2⟩ : ∃ cs2, putAt cs (i * 2) [.i a2, .i b2] = cs2 := ⟨_, rfl⟩
        rw [hcs2] at u1 u2
        obtain ⟨Z4, hZ4⟩ : ∃ Z4, Z3.set id ⟨cs2, g, true, 2⟩ = Z4 := ⟨_, rfl⟩
        have h6 : rdOb Z4 id g = some ⟨cs2, g, true, 2⟩ := by rw [← hZ4, rdOb_set_self hlt3]; simp
        have h7 : rdN Z4 Z2.length 0 0 2 = some [.i a, .i b] := by rw [← hZ4, rdN_ob (o := ⟨[.i a, .i b], 0, true, 2⟩) (by rw [rdOb_set_ne (by omega)]; exact hz)]; simp
        obtain ⟨v1, v2, v3⟩ := int2 u1 u2 hq a b
        obtain ⟨cs3, hcs3⟩ : ∃ cs3, putAt cs2 (q * 2) [.i a, .i b] = cs3 := ⟨_, rfl⟩
        rw [hcs3] at v1 v2
        have hp2 : putAt [.i 0, .i 0] 0 [.i a, .i b] = [.i a, .i b] := rfl
        unfold vf117b2
        simp [e0, e4, e5, e8, hi, eb, idxOf, hq, p1, hp2, putD0, hZ3, q1, h3', u3, hcs2, hZ4, h7, h6, v3, hcs3, up1 hi (show l ≤ BIG by simp only [BIG]; omega)]
        refine (hJ _ _).2 ⟨?_, .inr ⟨id, g, cs3, rfl, h2, by rw [rdOb_set_self (by rw [← hZ4]; simpa using hlt3)]; simp, v1, v2⟩, by simp [e0, e4, e5]⟩
        rw [← hZ4, ← hZ3]
        exact ((C3.app _).setHi hcl h2 _).setHi hcl h2 _
      · rintro ⟨e3, Z⟩ hJs
        obtain ⟨C2, hA2, e0, e4, e5, e8⟩ := (hJ _ _).1 hJs
        simp only at C2 hA2 e0 e4 e5 e8 ⊢
        obtain ⟨r, Z2, r0, r1, _, D2, eb⟩ := below_call C2.cur 20
        have C3 := C2.trans D2.l
        have hA3 := hA2.keep (c := c) hcl D2.l.keep
        unfold vf117b2
        by_cases hr0 : r = 0
        · subst hr0
          have hw2 : wrap64 ((N : Int) + 2) = (N : Int) + 2 := wrap64_id (by omega)
          obtain ⟨x, Z3, _, _, _, D3, eb3⟩ := below_call D2.cur ((N : Int) + 2)
          obtain ⟨y, Z4, _, _, _, D4, eb4⟩ := below_call D3.cur ((N : Int) + 2)
          have C5 := (C3.trans D3.l).trans D4.l
          have hA5 := (hA3.keep (c := c) hcl D3.l.keep).keep (c := c) hcl D4.l.keep
          obtain ⟨w', Z5, ea, C6, hA6⟩ := ArI.push C5 hcl hA5 (by omega) (wrap64 (x - 1)) (wrap64 (y - 1))
          simp [e0, e4, e5, e8, hA2.lenOf, eb, hw2, eb3, eb4, srcOf, putL0, putL1, putD0, ea]
          exact l9_fin hc C6 hA6 (by omega) (by omega)
        · by_cases hr1 : r = 1
          · subst hr1
            simp [e0, e4, e5, e8, hA2.lenOf, eb]
            obtain ⟨K, hK⟩ : ∃ K : Nat → St → Prop, ∀ i st, K i st ↔ ∃ w', CurL c X st.h ∧ ArI X.length st.h w' i ∧ Env.get st.e 0 = .c (.p c 0 0) ∧ Env.get st.e 4 = .c (.i 26) ∧ Env.get st.e 5 = .c w' ∧ Env.get st.e 11 = .c (.i i) := ⟨_, fun _ _ => Iff.rfl⟩
            refine wp_for CM_mono 25 K ((hK _ _).2 ⟨.ns, C3, .inl ⟨rfl, rfl⟩, by simp [e0]⟩) ?_ ?_
            · rintro i ⟨e4', W⟩ hi hKs
              obtain ⟨w', C4, hA4, e0, e4, e5, e11⟩ := (hK _ _).1 hKs
              simp only at C4 hA4 e0 e4 e5 e11 ⊢
              obtain ⟨s, W2, s0, s1, _, D5, es⟩ := below_call C4.cur 2
              have s2 := s1 (by omega)
              have hws : wrap64 (24 + s) = 24 + s := wrap64_id (by omega)
              have C5 := C4.trans D5.l
              have hA5 := hA4.keep (c := c) hcl D5.l.keep
              unfold vf117b3
              by_cases hlt : (i : Int) < 24 + s
              · obtain ⟨w2, W3, ea, C6, hA6⟩ := ArI.push C5 hcl hA5 (by omega) (i : Int) ((i : Int) + 1)
                simp [e0, e4, e5, e11, es, hws, hlt, srcOf, putL0, putL1, putD0, ea, up1 hi (show 25 ≤ BIG by simp only [BIG]; omega)]
                exact (hK _ _).2 ⟨w2, C6, hA6, by simp [e0, e4]⟩
              · simp [e0, e4, e5, e11, es, hws, hlt]
                exact l9_fin hc C5 hA5 (by omega) (by omega)
            · rintro ⟨e4', W⟩ hKs
              obtain ⟨w', C4, hA4, e0, e4, e5, e11⟩ := (hK _ _).1 hKs
              simp only at C4 hA4 e0 e4 e5 e11 ⊢
              obtain ⟨s, W2, s0, s1, _, D5, es⟩ := below_call C4.cur 2
              have s2 := s1 (by omega)
              have hws : wrap64 (24 + s) = 24 + s := wrap64_id (by omega)
              have C5 := C4.trans D5.l
              have hA5 := hA4.keep (c := c) hcl D5.l.keep
              have hlt : ¬ (25 : Int) < 24 + s := by omega
              unfold vf117b3
              simp [e0, e4, e5, e11, es, hws, hlt]
              exact l9_fin hc C5 hA5 (by omega) (by omega)
          · simp [e0, e4, e5, e8, hA2.lenOf, eb, hr0, hr1]
            exact l9_fin hc C3 hA3 (by omega) (by omega)
end Go.Proofs.Ytnpbldjbfkpbcaa.Vm
end
