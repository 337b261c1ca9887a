/- FnWordNames. No conditions. -/
import Derived.Test.YtnpbldjbfkpbcaaKwb
namespace Go.Proofs.Ytnpbldjbfkpbcaa.Vm
open Go.RowKit (wrap64)
set_option linter.unusedSimpArgs false
set_option linter.unusedVariables false

theorem beq_b (s t : ByteArray) : (s == t) = decide (s = t) := by
  cases s with | mk a => cases t with | mk b =>
  show (a == b) = _
  rw [Bool.eq_iff_iff, beq_iff_eq, decide_eq_true_eq, ByteArray.mk.injEq]
instance : LawfulBEq ByteArray where
  eq_of_beq {a b} h := by rw [beq_b] at h; exact of_decide_eq_true h
  rfl {a} := by rw [beq_b]; exact decide_eq_true rfl
def IsS (H : Hp) (v : CV) (xs : List ByteArray) : Prop := Sl H 1 v xs.length (xs.map .s)
theorem IsS.lenOf {H : Hp} {v : CV} {xs : List ByteArray} (h : IsS H v xs) : lenOf v = some xs.length := Sl.lenOf h
theorem IsS.at_ {H : Hp} {v : CV} {xs : List ByteArray} (h : IsS H v xs) {k : Nat} (hk : k < xs.length) :
    ∃ id g off, idxOf 1 v (k : Int) = some (.p id g off) ∧ rdC H id g off = some (.s xs[k]) := by
  obtain ⟨id, g, off, o, h1, h2, _, h3⟩ := Sl.get h hk
  refine ⟨id, g, off, h1, ?_⟩
  have := h3 0 (by omega)
  simp [hk] at this
  simp [rdC, h2, this]
theorem IsS.mk {H : Hp} {id g : Nat} {xs : List ByteArray} (h : rdOb H id g = some ⟨xs.map .s, 0, true, 1⟩) : IsS H (.sl id g 0 xs.length) xs :=
  .inr ⟨id, g, 0, _, rfl, h, rfl, by simp, by rw [Nat.mul_one, List.drop_zero, List.take_of_length_le (by simp)]⟩
theorem IsS.cur {X Y : Hp} {c : Nat} {v : CV} {xs : List ByteArray} (hv : IsS X v xs) (hc : Cur X c) (h : CurTo X Y c) : IsS Y v xs := by
  obtain ⟨ob, rfl, _⟩ := h
  obtain ⟨bs, i, hh, ys, h1, _⟩ := hc
  rcases hv with ⟨h1, h2, h3⟩ | ⟨id, g, off, o, e1, h2, h3, h4⟩
  · exact .inl ⟨h1, h2, h3⟩
  · refine .inr ⟨id, g, off, o, e1, ?_, h3, h4⟩
    rw [rdOb_set_ne]; exact h2
    rintro rfl
    have a := (rdOb_some.1 h2).1
    rw [(rdOb_some.1 h1).1] at a
    injection a with a
    rw [← a] at h3
    cases h3
def namesL : List ByteArray := [⟨#[]⟩, ⟨#[97,100,100]⟩, ⟨#[115,117,98]⟩, ⟨#[109,117,108]⟩, ⟨#[97,110,100]⟩, ⟨#[111,114]⟩, ⟨#[120,111,114]⟩, ⟨#[108,101,115,115]⟩, ⟨#[115,97,109,101]⟩, ⟨#[108,101,102,116]⟩, ⟨#[114,105,103,104,116]⟩]
def namesO : Ob := ⟨namesL.map .s, 0, true, 1⟩
theorem names_own {H : Hp} : IsS (H ++ [namesO]) (.sl H.length 0 0 11) namesL := IsS.mk (xs := namesL) (by simp [namesO])
theorem specNames (H : Hp) (k : IV × Hp → Prop) : CM 87 [] H k = k (.c (.sl H.length 0 0 11), H ++ [namesO]) := by
  refine det (cw87 ?_) k
  unfold vf87c
  simp [putAt]
  rw [gcRet_row ⟨_, rfl⟩ (Nat.le_refl _) (by simp; rfl) rfl (by simp [flatC])]
  rfl
theorem implNames (H : Hp) (k : IV × Hp → Prop) : CM 89 [] H k = k (.c (.sl H.length 0 0 11), H ++ [namesO]) := by
  refine det (cw89 ?_) k
  unfold vf89c
  simp [putAt]
  rw [gcRet_row ⟨_, rfl⟩ (Nat.le_refl _) (by simp; rfl) rfl (by simp [flatC])]
  rfl
theorem indexStr {H : Hp} {v : CV} {xs : List ByteArray} {x : ByteArray} (hv : IsS H v xs) (hb : xs.length ≤ BIG) (k : IV × Hp → Prop) :
    CM 88 [.c v, .c (.s x)] H k = k (.c (.i (findI (fun y => x == y) xs)), H) := by
  refine det (cw88 ?_) k
  unfold vf88c
  simp [hv.lenOf]
  refine wp_for CM_mono xs.length (fun i s => (∀ j (hj : j < i) (hx : j < xs.length), (x == xs[j]) = false) ∧ s.h = H ∧ Env.get s.e 0 = .c v ∧ Env.get s.e 1 = .c (.s x) ∧ Env.get s.e 7 = .c (.i xs.length) ∧ Env.get s.e 8 = .c (.i i)) (by simp) ?_ ?_
  · rintro i ⟨e, X⟩ hi ⟨ht, rfl, h0, h1, h7, h8⟩
    simp only at h0 h1 h7 h8 hv ⊢
    obtain ⟨id, g, off, q1, q2⟩ := hv.at_ hi
    unfold vf88b0
    cases hpx : (x == xs[i]) with
    | false =>
      simp [h0, h1, h7, h8, q1, q2, hi, up1 hi hb, hpx]
      intro j hj hx
      by_cases e : j = i
      · subst e; simpa using hpx
      · simpa using ht j (by omega) hx
    | true =>
      have hf := findI_some (p := fun y => x == y) hi (fun j hj => ht j hj (by omega)) hpx
      simp [h0, h1, h7, h8, q1, q2, hi, up1 hi hb, hpx, hf]
  · rintro ⟨e, X⟩ ⟨ht, rfl, h0, h1, h7, h8⟩
    simp only at h0 h1 h7 h8 ⊢
    have hf := findI_none (p := fun y => x == y) (fun j hj => ht j hj hj)
    unfold vf88b0
    simp [h0, h1, h7, h8, hf]
def nameF (op : Int) : ByteArray := if wordOk op = true then namesL.getD op.toNat ⟨#[]⟩ else ⟨#[]⟩
def wordOfF (s : ByteArray) : Int := if 0 < findI (fun y => s == y) namesL then findI (fun y => s == y) namesL else 0
theorem namesL_len : namesL.length = 11 := rfl
theorem ok_nat {op : Int} (h : wordOk op = true) : ∃ n : Nat, op = n ∧ 1 ≤ n ∧ n < 11 := by
  unfold wordOk inB at h
  have h := of_decide_eq_true h
  exact ⟨op.toNat, by omega, by omega, by omega⟩
theorem implName (H : Hp) (op : Int) (k : IV × Hp → Prop) : CM 28 [.c (.i op)] H k = k (.c (.s (nameF op)), H) := by
  refine det (cw28 ?_) k
  unfold vf28c nameF
  cases ho : wordOk op with
  | false => simp [implWordOk, ho]
  | true =>
    obtain ⟨n, rfl, h1, h2⟩ := ok_nat ho
    obtain ⟨id, g, off, q1, q2⟩ := (names_own (H := H)).at_ (k := n) h2
    have e : namesL[n]?.getD ⟨#[]⟩ = namesL[n] := by rw [List.getElem?_eq_getElem (by exact h2)]; rfl
    simp [implWordOk, ho, implNames, q1, q2, e]
theorem specName (H : Hp) (op : Int) (k : IV × Hp → Prop) : CM 29 [.c (.i op)] H k = k (.c (.s (nameF op)), H) := by
  refine det (cw29 ?_) k
  unfold vf29c nameF
  cases ho : wordOk op with
  | false => simp [specWordOk, ho]
  | true =>
    obtain ⟨n, rfl, h1, h2⟩ := ok_nat ho
    obtain ⟨id, g, off, q1, q2⟩ := (names_own (H := H)).at_ (k := n) h2
    have e : namesL[n]?.getD ⟨#[]⟩ = namesL[n] := by rw [List.getElem?_eq_getElem (by exact h2)]; rfl
    simp [specWordOk, ho, specNames, q1, q2, e]
theorem implWordOf (H : Hp) (s : ByteArray) (k : IV × Hp → Prop) : CM 27 [.c (.s s)] H k = k (.c (.i (wordOfF s)), H) := by
  refine det (cw27 ?_) k
  unfold vf27c wordOfF
  have := fun k => indexStr (x := s) (names_own (H := H)) (by simp only [BIG]; decide) k
  simp [implNames, this]
theorem names_apart : ∀ i, (hi : i < 11) → 1 ≤ i → (namesL[0] == namesL[i]) = false := by decide
theorem of_some {s : ByteArray} {i : Nat} (h1 : 1 ≤ i) (hi : i < 11) (h : ∀ j (hj : j < i) (hx : j < 11), 1 ≤ j → (namesL[j] == s) = false) (he : (namesL[i] == s) = true) : wordOfF s = i := by
  have he' : namesL[i] = s := eq_of_beq he
  have hf : findI (fun y => s == y) namesL = i := by
    refine findI_some (p := fun y => s == y) (xs := namesL) hi (fun j hj => ?_) (by simp [he'])
    by_cases h0 : j = 0
    · subst h0
      have := names_apart i hi h1
      rw [he'] at this
      rw [BEq.comm]; exact this
    · rw [BEq.comm]; exact h j hj (by omega) (by omega)
  unfold wordOfF
  rw [hf, if_pos (by omega)]
theorem of_none {s : ByteArray} (h : ∀ j (hx : j < 11), 1 ≤ j → (namesL[j] == s) = false) : wordOfF s = 0 := by
  unfold wordOfF
  by_cases h0 : (namesL[0] == s) = true
  · have hf : findI (fun y => s == y) namesL = ((0 : Nat) : Int) := findI_some (p := fun y => s == y) (xs := namesL) (i := 0) (by decide) (fun j hj => by omega) (by rw [BEq.comm]; exact h0)
    rw [hf]; rfl
  · have hf : findI (fun y => s == y) namesL = -1 := findI_none fun j hj => by
      by_cases e : j = 0
      · subst e; rw [BEq.comm]; simpa using h0
      · rw [BEq.comm]; exact h j hj (by omega)
    rw [hf]; rfl
theorem specWordOf (H : Hp) (s : ByteArray) (k : IV × Hp → Prop) : CM 30 [.c (.s s)] H k = k (.c (.i (wordOfF s)), H) := by
  refine det (cw30 ?_) k
  unfold vf30c
  have hv := names_own (H := H)
  simp [specNames]
  refine wp_from CM_mono 11 1 (by omega) (fun i st => (∀ j (hj : j < i) (hx : j < 11), 1 ≤ j → (namesL[j] == s) = false) ∧ 1 ≤ i ∧ st.h = H ++ [namesO] ∧ Env.get st.e 0 = .c (.s s) ∧ Env.get st.e 3 = .c (.sl H.length 0 0 11) ∧ Env.get st.e 4 = .c (.i i)) ⟨fun j hj _ h1 => by omega, by simp⟩ ?_ ?_
  · rintro i ⟨e, X⟩ hi ⟨ht, h1, rfl, h0, h3, h4⟩
    simp only at h0 h3 h4 ⊢
    obtain ⟨id, g, off, q1, q2⟩ := hv.at_ (k := i) hi
    unfold vf30b0
    have hi' : (i : Int) < 11 := by omega
    cases hpx : (namesL[i] == s) with
    | false =>
      simp [h0, h3, h4, q1, q2, hi', up1 hi (show 11 ≤ BIG by simp only [BIG]; omega), hpx]
      intro j hj hx hj1
      by_cases e : j = i
      · subst e; simpa using hpx
      · simpa using ht j (by omega) hx hj1
    | true =>
      have hf := of_some h1 hi ht hpx
      simp [h0, h3, h4, q1, q2, hi', hpx, hf]
  · rintro ⟨e, X⟩ ⟨ht, h1, rfl, h0, h3, h4⟩
    simp only at h0 h3 h4 ⊢
    have hf := of_none fun j hx hj => ht j hx hx hj
    unfold vf30b0
    simp [h0, h3, h4, hf]
theorem of_name {op : Int} (h : wordOk op = true) : wordOfF (nameF op) = op ∧ (nameF op == ⟨#[]⟩) = false := by
  obtain ⟨n, rfl, h1, h2⟩ := ok_nat h
  have : ∀ n, n < 11 → 1 ≤ n → wordOfF (nameF (n : Nat)) = (n : Nat) ∧ (nameF (n : Nat) == ⟨#[]⟩) = false := by decide
  exact this n h2 h1
theorem name_of (s : ByteArray) : wordOfF s = 0 ∨ (nameF (wordOfF s) == s) = true := by
  by_cases h : ∃ j, ∃ hx : j < 11, 1 ≤ j ∧ (namesL[j] == s) = true
  · obtain ⟨j, hx, h1, he⟩ := h
    right
    have he' : namesL[j] = s := eq_of_beq he
    have hn : nameF (j : Nat) = namesL[j] := by
      have : ∀ n, (hn : n < 11) → 1 ≤ n → nameF (n : Nat) = namesL[n] := by decide
      exact this j hx h1
    rw [← he', ← hn, (of_name (op := (j : Nat)) (by unfold wordOk inB; exact decide_eq_true (by omega))).1]
    simp
  · left
    refine of_none fun j hx h1 => ?_
    cases he : (namesL[j] == s) with
    | false => rfl
    | true => exact absurd ⟨j, hx, h1, he⟩ h
def NumRes (H : Hp) (r : IV × Hp) : Prop := ∃ n Z, r = (.c (.i n), Z) ∧ Pre H Z
def StrRes (H : Hp) (r : IV × Hp) : Prop := ∃ s Z, r = (.c (.s s), Z) ∧ Pre H Z
theorem num_gc {H Z : Hp} (n : Int) (h : Pre H Z) : NumRes H (gcRet H (.c (.i n)) Z) := by
  rw [gcRet_flat h rfl]; exact ⟨_, _, rfl, Pre.refl _⟩
theorem str_gc {H Z : Hp} (n : ByteArray) (h : Pre H Z) : StrRes H (gcRet H (.c (.s n)) Z) := by
  rw [gcRet_flat h rfl]; exact ⟨_, _, rfl, Pre.refl _⟩
theorem drawName {H : Hp} {v : CV} {xs : List Int} (hv : IsB H v xs) (hb : xs.length ≤ BIG) : CM 25 [.c v] H (NumRes H) := by
  refine cw25 ?_
  unfold vf25c
  simp
  refine (new_call hv hb).mono ?_
  rintro _ ⟨h, rfl⟩
  have hc := new_cur hv hb h
  obtain ⟨X1, hX1⟩ : ∃ X1, H ++ [(⟨[v, .i 0, .i h], 0, true, 3⟩ : Ob)] = X1 := ⟨_, rfl⟩
  have hp1 : Pre H X1 := ⟨_, hX1.symm⟩
  rw [hX1] at hc ⊢
  obtain ⟨r1, X2, a1, b1, _, d1, e1⟩ := below_call hc 14
  simp [e1]
  exact num_gc _ (d1.l.pre hp1 (Nat.le_refl _))
theorem pickS_call {X : Hp} {c : Nat} (h : Cur X c) {v : CV} {xs : List ByteArray} (hv : IsS X v xs) (h0 : 0 < xs.length) : ∃ r Y, CurTo X Y c ∧ ∀ k : IV × Hp → Prop, CM 86 [.c (.p c 0 0), .c v] X k = k (.c (.s r), Y) := by
  obtain ⟨r, Y, a, b, _, d, e⟩ := below_call h xs.length
  have b := b (by omega)
  obtain ⟨n, rfl⟩ : ∃ n : Nat, r = n := ⟨r.toNat, by omega⟩
  have hn : n < xs.length := by omega
  obtain ⟨id, g, off, q1, q2⟩ := (hv.cur h d).at_ hn
  refine ⟨xs[n], Y, d, fun k => det (cw86 ?_) k⟩
  unfold vf86c
  simp [hv.lenOf, e, q1, q2]
  exact gc_cur d rfl
theorem drawOf {H : Hp} {v : CV} {xs : List Int} (hv : IsB H v xs) (hb : xs.length ≤ BIG) : CM 26 [.c v] H (StrRes H) := by
  refine cw26 ?_
  unfold vf26c
  simp
  refine (new_call hv hb).mono ?_
  rintro _ ⟨h, rfl⟩
  have hc := new_cur hv hb h
  obtain ⟨X1, hX1⟩ : ∃ X1, H ++ [(⟨[v, .i 0, .i h], 0, true, 3⟩ : Ob)] = X1 := ⟨_, rfl⟩
  have hp1 : Pre H X1 := ⟨_, hX1.symm⟩
  rw [hX1] at hc ⊢
  obtain ⟨r1, X2, d1, e1⟩ := once_call hc 4
  cases r1 with
  | true =>
    obtain ⟨cs, hcs⟩ : ∃ cs : List CV, [CV.s ⟨#[]⟩, .s ⟨#[65, 100, 100]⟩, .s ⟨#[100, 105, 118]⟩, .s ⟨#[97]⟩] = cs := ⟨_, rfl⟩
    obtain ⟨Y1, hY1⟩ : ∃ Y1, X2 ++ [(⟨cs, 0, true, 1⟩ : Ob)] = Y1 := ⟨_, rfl⟩
    have hc1 : Cur Y1 H.length := by rw [← hY1]; exact d1.cur.app _
    have hv1 : IsS Y1 (.sl X2.length 0 0 4) [⟨#[]⟩, ⟨#[65, 100, 100]⟩, ⟨#[100, 105, 118]⟩, ⟨#[97]⟩] := by
      rw [← hY1]; exact IsS.mk (xs := [⟨#[]⟩, ⟨#[65, 100, 100]⟩, ⟨#[100, 105, 118]⟩, ⟨#[97]⟩]) (by rw [← hcs]; simp)
    obtain ⟨r2, Y2, d2, e2⟩ := pickS_call hc1 hv1 (by simp)
    simp [e1, putAt, hcs, hY1, e2]
    exact str_gc _ (d2.l.pre (by rw [← hY1]; exact (d1.l.pre hp1 (Nat.le_refl _)).app _) (Nat.le_refl _))
  | false =>
    have hc2 : Cur (X2 ++ [namesO]) H.length := d1.cur.app _
    obtain ⟨r2, Y2, a2, b2, _, d2, e2⟩ := below_call hc2 11
    have b2 := b2 (by omega)
    obtain ⟨n, rfl⟩ : ∃ n : Nat, r2 = n := ⟨r2.toNat, by omega⟩
    obtain ⟨id, g, off, q1, q2⟩ := ((names_own (H := X2)).cur hc2 d2).at_ (k := n) (by rw [namesL_len]; omega)
    simp [e1, specNames, e2, q1, q2]
    exact str_gc _ (d2.l.pre ((d1.l.pre hp1 (Nat.le_refl _)).app _) (Nat.le_refl _))
set_option maxRecDepth 100000 in
theorem names_law {H : Hp} {v : CV} {xs : List Int} (hv : IsB H v xs) : CM 4 [.c v] H Tru := by
  refine cw4 ?_
  unfold vf4c
  by_cases hbig : 1048576 < xs.length
  · simp [big_call hv.lenOf, hbig]
  · have hb : xs.length ≤ BIG := by simp only [BIG]; omega
    simp [big_call hv.lenOf, hbig]
    refine (drawName hv hb).mono ?_
    rintro _ ⟨op, Z1, rfl, hp1⟩
    simp
    refine (drawOf (show IsB Z1 v xs from Sl.pre hp1 hv) hb).mono ?_
    rintro _ ⟨s, Z2, rfl, hp2⟩
    have key : ∀ n, n = wordOfF s → ((if n = 0 then true else (nameF n == s)) = true) := by
      rintro n rfl
      rcases name_of s with h | h
      · simp [h]
      · split
        · rfl
        · exact h
    have key := key _ rfl
    cases ho : wordOk op with
    | true =>
      obtain ⟨f1, f2⟩ := of_name ho
      by_cases h0 : wordOfF s = 0
      · simp [implWordOf, specWordOf, implName, specName, implWordOk, ho, f1, f2, h0]
      · rw [if_neg h0] at key
        simp [implWordOf, specWordOf, implName, specName, implWordOk, ho, f1, f2, h0, key]
    | false =>
      have f2 : (nameF op == ⟨#[]⟩) = true := by unfold nameF; rw [ho]; simp
      by_cases h0 : wordOfF s = 0
      · simp [implWordOf, specWordOf, implName, specName, implWordOk, ho, f2, h0]
      · rw [if_neg h0] at key
        simp [implWordOf, specWordOf, implName, specName, implWordOk, ho, f2, h0, key]
end Go.Proofs.Ytnpbldjbfkpbcaa.Vm
