/- The reader of draws: what it draws lies between its bounds. No conditions. -/
import Derived.Test.YtnpbldjbfkpbcaaKzg
import Derived.Test.YtnpbldjbfkpbcaaVmX
namespace Go.Proofs.Ytnpbldjbfkpbcaa.Vm
open Go.RowKit (wrap64)
set_option linter.unusedSimpArgs false
set_option linter.unusedVariables false

theorem and255 (n : Int) : Go.bits .and .i64 n 255 = n % 256 := by
  have h63 : (BitVec.ofInt 64 255).toNat = 2 ^ 8 - 1 := by decide
  have key : (BitVec.ofInt 64 n &&& BitVec.ofInt 64 255).toNat = (n % ((2 ^ 64 : Nat) : Int)).toNat % 2 ^ 8 := by
    rw [BitVec.toNat_and, BitVec.toNat_ofInt, h63, Nat.and_two_pow_sub_one_eq_mod]
  show IntKind.i64.wrap ((BitVec.ofInt 64 n &&& BitVec.ofInt 64 255).toNat : Nat) = n % 256
  rw [key, IntKind.wrap_i64]
  omega
def InR (x : Int) : Prop := -9223372036854775808 ≤ x ∧ x ≤ 9223372036854775807
theorem wrap_in (x : Int) : InR (wrap64 x) := by unfold InR wrap64; omega
theorem wrap_of {x : Int} (h : InR x) : wrap64 x = x := wrap64_id h

/-- A reader of draws. -/
def Cur (X : Hp) (c : Nat) : Prop := ∃ bs i h xs, rdOb X c 0 = some ⟨[bs, .i i, .i h], 0, true, 3⟩ ∧ IsB X bs xs ∧ xs.length ≤ BIG ∧ 0 ≤ i
/-- The reader alone has gone on. -/
def CurTo (X Y : Hp) (c : Nat) : Prop := ∃ ob, Y = X.set c ob ∧ Cur Y c
theorem Cur.lt {X : Hp} {c : Nat} (h : Cur X c) : c < X.length := by obtain ⟨bs, i, h, xs, h1, _⟩ := h; exact rdOb_lt h1
theorem CurTo.cur {X Y : Hp} {c : Nat} (h : CurTo X Y c) : Cur Y c := by obtain ⟨_, _, h⟩ := h; exact h
theorem CurTo.trans {X Y Z : Hp} {c : Nat} (h : CurTo X Y c) (k : CurTo Y Z c) : CurTo X Z c := by
  obtain ⟨a, rfl, _⟩ := h
  obtain ⟨b, rfl, k⟩ := k
  exact ⟨b, by simp, by simpa using k⟩
theorem CurTo.refl {X : Hp} {c : Nat} (h : Cur X c) : CurTo X X c := by
  have hlt := h.lt
  exact ⟨X[c], by simp, h⟩
theorem CurTo.len {X Y : Hp} {c : Nat} (h : CurTo X Y c) : Y.length = X.length := by obtain ⟨a, rfl, _⟩ := h; simp
theorem CurTo.rdOb {X Y : Hp} {c id g : Nat} (h : CurTo X Y c) (hne : id ≠ c) : rdOb Y id g = Vm.rdOb X id g := by obtain ⟨a, rfl, _⟩ := h; exact rdOb_set_ne hne
theorem CurTo.low {X Y : Hp} {c lo : Nat} (h : CurTo X Y c) (hl : lo ≤ c) : Low lo X Y := fun id g o hi ho => by rw [h.rdOb (by omega)]; exact ho
theorem Cur.app {X : Hp} {c : Nat} (h : Cur X c) (L : Hp) : Cur (X ++ L) c := by
  obtain ⟨bs, i, h, xs, h1, h2, h3, h4⟩ := h
  exact ⟨bs, i, h, xs, rdOb_app L h1, Sl.app L h2, h3, h4⟩
theorem IsB.set3 {X : Hp} {c : Nat} {bs : CV} {xs : List Int} {cs : List CV} {ob : Ob} (h : IsB X bs xs) (hc : rdOb X c 0 = some ⟨cs, 0, true, 3⟩) : IsB (X.set c ob) bs xs := by
  rcases h with ⟨h1, h2, h3⟩ | ⟨id, g, off, o, h1, h2, h3, h4⟩
  · exact .inl ⟨h1, h2, h3⟩
  · refine .inr ⟨id, g, off, o, h1, ?_, h3, h4⟩
    rw [rdOb_set_ne]; exact h2
    rintro rfl
    have a := (rdOb_some.1 h2).1
    rw [(rdOb_some.1 hc).1] at a
    injection a with a
    rw [← a] at h3
    cases h3
theorem gc_set {X : Hp} {c : Nat} {ob : Ob} {r : IV} (hf : flatV r = true) : gcRet X r (X.set c ob) = (r, X.set c ob) := gc_len (by simp) hf

set_option maxRecDepth 100000 in
theorem byte_call {X : Hp} {c : Nat} (h : Cur X c) : ∃ r Y, 0 ≤ r ∧ r ≤ 255 ∧ CurTo X Y c ∧ ∀ k : IV × Hp → Prop, CM 122 [.c (.p c 0 0)] X k = k (.c (.i r), Y) := by
  obtain ⟨bs, i, hh, xs, h1, h2, h3, h4⟩ := h
  obtain ⟨h', hh'⟩ : ∃ h', wrap64 (wrap64 (hh * 6364136223846793005) + 1442695040888963407) = h' := ⟨_, rfl⟩
  obtain ⟨x, hx⟩ : ∃ x, bits .and .i64 (bits .xor .i64 (h' / 8589934592) (h' / 35184372088832)) 255 = x := ⟨_, rfl⟩
  have hlt := rdOb_lt h1
  have g1 : rdOb (X.set c ⟨[bs, .i i, .i h'], 0, true, 3⟩) c 0 = some ⟨[bs, .i i, .i h'], 0, true, 3⟩ := by rw [rdOb_set_self hlt]; simp
  have g2 : IsB (X.set c ⟨[bs, .i i, .i h'], 0, true, 3⟩) bs xs := h2.set3 h1
  by_cases hlt2 : i < (xs.length : Int)
  · obtain ⟨n, rfl⟩ : ∃ n : Nat, i = n := ⟨i.toNat, by omega⟩
    have hn : n < xs.length := by omega
    obtain ⟨id, g, off, q1, q2⟩ := g2.at_ hn
    refine ⟨bits .and .i64 (wrap64 (x + wrap64 xs[n])) 255, X.set c ⟨[bs, .i (n + 1), .i h'], 0, true, 3⟩, by rw [and255]; omega, by rw [and255]; omega, ⟨_, rfl, ⟨bs, n + 1, h', xs, by rw [rdOb_set_self hlt]; simp, h2.set3 h1, h3, by omega⟩⟩, fun k => det (cw122 ?_) k⟩
    unfold vf122c
    simp [rdC_ob h1, h1, putAt, hh', rdC_ob g1, g1, hx, g2.lenOf, hlt2, q1, q2, up1 hn h3, hlt]
    exact gc_set rfl
  · refine ⟨x, X.set c ⟨[bs, .i i, .i h'], 0, true, 3⟩, by rw [← hx, and255]; omega, by rw [← hx, and255]; omega, ⟨_, rfl, ⟨bs, i, h', xs, g1, g2, h3, h4⟩⟩, fun k => det (cw122 ?_) k⟩
    unfold vf122c
    simp [rdC_ob h1, h1, putAt, hh', rdC_ob g1, g1, hx, g2.lenOf, hlt2]
    exact gc_set rfl

theorem tmod_in {r n : Int} (h0 : 0 ≤ r) (hn : 0 < n) : 0 ≤ r.tmod n ∧ r.tmod n < n := by
  rw [Int.tmod_eq_emod_of_nonneg h0]
  exact ⟨Int.emod_nonneg _ (by omega), Int.emod_lt_of_pos _ hn⟩
theorem gc_cur {X Y : Hp} {c : Nat} {r : IV} (h : CurTo X Y c) (hf : flatV r = true) : gcRet X r Y = (r, Y) := gc_len h.len hf
theorem below_call {X : Hp} {c : Nat} (h : Cur X c) (n : Int) : ∃ r Y, 0 ≤ r ∧ (0 < n → r < n) ∧ (n ≤ 0 → r = 0) ∧ CurTo X Y c ∧ ∀ k : IV × Hp → Prop, CM 83 [.c (.p c 0 0), .c (.i n)] X k = k (.c (.i r), Y) := by
  by_cases h0 : n ≤ 0
  · refine ⟨0, X, by omega, by omega, fun _ => rfl, .refl h, fun k => det (cw83 ?_) k⟩
    unfold vf83c
    simp [h0]
  · by_cases h1 : n ≤ 256
    · obtain ⟨r, Y, a, b, d, e⟩ := byte_call h
      obtain ⟨m1, m2⟩ := tmod_in a (show 0 < n by omega)
      refine ⟨r.tmod n, Y, m1, fun _ => m2, fun h => by omega, d, fun k => det (cw83 ?_) k⟩
      unfold vf83c
      have hne : ¬ n = 0 := by omega
      simp [h0, h1, e, hne]
      exact gc_cur d rfl
    · obtain ⟨r1, Y1, a1, b1, d1, e1⟩ := byte_call h
      obtain ⟨r2, Y2, a2, b2, d2, e2⟩ := byte_call d1.cur
      obtain ⟨r3, Y3, a3, b3, d3, e3⟩ := byte_call d2.cur
      obtain ⟨r4, Y4, a4, b4, d4, e4⟩ := byte_call d3.cur
      have w1 : wrap64 (r1 * 16777216) = r1 * 16777216 := wrap64_id (by omega)
      have w2 : wrap64 (r2 * 65536) = r2 * 65536 := wrap64_id (by omega)
      have w3 : wrap64 (r1 * 16777216 + r2 * 65536) = r1 * 16777216 + r2 * 65536 := wrap64_id (by omega)
      have w4 : wrap64 (r3 * 256) = r3 * 256 := wrap64_id (by omega)
      have w5 : wrap64 (r1 * 16777216 + r2 * 65536 + r3 * 256) = r1 * 16777216 + r2 * 65536 + r3 * 256 := wrap64_id (by omega)
      have w6 : wrap64 (r1 * 16777216 + r2 * 65536 + r3 * 256 + r4) = r1 * 16777216 + r2 * 65536 + r3 * 256 + r4 := wrap64_id (by omega)
      have hpos : 0 ≤ r1 * 16777216 + r2 * 65536 + r3 * 256 + r4 := by clear w1 w2 w3 w4 w5 w6; omega
      have hne : ¬ n = 0 := by clear w1 w2 w3 w4 w5 w6; omega
      have hp : 0 < n := by clear w1 w2 w3 w4 w5 w6; omega
      obtain ⟨m1, m2⟩ := tmod_in hpos hp
      have d := d1.trans (d2.trans (d3.trans d4))
      refine ⟨(r1 * 16777216 + r2 * 65536 + r3 * 256 + r4).tmod n, Y4, m1, fun _ => m2, fun h => by exact absurd h h0, d, fun k => det (cw83 ?_) k⟩
      unfold vf83c
      simp [h0, h1, e1, e2, e3, e4, w1, w2, w3, w4, w5, w6, hne]
      exact gc_cur d rfl
theorem once_call {X : Hp} {c : Nat} (h : Cur X c) (n : Int) : ∃ r Y, CurTo X Y c ∧ ∀ k : IV × Hp → Prop, CM 85 [.c (.p c 0 0), .c (.i n)] X k = k (.c (.b r), Y) := by
  obtain ⟨r, Y, _, _, _, d, e⟩ := below_call h n
  refine ⟨decide (r = 0), Y, d, fun k => det (cw85 ?_) k⟩
  unfold vf85c
  simp [e]
  exact gc_cur d rfl
theorem IsI.cur {X Y : Hp} {c : Nat} {v : CV} {xs : List Int} (hv : IsI X v xs) (hc : Cur X c) (h : CurTo X Y c) : IsI Y v xs := by
  obtain ⟨ob, rfl, _⟩ := h
  obtain ⟨bs, i, hh, ys, h1, _⟩ := hc
  rcases hv with ⟨h1, h2, h3⟩ | ⟨id, g, off, o, e1, h2, h3, h4⟩
  · exact .inl ⟨h1, h2, h3⟩
  · refine .inr ⟨id, g, off, o, e1, ?_, h3, h4⟩
    rw [rdOb_set_ne]; exact h2
    rintro rfl
    have a := (rdOb_some.1 h2).1
    rw [(rdOb_some.1 h1).1] at a
    injection a with a
    rw [← a] at h3
    cases h3
theorem pick_call {X : Hp} {c : Nat} (h : Cur X c) {v : CV} {xs : List Int} (hv : IsI X v xs) (h0 : 0 < xs.length) : ∃ r Y, r ∈ xs ∧ CurTo X Y c ∧ ∀ k : IV × Hp → Prop, CM 123 [.c (.p c 0 0), .c v] X k = k (.c (.i r), Y) := by
  obtain ⟨r, Y, a, b, _, d, e⟩ := below_call h xs.length
  have b := b (by omega)
  obtain ⟨n, rfl⟩ : ∃ n : Nat, r = n := ⟨r.toNat, by omega⟩
  have hn : n < xs.length := by omega
  obtain ⟨id, g, off, q1, q2⟩ := (hv.cur h d).at_ hn
  refine ⟨xs[n], Y, List.getElem_mem hn, d, fun k => det (cw123 ?_) k⟩
  unfold vf123c
  simp [hv.lenOf, e, q1, q2]
  exact gc_cur d rfl
/-- The reader has gone on; all else is as it was, and more may have been made. -/
structure CurL (c : Nat) (X Z : Hp) : Prop where
  cur : Cur Z c
  le : X.length ≤ Z.length
  keep : ∀ id g o, id ≠ c → rdOb X id g = some o → rdOb Z id g = some o
theorem CurTo.l {X Y : Hp} {c : Nat} (h : CurTo X Y c) : CurL c X Y := ⟨h.cur, Nat.le_of_eq h.len.symm, fun id g o hne ho => by rw [h.rdOb hne]; exact ho⟩
theorem CurL.refl {X : Hp} {c : Nat} (h : Cur X c) : CurL c X X := ⟨h, Nat.le_refl _, fun _ _ _ _ h => h⟩
theorem CurL.trans {X Y Z : Hp} {c : Nat} (h : CurL c X Y) (k : CurL c Y Z) : CurL c X Z := ⟨k.cur, Nat.le_trans h.le k.le, fun id g o hne ho => k.keep id g o hne (h.keep id g o hne ho)⟩
theorem CurL.app {X Z : Hp} {c : Nat} (h : CurL c X Z) (L : Hp) : CurL c X (Z ++ L) := ⟨h.cur.app L, by simp; have := h.le; omega, fun id g o hne ho => rdOb_app L (h.keep id g o hne ho)⟩
theorem CurL.mk' {X Z : Hp} {c : Nat} (h : Cur X c) (L : Hp) : CurL c X (X ++ L) := (CurL.refl h).app L
theorem CurL.pre {H X Z : Hp} {c : Nat} (h : CurL c X Z) (hp : Pre H X) (hc : H.length ≤ c) : Pre H Z := Low.pre (lo := c) (fun id g o hl ho => h.keep id g o (by omega) ho) hp hc
theorem gc_flat2 {X Z : Hp} {r : IV} (hf : flatV r = true) : gcRet X r Z = (r, X) ∨ gcRet X r Z = (r, Z) := by
  unfold gcRet; split <;> simp [hf]
theorem CurL.gc {X Z : Hp} {c : Nat} (h : CurL c X Z) (hx : Cur X c) {r : IV} (hf : flatV r = true) : ∃ Z', gcRet X r Z = (r, Z') ∧ CurL c X Z' := by
  rcases gc_flat2 (X := X) (Z := Z) hf with e | e
  · exact ⟨_, e, .refl hx⟩
  · exact ⟨_, e, h⟩
theorem num_call {X : Hp} {c : Nat} (h : Cur X c) : ∃ x Z, InR x ∧ CurL c X Z ∧ ∀ k : IV × Hp → Prop, CM 90 [.c (.p c 0 0)] X k = k (.c (.i x), Z) := by
  obtain ⟨r, Y, d, e⟩ := once_call h 8
  cases r with
  | false =>
    obtain ⟨r2, Y2, a2, b2, _, d2, e2⟩ := below_call d.cur 20
    refine ⟨wrap64 (r2 - 6), Y2, wrap_in _, (d.trans d2).l, fun k => det (cw90 ?_) k⟩
    unfold vf90c
    simp [e, e2]
    exact gc_cur (d.trans d2) rfl
  | true =>
    obtain ⟨cs, hcs⟩ : ∃ cs : List CV, [CV.i 9223372036854775807, .i (-9223372036854775808), .i 4294967296, .i (-1), .i 63, .i 64, .i 1000000007] = cs := ⟨_, rfl⟩
    obtain ⟨Y1, hY1⟩ : ∃ Y1, Y ++ [(⟨cs, 0, true, 1⟩ : Ob)] = Y1 := ⟨_, rfl⟩
    have hc1 : CurL c X Y1 := by rw [← hY1]; exact d.l.app _
    have hv : IsI Y1 (.sl Y.length 0 0 7) [9223372036854775807, -9223372036854775808, 4294967296, -1, 63, 64, 1000000007] := by
      rw [← hY1]; exact IsI.mk (off := 0) (xs := [9223372036854775807, -9223372036854775808, 4294967296, -1, 63, 64, 1000000007]) (o := ⟨cs, 0, true, 1⟩) (by simp) rfl (by rw [← hcs]; simp) (by rw [← hcs]; simp)
    obtain ⟨r2, Y2, a2, d2, e2⟩ := pick_call hc1.cur hv (by simp)
    obtain ⟨Z, z1, z2⟩ := (hc1.trans d2.l).gc h (r := .c (.i r2)) rfl
    refine ⟨r2, Z, by simp at a2; unfold InR; omega, z2, fun k => det (cw90 ?_) k⟩
    unfold vf90c
    simp [e, putAt, hcs, hY1, e2, z1]
theorem IsB.form {H : Hp} {v : CV} {xs : List Int} (h : IsB H v xs) : v = .ns ∨ ∃ id g off n, v = .sl id g off n := by
  rcases h with ⟨h, _⟩ | ⟨id, g, off, o, h, _⟩
  · exact .inl h
  · exact .inr ⟨_, _, _, _, h⟩
def NewRes (H : Hp) (v : CV) (r : IV × Hp) : Prop := ∃ h, r = (.c (.p H.length 0 0), H ++ [⟨[v, .i 0, .i h], 0, true, 3⟩])
theorem new_call {H : Hp} {v : CV} {xs : List Int} (hv : IsB H v xs) (hb : xs.length ≤ BIG) : CM 84 [.c v] H (NewRes H v) := by
  refine cw84 ?_
  unfold vf84c
  simp [hv.lenOf]
  have fin : ∀ h : Int, gcRet H (.c (.p H.length 0 0)) (H ++ [⟨[v, .i 0, .i h], 0, true, 3⟩]) = (.c (.p H.length 0 0), H ++ [⟨[v, .i 0, .i h], 0, true, 3⟩]) := fun h => by
    unfold gcRet
    rw [if_pos (by simp), if_neg (by simp [flatV, flatC])]
  refine wp_for CM_mono xs.length (fun i s => s.h = H ∧ Env.get s.e 0 = .c v ∧ (∃ h, Env.get s.e 3 = .c (.i h)) ∧ Env.get s.e 4 = .c (.i i)) (by simp) ?_ ?_
  · rintro i ⟨e, X⟩ hi ⟨rfl, h0, ⟨h, h3⟩, h4⟩
    simp only at h0 h3 h4 hv fin ⊢
    obtain ⟨id, g, off, q1, q2⟩ := hv.at_ hi
    unfold vf84b0
    by_cases hlt : i < 4000
    · have hlt' : (i : Int) < 4000 := by omega
      simp [h0, h3, h4, hv.lenOf, hi, q1, q2, hlt, hlt', up1 hi hb]
    · have hlt' : ¬ (i : Int) < 4000 := by omega
      simp [h0, h3, h4, hv.lenOf, hi, hlt, hlt', putAt]
      have fin := fin h
      rcases hv.form with rfl | ⟨_, _, _, _, rfl⟩ <;> simp [fin, putAt] <;> exact ⟨h, rfl⟩
  · rintro ⟨e, X⟩ ⟨rfl, h0, ⟨h, h3⟩, h4⟩
    simp only at h0 h3 h4 hv fin ⊢
    unfold vf84b0
    simp [h0, h3, h4, hv.lenOf, putAt]
    have fin := fin h
    rcases hv.form with rfl | ⟨_, _, _, _, rfl⟩ <;> simp [fin, putAt] <;> exact ⟨h, rfl⟩
/-- A reader that has just been made. -/
theorem new_cur {H : Hp} {v : CV} {xs : List Int} (hv : IsB H v xs) (hb : xs.length ≤ BIG) (h : Int) : Cur (H ++ [⟨[v, .i 0, .i h], 0, true, 3⟩]) H.length :=
  ⟨v, 0, h, xs, by simp, Sl.app _ hv, hb, by omega⟩
theorem big_call {H : Hp} {v : CV} {n : Nat} (hv : lenOf v = some n) (k : IV × Hp → Prop) : CM 15 [.c v] H k = k (.c (.b (decide (1048576 < n))), H) := by
  refine det (cw15 ?_) k
  unfold vf15c
  have e : ((1048576 : Int) < (n : Int)) = (1048576 < n) := by simp only [eq_iff_iff]; omega
  simp [hv, e]
/-- What a word's op does. -/
def wordF (op a b : Int) : Int :=
  if op = 1 then wrap64 (a + b) else if op = 2 then wrap64 (a - b) else if op = 3 then wrap64 (a * b) else if op = 4 then bits .and .i64 a b else if op = 5 then bits .or .i64 a b
  else if op = 6 then bits .xor .i64 a b else if op = 7 then (if a < b then 1 else 0) else if op = 8 then (if a = b then 1 else 0) else if op = 9 then wrap64 (a * 2 ^ (b % 64).toNat) else if op = 10 then a / 2 ^ (b % 64).toNat else 0
theorem and63 (n : Int) : Go.bits .and .i64 n 63 = n % 64 := by
  have h63 : (BitVec.ofInt 64 63).toNat = 2 ^ 6 - 1 := by decide
  have key : (BitVec.ofInt 64 n &&& BitVec.ofInt 64 63).toNat = (n % ((2 ^ 64 : Nat) : Int)).toNat % 2 ^ 6 := by
    rw [BitVec.toNat_and, BitVec.toNat_ofInt, h63, Nat.and_two_pow_sub_one_eq_mod]
  show IntKind.i64.wrap ((BitVec.ofInt 64 n &&& BitVec.ofInt 64 63).toNat : Nat) = n % 64
  rw [key, IntKind.wrap_i64]
  omega
theorem implBit (H : Hp) (x : Bool) (k : IV × Hp → Prop) : CM 91 [.c (.b x)] H k = k (.c (.i (if x = true then 1 else 0)), H) := by
  refine det (cw91 ?_) k
  unfold vf91c
  cases x <;> simp
theorem specBit (H : Hp) (x : Bool) (k : IV × Hp → Prop) : CM 92 [.c (.b x)] H k = k (.c (.i (if x = true then 1 else 0)), H) := by
  refine det (cw92 ?_) k
  unfold vf92c
  cases x <;> simp
theorem m64 (b : Int) : 0 ≤ b % 64 ∧ b % 64 ≤ 64 := by omega
theorem implWord (H : Hp) (op a b : Int) (k : IV × Hp → Prop) : CM 33 [.c (.i op), .c (.i a), .c (.i b)] H k = k (.c (.i (wordF op a b)), H) := by
  refine det (cw33 ?_) k
  unfold vf33c wordF
  have hm := m64 b
  by_cases h1 : op = 1
  · simp [h1]
  by_cases h2 : op = 2
  · simp [h2]
  by_cases h3 : op = 3
  · simp [h3]
  by_cases h4 : op = 4
  · simp [h4]
  by_cases h5 : op = 5
  · simp [h5]
  by_cases h6 : op = 6
  · simp [h6]
  by_cases h7 : op = 7
  · simp [h7, implBit]
  by_cases h8 : op = 8
  · simp [h8, implBit]
  by_cases h9 : op = 9
  · simp [h9, and63, hm.1, hm.2]
  by_cases h10 : op = 10
  · simp [h10, and63, hm.1, hm.2]
  simp [h1, h2, h3, h4, h5, h6, h7, h8, h9, h10]
theorem specWord (H : Hp) (op a b : Int) (k : IV × Hp → Prop) : CM 34 [.c (.i op), .c (.i a), .c (.i b)] H k = k (.c (.i (wordF op a b)), H) := by
  refine det (cw34 ?_) k
  unfold vf34c wordF
  have hm := m64 b
  by_cases h1 : op = 1
  · simp [h1]
  by_cases h2 : op = 2
  · simp [h2]
  by_cases h3 : op = 3
  · simp [h3]
  by_cases h4 : op = 4
  · simp [h4]
  by_cases h5 : op = 5
  · simp [h5]
  by_cases h6 : op = 6
  · simp [h6]
  by_cases h7 : op = 7
  · simp [h7, specBit]
  by_cases h8 : op = 8
  · simp [h8, specBit]
  by_cases h9 : op = 9
  · simp [h9, and63, hm.1, hm.2]
  by_cases h10 : op = 10
  · simp [h10, and63, hm.1, hm.2]
  simp [h1, h2, h3, h4, h5, h6, h7, h8, h9, h10]

/-- A word's op and two numbers. -/
def WordRes (r : IV × Hp) : Prop := ∃ op a b Z, r = (.tup [(false, [.i op]), (false, [.i a]), (false, [.i b])], Z) ∧ InR a ∧ InR b
theorem drawWord {H : Hp} {v : CV} {xs : List Int} (hv : IsB H v xs) (hb : xs.length ≤ BIG) : CM 32 [.c v] H WordRes := by
  refine cw32 ?_
  unfold vf32c
  simp
  refine (new_call hv hb).mono ?_
  rintro _ ⟨h, rfl⟩
  have hc := new_cur hv hb h
  obtain ⟨X1, hX1⟩ : ∃ X1, H ++ [(⟨[v, .i 0, .i h], 0, true, 3⟩ : Ob)] = X1 := ⟨_, rfl⟩
  rw [hX1] at hc ⊢
  obtain ⟨r1, X2, a1, b1, _, d1, e1⟩ := below_call hc 13
  obtain ⟨x, X3, a2, d2, e2⟩ := num_call d1.cur
  obtain ⟨y, X4, a3, d3, e3⟩ := num_call d2.cur
  simp [e1, e2, e3]
  rcases gc_flat2 (X := H) (Z := X4) (r := .tup [(false, [.i (wrap64 (r1 - 1))]), (false, [.i x]), (false, [.i y])]) rfl with e | e
  · rw [e]; exact ⟨_, _, _, _, rfl, a2, a3⟩
  · rw [e]; exact ⟨_, _, _, _, rfl, a2, a3⟩
end Go.Proofs.Ytnpbldjbfkpbcaa.Vm
