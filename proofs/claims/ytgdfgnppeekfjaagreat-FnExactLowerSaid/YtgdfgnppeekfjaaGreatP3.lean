import Derived.Test.YtgdfgnppeekfjaaGreatP2
section
/- A program that is being drawn, in memory: what lies where, by kinds. No conditions. -/
namespace Go.Proofs.YtgdfgnppeekfjaaGreat.Vm
open Go.RowKit (wrap64)
set_option linter.unusedSimpArgs false
set_option linter.unusedVariables false
/-- What an object is for. -/
inductive KK where
  | old | ints | cur | gen | blks | phis (b : Nat) | list (b : Nat) | arms
  deriving DecidableEq
def stab : KK → Bool
  | .old => true
  | .ints => true
  | .arms => true
  | _ => false
abbrev KM := Nat → KK
def KM.put (κ : KM) (i : Nat) (k : KK) : KM := fun j => if j = i then k else κ j
@[simp] theorem KM.put_self (κ : KM) (i : Nat) (k : KK) : κ.put i k i = k := by simp [KM.put]
theorem KM.put_ne (κ : KM) {i j : Nat} (k : KK) (h : j ≠ i) : κ.put i k j = κ j := by simp [KM.put, h]
def ArmsK (X : Hp) (κ : KM) (w : CV) : Prop := ∃ id g off m cs, w = .sl id g off m ∧ κ id = .arms ∧ rdOb X id g = some ⟨cs, g, true, 2⟩ ∧ allInt cs = true ∧ off + m * 2 ≤ cs.length ∧ m ≤ 4 ∧ 1 ≤ m
def PhisK (X : Hp) (κ : KM) (b : Nat) (z : CV) (p : Nat) : Prop := (z = .ns ∧ p = 0) ∨ ∃ id g cs, z = .sl id g 0 p ∧ κ id = .phis b ∧ rdOb X id g = some ⟨cs, g, true, 2⟩ ∧ cs.length = p * 2 ∧
  ∀ k, k < p → ∃ d w, cs[k * 2]? = some (.i d) ∧ cs[k * 2 + 1]? = some w ∧ ArmsK X κ w
def ListK (X : Hp) (κ : KM) (b : Nat) (u : CV) (l : Nat) : Prop := (u = .ns ∧ l = 0) ∨ ∃ id g cs, u = .sl id g 0 l ∧ κ id = .list b ∧ rdOb X id g = some ⟨cs, g, true, 5⟩ ∧ cs.length = l * 5 ∧ allInt cs = true
/-- A block's cells. -/
structure BlkK (X : Hp) (κ : KM) (s b : Nat) (z u : CV) (p l : Nat) : Prop where
  ph : PhisK X κ b z p
  ps : p ≤ s
  li : ListK X κ b u l
  ls : l ≤ 24
def CellK (X : Hp) (κ : KM) (s : Nat) (cells : List CV) (b : Nat) : Prop := ∃ z u a1 a2 a3 a4 p l, cells[b * 6]? = some z ∧ cells[b * 6 + 1]? = some u ∧ cells[b * 6 + 2]? = some (.i a1) ∧ cells[b * 6 + 3]? = some (.i a2) ∧ cells[b * 6 + 4]? = some (.i a3) ∧ cells[b * 6 + 5]? = some (.i a4) ∧ BlkK X κ s b z u p l
def FK (X : Hp) (κ : KM) (s : Nat) (v : CV) (n : Nat) : Prop := (v = .ns ∧ n = 0) ∨ ∃ d g cells, v = .sl d g 0 n ∧ κ d = .blks ∧ rdOb X d g = some ⟨cells, g, true, 6⟩ ∧ cells.length = n * 6 ∧ ∀ b, b < n → CellK X κ s cells b
def KeepB (κ κ' : KM) (Q : KK → Prop) (X Y : Hp) : Prop := ∀ id g o, Q (κ id) → rdOb X id g = some o → rdOb Y id g = some o ∧ κ' id = κ id
theorem ArmsK.keep {X Y : Hp} {κ κ' : KM} {w : CV} (h : ArmsK X κ w) (hk : KeepB κ κ' (fun k => k = .arms) X Y) : ArmsK Y κ' w := by
  obtain ⟨id, g, off, m, cs, h1, h2, h3, h4⟩ := h
  obtain ⟨a, b⟩ := hk _ _ _ h2 h3
  exact ⟨id, g, off, m, cs, h1, by rw [b, h2], a, h4⟩
theorem PhisK.keep {X Y : Hp} {κ κ' : KM} {b : Nat} {z : CV} {p : Nat} (h : PhisK X κ b z p) (hk : KeepB κ κ' (fun k => k = .arms ∨ k = .phis b) X Y) : PhisK Y κ' b z p := by
  rcases h with h | ⟨id, g, cs, h1, h2, h3, h4, h5⟩
  · exact .inl h
  · obtain ⟨a, e⟩ := hk _ _ _ (.inr h2) h3
    refine .inr ⟨id, g, cs, h1, by rw [e, h2], a, h4, fun k hk' => ?_⟩
    obtain ⟨d, w, q1, q2, q3⟩ := h5 k hk'
    exact ⟨d, w, q1, q2, q3.keep fun id g o h ho => hk id g o (.inl h) ho⟩
theorem ListK.keep {X Y : Hp} {κ κ' : KM} {b : Nat} {u : CV} {l : Nat} (h : ListK X κ b u l) (hk : KeepB κ κ' (fun k => k = .list b) X Y) : ListK Y κ' b u l := by
  rcases h with h | ⟨id, g, cs, h1, h2, h3, h4⟩
  · exact .inl h
  · obtain ⟨a, e⟩ := hk _ _ _ h2 h3
    exact .inr ⟨id, g, cs, h1, by rw [e, h2], a, h4⟩
def ofB (b : Nat) (k : KK) : Prop := k = .arms ∨ k = .phis b ∨ k = .list b
theorem BlkK.keep {X Y : Hp} {κ κ' : KM} {s s' b : Nat} {z u : CV} {p l : Nat} (h : BlkK X κ s b z u p l) (hs : s ≤ s') (hk : KeepB κ κ' (ofB b) X Y) : BlkK Y κ' s' b z u p l :=
  ⟨h.ph.keep fun id g o q ho => hk id g o (by rcases q with q | q; exact .inl q; exact .inr (.inl q)) ho, Nat.le_trans h.ps hs, h.li.keep fun id g o q ho => hk id g o (.inr (.inr q)) ho, h.ls⟩
theorem CellK.keep {X Y : Hp} {κ κ' : KM} {s s' b : Nat} {cells : List CV} (h : CellK X κ s cells b) (hs : s ≤ s') (hk : KeepB κ κ' (ofB b) X Y) : CellK Y κ' s' cells b := by
  obtain ⟨z, u, a1, a2, a3, a4, p, l, h1, h2, h3, h4, h5, h6, h7⟩ := h
  exact ⟨z, u, a1, a2, a3, a4, p, l, h1, h2, h3, h4, h5, h6, h7.keep hs hk⟩
def ofF (k : KK) : Prop := k = .blks ∨ ∃ b, ofB b k
theorem FK.keep {X Y : Hp} {κ κ' : KM} {s s' : Nat} {v : CV} {n : Nat} (h : FK X κ s v n) (hs : s ≤ s') (hk : KeepB κ κ' ofF X Y) : FK Y κ' s' v n := by
  rcases h with h | ⟨d, g, cells, h1, h2, h3, h4, h5⟩
  · exact .inl h
  · obtain ⟨a, e⟩ := hk _ _ _ (.inl h2) h3
    exact .inr ⟨d, g, cells, h1, by rw [e, h2], a, h4, fun b hb => (h5 b hb).keep hs fun id g o q ho => hk id g o (.inr ⟨b, q⟩) ho⟩
theorem FK.lenOf {X : Hp} {κ : KM} {s : Nat} {v : CV} {n : Nat} (h : FK X κ s v n) : lenOf v = some n := by
  rcases h with ⟨rfl, rfl⟩ | ⟨d, g, cells, rfl, _⟩ <;> rfl
theorem PhisK.lenOf {X : Hp} {κ : KM} {b : Nat} {v : CV} {n : Nat} (h : PhisK X κ b v n) : lenOf v = some n := by
  rcases h with ⟨rfl, rfl⟩ | ⟨d, g, cells, rfl, _⟩ <;> rfl
theorem ListK.lenOf {X : Hp} {κ : KM} {b : Nat} {v : CV} {n : Nat} (h : ListK X κ b v n) : lenOf v = some n := by
  rcases h with ⟨rfl, rfl⟩ | ⟨d, g, cells, rfl, _⟩ <;> rfl
/-! ### Seen as a program -/
theorem allInt_at {cs : List CV} (h : allInt cs = true) {j : Nat} (hj : j < cs.length) : ∃ m : Int, cs[j] = .i m := by
  induction cs generalizing j with
  | nil => simp at hj
  | cons a r ih =>
    cases a <;> simp [allInt] at h
    cases j with
    | zero => exact ⟨_, rfl⟩
    | succ j => exact ih h (by simpa using hj)
theorem cut_row {sz : Nat} : ∀ {n : Nat} {cells : List CV}, cells.length = n * sz → ∃ css : List (List CV), css.length = n ∧ cells = css.flatten ∧ ∀ (k : Nat) cs, css[k]? = some cs → cs = (cells.drop (k * sz)).take sz ∧ cs.length = sz := by
  intro n
  induction n with
  | zero =>
    intro cells h
    have : cells = [] := List.length_eq_zero_iff.1 (by simpa using h)
    subst this
    exact ⟨[], rfl, rfl, fun k cs h => by simp at h⟩
  | succ n ih =>
    intro cells h
    rw [Nat.succ_mul] at h
    obtain ⟨css, h1, h2, h3⟩ := ih (cells := cells.drop sz) (by rw [List.length_drop]; omega)
    refine ⟨cells.take sz :: css, by simp [h1], by rw [List.flatten_cons, ← h2, List.take_append_drop], fun k cs hk => ?_⟩
    cases k with
    | zero =>
      simp at hk; subst hk
      exact ⟨by simp, by rw [List.length_take]; omega⟩
    | succ k =>
      simp at hk
      obtain ⟨e1, e2⟩ := h3 k cs hk
      refine ⟨?_, e2⟩
      rw [e1, List.drop_drop, Nat.succ_mul]
      congr 2; omega
theorem row_of {α : Type} {P : Hp → List CV → α → Prop} {sz n id g off : Nat} {X : Hp} {o : Ob} (h1 : rdOb X id g = some o) (hs : o.sz = sz) (hl : off + n * sz ≤ o.cells.length)
    (hP : ∀ k, k < n → ∃ x, P X ((o.cells.drop (off + k * sz)).take sz) x) : ∃ xs : List α, xs.length = n ∧ Row P sz X (.sl id g off n) xs := by
  obtain ⟨css, c1, c2, c3⟩ := cut_row (sz := sz) (n := n) (cells := (o.cells.drop off).take (n * sz)) (by rw [List.length_take, List.length_drop]; omega)
  have c4 : ∀ (k : Nat) cs, css[k]? = some cs → cs = (o.cells.drop (off + k * sz)).take sz ∧ cs.length = sz := by
    intro k cs hk
    obtain ⟨e1, e2⟩ := c3 k cs hk
    refine ⟨?_, e2⟩
    rw [e1, List.drop_take, List.take_take, List.drop_drop]
    congr 1
    have : k < n := by have := (List.getElem?_eq_some_iff.1 hk).1; omega
    have : (k + 1) * sz ≤ n * sz := Nat.mul_le_mul_right _ this
    rw [Nat.succ_mul] at this
    omega
  obtain ⟨xs, x1, x2⟩ := choose_list (Q := fun cs x => cs.length = sz ∧ P X cs x) (css := css) fun cs hcs => by
    obtain ⟨k, hk, rfl⟩ := List.getElem_of_mem hcs
    obtain ⟨e1, e2⟩ := c4 k _ (List.getElem?_eq_getElem hk)
    obtain ⟨x, hx⟩ := hP k (by omega)
    exact ⟨x, e2, by rw [e1]; exact hx⟩
  refine ⟨xs, by omega, css, .inr ⟨id, g, off, o, by rw [x1, c1], h1, hs, by rw [x1, c1]; exact hl, by rw [x1, c1]; exact c2⟩, x1.symm, x2⟩
theorem cells2 {cs : List CV} {j : Nat} {a b : CV} (h1 : cs[j]? = some a) (h2 : cs[j + 1]? = some b) : (cs.drop j).take 2 = [a, b] := by
  apply List.ext_getElem?
  intro i
  rw [List.getElem?_take]
  rcases i with _ | _ | i
  · simp [h1]
  · simp [h2]
  · rw [if_neg (by omega)]; simp
theorem cells5 {cs : List CV} {j : Nat} {a b c d e : CV} (h1 : cs[j]? = some a) (h2 : cs[j + 1]? = some b) (h3 : cs[j + 2]? = some c) (h4 : cs[j + 3]? = some d) (h5 : cs[j + 4]? = some e) : (cs.drop j).take 5 = [a, b, c, d, e] := by
  apply List.ext_getElem?
  intro i
  rw [List.getElem?_take]
  rcases i with _ | _ | _ | _ | _ | i
  · simp [h1]
  · simp [h2]
  · simp [h3]
  · simp [h4]
  · simp [h5]
  · rw [if_neg (by omega)]; simp
theorem cells6 {cs : List CV} {j : Nat} {a b c d e f : CV} (h1 : cs[j]? = some a) (h2 : cs[j + 1]? = some b) (h3 : cs[j + 2]? = some c) (h4 : cs[j + 3]? = some d) (h5 : cs[j + 4]? = some e) (h6 : cs[j + 5]? = some f) : (cs.drop j).take 6 = [a, b, c, d, e, f] := by
  apply List.ext_getElem?
  intro i
  rw [List.getElem?_take]
  rcases i with _ | _ | _ | _ | _ | _ | i
  · simp [h1]
  · simp [h2]
  · simp [h3]
  · simp [h4]
  · simp [h5]
  · simp [h6]
  · rw [if_neg (by omega)]; simp
theorem ArmsK.row {X : Hp} {κ : KM} {w : CV} (h : ArmsK X κ w) : ∃ xs : List ArmR, Row armP 2 X w xs ∧ xs.length ≤ BIG := by
  obtain ⟨id, g, off, m, cs, rfl, _, h3, h4, h5, h6, _⟩ := h
  obtain ⟨xs, e, h⟩ := row_of (P := armP) (sz := 2) (n := m) (off := off) h3 rfl h5 fun k hk => by
    show ∃ x, armP X ((cs.drop (off + k * 2)).take 2) x
    have hk' : (k + 1) * 2 ≤ m * 2 := Nat.mul_le_mul_right _ hk
    obtain ⟨a, ha⟩ := allInt_at h4 (j := off + k * 2) (by omega)
    obtain ⟨b, hb⟩ := allInt_at h4 (j := off + k * 2 + 1) (by omega)
    exact ⟨⟨a, b⟩, cells2 (by rw [List.getElem?_eq_getElem (by omega), ha]) (by rw [List.getElem?_eq_getElem (by omega), hb])⟩
  exact ⟨xs, h, by simp only [BIG]; omega⟩
theorem PhisK.row {X : Hp} {κ : KM} {b : Nat} {z : CV} {p : Nat} (h : PhisK X κ b z p) : ∃ xs : List PhiR, Phis X z xs ∧ xs.length = p := by
  rcases h with ⟨rfl, rfl⟩ | ⟨id, g, cs, rfl, _, h3, h4, h5⟩
  · exact ⟨[], Row.ns, rfl⟩
  · obtain ⟨xs, e, h⟩ := row_of (P := phiP BIG) (sz := 2) (n := p) (off := 0) h3 rfl (by simp only; omega) fun k hk => by
      show ∃ x, phiP BIG X ((cs.drop (0 + k * 2)).take 2) x
      obtain ⟨d, w, q1, q2, q3⟩ := h5 k hk
      obtain ⟨ar, r1, r2⟩ := q3.row
      rw [Nat.zero_add]
      exact ⟨⟨d, ar⟩, w, cells2 q1 q2, r1, r2⟩
    exact ⟨xs, h, e⟩
theorem ListK.row {X : Hp} {κ : KM} {b : Nat} {u : CV} {l : Nat} (h : ListK X κ b u l) : ∃ xs : List InsR, List5 X u xs ∧ xs.length = l := by
  rcases h with ⟨rfl, rfl⟩ | ⟨id, g, cs, rfl, _, h3, h4, h5⟩
  · exact ⟨[], Row.ns, rfl⟩
  · obtain ⟨xs, e, h⟩ := row_of (P := insP) (sz := 5) (n := l) (off := 0) h3 rfl (by simp only; omega) fun k hk => by
      show ∃ x, insP X ((cs.drop (0 + k * 5)).take 5) x
      have hk' : (k + 1) * 5 ≤ l * 5 := Nat.mul_le_mul_right _ hk
      obtain ⟨m1, e1⟩ := allInt_at h5 (j := k * 5) (by omega)
      obtain ⟨m2, e2⟩ := allInt_at h5 (j := k * 5 + 1) (by omega)
      obtain ⟨m3, e3⟩ := allInt_at h5 (j := k * 5 + 2) (by omega)
      obtain ⟨m4, e4⟩ := allInt_at h5 (j := k * 5 + 3) (by omega)
      obtain ⟨m5, e5⟩ := allInt_at h5 (j := k * 5 + 4) (by omega)
      rw [Nat.zero_add]
      exact ⟨⟨m1, m2, m3, m4, m5⟩, cells5 (by rw [List.getElem?_eq_getElem (by omega), e1]) (by rw [List.getElem?_eq_getElem (by omega), e2]) (by rw [List.getElem?_eq_getElem (by omega), e3]) (by rw [List.getElem?_eq_getElem (by omega), e4]) (by rw [List.getElem?_eq_getElem (by omega), e5])⟩
    exact ⟨xs, h, e⟩
theorem FK.row {X : Hp} {κ : KM} {s : Nat} {v : CV} {n : Nat} (h : FK X κ s v n) (hs : s ≤ BIG) : ∃ bs : List BlkR, Blocks X v bs ∧ bs.length = n := by
  rcases h with ⟨rfl, rfl⟩ | ⟨id, g, cs, rfl, _, h3, h4, h5⟩
  · exact ⟨[], Row.ns, rfl⟩
  · obtain ⟨xs, e, h⟩ := row_of (P := blkP BIG) (sz := 6) (n := n) (off := 0) h3 rfl (by simp only; omega) fun k hk => by
      show ∃ x, blkP BIG X ((cs.drop (0 + k * 6)).take 6) x
      obtain ⟨z, u, a1, a2, a3, a4, p, l, c1, c2, c3, c4, c5, c6, hB⟩ := h5 k hk
      obtain ⟨ps, r1, r2⟩ := hB.ph.row
      obtain ⟨ls, r3, r4⟩ := hB.li.row
      have hp := hB.ps
      have hl := hB.ls
      rw [Nat.zero_add]
      exact ⟨⟨ps, ls, ⟨a1, a2, a3, a4⟩⟩, z, u, cells6 c1 c2 c3 c4 c5 c6, r1, r3, by show ps.length ≤ BIG; omega, by show ls.length ≤ BIG; simp only [BIG]; omega⟩
    exact ⟨xs, h, e⟩
end Go.Proofs.YtgdfgnppeekfjaaGreat.Vm
end
section
/- A program that is being drawn: what each step leaves. No conditions. -/
namespace Go.Proofs.YtgdfgnppeekfjaaGreat.Vm
open Go.RowKit (wrap64)
set_option linter.unusedSimpArgs false
set_option linter.unusedVariables false
/-- From one heap to a later one: what stays, stays. -/
structure Stp (κ κ' : KM) (X Y : Hp) : Prop where
  le : X.length ≤ Y.length
  kap : ∀ id, id < X.length → κ' id = κ id
  keep : ∀ id g o, stab (κ id) = true → rdOb X id g = some o → rdOb Y id g = some o
theorem Stp.trans {κ κ' κ'' : KM} {X Y Z : Hp} (h : Stp κ κ' X Y) (k : Stp κ' κ'' Y Z) : Stp κ κ'' X Z :=
  ⟨Nat.le_trans h.le k.le, fun id hi => by rw [k.kap id (Nat.lt_of_lt_of_le hi h.le), h.kap id hi], fun id g o hs ho => k.keep id g o (by rw [h.kap id (rdOb_lt ho)]; exact hs) (h.keep id g o hs ho)⟩
theorem Stp.app {κ κ' : KM} (X L : Hp) (h : ∀ id, id < X.length → κ' id = κ id) : Stp κ κ' X (X ++ L) := ⟨by simp, h, fun _ _ _ _ h => rdOb_app L h⟩
theorem Stp.set {κ : KM} {X : Hp} {i : Nat} {o : Ob} (h : stab (κ i) = false) : Stp κ κ X (X.set i o) :=
  ⟨by simp, fun _ _ => rfl, fun id g ob hs ho => by rw [rdOb_set_ne]; exact ho; rintro rfl; rw [h] at hs; cases hs⟩
def KnownK (X : Hp) (κ : KM) (v : CV) (k : Nat) : Prop := (∃ xs, IsI X v xs ∧ xs.length = k) ∧ ∀ id g off m, v = .sl id g off m → stab (κ id) = true
theorem KnownK.keep {X Y : Hp} {κ κ' : KM} {v : CV} {k : Nat} (h : KnownK X κ v k) (hs : Stp κ κ' X Y) : KnownK Y κ' v k := by
  obtain ⟨⟨xs, h1, h2⟩, h3⟩ := h
  rcases h1 with ⟨rfl, a, b⟩ | ⟨id, g, off, o, rfl, a, b⟩
  · exact ⟨⟨xs, .inl ⟨rfl, a, b⟩, h2⟩, fun id g off m h => by cases h⟩
  · refine ⟨⟨xs, .inr ⟨id, g, off, o, rfl, hs.keep _ _ _ (h3 _ _ _ _ rfl) a, b⟩, h2⟩, fun id' g' off' m' h => ?_⟩
    cases h
    rw [hs.kap _ (rdOb_lt a)]; exact h3 _ _ _ _ rfl
theorem KnownK.lenOf {X : Hp} {κ : KM} {v : CV} {k : Nat} (h : KnownK X κ v k) : lenOf v = some k := by
  obtain ⟨⟨xs, h1, rfl⟩, _⟩ := h; exact h1.lenOf
/-- The one who draws: reader, program so far. -/
structure GW (X : Hp) (κ : KM) (c g s n : Nat) : Prop where
  cur : Cur X c
  kc : κ c = .cur
  kg : κ g = .gen
  fr : ∀ id, X.length ≤ id → κ id = .old
  low : ∀ id, id < c → κ id = .old
  gen : ∃ v m, rdOb X g 0 = some ⟨[.p c 0 0, v, .i m], 0, true, 3⟩ ∧ FK X κ s v n
theorem GW.app {X : Hp} {κ κ' : KM} {c g s n : Nat} (h : GW X κ c g s n) (L : Hp) (hk : ∀ id, id < X.length → κ' id = κ id) (hf : ∀ id, (X ++ L).length ≤ id → κ' id = .old) : GW (X ++ L) κ' c g s n ∧ Stp κ κ' X (X ++ L) := by
  obtain ⟨v, m, h1, h2⟩ := h.gen
  exact ⟨⟨h.cur.app L, by rw [hk _ h.cur.lt]; exact h.kc, by rw [hk _ (rdOb_lt h1)]; exact h.kg, hf, fun id hi => by rw [hk _ (Nat.lt_trans hi h.cur.lt)]; exact h.low id hi, v, m, rdOb_app L h1, h2.keep (Nat.le_refl _) fun id g o q ho => ⟨rdOb_app L ho, hk _ (rdOb_lt ho)⟩⟩, Stp.app X L hk⟩
theorem GW.le {X : Hp} {κ : KM} {c g s s' n : Nat} (h : GW X κ c g s n) (hs : s ≤ s') : GW X κ c g s' n := by
  obtain ⟨v, m, h1, h2⟩ := h.gen
  exact ⟨h.cur, h.kc, h.kg, h.fr, h.low, v, m, h1, h2.keep hs fun id g o q ho => ⟨ho, rfl⟩⟩
theorem Cur.set {X : Hp} {c i : Nat} {o : Ob} (h : Cur X c) (hne : c ≠ i) (hi : ∀ g ob, rdOb X i g = some ob → ob.sz ≠ 1) : Cur (X.set i o) c := by
  obtain ⟨bs, j, hh, xs, h1, h2, h3, h4⟩ := h
  refine ⟨bs, j, hh, xs, by rw [rdOb_set_ne hne]; exact h1, ?_, h3, h4⟩
  rcases h2 with ⟨a, b, d⟩ | ⟨id, g, off, ob, a, b, d, e⟩
  · exact .inl ⟨a, b, d⟩
  · refine .inr ⟨id, g, off, ob, a, ?_, d, e⟩
    rw [rdOb_set_ne]; exact b
    rintro rfl
    exact hi _ _ b d
end Go.Proofs.YtgdfgnppeekfjaaGreat.Vm
end
section
/- A program that is being drawn: values, blocks, places. No conditions. -/
namespace Go.Proofs.YtgdfgnppeekfjaaGreat.Vm
open Go.RowKit (wrap64)
set_option linter.unusedSimpArgs false
set_option linter.unusedVariables false
theorem KM.put_lt (κ : KM) (i : Nat) (k : KK) {id : Nat} (h : id < i) : κ.put i k id = κ id := KM.put_ne κ k (by omega)
theorem GW.setV {X Z : Hp} {κ κ' : KM} {c g s n : Nat} (h : GW X κ c g s n) {v : CV} {m : Int} (hg : rdOb X g 0 = some ⟨[.p c 0 0, v, .i m], 0, true, 3⟩) {v' : CV} {s' n' : Nat} (hv : FK Z κ' s' v' n') (hle : X.length ≤ Z.length) (hk : ∀ id, id < X.length → κ' id = κ id)
    (hf : ∀ id, Z.length ≤ id → κ' id = .old) (keep : ∀ id g o, ¬ ofF (κ id) ∨ κ id = .arms → rdOb X id g = some o → rdOb Z id g = some o) :
    GW (Z.set g ⟨[.p c 0 0, v', .i m], 0, true, 3⟩) κ' c g s' n' ∧ Stp κ κ' X (Z.set g ⟨[.p c 0 0, v', .i m], 0, true, 3⟩) := by
  have hgl := rdOb_lt hg
  have hgc : c ≠ g := by rintro rfl; have a := h.kc; rw [h.kg] at a; cases a
  have nF : ∀ k : KK, (k = .cur ∨ k = .gen ∨ k = .old ∨ k = .ints) → ¬ ofF k := by
    rintro k hk (q | ⟨b, q | q | q⟩) <;> rw [q] at hk <;> simp at hk
  have hgZ : rdOb Z g 0 = some ⟨[.p c 0 0, v, .i m], 0, true, 3⟩ := keep _ _ _ (.inl (nF _ (by rw [h.kg]; simp))) hg
  have hkg : κ' g = .gen := by rw [hk _ hgl]; exact h.kg
  refine ⟨⟨?_, by rw [hk _ h.cur.lt]; exact h.kc, hkg, fun id hi => hf id (by simpa using hi), fun id hi => by rw [hk _ (Nat.lt_trans hi h.cur.lt)]; exact h.low id hi, v', m, by rw [rdOb_set_self (rdOb_lt hgZ)]; simp, hv.keep (Nat.le_refl _) fun id gg o q ho => ⟨?_, rfl⟩⟩, by simpa using hle, hk, fun id gg o hs ho => ?_⟩
  · have hcZ : Cur Z c := by
      obtain ⟨bs, i, hh, xs, h1, h2, h3, h4⟩ := h.cur
      refine ⟨bs, i, hh, xs, keep _ _ _ (.inl (nF _ (by rw [h.kc]; simp))) h1, ?_, h3, h4⟩
      rcases h2 with ⟨a, b, d⟩ | ⟨id, gg, off, ob, a, b, d, e⟩
      · exact .inl ⟨a, b, d⟩
      · refine .inr ⟨id, gg, off, ob, a, keep _ _ _ ?_ b, d, e⟩
        exact .inl (nF _ (by rw [h.low _ (h4.2 _ _ _ _ a)]; simp))
    exact hcZ.set hgc fun gg ob ho => by
      have a := (rdOb_some.1 ho).1
      rw [(rdOb_some.1 hgZ).1] at a
      injection a with a
      rw [← a]; simp
  · rw [rdOb_set_ne]; exact ho
    rintro rfl
    rw [hkg] at q
    exact nF _ (by simp) q
  · rw [rdOb_set_ne (by rintro rfl; rw [h.kg] at hs; cases hs)]
    refine keep _ _ _ ?_ ho
    cases hkk : κ id <;> rw [hkk] at hs <;> first | (cases hs; done) | skip
    · exact .inl (nF _ (by simp))
    · exact .inl (nF _ (by simp))
    · exact .inr rfl
end Go.Proofs.YtgdfgnppeekfjaaGreat.Vm
end
section
/- A program that is being drawn: a place put behind a block. No conditions. -/
namespace Go.Proofs.YtgdfgnppeekfjaaGreat.Vm
open Go.RowKit (wrap64)
set_option linter.unusedSimpArgs false
set_option linter.unusedVariables false
theorem FK.opened {X : Hp} {κ : KM} {s : Nat} {v : CV} {n b : Nat} (h : FK X κ s v n) (hb : b < n) : ∃ d gd cells, v = .sl d gd 0 n ∧ κ d = .blks ∧ rdOb X d gd = some ⟨cells, gd, true, 6⟩ ∧ cells.length = n * 6 ∧ ∀ b, b < n → CellK X κ s cells b := by
  rcases h with ⟨_, rfl⟩ | h
  · omega
  · exact h
theorem set_ob {Z : Hp} {i g : Nat} {ob : Ob} (h : rdOb Z i g = some ob) : Z.set i ob = Z := by
  have hlt := rdOb_lt h
  have a := (rdOb_some.1 h).1
  rw [List.getElem?_eq_getElem hlt] at a
  injection a with a
  rw [← a]; simp
theorem FK.upd {X Z : Hp} {κ κ' : KM} {s s' d gd n b : Nat} {cells cells' : List CV} (hd : κ d = .blks) (h : ∀ b, b < n → CellK X κ s cells b) (hl : cells'.length = n * 6) (hdl : d < Z.length)
    (hne : ∀ j, ¬ (b * 6 ≤ j ∧ j < b * 6 + 6) → cells'[j]? = cells[j]?) (hk : ∀ id g o, κ id ≠ .blks → κ id ≠ .list b → κ id ≠ .phis b → rdOb X id g = some o → rdOb Z id g = some o ∧ κ' id = κ id) (hκ : κ' d = .blks)
    (hb : CellK (Z.set d ⟨cells', gd, true, 6⟩) κ' s' cells' b) (hs : s ≤ s') : FK (Z.set d ⟨cells', gd, true, 6⟩) κ' s' (.sl d gd 0 n) n := by
  refine .inr ⟨d, gd, cells', rfl, hκ, by rw [rdOb_set_self hdl]; simp, hl, fun b' hb' => ?_⟩
  by_cases e : b' = b
  · subst e; exact hb
  · obtain ⟨z, u, a1, a2, a3, a4, p, l, c1, c2, c3, c4, c5, c6, hB⟩ := h b' hb'
    refine ⟨z, u, a1, a2, a3, a4, p, l, ?_, ?_, ?_, ?_, ?_, ?_, hB.keep hs fun id g o q ho => ?_⟩
    all_goals first | (rw [hne _ (by omega)]; assumption) | skip
    have hq : κ id ≠ .blks ∧ κ id ≠ .list b ∧ κ id ≠ .phis b := by
      rcases q with q | q | q <;> rw [q] <;> simp
      · omega
      · omega
    obtain ⟨r1, r2⟩ := hk id g o hq.1 hq.2.1 hq.2.2 ho
    refine ⟨by rw [rdOb_set_ne]; exact r1; rintro rfl; exact hq.1 hd, r2⟩
theorem GW.inner {X Z : Hp} {κ κ' : KM} {c g s n : Nat} (h : GW X κ c g s n) {v : CV} {m : Int} (hg : rdOb X g 0 = some ⟨[.p c 0 0, v, .i m], 0, true, 3⟩) {s' : Nat} (hv : FK Z κ' s' v n) (hle : X.length ≤ Z.length) (hk : ∀ id, id < X.length → κ' id = κ id)
    (hf : ∀ id, Z.length ≤ id → κ' id = .old) (keep : ∀ id g o, ¬ ofF (κ id) ∨ κ id = .arms → rdOb X id g = some o → rdOb Z id g = some o) : GW Z κ' c g s' n ∧ Stp κ κ' X Z := by
  have := h.setV hg hv hle hk hf keep
  have nF : ¬ ofF (κ g) := by
    rw [h.kg]; rintro (q | ⟨b, q | q | q⟩) <;> cases q
  rwa [set_ob (keep _ _ _ (.inl nF) hg)] at this
theorem ListK.sl {X : Hp} {κ : KM} {b : Nat} {u : CV} {l : Nat} (h : ListK X κ b u (l + 1)) : ∃ i gi, u = .sl i gi 0 (l + 1) := by
  rcases h with ⟨_, h⟩ | ⟨id, g, cs, rfl, _⟩
  · omega
  · exact ⟨_, _, rfl⟩
end Go.Proofs.YtgdfgnppeekfjaaGreat.Vm
end
section
/- A program that is being drawn: a step. No conditions. -/
namespace Go.Proofs.YtgdfgnppeekfjaaGreat.Vm
open Go.RowKit (wrap64)
set_option linter.unusedSimpArgs false
set_option linter.unusedVariables false
theorem GW.rc {X : Hp} {κ : KM} {c g s n : Nat} (h : GW X κ c g s n) : rdC X g 0 0 = some (.p c 0 0) := by
  obtain ⟨v, m, hg, _⟩ := h.gen; rw [rdC_ob hg]; rfl
end Go.Proofs.YtgdfgnppeekfjaaGreat.Vm
end
section
/- A program that is being drawn: ends set, phis put, what a piece leaves. No conditions. -/
namespace Go.Proofs.YtgdfgnppeekfjaaGreat.Vm
open Go.RowKit (wrap64)
set_option linter.unusedSimpArgs false
set_option linter.unusedVariables false
theorem putAt_at {cs xs : List CV} {off : Nat} (h : off + xs.length ≤ cs.length) (j : Nat) : (putAt cs off xs)[j]? = if off ≤ j ∧ j < off + xs.length then xs[j - off]? else cs[j]? := by
  unfold putAt
  have h1 : (cs.take off).length = off := by rw [List.length_take]; omega
  by_cases hj : j < off
  · rw [if_neg (by omega), List.append_assoc, List.getElem?_append_left (by omega), List.getElem?_take, if_pos hj]
  · by_cases hj2 : j < off + xs.length
    · rw [if_pos (by omega), List.append_assoc, List.getElem?_append_right (by omega), h1, List.getElem?_append_left (by omega)]
    · rw [if_neg (by omega), List.getElem?_append_right (by rw [List.length_append]; omega), List.length_append, h1, List.getElem?_drop]
      congr 1; omega
theorem putAt_len2 {cs xs : List CV} {off : Nat} (h : off + xs.length ≤ cs.length) : (putAt cs off xs).length = cs.length := by
  unfold putAt; simp; omega
theorem nF_blks {k : KK} (q : ¬ ofF k ∨ k = .arms) : k ≠ .blks ∧ (∀ b, k ≠ .phis b) ∧ ∀ b, k ≠ .list b := by
  refine ⟨fun e => ?_, fun b e => ?_, fun b e => ?_⟩ <;> subst e <;> rcases q with q | q
  · exact q (.inl rfl)
  · cases q
  · exact q (.inr ⟨b, .inr (.inl rfl)⟩)
  · cases q
  · exact q (.inr ⟨b, .inr (.inr rfl)⟩)
  · cases q
theorem GW.term {X : Hp} {κ : KM} {c g s n b : Nat} (h : GW X κ c g s n) (hb : b < n) (k a t e : Int) : ∃ d gd cells X', rdC X g 0 1 = some (.sl d gd 0 n) ∧ rdOb X d gd = some ⟨cells, gd, true, 6⟩ ∧ b * 6 + 2 + 4 ≤ cells.length ∧
    X.set d ⟨putAt cells (b * 6 + 2) [.i k, .i a, .i t, .i e], gd, true, 6⟩ = X' ∧ GW X' κ c g s n ∧ Stp κ κ X X' := by
  obtain ⟨v, m, hg, hv⟩ := h.gen
  obtain ⟨d, gd, cells, rfl, hd, ho, hl, hC⟩ := hv.opened hb
  have hle : b * 6 + 2 + 4 ≤ cells.length := by omega
  have hle' : b * 6 + 2 + ([.i k, .i a, .i t, .i e] : List CV).length ≤ cells.length := hle
  have hdl := rdOb_lt ho
  refine ⟨d, gd, cells, _, by rw [rdC_ob hg]; rfl, ho, hle, rfl, ?_⟩
  have hFK : FK (X.set d ⟨putAt cells (b * 6 + 2) [.i k, .i a, .i t, .i e], gd, true, 6⟩) κ s (.sl d gd 0 n) n := by
    refine FK.upd (κ := κ) (κ' := κ) (b := b) hd hC (by rw [putAt_len2 hle']; exact hl) hdl (fun j hj => by rw [putAt_at hle', if_neg (by simp only [List.length_cons, List.length_nil]; omega)]) (fun id g o q1 q2 q3 ho => ⟨ho, rfl⟩) hd ?_ (Nat.le_refl _)
    obtain ⟨z, u, a1, a2, a3, a4, p, l, c1, c2, c3, c4, c5, c6, hB⟩ := hC b hb
    refine ⟨z, u, k, a, t, e, p, l, ?_, ?_, ?_, ?_, ?_, ?_, hB.keep (Nat.le_refl _) fun id g o q ho => ⟨?_, rfl⟩⟩
    · rw [putAt_at hle', if_neg (by omega)]; exact c1
    · rw [putAt_at hle', if_neg (by omega)]; exact c2
    · rw [putAt_at hle', if_pos (by simp), show b * 6 + 2 - (b * 6 + 2) = 0 by omega]; rfl
    · rw [putAt_at hle', if_pos (by simp), show b * 6 + 3 - (b * 6 + 2) = 1 by omega]; rfl
    · rw [putAt_at hle', if_pos (by simp), show b * 6 + 4 - (b * 6 + 2) = 2 by omega]; rfl
    · rw [putAt_at hle', if_pos (by simp), show b * 6 + 5 - (b * 6 + 2) = 3 by omega]; rfl
    · rw [rdOb_set_ne (by rintro rfl; rcases q with q | q | q <;> rw [hd] at q <;> cases q)]; exact ho
  exact h.inner hg hFK (by simp) (fun _ _ => rfl) (fun id hi => h.fr id (by simpa using hi)) fun id gg ob q ho => by
    rw [rdOb_set_ne (by rintro rfl; exact (nF_blks q).1 hd)]; exact ho
structure Pc (X : Hp) (κ : KM) (c g s n q A : Nat) (κ' : KM) (Y : Hp) (b : Nat) (v : CV) (s' n' q' : Nat) : Prop where
  gw : GW Y κ' c g s' n'
  st : Stp κ κ' X Y
  kn : KnownK Y κ' v q'
  q0 : 0 < q'
  bn : b < n'
  nn : n ≤ n'
  sA : s' ≤ s + A
  nA : n' ≤ n + A
  qA : q' ≤ q + A
end Go.Proofs.YtgdfgnppeekfjaaGreat.Vm
end
section
/- A program that is being drawn: choices. No conditions. -/
namespace Go.Proofs.YtgdfgnppeekfjaaGreat.Vm
open Go.RowKit (wrap64)
set_option linter.unusedSimpArgs false
set_option linter.unusedVariables false
/-- The one who draws, the blocks' row seen. -/
structure Op (X : Hp) (κ : KM) (c g s n d gd : Nat) (cells : List CV) (m : Int) : Prop where
  gw : GW X κ c g s n
  hg : rdOb X g 0 = some ⟨[.p c 0 0, .sl d gd 0 n, .i m], 0, true, 3⟩
  hd : κ d = .blks
  ho : rdOb X d gd = some ⟨cells, gd, true, 6⟩
  hl : cells.length = n * 6
  hC : ∀ b, b < n → CellK X κ s cells b
theorem GW.op {X : Hp} {κ : KM} {c g s n b : Nat} (h : GW X κ c g s n) (hb : b < n) : ∃ d gd cells m, Op X κ c g s n d gd cells m := by
  obtain ⟨v, m, hg, hv⟩ := h.gen
  obtain ⟨d, gd, cells, rfl, hd, ho, hl, hC⟩ := hv.opened hb
  exact ⟨d, gd, cells, m, h, hg, hd, ho, hl, hC⟩
theorem Op.rg {X : Hp} {κ : KM} {c g s n d gd : Nat} {cells : List CV} {m : Int} (h : Op X κ c g s n d gd cells m) : rdC X g 0 1 = some (.sl d gd 0 n) := by rw [rdC_ob h.hg]; rfl
theorem Op.app {X : Hp} {κ κ' : KM} {c g s n d gd : Nat} {cells : List CV} {m : Int} (h : Op X κ c g s n d gd cells m) (L : Hp) (hk : ∀ id, id < X.length → κ' id = κ id) (hf : ∀ id, (X ++ L).length ≤ id → κ' id = .old) : Op (X ++ L) κ' c g s n d gd cells m ∧ Stp κ κ' X (X ++ L) := by
  obtain ⟨g1, g2⟩ := h.gw.app L hk hf
  exact ⟨⟨g1, rdOb_app L h.hg, by rw [hk _ (rdOb_lt h.ho)]; exact h.hd, rdOb_app L h.ho, h.hl, fun b hb => (h.hC b hb).keep (Nat.le_refl _) fun id g o q ho => ⟨rdOb_app L ho, hk _ (rdOb_lt ho)⟩⟩, g2⟩
theorem put_old {κ : KM} {X : Hp} (hf : ∀ id, X.length ≤ id → κ id = .old) (k : KK) (o : Ob) : (∀ id, id < X.length → κ.put X.length k id = κ id) ∧ ∀ id, (X ++ [o]).length ≤ id → κ.put X.length k id = .old :=
  ⟨fun id hi => KM.put_lt _ _ _ hi, fun id hi => by simp at hi; rw [KM.put_ne _ _ (by omega)]; exact hf id (by omega)⟩
theorem Op.arms {X : Hp} {κ : KM} {c g s n d gd : Nat} {cells : List CV} {m : Int} (h : Op X κ c g s n d gd cells m) (x y z w : Int) :
    Op (X ++ [(⟨[.i x, .i y, .i z, .i w], 0, true, 2⟩ : Ob)]) (κ.put X.length .arms) c g s n d gd cells m ∧ Stp κ (κ.put X.length .arms) X (X ++ [(⟨[.i x, .i y, .i z, .i w], 0, true, 2⟩ : Ob)]) ∧ ArmsK (X ++ [(⟨[.i x, .i y, .i z, .i w], 0, true, 2⟩ : Ob)]) (κ.put X.length .arms) (.sl X.length 0 0 2) := by
  obtain ⟨p1, p2⟩ := put_old h.gw.fr .arms ⟨[.i x, .i y, .i z, .i w], 0, true, 2⟩
  obtain ⟨g1, g2⟩ := h.app _ p1 p2
  exact ⟨g1, g2, ⟨X.length, 0, 0, 2, _, rfl, by simp, by simp; rfl, rfl, by simp, by omega, by omega⟩⟩
theorem Op.setPhis {X Z : Hp} {κ κ' : KM} {c g s n d gd b : Nat} {cells : List CV} {m : Int} (h : Op X κ c g s n d gd cells m) (hb : b < n) {z' : CV} {p' : Nat} (hz : PhisK Z κ' b z' p') {s' : Nat} (hs : s ≤ s') (hp : p' ≤ s') (hle : X.length ≤ Z.length) (hk : ∀ id, id < X.length → κ' id = κ id)
    (hf : ∀ id, Z.length ≤ id → κ' id = .old) (keep : ∀ id g o, κ id ≠ .phis b → rdOb X id g = some o → rdOb Z id g = some o) :
    GW (Z.set d ⟨cells.set (b * 6) z', gd, true, 6⟩) κ' c g s' n ∧ Stp κ κ' X (Z.set d ⟨cells.set (b * 6) z', gd, true, 6⟩) := by
  have hdl := rdOb_lt h.ho
  have hoZ := keep _ _ _ (by rw [h.hd]; simp) h.ho
  have hl := h.hl
  have hFK : FK (Z.set d ⟨cells.set (b * 6) z', gd, true, 6⟩) κ' s' (.sl d gd 0 n) n := by
    refine FK.upd (κ := κ) (b := b) h.hd h.hC (by simpa using h.hl) (rdOb_lt hoZ) (fun j hj => by rw [List.getElem?_set, if_neg (by omega)]) (fun id g o q1 q2 q3 ho => ⟨keep id g o q3 ho, hk _ (rdOb_lt ho)⟩) (by rw [hk _ hdl]; exact h.hd) ?_ hs
    obtain ⟨z, u, a1, a2, a3, a4, p, l, c1, c2, c3, c4, c5, c6, hB⟩ := h.hC b hb
    refine ⟨z', u, a1, a2, a3, a4, p', l, ?_, ?_, ?_, ?_, ?_, ?_, ⟨hz.keep fun id g o q ho => ⟨?_, rfl⟩, hp, hB.li.keep fun id g o q ho => ⟨?_, hk _ (rdOb_lt ho)⟩, hB.ls⟩⟩
    · rw [List.getElem?_set, if_pos rfl, if_pos (by omega)]
    · rw [List.getElem?_set, if_neg (by omega)]; exact c2
    · rw [List.getElem?_set, if_neg (by omega)]; exact c3
    · rw [List.getElem?_set, if_neg (by omega)]; exact c4
    · rw [List.getElem?_set, if_neg (by omega)]; exact c5
    · rw [List.getElem?_set, if_neg (by omega)]; exact c6
    · rw [rdOb_set_ne (by rintro rfl; rw [hk _ hdl, h.hd] at q; rcases q with q | q <;> cases q)]; exact ho
    · rw [rdOb_set_ne (by rintro rfl; rw [h.hd] at q; cases q)]
      exact keep _ _ _ (by rw [q]; simp) ho
  exact h.gw.inner h.hg hFK (by simpa using hle) hk (fun id hi => hf id (by simpa using hi)) fun id gg ob q ho => by
    rw [rdOb_set_ne (by rintro rfl; exact (nF_blks q).1 h.hd)]
    exact keep _ _ _ ((nF_blks q).2.1 b) ho
end Go.Proofs.YtgdfgnppeekfjaaGreat.Vm
end
section
/- A program that is being drawn: a choice with two sides, with one. No conditions. -/
namespace Go.Proofs.YtgdfgnppeekfjaaGreat.Vm
open Go.RowKit (wrap64)
set_option linter.unusedSimpArgs false
set_option linter.unusedVariables false
section
variable (a b c d e f x y : CV) (r : List CV)
theorem putL0 : putAt (a :: r) 0 [x] = x :: r := by simp [putAt]
theorem putL1 : putAt (a :: b :: r) 1 [x] = a :: x :: r := by simp [putAt]
theorem putD0 : putAt (a :: b :: r) 0 [x, y] = x :: y :: r := by simp [putAt]
end
end Go.Proofs.YtgdfgnppeekfjaaGreat.Vm
end
section
/- A program that is being drawn: a choice with one side. No conditions. -/
namespace Go.Proofs.YtgdfgnppeekfjaaGreat.Vm
open Go.RowKit (wrap64)
set_option linter.unusedSimpArgs false
set_option linter.unusedVariables false
theorem Op.phis {X : Hp} {κ : KM} {c g s n d gd b : Nat} {cells : List CV} {m : Int} (h : Op X κ c g s n d gd cells m) (hb : b < n) {k : Nat} {pc : List CV} (hpc : pc.length = k * 2) (hcs : ∀ j, j < k → ∃ dd w, pc[j * 2]? = some (.i dd) ∧ pc[j * 2 + 1]? = some w ∧ ArmsK X κ w) :
    ∃ X' κ', (X ++ [(⟨pc, 0, true, 2⟩ : Ob)]).set d ⟨cells.set (b * 6) (.sl X.length 0 0 k), gd, true, 6⟩ = X' ∧ GW X' κ' c g (s + k) n ∧ Stp κ κ' X X' := by
  obtain ⟨p1, p2⟩ := put_old h.gw.fr (.phis b) ⟨pc, 0, true, 2⟩
  have hz : PhisK (X ++ [(⟨pc, 0, true, 2⟩ : Ob)]) (κ.put X.length (.phis b)) b (.sl X.length 0 0 k) k := by
    refine .inr ⟨X.length, 0, pc, rfl, by simp, by simp, hpc, fun j hj => ?_⟩
    obtain ⟨dd, w, a1, a2, a3⟩ := hcs j hj
    exact ⟨dd, w, a1, a2, a3.keep fun id g o _ ho => ⟨rdOb_app _ ho, p1 _ (rdOb_lt ho)⟩⟩
  obtain ⟨g1, g2⟩ := h.setPhis hb hz (s' := s + k) (by omega) (by omega) (by simp) p1 p2 fun id g o _ ho => rdOb_app _ ho
  exact ⟨_, _, rfl, g1, g2⟩
end Go.Proofs.YtgdfgnppeekfjaaGreat.Vm
end
section
/- A program that is being drawn: a loop. Its last region is taken in all orders. No conditions. -/
namespace Go.Proofs.YtgdfgnppeekfjaaGreat.Vm
open Go.RowKit (wrap64)
set_option linter.unusedSimpArgs false
set_option linter.unusedVariables false
theorem Op.ext {X Y : Hp} {κ κ' : KM} {c g s n d gd : Nat} {cells : List CV} {m : Int} (h : Op X κ c g s n d gd cells m) (hc : CurL c X Y) (hk : ∀ id, id < X.length → κ' id = κ id) (hf : ∀ id, Y.length ≤ id → κ' id = .old) : Op Y κ' c g s n d gd cells m ∧ Stp κ κ' X Y := by
  have key : ∀ id, κ id ≠ .cur → id ≠ c := fun id hi e => by subst e; exact hi h.gw.kc
  have hg' := hc.keep _ _ _ (key _ (by rw [h.gw.kg]; simp)) h.hg
  have hC' : ∀ b, b < n → CellK Y κ' s cells b := fun b hb => (h.hC b hb).keep (Nat.le_refl _) fun id g o q ho => ⟨hc.keep _ _ _ (key _ (by rcases q with q | q | q <;> rw [q] <;> simp)) ho, hk _ (rdOb_lt ho)⟩
  have hd' : κ' d = .blks := by rw [hk _ (rdOb_lt h.ho)]; exact h.hd
  have ho' := hc.keep _ _ _ (key _ (by rw [h.hd]; simp)) h.ho
  refine ⟨⟨⟨hc.cur, by rw [hk _ h.gw.cur.lt]; exact h.gw.kc, by rw [hk _ (rdOb_lt h.hg)]; exact h.gw.kg, hf, fun id hi => by rw [hk _ (Nat.lt_trans hi h.gw.cur.lt)]; exact h.gw.low id hi, _, m, hg', .inr ⟨d, gd, cells, rfl, hd', ho', h.hl, hC'⟩⟩, hg', hd', ho', h.hl, hC'⟩, hc.le, hk, fun id gg o hs ho => hc.keep _ _ _ ?_ ho⟩
  rintro rfl
  rw [h.gw.kc] at hs; cases hs
/-- What an operation of the region may leave. -/
inductive Cl where
  | v (x : IV) | int | pair | arms | phi | ints | row
def clOk (hd : Nat) (X : Hp) (κ : KM) : Cl → IV → Prop
  | .v x, u => u = x
  | .int, u => ∃ a, u = .c (.i a)
  | .pair, u => ∃ a b, u = .agg [.i a, .i b]
  | .arms, u => ∃ id, u = .c (.sl id 0 0 2) ∧ ArmsK X κ (.sl id 0 0 2)
  | .phi, u => ∃ a id, u = .agg [.i a, .sl id 0 0 2] ∧ ArmsK X κ (.sl id 0 0 2)
  | .ints, u => ∃ id xs, u = .c (.sl id 0 0 2) ∧ IsI X (.sl id 0 0 2) xs ∧ xs.length = 2 ∧ κ id = .ints
  | .row, u => ∃ id pc, u = .c (.sl id 0 0 3) ∧ PhisK X κ hd (.sl id 0 0 3) 3 ∧ rdOb X id 0 = some pc
theorem clOk.keep {hd : Nat} {X Y : Hp} {κ κ' : KM} {c : Nat} {k : Cl} {u : IV} (h : clOk hd X κ k u) (hκ : κ c = .cur) (hc : CurL c X Y) (hk : ∀ id, id < X.length → κ' id = κ id) : clOk hd Y κ' k u := by
  have kp : ∀ id g o, κ id ≠ .cur → rdOb X id g = some o → rdOb Y id g = some o ∧ κ' id = κ id := fun id g o hn ho => ⟨hc.keep _ _ _ (by rintro rfl; exact hn hκ) ho, hk _ (rdOb_lt ho)⟩
  cases k with
  | v x => exact h
  | int => exact h
  | pair => exact h
  | arms => obtain ⟨id, h1, h2⟩ := h; exact ⟨id, h1, h2.keep fun id g o q ho => kp id g o (by rw [q]; simp) ho⟩
  | phi => obtain ⟨a, id, h1, h2⟩ := h; exact ⟨a, id, h1, h2.keep fun id g o q ho => kp id g o (by rw [q]; simp) ho⟩
  | ints =>
    obtain ⟨id, xs, h1, h2, h3, h4⟩ := h
    rcases h2 with ⟨a, _⟩ | ⟨id', g', off', o, a, b, e⟩
    · cases a
    · injection a with a1 a2 a3 a4
      subst a1; subst a2; subst a3
      obtain ⟨r1, r2⟩ := kp _ _ _ (by rw [h4]; simp) b
      exact ⟨id, xs, h1, .inr ⟨id, 0, 0, o, by rw [h3], r1, e⟩, h3, by rw [r2, h4]⟩
  | row =>
    obtain ⟨id, pc, h1, h2, h3⟩ := h
    have h2' := h2
    rcases h2 with ⟨a, _⟩ | ⟨id', g', cs, a, b, e, _⟩
    · cases a
    · cases a
      obtain ⟨r1, r2⟩ := kp _ _ _ (by rw [b]; simp) h3
      exact ⟨id, pc, h1, h2'.keep fun id g o q ho => kp id g o (by rcases q with q | q <;> rw [q] <;> simp) ho, r1⟩
end Go.Proofs.YtgdfgnppeekfjaaGreat.Vm
end
section
/- A program that is being drawn: a loop; any piece. No conditions. -/
namespace Go.Proofs.YtgdfgnppeekfjaaGreat.Vm
open Go.RowKit (wrap64)
set_option linter.unusedSimpArgs false
set_option linter.unusedVariables false
end Go.Proofs.YtgdfgnppeekfjaaGreat.Vm
end
section
/- A program is drawn. No conditions. -/
namespace Go.Proofs.YtgdfgnppeekfjaaGreat.Vm
open Go.RowKit (wrap64)
set_option linter.unusedSimpArgs false
set_option linter.unusedVariables false
end Go.Proofs.YtgdfgnppeekfjaaGreat.Vm
end
section
/- A program is drawn, in which something may be amiss: what is turned in it. No conditions. -/
namespace Go.Proofs.YtgdfgnppeekfjaaGreat.Vm
open Go.RowKit (wrap64)
set_option linter.unusedSimpArgs false
set_option linter.unusedVariables false
section
variable (a b c d e f g h i j x : CV) (r : List CV)
end
def Hi (lo : Nat) (X Y : Hp) : Prop := ∀ id g o, lo ≤ id → rdOb X id g = some o → rdOb Y id g = some o
theorem Hi.trans {lo lo' : Nat} {X Y Z : Hp} (h : Hi lo X Y) (k : Hi lo' Y Z) (hl : lo' ≤ lo) : Hi lo X Z := fun id g o hi ho => k id g o (by omega) (h id g o hi ho)
theorem Pre.hi {lo : Nat} {X Y : Hp} (h : Pre X Y) : Hi lo X Y := fun _ _ _ _ ho => h.rdOb ho
theorem Hi.set {lo i : Nat} {X : Hp} (h : i < lo) (o : Ob) : Hi lo X (X.set i o) := fun id g ob hi ho => by rw [rdOb_set_ne (by omega)]; exact ho
theorem CurL.hi {lo c : Nat} {X Y : Hp} (h : CurL c X Y) (hc : c < lo) : Hi lo X Y := fun id g o hi ho => h.keep id g o (by omega) ho
def HiBlocks (lo : Nat) (X : Hp) (v : CV) (bs : List BlkR) : Prop := ∀ Y, Hi lo X Y → Blocks Y v bs
def mask (lo : Nat) (X : Hp) : Hp := X.mapIdx fun i o => if i < lo then ⟨[], 0, false, 999⟩ else o
theorem mask_hi {lo id g : Nat} {X : Hp} (h : lo ≤ id) : rdOb (mask lo X) id g = rdOb X id g := by
  unfold rdOb mask
  rw [List.getElem?_mapIdx]
  cases X[id]? with
  | none => rfl
  | some o => simp [show ¬ id < lo by omega]
theorem mask_lo {lo id g : Nat} {X : Hp} {o : Ob} (h : id < lo) (ho : rdOb (mask lo X) id g = some o) : o.sz = 999 := by
  have a := (rdOb_some.1 ho).1
  unfold mask at a
  rw [List.getElem?_mapIdx] at a
  cases hx : X[id]? with
  | none => rw [hx] at a; cases a
  | some q => rw [hx] at a; simp [h] at a; rw [← a]
def Sup (X Y : Hp) : Prop := ∀ id g o, o.sz ≠ 999 → rdOb X id g = some o → rdOb Y id g = some o
theorem Sl.sup {X Y : Hp} (h : Sup X Y) {sz n : Nat} (hs : sz ≠ 999) {v : CV} {cs : List CV} (k : Sl X sz v n cs) : Sl Y sz v n cs := by
  rcases k with k | ⟨id, g, off, o, a, b, c, d⟩
  · exact .inl k
  · exact .inr ⟨id, g, off, o, a, h _ _ _ (by rw [c]; exact hs) b, c, d⟩
theorem Row.sup {α : Type} {P : Hp → List CV → α → Prop} {sz : Nat} {X Y : Hp} (h : Sup X Y) (hs : sz ≠ 999) (hP : ∀ cs x, P X cs x → P Y cs x) {v : CV} {xs : List α} (k : Row P sz X v xs) : Row P sz Y v xs := by
  obtain ⟨css, h1, h2, h3⟩ := k
  exact ⟨css, Sl.sup h hs h1, h2, fun k cs x a b => ⟨(h3 k cs x a b).1, hP _ _ (h3 k cs x a b).2⟩⟩
theorem phiP.sup {B : Nat} {X Y : Hp} (h : Sup X Y) {cs : List CV} {p : PhiR} (k : phiP B X cs p) : phiP B Y cs p := by
  obtain ⟨w, h1, h2, h3⟩ := k; exact ⟨w, h1, h2.sup h (by omega) fun _ _ q => q, h3⟩
theorem blkP.sup {B : Nat} {X Y : Hp} (h : Sup X Y) {cs : List CV} {p : BlkR} (k : blkP B X cs p) : blkP B Y cs p := by
  obtain ⟨w, u, h1, h2, h3, h4⟩ := k; exact ⟨w, u, h1, h2.sup h (by omega) fun _ _ q => phiP.sup h q, h3.sup h (by omega) fun _ _ q => q, h4⟩
theorem Blocks.sup {X Y : Hp} (h : Sup X Y) {v : CV} {bs : List BlkR} (k : Blocks X v bs) : Blocks Y v bs := Row.sup h (by omega) (fun _ _ q => blkP.sup h q) k
theorem Hi.sup {lo : Nat} {X Y : Hp} (h : Hi lo X Y) : Sup (mask lo X) Y := fun id g o hs ho => by
  by_cases hl : id < lo
  · exact absurd (mask_lo hl ho) hs
  · rw [mask_hi (by omega)] at ho; exact h id g o (by omega) ho
theorem FK.hi {X : Hp} {κ : KM} {s n lo : Nat} {v : CV} (h : FK X κ s v n) (hs : s ≤ BIG) (hlo : ∀ id, id < lo → ¬ ofF (κ id)) : ∃ bs, HiBlocks lo X v bs ∧ bs.length = n := by
  have hm : FK (mask lo X) κ s v n := h.keep (Nat.le_refl _) fun id g o q ho => ⟨by rw [mask_hi (Nat.le_of_not_lt fun hl => hlo id hl q)]; exact ho, rfl⟩
  obtain ⟨bs, h1, h2⟩ := hm.row hs
  exact ⟨bs, fun Y hY => h1.sup hY.sup, h2⟩
def ArmsW (X : Hp) (κ : KM) (w : CV) : Prop := w = .ns ∨ ∃ id g off m cs, w = .sl id g off m ∧ κ id = .arms ∧ rdOb X id g = some ⟨cs, g, true, 2⟩ ∧ allInt cs = true ∧ off + m * 2 ≤ cs.length ∧ m ≤ 4
theorem ArmsK.w {X : Hp} {κ : KM} {w : CV} (h : ArmsK X κ w) : ArmsW X κ w := by
  obtain ⟨id, g, off, m, cs, h1, h2, h3, h4, h5, h6, _⟩ := h
  exact .inr ⟨id, g, off, m, cs, h1, h2, h3, h4, h5, h6⟩
theorem ArmsW.row {X : Hp} {κ : KM} {w : CV} (h : ArmsW X κ w) : ∃ xs : List ArmR, Row armP 2 X w xs ∧ xs.length ≤ BIG := by
  rcases h with rfl | ⟨id, g, off, m, cs, rfl, _, h3, h4, h5, h6⟩
  · exact ⟨[], Row.ns, Nat.zero_le _⟩
  · obtain ⟨xs, e, h⟩ := row_of (P := armP) (sz := 2) (n := m) (off := off) h3 rfl h5 fun k hk => by
      show ∃ x, armP X ((cs.drop (off + k * 2)).take 2) x
      have hk' : (k + 1) * 2 ≤ m * 2 := Nat.mul_le_mul_right _ hk
      obtain ⟨a, ha⟩ := allInt_at h4 (j := off + k * 2) (by omega)
      obtain ⟨b, hb⟩ := allInt_at h4 (j := off + k * 2 + 1) (by omega)
      exact ⟨⟨a, b⟩, cells2 (by rw [List.getElem?_eq_getElem (by omega), ha]) (by rw [List.getElem?_eq_getElem (by omega), hb])⟩
    exact ⟨xs, h, by simp only [BIG]; omega⟩
end Go.Proofs.YtgdfgnppeekfjaaGreat.Vm
end
