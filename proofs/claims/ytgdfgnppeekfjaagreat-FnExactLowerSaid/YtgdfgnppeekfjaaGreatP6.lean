import Derived.Test.YtgdfgnppeekfjaaGreatP1
import Derived.Test.YtgdfgnppeekfjaaGreatP2
section
/- Rows that lie in memory of their own, with all below them. No conditions. -/
namespace Go.Proofs.YtgdfgnppeekfjaaGreat.Vm
open Go.RowKit (wrap64)
set_option linter.unusedSimpArgs false
set_option linter.unusedVariables false
/-! ### Cells written over -/
theorem putAt_get3 {cs xs : List CV} {o : Nat} (h : o + xs.length ≤ cs.length) (i : Nat) : (putAt cs o xs)[i]? = if i < o then cs[i]? else if i < o + xs.length then xs[i - o]? else cs[i]? := by
  unfold putAt
  by_cases h1 : i < o
  · rw [if_pos h1, List.append_assoc, List.getElem?_append_left (by simp; omega), List.getElem?_take, if_pos h1]
  · rw [if_neg h1]
    by_cases h2 : i < o + xs.length
    · rw [if_pos h2, List.append_assoc, List.getElem?_append_right (by simp; omega), List.getElem?_append_left (by simp; omega)]
      congr 1; simp; omega
    · rw [if_neg h2, List.getElem?_append_right (by simp; omega), List.getElem?_drop]
      congr 1; simp; omega
def chk (cells : List CV) (sz k : Nat) : List CV := (cells.drop (k * sz)).take sz
theorem chk_at (cells : List CV) (sz k j : Nat) : (chk cells sz k)[j]? = if j < sz then cells[k * sz + j]? else none := by
  unfold chk
  rw [List.getElem?_take]
  split
  · rw [List.getElem?_drop]
  · rfl
theorem chk_len {cells : List CV} {sz k : Nat} (h : k * sz + sz ≤ cells.length) : (chk cells sz k).length = sz := by unfold chk; simp; omega
theorem chk_put {cells : List CV} {sz k j : Nat} {ys : List CV} (hj : j + ys.length ≤ sz) (h : k * sz + sz ≤ cells.length) : chk (putAt cells (k * sz + j) ys) sz k = putAt (chk cells sz k) j ys := by
  apply List.ext_getElem?
  intro i
  rw [chk_at, putAt_get3 (by omega), putAt_get3 (by rw [chk_len h]; omega), chk_at]
  by_cases hi : i < sz
  · simp only [if_pos hi]
    by_cases h1 : i < j
    · rw [if_pos h1, if_pos (by omega)]
    · rw [if_neg h1, if_neg (by omega)]
      by_cases h2 : i < j + ys.length
      · rw [if_pos h2, if_pos (by omega)]; congr 1; omega
      · rw [if_neg h2, if_neg (by omega)]
  · simp only [if_neg hi]
    rw [if_neg (by omega), if_neg (by omega)]
theorem chk_other {cells : List CV} {sz k k' j : Nat} {ys : List CV} (hk : k' ≠ k) (hj : j + ys.length ≤ sz) (h : k * sz + sz ≤ cells.length) : chk (putAt cells (k * sz + j) ys) sz k' = chk cells sz k' := by
  apply List.ext_getElem?
  intro i
  rw [chk_at, chk_at]
  by_cases hi : i < sz
  · rw [if_pos hi, if_pos hi, putAt_get3 (by omega)]
    rcases Nat.lt_or_gt_of_ne hk with h1 | h1
    · have h2 : (k' + 1) * sz ≤ k * sz := Nat.mul_le_mul_right _ h1
      rw [Nat.succ_mul] at h2
      rw [if_pos (by omega)]
    · have h2 : (k + 1) * sz ≤ k' * sz := Nat.mul_le_mul_right _ h1
      rw [Nat.succ_mul] at h2
      rw [if_neg (by omega), if_neg (by omega)]
  · rw [if_neg hi, if_neg hi]
theorem chk_app {cells ds : List CV} {sz k : Nat} (h : k * sz + sz ≤ cells.length) : chk (cells ++ ds) sz k = chk cells sz k := by
  apply List.ext_getElem?
  intro i
  rw [chk_at, chk_at]
  by_cases hi : i < sz
  · rw [if_pos hi, if_pos hi, List.getElem?_append_left (by omega)]
  · rw [if_neg hi, if_neg hi]
theorem chk_last {cells cs : List CV} {sz k : Nat} (h : cells.length = k * sz) (hc : cs.length = sz) : chk (cells ++ cs) sz k = cs := by
  unfold chk
  rw [← h, List.drop_left, List.take_of_length_le (by omega)]
theorem chk_fit {cells : List CV} {sz k n m : Nat} (hm : cells.length = m * sz) (hn : n ≤ m) (hk : k < n) : k * sz + sz ≤ cells.length := by
  have h2 : (k + 1) * sz ≤ m * sz := Nat.mul_le_mul_right _ (by omega)
  rw [Nat.succ_mul] at h2; omega
theorem chks_flat (cells : List CV) (sz : Nat) : ∀ n, n * sz ≤ cells.length → ((List.range n).map (chk cells sz)).flatten = cells.take (n * sz) := by
  intro n
  induction n with
  | zero => intro _; simp
  | succ n ih =>
    intro h
    rw [Nat.succ_mul] at h ⊢
    rw [List.range_succ, List.map_append, List.flatten_append, ih (by omega)]
    simp only [List.map_cons, List.map_nil, List.flatten_cons, List.flatten_nil, List.append_nil]
    unfold chk
    rw [List.take_add]
/-! ### What is left alone -/
def Frm (G : Nat → Prop) (X Y : Hp) : Prop := ∀ i, i < X.length → G i → Y[i]? = X[i]?
theorem Frm.lt {G : Nat → Prop} {X Y : Hp} (h : Frm G X Y) {i : Nat} (hi : i < X.length) (hG : G i) : i < Y.length := by
  have := h i hi hG
  rw [List.getElem?_eq_getElem hi] at this
  exact (List.getElem?_eq_some_iff.1 this).1
theorem Frm.refl (G : Nat → Prop) (X : Hp) : Frm G X X := fun _ _ _ => rfl
theorem Frm.trans {G : Nat → Prop} {X Y Z : Hp} (h : Frm G X Y) (k : Frm G Y Z) : Frm G X Z := fun i hi hG => (k i (h.lt hi hG) hG).trans (h i hi hG)
theorem Frm.mono {G G' : Nat → Prop} {X Y : Hp} (h : Frm G X Y) (hG : ∀ i, G' i → G i) : Frm G' X Y := fun i hi k => h i hi (hG i k)
theorem Frm.app (G : Nat → Prop) (X L : Hp) : Frm G X (X ++ L) := fun i hi _ => List.getElem?_append_left hi
theorem Frm.set {G : Nat → Prop} (X : Hp) {id : Nat} (o : Ob) (h : ¬ G id) : Frm G X (X.set id o) := fun i hi hG => List.getElem?_set_ne (by rintro rfl; exact h hG)
theorem Frm.pre {G : Nat → Prop} {X Y : Hp} (h : Pre X Y) : Frm G X Y := by obtain ⟨L, rfl⟩ := h; exact Frm.app G X L
theorem Frm.ob {G : Nat → Prop} {X Y : Hp} (h : Frm G X Y) {id g : Nat} {o : Ob} (hg : G id) (ho : rdOb X id g = some o) : rdOb Y id g = some o := by
  have h1 := rdOb_some.1 ho
  exact rdOb_some.2 ⟨by rw [h id (rdOb_lt ho) hg]; exact h1.1, h1.2⟩
theorem Frm.cut {X Y H : Hp} (h : Frm (fun i => i < H.length) X Y) (hp : Pre H X) : Pre H Y := by
  obtain ⟨L, rfl⟩ := hp
  refine ⟨Y.drop H.length, ?_⟩
  apply List.ext_getElem?
  intro i
  by_cases hi : i < H.length
  · rw [List.getElem?_append_left hi, h i (by simp; omega) hi, List.getElem?_append_left hi]
  · rw [List.getElem?_append_right (by omega), List.getElem?_drop]
    congr 1; omega
/-- What is said of an element stays true while what it owns is left alone. -/
structure Stab {α : Type} (P : Hp → List CV → α → (Nat → Prop) → Prop) : Prop where
  st : ∀ {X Y : Hp} {cs : List CV} {x : α} {G : Nat → Prop}, Frm G X Y → P X cs x G → P Y cs x G
/-- A row in an object of its own: its place, its cells, what each element owns. -/
structure FPc {α : Type} (P : Hp → List CV → α → (Nat → Prop) → Prop) (sz : Nat) (X : Hp) (id g : Nat) (cells : List CV) (xs : List α) (F : Nat → Prop) (Fs : Nat → Nat → Prop) : Prop where
  ob : rdOb X id g = some ⟨cells, g, true, sz⟩
  len : ∃ m, cells.length = m * sz ∧ xs.length ≤ m
  own : F id
  sub : ∀ k i, k < xs.length → Fs k i → F i ∧ i ≠ id ∧ i < X.length
  dis : ∀ j k i, j < xs.length → k < xs.length → j ≠ k → Fs j i → ¬ Fs k i
  el : ∀ k (h : k < xs.length), P X (chk cells sz k) xs[k] (Fs k)
def FRow {α : Type} (P : Hp → List CV → α → (Nat → Prop) → Prop) (sz : Nat) (X : Hp) (w : CV) (xs : List α) (F : Nat → Prop) : Prop :=
  (w = .ns ∧ xs = []) ∨ ∃ id g cells Fs, w = .sl id g 0 xs.length ∧ FPc P sz X id g cells xs F Fs
section
variable {α : Type} {P : Hp → List CV → α → (Nat → Prop) → Prop} {sz : Nat} {X Y : Hp} {id g : Nat} {cells : List CV} {xs : List α} {F F' : Nat → Prop} {Fs : Nat → Nat → Prop} {w : CV}
theorem FPc.lt (h : FPc P sz X id g cells xs F Fs) : id < X.length := rdOb_lt h.ob
theorem FPc.fit (h : FPc P sz X id g cells xs F Fs) {k : Nat} (hk : k < xs.length) : k * sz + sz ≤ cells.length := by
  obtain ⟨m, h1, h2⟩ := h.len
  exact chk_fit h1 h2 hk
theorem FPc.fr (hP : Stab P) (h : FPc P sz X id g cells xs F Fs) (hf : Frm F X Y) : FPc P sz Y id g cells xs F Fs :=
  ⟨hf.ob h.own h.ob, h.len, h.own, fun k i hk hi => ⟨(h.sub k i hk hi).1, (h.sub k i hk hi).2.1, hf.lt (h.sub k i hk hi).2.2 (h.sub k i hk hi).1⟩, h.dis, fun k hk => hP.st (hf.mono fun i hi => (h.sub k i hk hi).1) (h.el k hk)⟩
theorem FPc.mono (h : FPc P sz X id g cells xs F Fs) (hF : ∀ i, F i → F' i) : FPc P sz X id g cells xs F' Fs :=
  ⟨h.ob, h.len, hF _ h.own, fun k i hk hi => ⟨hF _ (h.sub k i hk hi).1, (h.sub k i hk hi).2⟩, h.dis, h.el⟩
theorem FPc.row (h : FPc P sz X id g cells xs F Fs) : FRow P sz X (.sl id g 0 xs.length) xs F := .inr ⟨_, _, _, _, rfl, h⟩
theorem FRow.fr (hP : Stab P) (h : FRow P sz X w xs F) (hf : Frm F X Y) : FRow P sz Y w xs F := by
  rcases h with h | ⟨id, g, cells, Fs, h1, h2⟩
  · exact .inl h
  · exact .inr ⟨id, g, cells, Fs, h1, h2.fr hP hf⟩
theorem FRow.mono (h : FRow P sz X w xs F) (hF : ∀ i, F i → F' i) : FRow P sz X w xs F' := by
  rcases h with h | ⟨id, g, cells, Fs, h1, h2⟩
  · exact .inl h
  · exact .inr ⟨id, g, cells, Fs, h1, h2.mono hF⟩
theorem FRow.ns : FRow P sz X .ns [] F := .inl ⟨rfl, rfl⟩
theorem FRow.form (h : FRow P sz X w xs F) : w = .ns ∨ ∃ i g n, w = .sl i g 0 n := by
  rcases h with ⟨rfl, rfl⟩ | ⟨id, g, cells, Fs, rfl, h2⟩
  · exact .inl rfl
  · exact .inr ⟨_, _, _, rfl⟩
theorem FRow.lenOf (h : FRow P sz X w xs F) : lenOf w = some xs.length := by
  rcases h with ⟨rfl, rfl⟩ | ⟨id, g, cells, Fs, rfl, h2⟩ <;> rfl
theorem FRow.open (h : FRow P sz X w xs F) {k : Nat} (hk : k < xs.length) : ∃ id g cells Fs, w = .sl id g 0 xs.length ∧ FPc P sz X id g cells xs F Fs := by
  rcases h with ⟨rfl, rfl⟩ | h
  · simp at hk
  · exact h
theorem idx_sl {id g n k sz : Nat} (hk : k < n) : idxOf sz (.sl id g 0 n) (k : Int) = some (.p id g (k * sz)) := by simp [idxOf, hk]
theorem FPc.c (h : FPc P sz X id g cells xs F Fs) {k j : Nat} (hj : j < sz) : rdC X id g (k * sz + j) = (chk cells sz k)[j]? := by
  rw [rdC_ob h.ob, chk_at, if_pos hj]
theorem FPc.nn (h : FPc P sz X id g cells xs F Fs) {k : Nat} (hk : k < xs.length) : rdN X id g (k * sz) sz = some (chk cells sz k) := by
  rw [rdN_ob h.ob, if_pos (h.fit hk)]; rfl
theorem FPc.put (hP : Stab P) (h : FPc P sz X id g cells xs F Fs) {k : Nat} (hk : k < xs.length) {j : Nat} {ys : List CV} {x' : α} {G' : Nat → Prop} (hj : j + ys.length ≤ sz) (ho : rdOb Y id g = some ⟨putAt cells (k * sz + j) ys, g, true, sz⟩)
    (hf : Frm (fun i => F i ∧ i ≠ id ∧ ¬ Fs k i) X Y) (hG : ∀ i, G' i → F i ∧ i ≠ id ∧ i < Y.length ∧ (Fs k i ∨ X.length ≤ i)) (hp : P Y (putAt (chk cells sz k) j ys) x' G') :
    FPc P sz Y id g (putAt cells (k * sz + j) ys) (xs.set k x') F (fun m i => if m = k then G' i else Fs m i) := by
  have hfit := h.fit hk
  refine ⟨ho, ?_, h.own, fun m i hm hi => ?_, fun a b i ha hb hab h1 => ?_, fun m hm => ?_⟩
  · obtain ⟨m, h1, h2⟩ := h.len
    exact ⟨m, by rw [putAt_length (by omega)]; exact h1, by simpa using h2⟩
  · simp only [List.length_set] at hm
    by_cases e : m = k
    · rw [if_pos e] at hi
      exact ⟨(hG i hi).1, (hG i hi).2.1, (hG i hi).2.2.1⟩
    · rw [if_neg e] at hi
      obtain ⟨q1, q2, q3⟩ := h.sub m i hm hi
      exact ⟨q1, q2, hf.lt q3 ⟨q1, q2, fun h2 => h.dis m k i hm hk e hi h2⟩⟩
  · simp only [List.length_set] at ha hb
    by_cases e : a = k
    · rw [if_pos e] at h1
      rw [if_neg (by omega)]
      intro h2
      rcases (hG i h1).2.2.2 with h3 | h3
      · exact h.dis k b i hk hb (by omega) h3 h2
      · have := (h.sub b i hb h2).2.2; omega
    · rw [if_neg e] at h1
      by_cases e2 : b = k
      · rw [if_pos e2]
        intro h2
        rcases (hG i h2).2.2.2 with h3 | h3
        · exact h.dis k a i hk ha (by omega) h3 h1
        · have := (h.sub a i ha h1).2.2; omega
      · rw [if_neg e2]
        exact h.dis a b i ha hb hab h1
  · simp only [List.length_set] at hm
    by_cases e : m = k
    · subst e
      rw [chk_put hj hfit, List.getElem_set_self]
      simpa using hp
    · rw [chk_other e hj hfit, List.getElem_set_ne (Ne.symm e)]
      simp only [if_neg e]
      exact hP.st (hf.mono fun i hi => ⟨(h.sub m i hm hi).1, (h.sub m i hm hi).2.1, fun h2 => h.dis m k i hm hk e hi h2⟩) (h.el m hm)
theorem putAt_no (cs : List CV) (o : Nat) : putAt cs o [] = cs := by simp [putAt]
theorem FPc.nest (hP : Stab P) (h : FPc P sz X id g cells xs F Fs) {k : Nat} (hk : k < xs.length) {x' : α} (hl : X.length ≤ Y.length) (hf : Frm (fun i => F i ∧ ¬ Fs k i) X Y) (hp : P Y (chk cells sz k) x' (Fs k)) : FPc P sz Y id g cells (xs.set k x') F Fs := by
  have ho : rdOb Y id g = some ⟨cells, g, true, sz⟩ := hf.ob ⟨h.own, fun h2 => (h.sub k id hk h2).2.1 rfl⟩ h.ob
  have := h.put (Y := Y) (j := 0) (ys := []) (x' := x') (G' := Fs k) hP hk (by simp) (by rw [putAt_no]; exact ho) (hf.mono fun i hi => ⟨hi.1, hi.2.2⟩)
    (fun i hi => ⟨(h.sub k i hk hi).1, (h.sub k i hk hi).2.1, Nat.lt_of_lt_of_le (h.sub k i hk hi).2.2 hl, .inl hi⟩) (by rw [putAt_no]; exact hp)
  rw [putAt_no] at this
  have e : (fun (m i : Nat) => if m = k then Fs k i else Fs m i) = Fs := by
    funext m i
    by_cases e : m = k
    · rw [if_pos e, e]
    · rw [if_neg e]
  rwa [e] at this
theorem FRow.field (hP : Stab P) (h : FRow P sz X w xs F) {k : Nat} (hk : k < xs.length) (j : Nat) (hj : j < sz) (c : CV) (x' : α) (hp : ∀ Z cs G, P Z cs xs[k] G → P Z (putAt cs j [c]) x' G) :
    ∃ id g cells Z, idxOf sz w (k : Int) = some (.p id g (k * sz)) ∧ rdOb X id g = some ⟨cells, g, true, sz⟩ ∧ k * sz + j + 1 ≤ cells.length ∧ X.set id ⟨putAt cells (k * sz + j) [c], g, true, sz⟩ = Z ∧ FRow P sz Z w (xs.set k x') F ∧ Frm (fun i => ¬ F i) X Z ∧ Z.length = X.length := by
  obtain ⟨id, g, cells, Fs, rfl, hc⟩ := h.open hk
  clear h
  have hfit := hc.fit hk
  have hset : ∀ G : Nat → Prop, ¬ G id → Frm G X (X.set id ⟨putAt cells (k * sz + j) [c], g, true, sz⟩) := fun G hG => Frm.set X _ hG
  refine ⟨id, g, cells, _, idx_sl hk, hc.ob, by omega, rfl, ?_, hset _ (fun hn => hn hc.own), by simp⟩
  have := (hc.put (Y := X.set id ⟨putAt cells (k * sz + j) [c], g, true, sz⟩) (x' := x') (G' := Fs k) hP hk (j := j) (ys := [c]) (by simp; omega) (by rw [rdOb_set_self hc.lt]; simp) (hset _ fun hn => hn.2.1 rfl)
    (fun i hi => ⟨(hc.sub k i hk hi).1, (hc.sub k i hk hi).2.1, by simpa using (hc.sub k i hk hi).2.2, .inl hi⟩) (hp _ _ _ (hP.st (hset _ fun hn => (hc.sub k id hk hn).2.1 rfl) (hc.el k hk)))).row
  simpa using this
theorem FRow.bound (h : FRow P sz X w xs F) : FRow P sz X w xs (fun i => F i ∧ i < X.length) := by
  rcases h with h | ⟨id, g, cells, Fs, h1, h⟩
  · exact .inl h
  · exact .inr ⟨id, g, cells, Fs, h1, ⟨h.ob, h.len, ⟨h.own, h.lt⟩, fun k i hk hi => ⟨⟨(h.sub k i hk hi).1, (h.sub k i hk hi).2.2⟩, (h.sub k i hk hi).2⟩, h.dis, h.el⟩⟩
theorem FRow.view {P' : Hp → List CV → α → Prop} (h : FRow P sz X w xs F) (hP : ∀ cs x G, x ∈ xs → P X cs x G → P' X cs x) : Row P' sz X w xs := by
  rcases h with ⟨rfl, rfl⟩ | ⟨id, g, cells, Fs, rfl, h⟩
  · exact Row.ns
  · obtain ⟨m, h1, h2⟩ := h.len
    have hm : xs.length * sz ≤ m * sz := Nat.mul_le_mul_right _ h2
    refine ⟨(List.range xs.length).map (chk cells sz), .inr ⟨id, g, 0, _, rfl, h.ob, rfl, by simp only; omega, ?_⟩, by simp, fun k cs x a b => ?_⟩
    · rw [chks_flat _ _ _ (by omega), List.drop_zero]
    · have hk := (List.getElem?_eq_some_iff.1 b).1
      rw [List.getElem?_map, List.getElem?_range hk] at a
      simp at a
      subst a
      have := List.getElem?_eq_getElem hk
      rw [this] at b
      injection b with b
      subst b
      exact ⟨chk_len (h.fit hk), hP _ _ _ (List.getElem_mem hk) (h.el k hk)⟩
theorem FRow.snoc (hP : Stab P) (h : FRow P sz X w xs F) (hb : xs.length ≤ BIG) (hs : sz ≤ 8) (hs0 : 0 < sz) {cs : List CV} {x : α} {G : Nat → Prop} (hc : cs.length = sz) (hp : ∀ Z, Frm G X Z → P Z cs x G) (hG : ∀ i, G i → ¬ F i ∧ i < X.length) :
    ∃ i' g' Z, doApp X sz w 1 cs = some (.c (.sl i' g' 0 (xs.length + 1)), Z) ∧ FRow P sz Z (.sl i' g' 0 (xs.length + 1)) (xs ++ [x]) (fun i => F i ∨ G i ∨ (i = X.length ∧ i < Z.length)) ∧ Frm (fun i => ¬ F i) X Z ∧ X.length ≤ Z.length := by
  rcases h with ⟨rfl, rfl⟩ | ⟨id, g, cells, Fs, rfl, h⟩
  · refine ⟨X.length, 0, X ++ [⟨cs, 0, true, sz⟩], ?_, ?_, Frm.app _ _ _, by simp⟩
    · simp [doApp, fresh, hc, LIM]; omega
    · refine .inr ⟨X.length, 0, cs, fun _ => G, rfl, by simp, ⟨1, by simp [hc], by simp⟩, .inr (.inr ⟨rfl, by simp⟩), fun k i _ hi => ⟨.inr (.inl hi), ?_, ?_⟩, fun a b i ha hb hab => ?_, fun k hk => ?_⟩
      · have := (hG i hi).2; omega
      · have := (hG i hi).2; simp; omega
      · simp at ha hb; omega
      · have : k = 0 := by simpa using hk
        subst this
        have e : chk cs sz 0 = cs := by unfold chk; simp [← hc]
        rw [e]
        exact hp _ (Frm.app _ _ _)
  · obtain ⟨m, h1, h2⟩ := h.len
    by_cases hm : xs.length = m
    · -- grown
      have hl : xs.length * sz = cells.length := by rw [h1, hm]
      have hbz : m * sz ≤ BIG * 8 := Nat.mul_le_mul (by omega) hs
      have hZ : ∀ G : Nat → Prop, ¬ G id → Frm G X (X.set id ⟨cells ++ cs, g + 1, true, sz⟩) := fun G hG => Frm.set X _ hG
      refine ⟨id, g + 1, X.set id ⟨cells ++ cs, g + 1, true, sz⟩, ?_, ?_, hZ _ (fun hn => hn h.own), by simp⟩
      · have e1 : ¬ (xs.length * sz + cs.length ≤ cells.length) := by omega
        have e2 : xs.length * sz = cells.length ∧ cells.length + cs.length ≤ LIM := ⟨hl, by simp only [BIG] at hbz; simp only [LIM]; omega⟩
        simp only [doApp, h.ob, Option.bind_some]
        rw [if_pos (by simp), if_neg e1, if_pos e2]
      · refine .inr ⟨id, g + 1, cells ++ cs, fun k i => if k < xs.length then Fs k i else G i, by simp, by rw [rdOb_set_self h.lt]; simp, ⟨m + 1, by rw [List.length_append, h1, hc, Nat.succ_mul], by simp; omega⟩, Or.inl h.own, fun k i hk hi => ?_, fun a b i ha hb hab h3 h4 => ?_, fun k hk => ?_⟩
        · by_cases e : k < xs.length
          · rw [if_pos e] at hi
            obtain ⟨q1, q2, q3⟩ := h.sub k i e hi
            exact ⟨.inl q1, q2, by simpa using q3⟩
          · rw [if_neg e] at hi
            obtain ⟨q2, q3⟩ := hG i hi
            exact ⟨.inr (.inl hi), fun e => q2 (e ▸ h.own), by simpa using q3⟩
        · simp at ha hb
          by_cases e : a < xs.length
          · rw [if_pos e] at h3
            by_cases e2 : b < xs.length
            · rw [if_pos e2] at h4; exact h.dis a b i e e2 hab h3 h4
            · rw [if_neg e2] at h4; exact (hG i h4).1 (h.sub a i e h3).1
          · rw [if_neg e] at h3
            by_cases e2 : b < xs.length
            · rw [if_pos e2] at h4; exact (hG i h3).1 (h.sub b i e2 h4).1
            · omega
        · by_cases e : k < xs.length
          · rw [chk_app (h.fit e), List.getElem_append_left e]
            simp only [if_pos e]
            exact hP.st (hZ _ fun hn => (h.sub k id e hn).2.1 rfl) (h.el k e)
          · have e2 : k = xs.length := by simp at hk; omega
            subst e2
            rw [chk_last hl.symm hc]
            simp only [Nat.lt_irrefl, if_false]
            rw [List.getElem_append_right (Nat.le_refl _)]
            simpa using hp _ (hZ _ fun hn => (hG id hn).1 h.own)
    · -- there was room
      have hmm : (xs.length + 1) * sz ≤ m * sz := Nat.mul_le_mul_right _ (by omega)
      rw [Nat.succ_mul] at hmm
      have hle : xs.length * sz + cs.length ≤ cells.length := by omega
      have hZ : ∀ G : Nat → Prop, ¬ G id → Frm G X (X.set id ⟨putAt cells (xs.length * sz) cs, g, true, sz⟩) := fun G hG => Frm.set X _ hG
      refine ⟨id, g, X.set id ⟨putAt cells (xs.length * sz) cs, g, true, sz⟩, ?_, ?_, hZ _ (fun hn => hn h.own), by simp⟩
      · simp only [doApp, h.ob, Option.bind_some]
        rw [if_pos (by simp), if_pos hle]
      · have hp0 : putAt cells (xs.length * sz) cs = putAt cells (xs.length * sz + 0) cs := rfl
        refine .inr ⟨id, g, putAt cells (xs.length * sz) cs, fun k i => if k < xs.length then Fs k i else G i, by simp, by rw [rdOb_set_self h.lt]; simp, ⟨m, by rw [putAt_length hle]; exact h1, by simp; omega⟩, Or.inl h.own, fun k i hk hi => ?_, fun a b i ha hb hab h3 h4 => ?_, fun k hk => ?_⟩
        · by_cases e : k < xs.length
          · rw [if_pos e] at hi
            obtain ⟨q1, q2, q3⟩ := h.sub k i e hi
            exact ⟨.inl q1, q2, by simpa using q3⟩
          · rw [if_neg e] at hi
            obtain ⟨q2, q3⟩ := hG i hi
            exact ⟨.inr (.inl hi), fun e => q2 (e ▸ h.own), by simpa using q3⟩
        · simp at ha hb
          by_cases e : a < xs.length
          · rw [if_pos e] at h3
            by_cases e2 : b < xs.length
            · rw [if_pos e2] at h4; exact h.dis a b i e e2 hab h3 h4
            · rw [if_neg e2] at h4; exact (hG i h4).1 (h.sub a i e h3).1
          · rw [if_neg e] at h3
            by_cases e2 : b < xs.length
            · rw [if_pos e2] at h4; exact (hG i h3).1 (h.sub b i e2 h4).1
            · omega
        · by_cases e : k < xs.length
          · rw [hp0, chk_other (by omega) (by omega) (by omega), List.getElem_append_left e]
            simp only [if_pos e]
            exact hP.st (hZ _ fun hn => (h.sub k id e hn).2.1 rfl) (h.el k e)
          · have e2 : k = xs.length := by simp at hk; omega
            subst e2
            have e3 : putAt (chk cells sz xs.length) 0 cs = cs := by
              unfold putAt
              rw [List.drop_eq_nil_of_le (by rw [chk_len (by omega)]; omega)]; simp
            rw [hp0, chk_put (by omega) (by omega), e3]
            simp only [Nat.lt_irrefl, if_false]
            rw [List.getElem_append_right (Nat.le_refl _)]
            simpa using hp _ (hZ _ fun hn => (hG id hn).1 h.own)
end
/-! ### Programs of one's own -/
def armF (_ : Hp) (cs : List CV) (a : ArmR) (_ : Nat → Prop) : Prop := cs = armC a
def insF (_ : Hp) (cs : List CV) (x : InsR) (_ : Nat → Prop) : Prop := cs = insC x
def phiF (X : Hp) (cs : List CV) (p : PhiR) (G : Nat → Prop) : Prop := ∃ z, cs = [.i p.d, z] ∧ FRow armF 2 X z p.arms G ∧ p.arms.length ≤ BIG
def blkF (X : Hp) (cs : List CV) (b : BlkR) (G : Nat → Prop) : Prop :=
  ∃ (z u : CV) (Gz Gu : Nat → Prop), cs = z :: u :: trmC b.term ∧ FRow phiF 2 X z b.phis Gz ∧ FRow insF 5 X u b.list Gu ∧ (∀ i, Gz i → G i ∧ ¬ Gu i) ∧ (∀ i, Gu i → G i) ∧ b.phis.length ≤ BIG ∧ b.list.length ≤ BIG
theorem armF_st : Stab armF := ⟨fun _ h => h⟩
theorem insF_st : Stab insF := ⟨fun _ h => h⟩
theorem phiF_st : Stab phiF := by
  constructor
  intro X Y cs p G hf h
  obtain ⟨z, h1, h2, h3⟩ := h
  exact ⟨z, h1, h2.fr armF_st hf, h3⟩
theorem blkF_st : Stab blkF := by
  constructor
  intro X Y cs p G hf h
  obtain ⟨z, u, Gz, Gu, h1, h2, h3, h4, h5, h6⟩ := h
  exact ⟨z, u, Gz, Gu, h1, h2.fr phiF_st (hf.mono fun i hi => (h4 i hi).1), h3.fr insF_st (hf.mono h5), h4, h5, h6⟩
abbrev Tree (S : Nat → Prop) (X : Hp) (v : CV) (bs : List BlkR) : Prop := FRow blkF 6 X v bs S
theorem phiF.p {X : Hp} {cs : List CV} {p : PhiR} {G : Nat → Prop} (h : phiF X cs p G) : phiP BIG X cs p := by
  obtain ⟨z, h1, h2, h3⟩ := h
  exact ⟨z, h1, h2.view fun _ _ _ _ h => h, h3⟩
theorem blkF.p {X : Hp} {cs : List CV} {b : BlkR} {G : Nat → Prop} (h : blkF X cs b G) : blkP BIG X cs b := by
  obtain ⟨z, u, Gz, Gu, h1, h2, h3, h4, h5, h6, h7⟩ := h
  exact ⟨z, u, h1, h2.view fun _ _ _ _ h => phiF.p h, h3.view fun _ _ _ _ h => h, h6, h7⟩
theorem Tree.blocks {S : Nat → Prop} {X : Hp} {v : CV} {bs : List BlkR} (h : Tree S X v bs) : Blocks X v bs := FRow.view h fun _ _ _ _ h => blkF.p h
theorem Tree.at_ {S : Nat → Prop} {X : Hp} {v : CV} {bs : List BlkR} (h : Tree S X v bs) {b : Nat} (hb : b < bs.length) :
    ∃ id g cells Fs z u Gz Gu, v = .sl id g 0 bs.length ∧ FPc blkF 6 X id g cells bs S Fs ∧ chk cells 6 b = z :: u :: trmC bs[b].term ∧ FRow phiF 2 X z bs[b].phis Gz ∧ FRow insF 5 X u bs[b].list Gu ∧
      (∀ i, Gz i → Fs b i ∧ ¬ Gu i) ∧ (∀ i, Gu i → Fs b i) ∧ bs[b].phis.length ≤ BIG ∧ bs[b].list.length ≤ BIG := by
  obtain ⟨id, g, cells, Fs, rfl, hc⟩ := FRow.open h hb
  clear h
  obtain ⟨z, u, Gz, Gu, h1, h2, h3, h4, h5, h6, h7⟩ := hc.el b hb
  exact ⟨id, g, cells, Fs, z, u, Gz, Gu, rfl, hc, h1, h2, h3, h4, h5, h6, h7⟩
end Go.Proofs.YtgdfgnppeekfjaaGreat.Vm
end
section
/- Marks of a program of one's own: each number is told again. No conditions. -/
namespace Go.Proofs.YtgdfgnppeekfjaaGreat.Vm
open Go.RowKit (wrap64)
set_option linter.unusedSimpArgs false
set_option linter.unusedVariables false
/-! ### One place of a row in hand -/
section
variable {α : Type} {P : Hp → List CV → α → (Nat → Prop) → Prop} {sz : Nat} {X : Hp} {F : Nat → Prop} {w : CV} {ys r : List α} {x : α} {i : Nat}
theorem mid_get (ys r : List α) (x : α) : (ys ++ x :: r)[ys.length]? = some x := by rw [List.getElem?_append_right (Nat.le_refl _), Nat.sub_self]; rfl
theorem mid_set (ys r : List α) (x y : α) : (ys ++ x :: r).set ys.length y = ys ++ y :: r := by rw [List.set_append]; simp
theorem mid_at (ys r : List α) (x : α) (h : ys.length < (ys ++ x :: r).length) : (ys ++ x :: r)[ys.length] = x := by
  have := mid_get ys r x
  rw [List.getElem?_eq_getElem h] at this
  injection this
theorem FRow.fieldS (hP : Stab P) (h : FRow P sz X w (ys ++ x :: r) F) (hi : ys.length = i) (j : Nat) (hj : j < sz) (c : CV) (x' : α) (hp : ∀ Z cs G, P Z cs x G → P Z (putAt cs j [c]) x' G) :
    ∃ id g cells Z, idxOf sz w (i : Int) = some (.p id g (i * sz)) ∧ rdOb X id g = some ⟨cells, g, true, sz⟩ ∧ i * sz + j + 1 ≤ cells.length ∧ X.set id ⟨putAt cells (i * sz + j) [c], g, true, sz⟩ = Z ∧ FRow P sz Z w (ys ++ x' :: r) F ∧ Frm (fun i => ¬ F i) X Z ∧ Z.length = X.length := by
  subst hi
  have hk : ys.length < (ys ++ x :: r).length := by simp
  obtain ⟨id, g, cells, Z, h1, h2, h3, h4, h5, h6, h7⟩ := h.field hP hk j hj c x' (by rw [mid_at]; exact hp)
  rw [mid_set] at h5
  exact ⟨id, g, cells, Z, h1, h2, h3, h4, h5, h6, h7⟩
theorem FRow.nestS (hP : Stab P) (h : FRow P sz X w (ys ++ x :: r) F) (hi : ys.length = i) :
    ∃ id g cs, ∃ G : Nat → Prop, idxOf sz w (i : Int) = some (.p id g (i * sz)) ∧ cs.length = sz ∧ (∀ j c, cs[j]? = some c → rdC X id g (i * sz + j) = some c) ∧ P X cs x G ∧ (∀ i, G i → F i ∧ i ≠ id) ∧
      ∀ Y x', X.length ≤ Y.length → Frm (fun i => F i ∧ ¬ G i) X Y → P Y cs x' G → FRow P sz Y w (ys ++ x' :: r) F := by
  subst hi
  have hk : ys.length < (ys ++ x :: r).length := by simp
  obtain ⟨id, g, cells, Fs, rfl, hc⟩ := h.open hk
  clear h
  have hel := hc.el _ hk
  rw [mid_at] at hel
  refine ⟨id, g, _, Fs ys.length, idx_sl hk, chk_len (hc.fit hk), fun j c hjc => ?_, hel, fun i hi => ⟨(hc.sub _ i hk hi).1, (hc.sub _ i hk hi).2.1⟩, fun Y x' hl hf hp => ?_⟩
  · have hj : j < sz := by
      have := (List.getElem?_eq_some_iff.1 hjc).1
      rwa [chk_len (hc.fit hk)] at this
    rw [hc.c hj]; exact hjc
  · have := (hc.nest hP hk hl hf hp).row
    rw [mid_set] at this
    simpa using this
theorem FRow.wholeS (hP : Stab P) (h : FRow P sz X w (ys ++ x :: r) F) (hi : ys.length = i) {cs : List CV} {x' : α} (hc : cs.length = sz) (hp : ∀ Z, P Z cs x' (fun _ => False)) :
    ∃ id g cells Z, idxOf sz w (i : Int) = some (.p id g (i * sz)) ∧ rdOb X id g = some ⟨cells, g, true, sz⟩ ∧ i * sz + sz ≤ cells.length ∧ X.set id ⟨putAt cells (i * sz) cs, g, true, sz⟩ = Z ∧ FRow P sz Z w (ys ++ x' :: r) F ∧ Frm (fun i => ¬ F i) X Z ∧ Z.length = X.length := by
  subst hi
  have hk : ys.length < (ys ++ x :: r).length := by simp
  obtain ⟨id, g, cells, Fs, rfl, hc2⟩ := h.open hk
  clear h
  have hset : ∀ G : Nat → Prop, ¬ G id → Frm G X (X.set id ⟨putAt cells (ys.length * sz) cs, g, true, sz⟩) := fun G hG => Frm.set X _ hG
  refine ⟨id, g, cells, _, idx_sl hk, hc2.ob, hc2.fit hk, rfl, ?_, hset _ (fun hn => hn hc2.own), by simp⟩
  have e0 : ∀ q : List CV, q.length = sz → putAt q 0 cs = cs := fun q hq => by
    unfold putAt
    rw [List.drop_eq_nil_of_le (by omega)]; simp
  have := (hc2.put (Y := X.set id ⟨putAt cells (ys.length * sz) cs, g, true, sz⟩) (x' := x') (G' := fun _ => False) hP hk (j := 0) (ys := cs) (by omega) (by rw [Nat.add_zero, rdOb_set_self hc2.lt]; simp) (hset _ fun hn => hn.2.1 rfl)
    (fun i hi => hi.elim) (by rw [e0 _ (chk_len (hc2.fit hk))]; exact hp _)).row
  rw [mid_set] at this
  simpa using this
theorem drop_mid {xs : List α} {i : Nat} (hi : i < xs.length) : xs.drop i = xs[i] :: xs.drop (i + 1) := List.drop_eq_getElem_cons hi
end
/-! ### Numbers in a row, told again -/
def hds {α : Type} (f : Int → α → Option Int) (k : Int) (xs : List α) : Option Int := xs.foldl (fun o a => o.bind fun k => f k a) (some k)
theorem hds_snoc {α : Type} (f : Int → α → Option Int) (k : Int) (xs : List α) (a : α) : hds f k (xs ++ [a]) = (hds f k xs).bind fun m => f m a := by simp [hds]
theorem hds_none {α : Type} (f : Int → α → Option Int) : ∀ xs : List α, xs.foldl (fun o a => o.bind fun k => f k a) none = none := by
  intro xs
  induction xs with
  | nil => rfl
  | cons a r ih => simpa using ih
theorem hds_cons {α : Type} (f : Int → α → Option Int) (k : Int) (a : α) (r : List α) : hds f k (a :: r) = (f k a).bind fun m => hds f m r := by
  unfold hds
  cases h : f k a with
  | none => simp [h, hds_none]
  | some m => simp [h]
theorem hds_le {α : Type} {f : Int → α → Option Int} (hf : ∀ k a m, f k a = some m → k ≤ m) : ∀ {xs : List α} {k m : Int}, hds f k xs = some m → k ≤ m := by
  intro xs
  induction xs with
  | nil => intro k m h; simp [hds] at h; omega
  | cons a r ih =>
    intro k m h
    rw [hds_cons] at h
    cases h1 : f k a with
    | none => simp [h1] at h
    | some m1 =>
      simp [h1] at h
      have := ih h
      have := hf _ _ _ h1
      omega
theorem hds_at {α : Type} {f : Int → α → Option Int} (hf : ∀ k a m, f k a = some m → k ≤ m) {k m : Int} {xs : List α} (h : hds f k xs = some m) {i : Nat} (hi : i < xs.length) :
    ∃ m1 m2, hds f k (xs.take i) = some m1 ∧ f m1 xs[i] = some m2 ∧ hds f k (xs.take (i + 1)) = some m2 ∧ k ≤ m1 ∧ m1 ≤ m2 ∧ m2 ≤ m := by
  have e : xs = xs.take i ++ xs[i] :: xs.drop (i + 1) := by rw [← drop_mid hi, List.take_append_drop]
  have key : ∀ (a : List α) (k : Int) (b : List α), hds f k (a ++ b) = (hds f k a).bind fun m => hds f m b := by
    intro a
    induction a with
    | nil => intro k b; simp [hds]
    | cons x r ih =>
      intro k b
      rw [List.cons_append, hds_cons, hds_cons]
      cases f k x with
      | none => rfl
      | some m => simpa using ih m b
  rw [e, key] at h
  cases h1 : hds f k (xs.take i) with
  | none => simp [h1] at h
  | some m1 =>
    simp only [h1, Option.bind_some, hds_cons] at h
    cases h2 : f m1 xs[i] with
    | none => simp [h2] at h
    | some m2 =>
      simp only [h2, Option.bind_some] at h
      refine ⟨m1, m2, rfl, h2, ?_, hds_le hf h1, hf _ _ _ h2, hds_le hf h⟩
      rw [List.take_succ_eq_append_getElem hi, hds_snoc, h1]
      exact h2
def hdA (k : Int) (a : ArmR) : Option Int := if a.fr = k ∧ a.v = k + 1 then some (k + 1 + 1) else none
def hdI (k : Int) (x : InsR) : Option Int := if x.op = k ∧ x.d = k + 1 ∧ x.a = k + 1 + 1 ∧ x.b = k + 1 + 1 + 1 ∧ x.n = k + 1 + 1 + 1 + 1 then some (k + 1 + 1 + 1 + 1 + 1) else none
def hdP (k : Int) (p : PhiR) : Option Int := if p.d = k then hds hdA (k + 1) p.arms else none
def hdT (k : Int) (t : TrmR) : Option Int := if t.kind = k ∧ t.a = k + 1 ∧ t.to = k + 1 + 1 ∧ t.els = k + 1 + 1 + 1 then some (k + 1 + 1 + 1 + 1) else none
def hdB (k : Int) (b : BlkR) : Option Int := (hds hdP k b.phis).bind fun k1 => (hds hdI k1 b.list).bind fun k2 => hdT k2 b.term
theorem hdA_le (k : Int) (a : ArmR) (m : Int) (h : hdA k a = some m) : k ≤ m := by
  unfold hdA at h
  split at h
  · injection h; omega
  · cases h
theorem hdI_le (k : Int) (a : InsR) (m : Int) (h : hdI k a = some m) : k ≤ m := by
  unfold hdI at h
  split at h
  · injection h; omega
  · cases h
theorem hdT_le (k : Int) (a : TrmR) (m : Int) (h : hdT k a = some m) : k ≤ m := by
  unfold hdT at h
  split at h
  · injection h; omega
  · cases h
theorem hdP_le (k : Int) (p : PhiR) (m : Int) (h : hdP k p = some m) : k ≤ m := by
  unfold hdP at h
  split at h
  · have := hds_le hdA_le h; omega
  · cases h
theorem hdB_le (k : Int) (b : BlkR) (m : Int) (h : hdB k b = some m) : k ≤ m := by
  unfold hdB at h
  cases h1 : hds hdP k b.phis with
  | none => simp [h1] at h
  | some k1 =>
    cases h2 : hds hdI k1 b.list with
    | none => simp [h1, h2] at h
    | some k2 =>
      simp [h1, h2] at h
      have a1 := hds_le hdP_le h1
      have a2 := hds_le hdI_le h2
      have a3 := hdT_le _ _ _ h
      omega
def MkRes {α : Type} (P : Hp → List CV → α → (Nat → Prop) → Prop) (f : Int → α → Option Int) (sz : Nat) (F : Nat → Prop) (Y : Hp) (v : CV) (n : Nat) (k : Int) (c : Nat) (r : IV × Hp) : Prop :=
  ∃ m Z ys, r = (.c (.i m), Z) ∧ k ≤ m ∧ m ≤ k + c ∧ Frm (fun i => ¬ F i) Y Z ∧ Z.length = Y.length ∧ FRow P sz Z v ys F ∧ ys.length = n ∧ hds f k ys = some m
set_option maxRecDepth 100000 in
theorem markArmS_own {F : Nat → Prop} {Y : Hp} {v : CV} {xs : List ArmR} {k : Int} (hv : FRow armF 2 Y v xs F) (hn : xs.length ≤ BIG) (hk : 0 ≤ k) (hk2 : k ≤ 4611686018427387904) : CM 217 [.c v, .c (.i k)] Y (MkRes armF hdA 2 F Y v xs.length k (2 * xs.length)) := by
  refine cw217 ?_
  unfold vf217c
  simp
  obtain ⟨I, hI⟩ : ∃ I : Nat → St → Prop, ∀ i s, I i s ↔ (∃ (m : Int) (ys : List ArmR), k ≤ m ∧ m ≤ k + 2 * i ∧ Frm (fun i => ¬ F i) Y s.h ∧ s.h.length = Y.length ∧ FRow armF 2 s.h v (ys ++ xs.drop i) F ∧ ys.length = i ∧ hds hdA k ys = some m ∧ Env.get s.e 0 = .c v ∧ Env.get s.e 1 = .c (.i m) ∧ Env.get s.e 5 = .c (.i i)) := ⟨_, fun _ _ => Iff.rfl⟩
  refine wp_for CM_mono xs.length I ((hI _ _).2 ⟨k, [], Int.le_refl _, by omega, Frm.refl _ _, rfl, by simpa using hv, rfl, rfl, by simp⟩) ?_ ?_
  · rintro i ⟨e, X⟩ hi' hIs
    obtain ⟨m, ys, hm1, hm2, hc, hX, hr, hyl, hh, h0, h1, h5⟩ := (hI _ _).1 hIs
    simp only at hc hX hr h0 h1 h5 ⊢
    rw [drop_mid hi'] at hr
    have hlen := hr.lenOf
    have hll : (ys ++ xs[i] :: xs.drop (i + 1)).length = xs.length := by simp; omega
    rw [hll] at hlen
    obtain ⟨x, hx⟩ : ∃ x, xs[i] = x := ⟨_, rfl⟩
    rw [hx] at hr
    have hni : 2 * i ≤ 2 * xs.length := Nat.mul_le_mul_left _ (by omega)
    have hnb : 2 * xs.length ≤ 2 * BIG := Nat.mul_le_mul_left _ hn
    simp only [BIG] at hni hnb hn
    unfold vf217b0
    obtain ⟨id0, g0, cl0, Z0, hx0, ho0, hl0, hZ0, hr0, hc0, hX0⟩ := hr.fieldS armF_st hyl 0 (by omega) (.i (m)) ⟨m, x.v⟩ (fun Z cs G h => by have h : cs = armC _ := h; subst h; rfl)
    have hl0' := hl0
    try simp only [Nat.add_zero] at hl0' hZ0
    have hw0 : -9223372036854775808 ≤ (m : Int) + 1 ∧ (m : Int) + 1 ≤ 9223372036854775807 := by omega
    simp [h0, h1, h5, hlen, hi', hx0, ho0, hl0', hZ0, wrap64_id hw0]
    obtain ⟨id1, g1, cl1, Z1, hx1, ho1, hl1, hZ1, hr1, hc1, hX1⟩ := hr0.fieldS armF_st hyl 1 (by omega) (.i ((m + 1))) ⟨m, m + 1⟩ (fun Z cs G h => by have h : cs = armC _ := h; subst h; rfl)
    have e1 : id1 = id0 ∧ g1 = g0 := by have e := hx1.symm.trans hx0; injection e with e; injection e with e1 e2; exact ⟨e1, e2⟩
    obtain ⟨rfl, rfl⟩ := e1
    have hl1' := hl1
    try simp only [Nat.add_zero] at hl1' hZ1
    have hw1 : -9223372036854775808 ≤ ((m + 1) : Int) + 1 ∧ ((m + 1) : Int) + 1 ≤ 9223372036854775807 := by omega
    simp [h0, h1, h5, hlen, hi', hx1, ho1, hl1', hZ1, wrap64_id hw1]
    simp [h0, h1, h5, hlen, hi', up1 hi' hn]
    refine (hI _ _).2 ⟨((m + 1) + 1), ys ++ [_], by omega, by omega, ((hc.trans hc0).trans hc1), (hX1.trans (hX0.trans hX)), by simpa using hr1, by simp [hyl], ?_, by simp⟩
    rw [hds_snoc, hh]
    simp [hdA]
  · rintro ⟨e, X⟩ hIs
    obtain ⟨m, ys, hm1, hm2, hc, hX, hr, hyl, hh, h0, h1, h5⟩ := (hI _ _).1 hIs
    simp only at hc hX hr h0 h1 h5 ⊢
    rw [List.drop_length, List.append_nil] at hr
    have hlen := hr.lenOf
    rw [hyl] at hlen
    unfold vf217b0
    simp [h0, h1, h5, hlen, gc_nolen hX (show flatV (.c (.i m)) = true from rfl)]
    exact ⟨m, X, ys, rfl, hm1, hm2, hc, hX, hr, hyl, hh⟩
set_option maxRecDepth 100000 in
theorem markInsS_own {F : Nat → Prop} {Y : Hp} {v : CV} {xs : List InsR} {k : Int} (hv : FRow insF 5 Y v xs F) (hn : xs.length ≤ BIG) (hk : 0 ≤ k) (hk2 : k ≤ 4611686018427387904) : CM 170 [.c v, .c (.i k)] Y (MkRes insF hdI 5 F Y v xs.length k (5 * xs.length)) := by
  refine cw170 ?_
  unfold vf170c
  simp
  obtain ⟨I, hI⟩ : ∃ I : Nat → St → Prop, ∀ i s, I i s ↔ (∃ (m : Int) (ys : List InsR), k ≤ m ∧ m ≤ k + 5 * i ∧ Frm (fun i => ¬ F i) Y s.h ∧ s.h.length = Y.length ∧ FRow insF 5 s.h v (ys ++ xs.drop i) F ∧ ys.length = i ∧ hds hdI k ys = some m ∧ Env.get s.e 0 = .c v ∧ Env.get s.e 1 = .c (.i m) ∧ Env.get s.e 5 = .c (.i i)) := ⟨_, fun _ _ => Iff.rfl⟩
  refine wp_for CM_mono xs.length I ((hI _ _).2 ⟨k, [], Int.le_refl _, by omega, Frm.refl _ _, rfl, by simpa using hv, rfl, rfl, by simp⟩) ?_ ?_
  · rintro i ⟨e, X⟩ hi' hIs
    obtain ⟨m, ys, hm1, hm2, hc, hX, hr, hyl, hh, h0, h1, h5⟩ := (hI _ _).1 hIs
    simp only at hc hX hr h0 h1 h5 ⊢
    rw [drop_mid hi'] at hr
    have hlen := hr.lenOf
    have hll : (ys ++ xs[i] :: xs.drop (i + 1)).length = xs.length := by simp; omega
    rw [hll] at hlen
    obtain ⟨x, hx⟩ : ∃ x, xs[i] = x := ⟨_, rfl⟩
    rw [hx] at hr
    have hni : 5 * i ≤ 5 * xs.length := Nat.mul_le_mul_left _ (by omega)
    have hnb : 5 * xs.length ≤ 5 * BIG := Nat.mul_le_mul_left _ hn
    simp only [BIG] at hni hnb hn
    unfold vf170b0
    obtain ⟨id0, g0, cl0, Z0, hx0, ho0, hl0, hZ0, hr0, hc0, hX0⟩ := hr.fieldS insF_st hyl 0 (by omega) (.i (m)) ⟨m, x.d, x.a, x.b, x.n⟩ (fun Z cs G h => by have h : cs = insC _ := h; subst h; rfl)
    have hl0' := hl0
    try simp only [Nat.add_zero] at hl0' hZ0
    have hw0 : -9223372036854775808 ≤ (m : Int) + 1 ∧ (m : Int) + 1 ≤ 9223372036854775807 := by omega
    simp [h0, h1, h5, hlen, hi', hx0, ho0, hl0', hZ0, wrap64_id hw0]
    obtain ⟨id1, g1, cl1, Z1, hx1, ho1, hl1, hZ1, hr1, hc1, hX1⟩ := hr0.fieldS insF_st hyl 1 (by omega) (.i ((m + 1))) ⟨m, (m + 1), x.a, x.b, x.n⟩ (fun Z cs G h => by have h : cs = insC _ := h; subst h; rfl)
    have e1 : id1 = id0 ∧ g1 = g0 := by have e := hx1.symm.trans hx0; injection e with e; injection e with e1 e2; exact ⟨e1, e2⟩
    obtain ⟨rfl, rfl⟩ := e1
    have hl1' := hl1
    try simp only [Nat.add_zero] at hl1' hZ1
    have hw1 : -9223372036854775808 ≤ ((m + 1) : Int) + 1 ∧ ((m + 1) : Int) + 1 ≤ 9223372036854775807 := by omega
    simp [h0, h1, h5, hlen, hi', hx1, ho1, hl1', hZ1, wrap64_id hw1]
    obtain ⟨id2, g2, cl2, Z2, hx2, ho2, hl2, hZ2, hr2, hc2, hX2⟩ := hr1.fieldS insF_st hyl 2 (by omega) (.i (((m + 1) + 1))) ⟨m, (m + 1), ((m + 1) + 1), x.b, x.n⟩ (fun Z cs G h => by have h : cs = insC _ := h; subst h; rfl)
    have e2 : id2 = id1 ∧ g2 = g1 := by have e := hx2.symm.trans hx1; injection e with e; injection e with e1 e2; exact ⟨e1, e2⟩
    obtain ⟨rfl, rfl⟩ := e2
    have hl2' := hl2
    try simp only [Nat.add_zero] at hl2' hZ2
    have hw2 : -9223372036854775808 ≤ (((m + 1) + 1) : Int) + 1 ∧ (((m + 1) + 1) : Int) + 1 ≤ 9223372036854775807 := by omega
    simp [h0, h1, h5, hlen, hi', hx2, ho2, hl2', hZ2, wrap64_id hw2]
    obtain ⟨id3, g3, cl3, Z3, hx3, ho3, hl3, hZ3, hr3, hc3, hX3⟩ := hr2.fieldS insF_st hyl 3 (by omega) (.i ((((m + 1) + 1) + 1))) ⟨m, (m + 1), ((m + 1) + 1), (((m + 1) + 1) + 1), x.n⟩ (fun Z cs G h => by have h : cs = insC _ := h; subst h; rfl)
    have e3 : id3 = id2 ∧ g3 = g2 := by have e := hx3.symm.trans hx2; injection e with e; injection e with e1 e2; exact ⟨e1, e2⟩
    obtain ⟨rfl, rfl⟩ := e3
    have hl3' := hl3
    try simp only [Nat.add_zero] at hl3' hZ3
    have hw3 : -9223372036854775808 ≤ ((((m + 1) + 1) + 1) : Int) + 1 ∧ ((((m + 1) + 1) + 1) : Int) + 1 ≤ 9223372036854775807 := by omega
    simp [h0, h1, h5, hlen, hi', hx3, ho3, hl3', hZ3, wrap64_id hw3]
    obtain ⟨id4, g4, cl4, Z4, hx4, ho4, hl4, hZ4, hr4, hc4, hX4⟩ := hr3.fieldS insF_st hyl 4 (by omega) (.i (((((m + 1) + 1) + 1) + 1))) ⟨m, (m + 1), ((m + 1) + 1), (((m + 1) + 1) + 1), ((((m + 1) + 1) + 1) + 1)⟩ (fun Z cs G h => by have h : cs = insC _ := h; subst h; rfl)
    have e4 : id4 = id3 ∧ g4 = g3 := by have e := hx4.symm.trans hx3; injection e with e; injection e with e1 e2; exact ⟨e1, e2⟩
    obtain ⟨rfl, rfl⟩ := e4
    have hl4' := hl4
    try simp only [Nat.add_zero] at hl4' hZ4
    have hw4 : -9223372036854775808 ≤ (((((m + 1) + 1) + 1) + 1) : Int) + 1 ∧ (((((m + 1) + 1) + 1) + 1) : Int) + 1 ≤ 9223372036854775807 := by omega
    simp [h0, h1, h5, hlen, hi', hx4, ho4, hl4', hZ4, wrap64_id hw4]
    simp [h0, h1, h5, hlen, hi', up1 hi' hn]
    refine (hI _ _).2 ⟨(((((m + 1) + 1) + 1) + 1) + 1), ys ++ [_], by omega, by omega, (((((hc.trans hc0).trans hc1).trans hc2).trans hc3).trans hc4), (hX4.trans (hX3.trans (hX2.trans (hX1.trans (hX0.trans hX))))), by simpa using hr4, by simp [hyl], ?_, by simp⟩
    rw [hds_snoc, hh]
    simp [hdI]
  · rintro ⟨e, X⟩ hIs
    obtain ⟨m, ys, hm1, hm2, hc, hX, hr, hyl, hh, h0, h1, h5⟩ := (hI _ _).1 hIs
    simp only at hc hX hr h0 h1 h5 ⊢
    rw [List.drop_length, List.append_nil] at hr
    have hlen := hr.lenOf
    rw [hyl] at hlen
    unfold vf170b0
    simp [h0, h1, h5, hlen, gc_nolen hX (show flatV (.c (.i m)) = true from rfl)]
    exact ⟨m, X, ys, rfl, hm1, hm2, hc, hX, hr, hyl, hh⟩
set_option maxRecDepth 100000 in
theorem markPhiS_own {F : Nat → Prop} {Y : Hp} {v : CV} {xs : List PhiR} {k : Int} (hv : FRow phiF 2 Y v xs F) (hn : xs.length ≤ BIG) (hk : 0 ≤ k) (hk2 : k ≤ 3000000000000000000) : CM 169 [.c v, .c (.i k)] Y (MkRes phiF hdP 2 F Y v xs.length k (2097153 * xs.length)) := by
  refine cw169 ?_
  unfold vf169c
  simp
  obtain ⟨I, hI⟩ : ∃ I : Nat → St → Prop, ∀ i s, I i s ↔ (∃ (m : Int) (ys : List PhiR), k ≤ m ∧ m ≤ k + 2097153 * i ∧ Frm (fun i => ¬ F i) Y s.h ∧ s.h.length = Y.length ∧ FRow phiF 2 s.h v (ys ++ xs.drop i) F ∧ ys.length = i ∧ hds hdP k ys = some m ∧ Env.get s.e 0 = .c v ∧ Env.get s.e 1 = .c (.i m) ∧ Env.get s.e 5 = .c (.i i)) := ⟨_, fun _ _ => Iff.rfl⟩
  refine wp_for CM_mono xs.length I ((hI _ _).2 ⟨k, [], Int.le_refl _, by omega, Frm.refl _ _, rfl, by simpa using hv, rfl, rfl, by simp⟩) ?_ ?_
  · rintro i ⟨e, X⟩ hi' hIs
    obtain ⟨m, ys, hm1, hm2, hc, hX, hr, hyl, hh, h0, h1, h5⟩ := (hI _ _).1 hIs
    simp only at hc hX hr h0 h1 h5 ⊢
    rw [drop_mid hi'] at hr
    have hlen := hr.lenOf
    have hll : (ys ++ xs[i] :: xs.drop (i + 1)).length = xs.length := by simp; omega
    rw [hll] at hlen
    obtain ⟨x, hx⟩ : ∃ x, xs[i] = x := ⟨_, rfl⟩
    rw [hx] at hr
    have hni : 2097153 * i ≤ 2097153 * xs.length := Nat.mul_le_mul_left _ (by omega)
    have hnb : 2097153 * xs.length ≤ 2097153 * BIG := Nat.mul_le_mul_left _ hn
    simp only [BIG] at hni hnb hn
    unfold vf169b0
    obtain ⟨id0, g0, cl0, Z0, hx0, ho0, hl0, hZ0, hr0, hc0, hX0⟩ := hr.fieldS phiF_st hyl 0 (by omega) (.i (m)) ⟨m, x.arms⟩ (fun Z cs G h => by obtain ⟨z, rfl, h2, h3⟩ := h; exact ⟨z, rfl, h2, h3⟩)
    have hl0' := hl0
    try simp only [Nat.add_zero] at hl0' hZ0
    have hw0 : -9223372036854775808 ≤ (m : Int) + 1 ∧ (m : Int) + 1 ≤ 9223372036854775807 := by omega
    simp [h0, h1, h5, hlen, hi', hx0, ho0, hl0', hZ0, wrap64_id hw0]
    obtain ⟨id1, g1, cs1, G1, hx1, hcl1, hrd1, hP1, hG1, hk1⟩ := hr0.nestS phiF_st hyl
    have e1 : id1 = id0 ∧ g1 = g0 := by have e := hx1.symm.trans hx0; injection e with e; injection e with e1 e2; exact ⟨e1, e2⟩
    obtain ⟨rfl, rfl⟩ := e1
    obtain ⟨z1, rfl, hz1r, hz1b⟩ := hP1
    have hq1 := hrd1 1 _ rfl
    try simp only [Nat.add_zero] at hq1
    simp [h0, h1, h5, hlen, hi', hx1, hq1]
    refine (markArmS_own hz1r hz1b (by omega) (by omega)).mono ?_
    rintro _ ⟨m1, Z1, zs1, rfl, ha1, hb1, hfr1, hX1, hz1, hzl1, hzh1⟩
    have hbd1 : 2 * x.arms.length ≤ 2 * BIG := Nat.mul_le_mul_left _ hz1b
    simp only [BIG] at hbd1
    try simp only at hb1
    try simp only at hzl1
    have hr1 := hk1 Z1 ⟨m, zs1⟩ (by omega) (hfr1.mono fun i hi => hi.2) ⟨z1, rfl, hz1, by rw [hzl1]; exact hz1b⟩
    have hc1 := hfr1.mono (G' := fun i => ¬ F i) fun i hi h => hi ((hG1 i h).1)
    simp [h0, h1, h5, hlen, hi', up1 hi' hn]
    refine (hI _ _).2 ⟨m1, ys ++ [_], by omega, by omega, ((hc.trans hc0).trans hc1), (hX1.trans (hX0.trans hX)), by simpa using hr1, by simp [hyl], ?_, by simp⟩
    rw [hds_snoc, hh]
    simp [hdP, hzh1]
  · rintro ⟨e, X⟩ hIs
    obtain ⟨m, ys, hm1, hm2, hc, hX, hr, hyl, hh, h0, h1, h5⟩ := (hI _ _).1 hIs
    simp only at hc hX hr h0 h1 h5 ⊢
    rw [List.drop_length, List.append_nil] at hr
    have hlen := hr.lenOf
    rw [hyl] at hlen
    unfold vf169b0
    simp [h0, h1, h5, hlen, gc_nolen hX (show flatV (.c (.i m)) = true from rfl)]
    exact ⟨m, X, ys, rfl, hm1, hm2, hc, hX, hr, hyl, hh⟩
set_option maxRecDepth 100000 in
theorem markBlockS_own {F : Nat → Prop} {Y : Hp} {v : CV} {xs : List BlkR} {k : Int} (hv : FRow blkF 6 Y v xs F) (hn : xs.length ≤ BIG) (hk : 0 ≤ k) (hk2 : k ≤ 4) : CM 109 [.c v, .c (.i k)] Y (MkRes blkF hdB 6 F Y v xs.length k (2199029547012 * xs.length)) := by
  refine cw109 ?_
  unfold vf109c
  simp
  obtain ⟨I, hI⟩ : ∃ I : Nat → St → Prop, ∀ i s, I i s ↔ (∃ (m : Int) (ys : List BlkR), k ≤ m ∧ m ≤ k + 2199029547012 * i ∧ Frm (fun i => ¬ F i) Y s.h ∧ s.h.length = Y.length ∧ FRow blkF 6 s.h v (ys ++ xs.drop i) F ∧ ys.length = i ∧ hds hdB k ys = some m ∧ Env.get s.e 0 = .c v ∧ Env.get s.e 1 = .c (.i m) ∧ Env.get s.e 5 = .c (.i i)) := ⟨_, fun _ _ => Iff.rfl⟩
  refine wp_for CM_mono xs.length I ((hI _ _).2 ⟨k, [], Int.le_refl _, by omega, Frm.refl _ _, rfl, by simpa using hv, rfl, rfl, by simp⟩) ?_ ?_
  · rintro i ⟨e, X⟩ hi' hIs
    obtain ⟨m, ys, hm1, hm2, hc, hX, hr, hyl, hh, h0, h1, h5⟩ := (hI _ _).1 hIs
    simp only at hc hX hr h0 h1 h5 ⊢
    rw [drop_mid hi'] at hr
    have hlen := hr.lenOf
    have hll : (ys ++ xs[i] :: xs.drop (i + 1)).length = xs.length := by simp; omega
    rw [hll] at hlen
    obtain ⟨x, hx⟩ : ∃ x, xs[i] = x := ⟨_, rfl⟩
    rw [hx] at hr
    have hni : 2199029547012 * i ≤ 2199029547012 * xs.length := Nat.mul_le_mul_left _ (by omega)
    have hnb : 2199029547012 * xs.length ≤ 2199029547012 * BIG := Nat.mul_le_mul_left _ hn
    simp only [BIG] at hni hnb hn
    unfold vf109b0
    obtain ⟨id0, g0, cs0, G0, hx0, hcl0, hrd0, hP0, hG0, hk0⟩ := hr.nestS blkF_st hyl
    obtain ⟨z0, u0, Gz0, Gu0, rfl, hz0r, hu0r, hs0, ht0, hz0b, hu0b⟩ := hP0
    have hq0 := hrd0 0 _ rfl
    try simp only [Nat.add_zero] at hq0
    simp [h0, h1, h5, hlen, hi', hx0, hq0]
    refine (markPhiS_own hz0r hz0b (by omega) (by omega)).mono ?_
    rintro _ ⟨m0, Z0, zs0, rfl, ha0, hb0, hfr0, hX0, hz0, hzl0, hzh0⟩
    have hbd0 : 2097153 * x.phis.length ≤ 2097153 * BIG := Nat.mul_le_mul_left _ hz0b
    simp only [BIG] at hbd0
    try simp only at hb0
    try simp only at hzl0
    have hr0 := hk0 Z0 ⟨zs0, x.list, x.term⟩ (by omega) (hfr0.mono fun i hi h => hi.2 (hs0 i h).1) ⟨z0, u0, Gz0, Gu0, rfl, hz0, hu0r.fr insF_st (hfr0.mono fun i hi h => (hs0 i h).2 hi), hs0, ht0, by rw [hzl0]; exact hz0b, hu0b⟩
    have hc0 := hfr0.mono (G' := fun i => ¬ F i) fun i hi h => hi ((hG0 i (hs0 i h).1).1)
    obtain ⟨id1, g1, cs1, G1, hx1, hcl1, hrd1, hP1, hG1, hk1⟩ := hr0.nestS blkF_st hyl
    have e1 : id1 = id0 ∧ g1 = g0 := by have e := hx1.symm.trans hx0; injection e with e; injection e with e1 e2; exact ⟨e1, e2⟩
    obtain ⟨rfl, rfl⟩ := e1
    obtain ⟨z1, u1, Gz1, Gu1, rfl, hz1r, hu1r, hs1, ht1, hz1b, hu1b⟩ := hP1
    have hq1 := hrd1 1 _ rfl
    try simp only [Nat.add_zero] at hq1
    simp [h0, h1, h5, hlen, hi', hx1, hq1]
    refine (markInsS_own hu1r hu1b (by omega) (by omega)).mono ?_
    rintro _ ⟨m1, Z1, zs1, rfl, ha1, hb1, hfr1, hX1, hz1, hzl1, hzh1⟩
    have hbd1 : 5 * x.list.length ≤ 5 * BIG := Nat.mul_le_mul_left _ hu1b
    simp only [BIG] at hbd1
    try simp only at hb1
    try simp only at hzl1
    have hr1 := hk1 Z1 ⟨zs0, zs1, x.term⟩ (by omega) (hfr1.mono fun i hi h => hi.2 (ht1 i h)) ⟨z1, u1, Gz1, Gu1, rfl, hz1r.fr phiF_st (hfr1.mono fun i hi h => (hs1 i hi).2 h), hz1, hs1, ht1, hz1b, by rw [hzl1]; exact hu1b⟩
    have hc1 := hfr1.mono (G' := fun i => ¬ F i) fun i hi h => hi ((hG1 i (ht1 i h)).1)
    obtain ⟨id2, g2, cl2, Z2, hx2, ho2, hl2, hZ2, hr2, hc2, hX2⟩ := hr1.fieldS blkF_st hyl 2 (by omega) (.i (m1)) ⟨zs0, zs1, ⟨m1, x.term.a, x.term.to, x.term.els⟩⟩ (fun Z cs G h => by obtain ⟨z, u, Gz, Gu, rfl, h⟩ := h; exact ⟨z, u, Gz, Gu, rfl, h⟩)
    have e2 : id2 = id1 ∧ g2 = g1 := by have e := hx2.symm.trans hx1; injection e with e; injection e with e1 e2; exact ⟨e1, e2⟩
    obtain ⟨rfl, rfl⟩ := e2
    have hl2' := hl2
    try simp only [Nat.add_zero] at hl2' hZ2
    have hw2 : -9223372036854775808 ≤ (m1 : Int) + 1 ∧ (m1 : Int) + 1 ≤ 9223372036854775807 := by omega
    simp [h0, h1, h5, hlen, hi', hx2, ho2, hl2', hZ2, wrap64_id hw2]
    obtain ⟨id3, g3, cl3, Z3, hx3, ho3, hl3, hZ3, hr3, hc3, hX3⟩ := hr2.fieldS blkF_st hyl 3 (by omega) (.i ((m1 + 1))) ⟨zs0, zs1, ⟨m1, (m1 + 1), x.term.to, x.term.els⟩⟩ (fun Z cs G h => by obtain ⟨z, u, Gz, Gu, rfl, h⟩ := h; exact ⟨z, u, Gz, Gu, rfl, h⟩)
    have e3 : id3 = id2 ∧ g3 = g2 := by have e := hx3.symm.trans hx2; injection e with e; injection e with e1 e2; exact ⟨e1, e2⟩
    obtain ⟨rfl, rfl⟩ := e3
    have hl3' := hl3
    try simp only [Nat.add_zero] at hl3' hZ3
    have hw3 : -9223372036854775808 ≤ ((m1 + 1) : Int) + 1 ∧ ((m1 + 1) : Int) + 1 ≤ 9223372036854775807 := by omega
    simp [h0, h1, h5, hlen, hi', hx3, ho3, hl3', hZ3, wrap64_id hw3]
    obtain ⟨id4, g4, cl4, Z4, hx4, ho4, hl4, hZ4, hr4, hc4, hX4⟩ := hr3.fieldS blkF_st hyl 4 (by omega) (.i (((m1 + 1) + 1))) ⟨zs0, zs1, ⟨m1, (m1 + 1), ((m1 + 1) + 1), x.term.els⟩⟩ (fun Z cs G h => by obtain ⟨z, u, Gz, Gu, rfl, h⟩ := h; exact ⟨z, u, Gz, Gu, rfl, h⟩)
    have e4 : id4 = id3 ∧ g4 = g3 := by have e := hx4.symm.trans hx3; injection e with e; injection e with e1 e2; exact ⟨e1, e2⟩
    obtain ⟨rfl, rfl⟩ := e4
    have hl4' := hl4
    try simp only [Nat.add_zero] at hl4' hZ4
    have hw4 : -9223372036854775808 ≤ (((m1 + 1) + 1) : Int) + 1 ∧ (((m1 + 1) + 1) : Int) + 1 ≤ 9223372036854775807 := by omega
    simp [h0, h1, h5, hlen, hi', hx4, ho4, hl4', hZ4, wrap64_id hw4]
    obtain ⟨id5, g5, cl5, Z5, hx5, ho5, hl5, hZ5, hr5, hc5, hX5⟩ := hr4.fieldS blkF_st hyl 5 (by omega) (.i ((((m1 + 1) + 1) + 1))) ⟨zs0, zs1, ⟨m1, (m1 + 1), ((m1 + 1) + 1), (((m1 + 1) + 1) + 1)⟩⟩ (fun Z cs G h => by obtain ⟨z, u, Gz, Gu, rfl, h⟩ := h; exact ⟨z, u, Gz, Gu, rfl, h⟩)
    have e5 : id5 = id4 ∧ g5 = g4 := by have e := hx5.symm.trans hx4; injection e with e; injection e with e1 e2; exact ⟨e1, e2⟩
    obtain ⟨rfl, rfl⟩ := e5
    have hl5' := hl5
    try simp only [Nat.add_zero] at hl5' hZ5
    have hw5 : -9223372036854775808 ≤ ((((m1 + 1) + 1) + 1) : Int) + 1 ∧ ((((m1 + 1) + 1) + 1) : Int) + 1 ≤ 9223372036854775807 := by omega
    simp [h0, h1, h5, hlen, hi', hx5, ho5, hl5', hZ5, wrap64_id hw5]
    simp [h0, h1, h5, hlen, hi', up1 hi' hn]
    refine (hI _ _).2 ⟨((((m1 + 1) + 1) + 1) + 1), ys ++ [_], by omega, by omega, ((((((hc.trans hc0).trans hc1).trans hc2).trans hc3).trans hc4).trans hc5), (hX5.trans (hX4.trans (hX3.trans (hX2.trans (hX1.trans (hX0.trans hX)))))), by simpa using hr5, by simp [hyl], ?_, by simp⟩
    rw [hds_snoc, hh]
    simp [hdB, hdT, hzh0, hzh1]
  · rintro ⟨e, X⟩ hIs
    obtain ⟨m, ys, hm1, hm2, hc, hX, hr, hyl, hh, h0, h1, h5⟩ := (hI _ _).1 hIs
    simp only at hc hX hr h0 h1 h5 ⊢
    rw [List.drop_length, List.append_nil] at hr
    have hlen := hr.lenOf
    rw [hyl] at hlen
    unfold vf109b0
    simp [h0, h1, h5, hlen, gc_nolen hX (show flatV (.c (.i m)) = true from rfl)]
    exact ⟨m, X, ys, rfl, hm1, hm2, hc, hX, hr, hyl, hh⟩
theorem markFn_own {F : Nat → Prop} {Y : Hp} {z : CV} {m : Int} {bs : List BlkR} (h : Tree F Y z bs) (hn : bs.length ≤ BIG) (hF : ∀ i, F i → i < Y.length) :
    CM 41 [.agg [z, .i m], .c (.i 1)] Y fun r => ∃ m Z L ys, r = (.c (.i m), Z ++ L) ∧ 1 ≤ m ∧ m ≤ 3000000000000000000 ∧ Frm (fun i => ¬ F i) Y Z ∧ Z.length = Y.length ∧ Tree F (Z ++ L) z ys ∧ ys.length = bs.length ∧ hds hdB 1 ys = some m := by
  refine cw41 ?_
  unfold vf41c
  simp
  refine (markBlockS_own (h.fr blkF_st (Frm.app _ _ _)) hn (by omega) (by omega)).mono ?_
  rintro _ ⟨k, Z, ys, rfl, h1, h2, h3, h4, h5, h6, h7⟩
  have hb : 2199029547012 * bs.length ≤ 2199029547012 * BIG := Nat.mul_le_mul_left _ hn
  simp only [BIG] at hb
  have hlen : Z.length = Y.length + 1 := by simpa using h4
  have hlast : Z[Y.length]? = some ⟨[z, .i m], 0, true, 2⟩ := by
    rw [h3 Y.length (by simp) (fun hf => by have := hF _ hf; omega)]; simp
  have hsp : Z = Z.take Y.length ++ [⟨[z, .i m], 0, true, 2⟩] := by
    apply List.ext_getElem?
    intro i
    by_cases hi : i < Y.length
    · rw [List.getElem?_append_left (by simp; omega), List.getElem?_take, if_pos hi]
    · by_cases e : i = Y.length
      · subst e
        rw [hlast, List.getElem?_append_right (by simp; omega)]
        simp [hlen]
      · rw [List.getElem?_eq_none (by omega), List.getElem?_eq_none (by simp; omega)]
  obtain ⟨Z', hZ'⟩ : ∃ Z', Z.take Y.length = Z' := ⟨_, rfl⟩
  have hl' : Z'.length = Y.length := by rw [← hZ']; simp; omega
  rw [hZ'] at hsp
  have hfr : Frm (fun i => ¬ F i) Y Z' := by
    intro i hi hn
    have := h3 i (by simp; omega) hn
    rw [hsp, List.getElem?_append_left (by omega), List.getElem?_append_left hi] at this
    exact this
  by_cases e : Z' = Y
  · rw [hsp, e]
    simp
    refine ⟨k, Y, [], by simp, by omega, by omega, Frm.refl _ _, rfl, ys, ?_, h6, h7⟩
    have h8 : Tree F (Y ++ [⟨[z, .i m], 0, true, 2⟩]) z ys := by rw [← e, ← hsp]; exact h5
    rw [List.append_nil]
    refine h8.fr blkF_st fun i _ hf => ?_
    rw [List.getElem?_append_left (hF i hf)]
  · have e2 : gcRet Y (.c (.i k)) Z = (.c (.i k), Z) := by
      unfold gcRet
      rw [if_neg]
      rw [hZ']; exact e
    simp
    rw [e2]
    exact ⟨k, Z', [⟨[z, .i m], 0, true, 2⟩], by rw [← hsp], by omega, by omega, hfr, hl', ys, by rw [← hsp]; exact h5, h6, h7⟩
end Go.Proofs.YtgdfgnppeekfjaaGreat.Vm
end
section
/- Marks told again. No conditions. -/
namespace Go.Proofs.YtgdfgnppeekfjaaGreat.Vm
open Go.RowKit (wrap64)
set_option linter.unusedSimpArgs false
set_option linter.unusedVariables false
theorem hdA_at {k m : Int} {a : ArmR} (h : hdA k a = some m) : a.fr = k ∧ a.v = k + 1 ∧ m = k + 1 + 1 := by
  unfold hdA at h
  split at h
  · rename_i hc
    injection h with h
    exact ⟨hc.1, hc.2, h.symm⟩
  · cases h
theorem hdI_at {k m : Int} {x : InsR} (h : hdI k x = some m) : x.op = k ∧ x.d = k + 1 ∧ x.a = k + 1 + 1 ∧ x.b = k + 1 + 1 + 1 ∧ x.n = k + 1 + 1 + 1 + 1 ∧ m = k + 1 + 1 + 1 + 1 + 1 := by
  unfold hdI at h
  split at h
  · rename_i hc
    injection h with h
    exact ⟨hc.1, hc.2.1, hc.2.2.1, hc.2.2.2.1, hc.2.2.2.2, h.symm⟩
  · cases h
theorem hdT_at {k m : Int} {x : TrmR} (h : hdT k x = some m) : x.kind = k ∧ x.a = k + 1 ∧ x.to = k + 1 + 1 ∧ x.els = k + 1 + 1 + 1 ∧ m = k + 1 + 1 + 1 + 1 := by
  unfold hdT at h
  split at h
  · rename_i hc
    injection h with h
    exact ⟨hc.1, hc.2.1, hc.2.2.1, hc.2.2.2, h.symm⟩
  · cases h
theorem hdP_at {k m : Int} {p : PhiR} (h : hdP k p = some m) : p.d = k ∧ hds hdA (k + 1) p.arms = some m := by
  unfold hdP at h
  split at h
  · rename_i hc; exact ⟨hc, h⟩
  · cases h
theorem hdB_at {k m : Int} {b : BlkR} (h : hdB k b = some m) : ∃ k1 k2, hds hdP k b.phis = some k1 ∧ hds hdI k1 b.list = some k2 ∧ hdT k2 b.term = some m ∧ k ≤ k1 ∧ k1 ≤ k2 ∧ k2 ≤ m := by
  unfold hdB at h
  cases h1 : hds hdP k b.phis with
  | none => simp [h1] at h
  | some k1 =>
    cases h2 : hds hdI k1 b.list with
    | none => simp [h1, h2] at h
    | some k2 =>
      simp [h1, h2] at h
      exact ⟨k1, k2, rfl, h2, h, hds_le hdP_le h1, hds_le hdI_le h2, hdT_le _ _ _ h⟩
set_option maxRecDepth 100000 in
theorem heldArmS_at {H : Hp} {v : CV} {xs : List ArmR} {k m : Int} (hv : Arms H v xs) (hn : xs.length ≤ BIG) (hk : 0 ≤ k) (h : hds hdA k xs = some m) (hm : m ≤ 3000000000000000000) (K : IV × Hp → Prop) :
    CM 218 [.c v, .c (.i k)] H K = K (.c (.i m), H) := by
  refine det (cw218 ?_) K
  unfold vf218c
  simp
  obtain ⟨I, hI⟩ : ∃ I : Nat → St → Prop, ∀ i s, I i s ↔ (∃ mi : Int, hds hdA k (xs.take i) = some mi ∧ s.h = H ∧ Env.get s.e 0 = .c v ∧ Env.get s.e 1 = .c (.i mi) ∧ Env.get s.e 5 = .c (.i i)) := ⟨_, fun _ _ => Iff.rfl⟩
  refine wp_for CM_mono xs.length I ((hI _ _).2 ⟨k, by simp [hds], rfl, by simp⟩) ?_ ?_
  · rintro i ⟨e, X⟩ hi hIs
    obtain ⟨mi, hp, hX, e0, e1, e5⟩ := (hI _ _).1 hIs
    simp only at hX e0 e1 e5 ⊢
    subst hX
    obtain ⟨m1, m2, a1, a2, a3, a4, a5, a6⟩ := hds_at hdA_le h hi
    obtain rfl : mi = m1 := by rw [hp] at a1; injection a1
    have hl := hv.lenOf
    unfold vf218b0
    obtain ⟨c1, c2, c9⟩ := hdA_at a2
    obtain ⟨id, g, off, q1, ⟨q2, q3, _⟩, _⟩ := Arms.get hv hi
    rw [c1] at q2; rw [c2] at q3
    have w0 : -9223372036854775808 ≤ (mi : Int) + 1 ∧ (mi : Int) + 1 ≤ 9223372036854775807 := by omega
    have w1 : -9223372036854775808 ≤ ((mi + 1) : Int) + 1 ∧ ((mi + 1) : Int) + 1 ≤ 9223372036854775807 := by omega
    simp [e0, e1, e5, q1, q2, q3, hi, hl, up1 hi hn, wrap64_id w0, wrap64_id w1]
    exact (hI _ _).2 ⟨m2, a3, rfl, by simp [e0, c9]⟩
  · rintro ⟨e, X⟩ hIs
    obtain ⟨mi, hp, hX, e0, e1, e5⟩ := (hI _ _).1 hIs
    simp only at hX e0 e1 e5 ⊢
    subst hX
    rw [List.take_length, h] at hp
    injection hp with hp
    have hl := hv.lenOf
    unfold vf218b0
    simp [e0, e1, e5, hl, hp]
set_option maxRecDepth 100000 in
theorem heldInsS_at {H : Hp} {v : CV} {xs : List InsR} {k m : Int} (hv : List5 H v xs) (hn : xs.length ≤ BIG) (hk : 0 ≤ k) (h : hds hdI k xs = some m) (hm : m ≤ 3000000000000000000) (K : IV × Hp → Prop) :
    CM 174 [.c v, .c (.i k)] H K = K (.c (.i m), H) := by
  refine det (cw174 ?_) K
  unfold vf174c
  simp
  obtain ⟨I, hI⟩ : ∃ I : Nat → St → Prop, ∀ i s, I i s ↔ (∃ mi : Int, hds hdI k (xs.take i) = some mi ∧ s.h = H ∧ Env.get s.e 0 = .c v ∧ Env.get s.e 1 = .c (.i mi) ∧ Env.get s.e 5 = .c (.i i)) := ⟨_, fun _ _ => Iff.rfl⟩
  refine wp_for CM_mono xs.length I ((hI _ _).2 ⟨k, by simp [hds], rfl, by simp⟩) ?_ ?_
  · rintro i ⟨e, X⟩ hi hIs
    obtain ⟨mi, hp, hX, e0, e1, e5⟩ := (hI _ _).1 hIs
    simp only at hX e0 e1 e5 ⊢
    subst hX
    obtain ⟨m1, m2, a1, a2, a3, a4, a5, a6⟩ := hds_at hdI_le h hi
    obtain rfl : mi = m1 := by rw [hp] at a1; injection a1
    have hl := hv.lenOf
    unfold vf174b0
    obtain ⟨c1, c2, c3, c4, c5, c9⟩ := hdI_at a2
    obtain ⟨id, g, off, q1, ⟨q2, q3, q4, q5, q6, _⟩, _⟩ := List5.get hv hi
    rw [c1] at q2; rw [c2] at q3; rw [c3] at q4; rw [c4] at q5; rw [c5] at q6
    have w0 : -9223372036854775808 ≤ (mi : Int) + 1 ∧ (mi : Int) + 1 ≤ 9223372036854775807 := by omega
    have w1 : -9223372036854775808 ≤ ((mi + 1) : Int) + 1 ∧ ((mi + 1) : Int) + 1 ≤ 9223372036854775807 := by omega
    have w2 : -9223372036854775808 ≤ (((mi + 1) + 1) : Int) + 1 ∧ (((mi + 1) + 1) : Int) + 1 ≤ 9223372036854775807 := by omega
    have w3 : -9223372036854775808 ≤ ((((mi + 1) + 1) + 1) : Int) + 1 ∧ ((((mi + 1) + 1) + 1) : Int) + 1 ≤ 9223372036854775807 := by omega
    have w4 : -9223372036854775808 ≤ (((((mi + 1) + 1) + 1) + 1) : Int) + 1 ∧ (((((mi + 1) + 1) + 1) + 1) : Int) + 1 ≤ 9223372036854775807 := by omega
    simp [e0, e1, e5, q1, q2, q3, q4, q5, q6, hi, hl, up1 hi hn, wrap64_id w0, wrap64_id w1, wrap64_id w2, wrap64_id w3, wrap64_id w4]
    exact (hI _ _).2 ⟨m2, a3, rfl, by simp [e0, c9]⟩
  · rintro ⟨e, X⟩ hIs
    obtain ⟨mi, hp, hX, e0, e1, e5⟩ := (hI _ _).1 hIs
    simp only at hX e0 e1 e5 ⊢
    subst hX
    rw [List.take_length, h] at hp
    injection hp with hp
    have hl := hv.lenOf
    unfold vf174b0
    simp [e0, e1, e5, hl, hp]
set_option maxRecDepth 100000 in
theorem heldPhiS_at {H : Hp} {v : CV} {xs : List PhiR} {k m : Int} (hv : Phis H v xs) (hn : xs.length ≤ BIG) (hk : 0 ≤ k) (h : hds hdP k xs = some m) (hm : m ≤ 3000000000000000000) (K : IV × Hp → Prop) :
    CM 173 [.c v, .c (.i k)] H K = K (.c (.i m), H) := by
  refine det (cw173 ?_) K
  unfold vf173c
  simp
  obtain ⟨I, hI⟩ : ∃ I : Nat → St → Prop, ∀ i s, I i s ↔ (∃ mi : Int, hds hdP k (xs.take i) = some mi ∧ s.h = H ∧ Env.get s.e 0 = .c v ∧ Env.get s.e 1 = .c (.i mi) ∧ Env.get s.e 5 = .c (.i i)) := ⟨_, fun _ _ => Iff.rfl⟩
  refine wp_for CM_mono xs.length I ((hI _ _).2 ⟨k, by simp [hds], rfl, by simp⟩) ?_ ?_
  · rintro i ⟨e, X⟩ hi hIs
    obtain ⟨mi, hp, hX, e0, e1, e5⟩ := (hI _ _).1 hIs
    simp only at hX e0 e1 e5 ⊢
    subst hX
    obtain ⟨m1, m2, a1, a2, a3, a4, a5, a6⟩ := hds_at hdP_le h hi
    obtain rfl : mi = m1 := by rw [hp] at a1; injection a1
    have hl := hv.lenOf
    unfold vf173b0
    obtain ⟨c1, c2⟩ := hdP_at a2
    have c9 : True := trivial
    obtain ⟨id, g, off, w, q1, ⟨q2, q3, _⟩, _, qa, qb, _⟩ := Phis.get hv hi
    rw [c1] at q2
    have w0 : -9223372036854775808 ≤ (mi : Int) + 1 ∧ (mi : Int) + 1 ≤ 9223372036854775807 := by omega
    have hlt : ¬ m2 < 0 := by omega
    simp [e0, e1, e5, q1, q2, q3, hi, hl, up1 hi hn, wrap64_id w0, heldArmS_at qa qb (show 0 ≤ mi + 1 by omega) c2 (by omega), hlt]
    exact (hI _ _).2 ⟨m2, a3, rfl, by simp [e0, c9]⟩
  · rintro ⟨e, X⟩ hIs
    obtain ⟨mi, hp, hX, e0, e1, e5⟩ := (hI _ _).1 hIs
    simp only at hX e0 e1 e5 ⊢
    subst hX
    rw [List.take_length, h] at hp
    injection hp with hp
    have hl := hv.lenOf
    unfold vf173b0
    simp [e0, e1, e5, hl, hp]
set_option maxRecDepth 100000 in
theorem heldBlockS_at {H : Hp} {v : CV} {xs : List BlkR} {k m : Int} (hv : Blocks H v xs) (hn : xs.length ≤ BIG) (hk : 0 ≤ k) (h : hds hdB k xs = some m) (hm : m ≤ 3000000000000000000) (K : IV × Hp → Prop) :
    CM 113 [.c v, .c (.i k)] H K = K (.c (.i m), H) := by
  refine det (cw113 ?_) K
  unfold vf113c
  simp
  obtain ⟨I, hI⟩ : ∃ I : Nat → St → Prop, ∀ i s, I i s ↔ (∃ mi : Int, hds hdB k (xs.take i) = some mi ∧ s.h = H ∧ Env.get s.e 0 = .c v ∧ Env.get s.e 1 = .c (.i mi) ∧ Env.get s.e 5 = .c (.i i)) := ⟨_, fun _ _ => Iff.rfl⟩
  refine wp_for CM_mono xs.length I ((hI _ _).2 ⟨k, by simp [hds], rfl, by simp⟩) ?_ ?_
  · rintro i ⟨e, X⟩ hi hIs
    obtain ⟨mi, hp, hX, e0, e1, e5⟩ := (hI _ _).1 hIs
    simp only at hX e0 e1 e5 ⊢
    subst hX
    obtain ⟨m1, m2, a1, a2, a3, a4, a5, a6⟩ := hds_at hdB_le h hi
    obtain rfl : mi = m1 := by rw [hp] at a1; injection a1
    have hl := hv.lenOf
    unfold vf113b0
    obtain ⟨k1, k2, c1, c2, c3, b1, b2, b3⟩ := hdB_at a2
    obtain ⟨t1, t2, t3, t4, c9⟩ := hdT_at c3
    obtain ⟨id, g, off, w, u, q1, q2, _, qp, ql, qa, qb, _⟩ := Blocks.get hv hi
    obtain ⟨r1, r2, r3, _, _, _, r4, r5, r6, _⟩ := q2
    rw [t1] at r3; rw [t2] at r4; rw [t3] at r5; rw [t4] at r6
    have w0 : -9223372036854775808 ≤ (k2 : Int) + 1 ∧ (k2 : Int) + 1 ≤ 9223372036854775807 := by omega
    have w1 : -9223372036854775808 ≤ ((k2 + 1) : Int) + 1 ∧ ((k2 + 1) : Int) + 1 ≤ 9223372036854775807 := by omega
    have w2 : -9223372036854775808 ≤ (((k2 + 1) + 1) : Int) + 1 ∧ (((k2 + 1) + 1) : Int) + 1 ≤ 9223372036854775807 := by omega
    have w3 : -9223372036854775808 ≤ ((((k2 + 1) + 1) + 1) : Int) + 1 ∧ ((((k2 + 1) + 1) + 1) : Int) + 1 ≤ 9223372036854775807 := by omega
    have hl1 : ¬ k1 < 0 := by omega
    have hl2 : ¬ k2 < 0 := by omega
    simp [e0, e1, e5, q1, r1, r2, r3, r4, r5, r6, hi, hl, up1 hi hn, wrap64_id w0, wrap64_id w1, wrap64_id w2, wrap64_id w3, heldPhiS_at qp qa (show 0 ≤ mi by omega) c1 (by omega), heldInsS_at ql qb (show 0 ≤ k1 by omega) c2 (by omega), hl1, hl2]
    exact (hI _ _).2 ⟨m2, a3, rfl, by simp [e0, c9]⟩
  · rintro ⟨e, X⟩ hIs
    obtain ⟨mi, hp, hX, e0, e1, e5⟩ := (hI _ _).1 hIs
    simp only at hX e0 e1 e5 ⊢
    subst hX
    rw [List.take_length, h] at hp
    injection hp with hp
    have hl := hv.lenOf
    unfold vf113b0
    simp [e0, e1, e5, hl, hp]
theorem heldFn_at {H : Hp} {v : CV} {xs : List BlkR} {n m : Int} (hv : Blocks H v xs) (hn : xs.length ≤ BIG) (h : hds hdB 1 xs = some m) (hm : m ≤ 3000000000000000000) (K : IV × Hp → Prop) :
    CM 48 [.agg [v, .i n], .c (.i 1)] H K = K (.c (.i m), H) := by
  refine det (cw48 ?_) K
  unfold vf48c
  have h1 := hds_le hdB_le h
  have hlt : ¬ m < 0 := by omega
  simp [heldBlockS_at (hv.app _) hn (show (0 : Int) ≤ 1 by omega) h hm, hlt]
end Go.Proofs.YtgdfgnppeekfjaaGreat.Vm
end
section
/- Rows copied; programs copied, by both: what is copied is one's own. No conditions. -/
namespace Go.Proofs.YtgdfgnppeekfjaaGreat.Vm
open Go.RowKit (wrap64)
set_option linter.unusedSimpArgs false
set_option linter.unusedVariables false
theorem flat_map_len {α : Type} {c : α → List CV} {sz : Nat} (hc : ∀ x, (c x).length = sz) (xs : List α) : (xs.map c).flatten.length = xs.length * sz := by
  rw [flat_len (sz := sz) (fun cs h => by obtain ⟨x, _, rfl⟩ := List.mem_map.1 h; exact hc x), List.length_map]
theorem chk_map {α : Type} {c : α → List CV} {sz : Nat} (hc : ∀ x, (c x).length = sz) {xs : List α} {k : Nat} (hk : k < xs.length) : chk (xs.map c).flatten sz k = c xs[k] := by
  unfold chk
  rw [chunk (fun cs h => by obtain ⟨x, _, rfl⟩ := List.mem_map.1 h; exact hc x) (by simpa using hk)]
  simp
theorem FRow.leaf {α : Type} {P : Hp → List CV → α → (Nat → Prop) → Prop} {c : α → List CV} {sz : Nat} (hc : ∀ x, (c x).length = sz) (hP : ∀ X x G, P X (c x) x G) {X : Hp} {id g : Nat} {xs : List α} {F : Nat → Prop} (h : rdOb X id g = some ⟨(xs.map c).flatten, g, true, sz⟩) (hF : F id) :
    FRow P sz X (.sl id g 0 xs.length) xs F :=
  .inr ⟨id, g, _, fun _ _ => False, rfl, h, ⟨xs.length, flat_map_len hc xs, Nat.le_refl _⟩, hF, fun k i _ h => h.elim, fun a b i _ _ _ h => h.elim, fun k hk => by rw [chk_map hc hk]; exact hP _ _ _⟩
theorem row_src {α : Type} {c : α → List CV} {sz : Nat} {H : Hp} {v : CV} {xs : List α} (h : Row (fun _ cs x => cs = c x) sz H v xs) : srcOf H sz v = some (xs.length, (xs.map c).flatten) := by
  obtain ⟨css, h1, h2, h3⟩ := h
  have e : css = xs.map c := by
    apply List.ext_getElem?
    intro k
    by_cases hk : k < xs.length
    · have a := List.getElem?_eq_getElem (show k < css.length by omega)
      have b := List.getElem?_eq_getElem hk
      have := (h3 k _ _ a b).2
      rw [a, List.getElem?_map, b, show css[k] = c xs[k] from this]; rfl
    · rw [List.getElem?_eq_none (by omega), List.getElem?_eq_none (by simp; omega)]
  subst e
  rcases h1 with ⟨rfl, h4, h5⟩ | ⟨id, g, off, o, rfl, h4, h5, h6, h7⟩
  · have : xs = [] := List.length_eq_zero_iff.1 h4
    subst this; rfl
  · simp [srcOf, h4, h6, h7]
theorem arms_srcF {H : Hp} {v : CV} {xs : List ArmR} (h : Arms H v xs) : srcOf H 2 v = some (xs.length, (xs.map armC).flatten) := row_src h
theorem list_srcF {H : Hp} {v : CV} {xs : List InsR} (h : List5 H v xs) : srcOf H 5 v = some (xs.length, (xs.map insC).flatten) := row_src h
theorem fillApp {H : Hp} {id sz n : Nat} {cells : List CV} (h : rdOb H id 0 = some ⟨[], 0, true, sz⟩) (hl : cells.length = n * sz) (hs : 0 < sz) (hb : n * sz ≤ LIM) :
    ∃ g, doApp H sz (.sl id 0 0 0) n cells = some (.c (.sl id g 0 n), H.set id ⟨cells, g, true, sz⟩) := by
  by_cases h0 : 0 < n
  · refine ⟨1, ?_⟩
    have hp : 0 < n * sz := Nat.mul_pos h0 hs
    have := app_own (X := H) (o := id) (g := 0) (n := 0) (sz := sz) (m := n) (cs := []) (xs := cells) h (by simp) (by omega) (by simpa [hl] using hb)
    simpa using this
  · have hn : n = 0 := by omega
    subst hn
    have : cells = [] := List.length_eq_zero_iff.1 (by simpa using hl)
    subst this
    exact ⟨0, by simp [doApp, h, putAt]⟩
theorem armC_len (x : ArmR) : (armC x).length = 2 := rfl
theorem insC_len (x : InsR) : (insC x).length = 5 := rfl
theorem flat_map_flat {α : Type} {c : α → List CV} (hc : ∀ x, (c x).all flatC = true) (xs : List α) : ((xs.map c).flatten).all flatC = true := by
  rw [List.all_eq_true]
  intro y hy
  obtain ⟨cs, h1, h2⟩ := List.mem_flatten.1 hy
  obtain ⟨x, _, rfl⟩ := List.mem_map.1 h1
  exact List.all_eq_true.1 (hc x) y h2
theorem big_lim {n sz : Nat} (hb : n ≤ BIG) (hs : sz ≤ 8) : n * sz ≤ LIM := by
  have := Nat.mul_le_mul hb hs
  simp only [BIG] at this
  simp only [LIM]; omega
theorem cloneIns {H : Hp} {v : CV} {xs : List InsR} (hv : List5 H v xs) (hb : xs.length ≤ BIG) :
    ∃ w L, FRow insF 5 (H ++ L) w xs (· = H.length) ∧ ∀ k : IV × Hp → Prop, CM 171 [.c v] H k = k (.c w, H ++ L) := by
  by_cases hn : v = .ns
  · subst hn
    have hx : xs = [] := List.length_eq_zero_iff.1 (by have := hv.lenOf; simp [lenOf] at this; omega)
    subst hx
    refine ⟨.ns, [], FRow.ns, fun k => det (cw171 ?_) k⟩
    unfold vf171c
    simp
  · obtain ⟨id, gg, off, n, rfl⟩ : ∃ id gg off n, v = .sl id gg off n := by
      obtain ⟨css, h1, _⟩ := hv
      rcases h1 with ⟨h, _⟩ | ⟨id, gg, off, o, h, _⟩
      · exact absurd h hn
      · exact ⟨_, _, _, _, h⟩
    refine ⟨.sl H.length 0 0 xs.length, [⟨(xs.map insC).flatten, 0, true, 5⟩], FRow.leaf insC_len (fun _ _ _ => rfl) (by simp) rfl, fun k => det (cw171 ?_) k⟩
    unfold vf171c
    have hsrc := list_srcF (hv.app [⟨[], 0, true, 5⟩])
    obtain ⟨g, hg⟩ := fillApp (H := H ++ [⟨[], 0, true, 5⟩]) (id := H.length) (sz := 5) (n := xs.length) (by simp) (flat_map_len insC_len xs) (by omega) (big_lim hb (by omega))
    simp [hsrc, hg]
    rw [gcRet_row ⟨_, rfl⟩ (Nat.le_refl _) (o := ⟨(xs.map insC).flatten, g, true, 5⟩) (by simp) rfl (flat_map_flat (fun x => rfl) xs)]
theorem cloneArm {H : Hp} {v : CV} {xs : List ArmR} (hv : Arms H v xs) (hb : xs.length ≤ BIG) :
    ∃ w L, FRow armF 2 (H ++ L) w xs (· = H.length) ∧ ∀ k : IV × Hp → Prop, CM 172 [.c v] H k = k (.c w, H ++ L) := by
  by_cases hn : v = .ns
  · subst hn
    have hx : xs = [] := List.length_eq_zero_iff.1 (by have := hv.lenOf; simp [lenOf] at this; omega)
    subst hx
    refine ⟨.ns, [], FRow.ns, fun k => det (cw172 ?_) k⟩
    unfold vf172c
    simp
  · obtain ⟨id, gg, off, n, rfl⟩ : ∃ id gg off n, v = .sl id gg off n := by
      obtain ⟨css, h1, _⟩ := hv
      rcases h1 with ⟨h, _⟩ | ⟨id, gg, off, o, h, _⟩
      · exact absurd h hn
      · exact ⟨_, _, _, _, h⟩
    refine ⟨.sl H.length 0 0 xs.length, [⟨(xs.map armC).flatten, 0, true, 2⟩], FRow.leaf armC_len (fun _ _ _ => rfl) (by simp) rfl, fun k => det (cw172 ?_) k⟩
    unfold vf172c
    have hsrc := arms_srcF (hv.app [⟨[], 0, true, 2⟩])
    obtain ⟨g, hg⟩ := fillApp (H := H ++ [⟨[], 0, true, 2⟩]) (id := H.length) (sz := 2) (n := xs.length) (by simp) (flat_map_len armC_len xs) (by omega) (big_lim hb (by omega))
    simp [hsrc, hg]
    rw [gcRet_row ⟨_, rfl⟩ (Nat.le_refl _) (o := ⟨(xs.map armC).flatten, g, true, 2⟩) (by simp) rfl (flat_map_flat (fun x => rfl) xs)]
end Go.Proofs.YtgdfgnppeekfjaaGreat.Vm
end
section
/- Programs copied by the program: what is copied is one's own. No conditions. -/
namespace Go.Proofs.YtgdfgnppeekfjaaGreat.Vm
open Go.RowKit (wrap64)
set_option linter.unusedSimpArgs false
set_option linter.unusedVariables false
abbrev BOb (z u : CV) (t : TrmR) : Ob := ⟨[z, u, .i t.kind, .i t.a, .i t.to, .i t.els], 0, true, 6⟩
set_option maxRecDepth 100000 in
theorem cloneIn {H X6 : Hp} {o6 : Nat} {wz u : CV} {ps : List PhiR} {t : TrmR} {e : Env} {Q : X × St → Prop} {x1 x2 x3 x5 x13 x14 x15 : IV} (hp : Phis H wz ps) (hb : ps.length ≤ BIG) (hp6 : Pre H X6) (ho : H.length ≤ o6) (h6 : rdOb X6 o6 0 = some (BOb .ns u t))
    (e1 : Env.get e 1 = x1) (e2 : Env.get e 2 = x2) (e3 : Env.get e 3 = x3) (e5 : Env.get e 5 = x5) (e13 : Env.get e 13 = x13) (e14 : Env.get e 14 = x14) (e15 : Env.get e 15 = x15) (e6 : Env.get e 6 = .c (.p o6 0 0)) (e26 : Env.get e 26 = .c wz) (e27 : Env.get e 27 = .c (.i ps.length)) (e28 : Env.get e 28 = .c (.i 0))
    (hQ : ∀ (Y : Hp) (z : CV) (e' : Env), X6.length ≤ Y.length → rdOb Y o6 0 = some (BOb z u t) → FRow phiF 2 Y z ps (fun i => X6.length ≤ i ∧ i < Y.length) → Frm (fun i => i < X6.length ∧ i ≠ o6) X6 Y →
      Env.get e' 1 = x1 → Env.get e' 2 = x2 → Env.get e' 3 = x3 → Env.get e' 5 = x5 → Env.get e' 13 = x13 → Env.get e' 14 = x14 → Env.get e' 15 = x15 → Env.get e' 6 = .c (.p o6 0 0) → Q (.exit 2, ⟨e', Y⟩)) :
    loopD (exW CM [0, 1, 2, 3, 5, 6, 8, 13, 14, 15, 16, 26, 27, 28, 29] vf112b0) ⟨e, X6⟩ Q := by
  obtain ⟨I, hI⟩ : ∃ I : Nat → St → Prop, ∀ j s, I j s ↔ (∃ z, X6.length ≤ s.h.length ∧ rdOb s.h o6 0 = some (BOb z u t) ∧ FRow phiF 2 s.h z (ps.take j) (fun i => X6.length ≤ i ∧ i < s.h.length) ∧ Frm (fun i => i < X6.length ∧ i ≠ o6) X6 s.h ∧
      Env.get s.e 1 = x1 ∧ Env.get s.e 2 = x2 ∧ Env.get s.e 3 = x3 ∧ Env.get s.e 5 = x5 ∧ Env.get s.e 13 = x13 ∧ Env.get s.e 14 = x14 ∧ Env.get s.e 15 = x15 ∧ Env.get s.e 6 = .c (.p o6 0 0) ∧ Env.get s.e 26 = .c wz ∧ Env.get s.e 27 = .c (.i ps.length) ∧ Env.get s.e 28 = .c (.i j)) := ⟨_, fun _ _ => Iff.rfl⟩
  have hl6 := rdOb_lt h6
  refine wp_for CM_mono ps.length I ((hI _ _).2 ⟨.ns, Nat.le_refl _, h6, FRow.ns, Frm.refl _ _, e1, e2, e3, e5, e13, e14, e15, e6, e26, e27, e28⟩) ?_ ?_
  · rintro j ⟨e0, X7⟩ hj hIs
    obtain ⟨z, hlX, hO, hR, hf, f1, f2, f3, f5, f13, f14, f15, f6, f26, f27, f28⟩ := (hI _ _).1 hIs
    simp only at hlX hO hR hf f1 f2 f3 f5 f13 f14 f15 f6 f26 f27 f28 ⊢
    have hp7 : Pre H X7 := (hf.mono fun i (hi : i < H.length) => by have := hp6.le; omega).cut hp6
    obtain ⟨p, hpp⟩ : ∃ p, ps[j] = p := ⟨_, rfl⟩
    obtain ⟨id, g, off, wa, q1, q2, q3, qa, qb, _, _⟩ := Phis.get (Phis.pre hp7 hp) hj
    rw [hpp] at q2 q3 qa qb
    obtain ⟨Y1, hY1⟩ : ∃ Y1, X7 ++ [(⟨[.i p.d, wa], 0, true, 2⟩ : Ob)] = Y1 := ⟨_, rfl⟩
    have hp1 : Pre X7 Y1 := ⟨_, hY1.symm⟩
    have l1 : Y1.length = X7.length + 1 := by rw [← hY1]; simp
    have n1 : rdOb Y1 X7.length 0 = some ⟨[.i p.d, wa], 0, true, 2⟩ := by rw [← hY1]; simp
    have k1 := hp1.rdOb hO
    obtain ⟨w8, L8, har, hcl⟩ := cloneArm (Arms.pre hp1 qa) qb
    obtain ⟨Y2, hY2⟩ : ∃ Y2, Y1 ++ L8 = Y2 := ⟨_, rfl⟩
    rw [hY2] at har
    have hp2 : Pre Y1 Y2 := ⟨_, hY2.symm⟩
    have l2 := hp2.le
    have n2 := hp2.rdOb n1
    have k2 := hp2.rdOb k1
    obtain ⟨Y3, hY3⟩ : ∃ Y3, Y2 ++ [(⟨[.i p.d, w8], 0, true, 2⟩ : Ob)] = Y3 := ⟨_, rfl⟩
    have hp3 : Pre Y2 Y3 := ⟨_, hY3.symm⟩
    have l3 : Y3.length = Y2.length + 1 := by rw [← hY3]; simp
    have n3 : rdOb Y3 Y2.length 0 = some ⟨[.i p.d, w8], 0, true, 2⟩ := by rw [← hY3]; simp
    have k3 := hp3.rdOb k2
    have hsrc : srcOf Y3 2 (.sl Y2.length 0 0 1) = some (1, [.i p.d, w8]) := by simp [srcOf, n3]
    have hR3 := hR.fr phiF_st (Frm.pre (hp1.trans (hp2.trans hp3)))
    obtain ⟨iz, gz, Y4, happ, hR4, hf4, l4⟩ := hR3.snoc phiF_st (by rw [List.length_take]; omega) (by omega) (by omega) (cs := [.i p.d, w8]) (x := p) (G := fun i => i = Y1.length) rfl
      (fun Z hZ => ⟨w8, rfl, har.fr armF_st ((Frm.pre hp3).trans hZ), qb⟩) (fun i hi => by subst hi; omega)
    rw [List.length_take, Nat.min_eq_left (by omega)] at happ hR4
    have k4 : rdOb Y4 o6 0 = some (BOb z u t) := hf4.ob (by omega) k3
    obtain ⟨Y5, hY5⟩ : ∃ Y5, Y4.set o6 (BOb (.sl iz gz 0 (j + 1)) u t) = Y5 := ⟨_, rfl⟩
    have l5 : Y5.length = Y4.length := by rw [← hY5]; simp
    have k5 : rdOb Y5 o6 0 = some (BOb (.sl iz gz 0 (j + 1)) u t) := by rw [← hY5, rdOb_set_self (rdOb_lt k4)]; simp
    have hf5 : ∀ G : Nat → Prop, ¬ G o6 → Frm G Y4 Y5 := fun G hG => by rw [← hY5]; exact Frm.set _ _ hG
    unfold vf112b0
    rcases har.form with rfl | ⟨i8, g8, n8, rfl⟩
    all_goals simp [f1, f2, f3, f5, f13, f14, f15, f6, f26, f27, f28, hj, q1, q2.2.2, putAt, hY1, rdC_ob n1, rdC_ob k1, hcl, hY2, hY3, k1, k2, n1, n2, k3, k4, hsrc, happ, hY5, up1 hj hb]
    all_goals refine (hI _ _).2 ⟨.sl iz gz 0 (j + 1), by simp only; omega, k5, ?_, ?_, by simp⟩
    any_goals
      rw [List.take_succ_eq_append_getElem hj, hpp]
      refine (hR4.fr phiF_st (hf5 _ (by omega))).mono fun i hi => ?_
      simp only
      omega
    all_goals
      refine hf.trans (((Frm.pre (hp1.trans (hp2.trans hp3))).trans (hf4.mono fun i hi => ?_)).trans (hf5 _ fun hn => hn.2 rfl))
      omega
  · rintro ⟨e0, X7⟩ hIs
    obtain ⟨z, hlX, hO, hR, hf, f1, f2, f3, f5, f13, f14, f15, f6, f26, f27, f28⟩ := (hI _ _).1 hIs
    simp only at hlX hO hR hf f1 f2 f3 f5 f13 f14 f15 f6 f26 f27 f28 ⊢
    rw [List.take_length] at hR
    unfold vf112b0
    simp [f1, f2, f3, f5, f13, f14, f15, f6, f26, f27, f28]
    exact hQ X7 z _ hlX hO hR hf (by simp) (by simp) (by simp) (by simp) (by simp) (by simp) (by simp) (by simp)
theorem pushBlk {X0 X X6 Y : Hp} {o3 o6 i : Nat} {w z u : CV} {m : Int} {b : BlkR} {bs : List BlkR} {Gu : Nat → Prop} (h3 : o3 < X0.length) (hT : Tree (fun j => X0.length ≤ j ∧ j < X.length) X w bs) (hbs : bs.length = i) (hib : i ≤ BIG) (hO : rdOb X o3 0 = some ⟨[w, .i m], 0, true, 2⟩) (hf : Frm (fun j => j < o3) X0 X) (hlX : X0.length ≤ X.length)
    (hp6 : Pre X X6) (ho6 : X.length ≤ o6) (hu : FRow insF 5 X6 u b.list Gu) (hGu : ∀ j, Gu j → X.length ≤ j ∧ j < X6.length ∧ j ≠ o6)
    (hlY : X6.length ≤ Y.length) (hY : rdOb Y o6 0 = some (BOb z u b.term)) (hz : FRow phiF 2 Y z b.phis (fun j => X6.length ≤ j ∧ j < Y.length)) (hfY : Frm (fun j => j < X6.length ∧ j ≠ o6) X6 Y) (hb1 : b.phis.length ≤ BIG) (hb2 : b.list.length ≤ BIG) :
    ∃ i' g' Y1 Z Z2, Y ++ [BOb z u b.term] = Y1 ∧ rdOb Y o3 0 = some ⟨[w, .i m], 0, true, 2⟩ ∧ srcOf Y1 6 (.sl Y.length 0 0 1) = some (1, [z, u, .i b.term.kind, .i b.term.a, .i b.term.to, .i b.term.els]) ∧
      doApp Y1 6 w 1 [z, u, .i b.term.kind, .i b.term.a, .i b.term.to, .i b.term.els] = some (.c (.sl i' g' 0 (i + 1)), Z) ∧ rdOb Z o3 0 = some ⟨[w, .i m], 0, true, 2⟩ ∧ Z.set o3 ⟨[.sl i' g' 0 (i + 1), .i m], 0, true, 2⟩ = Z2 ∧
      rdOb Z2 o3 0 = some ⟨[.sl i' g' 0 (i + 1), .i m], 0, true, 2⟩ ∧ Tree (fun j => X0.length ≤ j ∧ j < Z2.length) Z2 (.sl i' g' 0 (i + 1)) (bs ++ [b]) ∧ Frm (fun j => j < o3) X0 Z2 ∧ X0.length ≤ Z2.length := by
  obtain ⟨Y1, hY1⟩ : ∃ Y1, Y ++ [BOb z u b.term] = Y1 := ⟨_, rfl⟩
  have hp1 : Pre Y Y1 := ⟨_, hY1.symm⟩
  have l1 : Y1.length = Y.length + 1 := by rw [← hY1]; simp
  have n1 : rdOb Y1 Y.length 0 = some (BOb z u b.term) := by rw [← hY1]; simp
  have l6 := hp6.le
  have hXY : ∀ G : Nat → Prop, (∀ j, G j → j < X.length) → Frm G X Y := fun G hG => (Frm.pre hp6).trans (hfY.mono fun j hj => by have := hG j hj; omega)
  have hOY : rdOb Y o3 0 = some ⟨[w, .i m], 0, true, 2⟩ := (hXY (fun j => j < X0.length) (fun j hj => by omega)).ob h3 hO
  have hTY := (hT.fr blkF_st (hXY _ fun j hj => hj.2)).fr blkF_st (Frm.pre hp1)
  subst hbs
  have huY : FRow insF 5 Y1 u b.list Gu := (hu.fr insF_st (hfY.mono fun j hj => ⟨(hGu j hj).2.1, (hGu j hj).2.2⟩)).fr insF_st (Frm.pre hp1)
  have hzY := hz.fr phiF_st (Frm.pre hp1)
  obtain ⟨i', g', Z, happ, hT4, hf4, l4⟩ := hTY.snoc blkF_st hib (by omega) (by omega) (cs := [z, u, .i b.term.kind, .i b.term.a, .i b.term.to, .i b.term.els]) (x := b) (G := fun j => X.length ≤ j ∧ j < Y.length) rfl
    (fun W hW => ⟨z, u, _, Gu, rfl, hzY.fr phiF_st (hW.mono fun j hj => by omega), huY.fr insF_st (hW.mono fun j hj => by have := hGu j hj; omega), fun j hj => ⟨by omega, fun hg => by have := hGu j hg; omega⟩, fun j hj => by have := hGu j hj; omega, hb1, hb2⟩)
    (fun j hj => by omega)
  have hO4 : rdOb Z o3 0 = some ⟨[w, .i m], 0, true, 2⟩ := hf4.ob (by omega) (hp1.rdOb hOY)
  refine ⟨i', g', Y1, Z, _, hY1, hOY, by simp [srcOf, n1], happ, hO4, rfl, by rw [rdOb_set_self (rdOb_lt hO4)]; simp, ?_, ?_, ?_⟩
  · refine (hT4.fr blkF_st (Frm.set _ _ (by omega))).mono fun j hj => ?_
    simp only [List.length_set]
    omega
  · exact hf.trans ((hXY _ fun j hj => by omega).trans ((Frm.pre hp1).trans ((hf4.mono fun j hj => by omega).trans (Frm.set _ _ (by omega)))))
  · simp only [List.length_set]; omega
set_option maxRecDepth 100000 in
theorem implClone {H : Hp} {v : CV} {m : Int} {bs : List BlkR} (hv : Blocks H v bs) (hb : bs.length ≤ BIG) :
    CM 112 [.agg [v, .i m]] H fun r => ∃ w L, r = (.agg [w, .i m], H ++ L) ∧ Tree (fun i => H.length ≤ i) (H ++ L) w bs := by
  refine cw112 ?_
  unfold vf112c
  obtain ⟨X0, hX0⟩ : ∃ X0, H ++ [(⟨[v, .i m], 0, true, 2⟩ : Ob), ⟨[.ns, .i 0], 0, true, 2⟩, ⟨[.ns, .i m], 0, true, 2⟩] = X0 := ⟨_, rfl⟩
  have hp0 : Pre H X0 := ⟨_, hX0.symm⟩
  have hl0 : X0.length = H.length + 3 := by rw [← hX0]; simp
  have hB0 : rdOb X0 H.length 0 = some ⟨[v, .i m], 0, true, 2⟩ := by rw [← hX0]; simp
  have hR0 : rdOb X0 (H.length + 1) 0 = some ⟨[.ns, .i 0], 0, true, 2⟩ := by rw [← hX0]; simp
  have hO0 : rdOb X0 (H.length + 2) 0 = some ⟨[.ns, .i m], 0, true, 2⟩ := by rw [← hX0]; simp
  have hv0 := Blocks.pre hp0 hv
  have hl := hv0.lenOf
  simp [putAt, hX0, rdC_ob hB0, hl]
  obtain ⟨I, hI⟩ : ∃ I : Nat → St → Prop, ∀ i s, I i s ↔ (∃ w, rdOb s.h (H.length + 2) 0 = some ⟨[w, .i m], 0, true, 2⟩ ∧ Tree (fun j => X0.length ≤ j ∧ j < s.h.length) s.h w (bs.take i) ∧ Frm (fun j => j < H.length + 2) X0 s.h ∧ X0.length ≤ s.h.length ∧
      Env.get s.e 1 = .c (.p H.length 0 0) ∧ Env.get s.e 2 = .c (.p (H.length + 1) 0 0) ∧ Env.get s.e 3 = .c (.p (H.length + 2) 0 0) ∧ Env.get s.e 13 = .c v ∧ Env.get s.e 14 = .c (.i bs.length) ∧ Env.get s.e 15 = .c (.i i)) := ⟨_, fun _ _ => Iff.rfl⟩
  refine wp_for CM_mono bs.length I ((hI _ _).2 ⟨.ns, hO0, FRow.ns, Frm.refl _ _, Nat.le_refl _, by simp⟩) ?_ ?_
  · rintro i ⟨e, X⟩ hi hIs
    obtain ⟨w, hO, hT, hf, hlX, e1, e2, e3, e13, e14, e15⟩ := (hI _ _).1 hIs
    simp only at hO hT hf hlX e1 e2 e3 e13 e14 e15 ⊢
    obtain ⟨b, hbb⟩ : ∃ b, bs[i] = b := ⟨_, rfl⟩
    have hpX : Pre H X := (hf.mono fun j (hj : j < H.length) => by omega).cut hp0
    obtain ⟨id, g, off, wz, wu, q1, q2, q3, qp, ql, qpl, qll, _, _⟩ := Blocks.get (Blocks.pre hpX hv) hi
    rw [hbb] at q2 q3 qp ql qpl qll
    obtain ⟨X5, hX5⟩ : ∃ X5, X ++ [BOb wz wu b.term] = X5 := ⟨_, rfl⟩
    have hl5 : X5.length = X.length + 1 := by rw [← hX5]; simp
    have h5 : rdOb X5 X.length 0 = some (BOb wz wu b.term) := by rw [← hX5]; simp
    have hp5 : Pre X X5 := ⟨_, hX5.symm⟩
    have ql5 := List5.pre hp5 ql
    obtain ⟨u1, L1, hu1, hc1⟩ := cloneIns ql5 qll
    obtain ⟨A1, hA1⟩ : ∃ A1, X5 ++ L1 = A1 := ⟨_, rfl⟩
    rw [hA1] at hu1
    have pA1 : Pre X5 A1 := ⟨_, hA1.symm⟩
    obtain ⟨A2, hA2⟩ : ∃ A2, A1 ++ [BOb .ns .ns ⟨0, 0, 0, 0⟩] = A2 := ⟨_, rfl⟩
    have pA2 : Pre A1 A2 := ⟨_, hA2.symm⟩
    have lA2 : A2.length = A1.length + 1 := by rw [← hA2]; simp
    have oA2 : rdOb A2 A1.length 0 = some (BOb .ns .ns ⟨0, 0, 0, 0⟩) := by rw [← hA2]; simp
    obtain ⟨A3, hA3⟩ : ∃ A3, A2.set A1.length (BOb .ns u1 b.term) = A3 := ⟨_, rfl⟩
    have lA3 : A3.length = A2.length := by rw [← hA3]; simp
    have oA3 : rdOb A3 A1.length 0 = some (BOb .ns u1 b.term) := by rw [← hA3, rdOb_set_self (by omega)]; simp
    have pXA : Pre X A3 := by rw [← hA3]; exact ((hp5.trans pA1).trans pA2).set (by have := (hp5.trans pA1).le; omega) _
    have bA2 : rdOb A2 X.length 0 = some (BOb wz wu b.term) := pA2.rdOb (pA1.rdOb h5)
    have bA3 : rdOb A3 X.length 0 = some (BOb wz wu b.term) := by rw [← hA3, rdOb_set_ne (by have := pA1.le; omega)]; exact pA2.rdOb (pA1.rdOb h5)
    have uA3 : FRow insF 5 A3 u1 b.list (fun j => j = X5.length ∧ j < A1.length) := by
      rw [← hA3]
      refine FRow.fr insF_st ?_ (Frm.set (G := fun j => j = X5.length ∧ j < A1.length) _ _ (by omega))
      refine FRow.fr insF_st ?_ (Frm.pre pA2)
      rcases hu1 with h | ⟨i1, g1, c1, F1, h1, h2⟩
      · exact .inl h
      · have hlt := h2.lt
        have hown : i1 = X5.length := h2.own
        exact .inr ⟨i1, g1, c1, F1, h1, ⟨h2.ob, h2.len, ⟨hown, hlt⟩, fun k j hk hj => ⟨⟨(h2.sub k j hk hj).1, by have := h2.sub k j hk hj; omega⟩, (h2.sub k j hk hj).2⟩, h2.dis, h2.el⟩⟩
    obtain ⟨B1, hB1⟩ : ∃ B1, X5 ++ [BOb .ns .ns ⟨0, 0, 0, 0⟩] = B1 := ⟨_, rfl⟩
    have pB1 : Pre X5 B1 := ⟨_, hB1.symm⟩
    have lB1 : B1.length = X5.length + 1 := by rw [← hB1]; simp
    have oB1 : rdOb B1 X5.length 0 = some (BOb .ns .ns ⟨0, 0, 0, 0⟩) := by rw [← hB1]; simp
    obtain ⟨u2, L2, hu2, hc2⟩ := cloneIns (List5.pre pB1 ql5) qll
    obtain ⟨B2, hB2⟩ : ∃ B2, B1 ++ L2 = B2 := ⟨_, rfl⟩
    rw [hB2] at hu2
    have pB2 : Pre B1 B2 := ⟨_, hB2.symm⟩
    have oB2 := pB2.rdOb oB1
    have lB2 := pB2.le
    obtain ⟨B3, hB3⟩ : ∃ B3, B2.set X5.length (BOb .ns u2 b.term) = B3 := ⟨_, rfl⟩
    have lB3 : B3.length = B2.length := by rw [← hB3]; simp
    have oB3 : rdOb B3 X5.length 0 = some (BOb .ns u2 b.term) := by rw [← hB3, rdOb_set_self (by omega)]; simp
    have pXB : Pre X B3 := by rw [← hB3]; exact ((hp5.trans pB1).trans pB2).set (by omega) _
    have bB2 : rdOb B2 X.length 0 = some (BOb wz wu b.term) := pB2.rdOb (pB1.rdOb h5)
    have bB3 : rdOb B3 X.length 0 = some (BOb wz wu b.term) := by rw [← hB3, rdOb_set_ne (by omega)]; exact bB2
    have uB3 : FRow insF 5 B3 u2 b.list (fun j => j = B1.length ∧ j < B2.length) := by
      rw [← hB3]
      refine FRow.fr insF_st ?_ (Frm.set (G := fun j => j = B1.length ∧ j < B2.length) _ _ (by omega))
      rcases hu2 with h | ⟨i1, g1, c1, F1, h1, h2⟩
      · exact .inl h
      · have hlt := h2.lt
        have hown : i1 = B1.length := h2.own
        exact .inr ⟨i1, g1, c1, F1, h1, ⟨h2.ob, h2.len, ⟨hown, hlt⟩, fun k j hk hj => ⟨⟨(h2.sub k j hk hj).1, by have := h2.sub k j hk hj; omega⟩, (h2.sub k j hk hj).2⟩, h2.dis, h2.el⟩⟩
    have h5A1 := pA1.rdOb h5
    have h5B1 := pB1.rdOb h5
    have lA1 := pA1.le
    have hti : (bs.take i).length = i := by rw [List.length_take]; omega
    have hsnoc : bs.take (i + 1) = bs.take i ++ [b] := by rw [List.take_succ_eq_append_getElem hi, hbb]
    unfold vf112b1
    rcases hu1.form with rfl | ⟨i1, g1, n1, rfl⟩ <;> rcases hu2.form with rfl | ⟨i2, g2, n2, rfl⟩
    all_goals
      simp [vf112t0, e1, e2, e3, e13, e14, e15, hi, q1, q2.2.2.2.2.2.2.2.2.2.2, putAt, hX5, rdC_ob h5, rdN_ob h5, hc1, hc2, hA1, rdN_ob h5A1, h5, h5A1, hA2, bA2, oA2, hA3, hB1, h5B1, rdC_ob h5B1, hB2, bB2, rdN_ob bB2, oB2, hB3, rdC_ob bA3, rdC_ob bB3, qp.lenOf]
      refine ⟨cloneIn qp qpl pXA (by omega) oA3 rfl rfl rfl rfl rfl rfl rfl rfl rfl rfl rfl ?_, cloneIn qp qpl pXB (by omega) oB3 rfl rfl rfl rfl rfl rfl rfl rfl rfl rfl rfl ?_⟩
      · intro Y z e' hlY hY hz hfY f1 f2 f3 f5 f13 f14 f15 f6
        obtain ⟨i', g', Y1, Z, Z2, a1, a2, a3, a4, a5, a6, a7, a8, a9, a10⟩ := pushBlk (by omega) hT hti (by omega) hO hf hlX pXA (by omega) uA3 (fun j hj => by omega) hlY hY hz hfY qpl qll
        rw [← hsnoc] at a8
        simp [f1, f2, f3, f5, f13, f14, f15, f6, putAt, rdC_ob a2, rdN_ob hY, a1, a3, a4, a5, a6, up1 hi hb]
        exact (hI _ _).2 ⟨_, a7, a8, a9, a10, by simp [f1, f2, f3, f13, f14, f15]⟩
      · intro Y z e' hlY hY hz hfY f1 f2 f3 f5 f13 f14 f15 f6
        obtain ⟨i', g', Y1, Z, Z2, a1, a2, a3, a4, a5, a6, a7, a8, a9, a10⟩ := pushBlk (by omega) hT hti (by omega) hO hf hlX pXB (by omega) uB3 (fun j hj => by omega) hlY hY hz hfY qpl qll
        rw [← hsnoc] at a8
        simp [f1, f2, f3, f5, f13, f14, f15, f6, putAt, rdC_ob a2, rdN_ob hY, a1, a3, a4, a5, a6, up1 hi hb]
        exact (hI _ _).2 ⟨_, a7, a8, a9, a10, by simp [f1, f2, f3, f13, f14, f15]⟩
  · rintro ⟨e, X⟩ hIs
    obtain ⟨w, hO, hT, hf, hlX, e1, e2, e3, e13, e14, e15⟩ := (hI _ _).1 hIs
    simp only at hO hT hf hlX e1 e2 e3 e13 e14 e15 ⊢
    rw [List.take_length] at hT
    have hpX : Pre H X := (hf.mono fun j (hj : j < H.length) => by omega).cut hp0
    have hRX : rdOb X (H.length + 1) 0 = some ⟨[.ns, .i 0], 0, true, 2⟩ := hf.ob (by omega) hR0
    obtain ⟨X2, hX2⟩ : ∃ X2, X.set (H.length + 1) ⟨[w, .i m], 0, true, 2⟩ = X2 := ⟨_, rfl⟩
    have hR2 : rdOb X2 (H.length + 1) 0 = some ⟨[w, .i m], 0, true, 2⟩ := by rw [← hX2, rdOb_set_self (rdOb_lt hRX)]; simp
    have hp2 : Pre H X2 := by rw [← hX2]; exact hpX.set (by omega) _
    have hT2 : Tree (fun j => H.length ≤ j) X2 w bs := by
      rw [← hX2]
      exact (hT.fr blkF_st (Frm.set _ _ (by omega))).mono fun j hj => by omega
    unfold vf112b1
    rcases hT.form with rfl | ⟨i', g', n', rfl⟩
    · simp [e1, e2, e3, e13, e14, e15, rdN_ob hO, hRX, putAt, hX2, rdN_ob hR2]
      have hbs : bs = [] := by
        rcases hT with ⟨_, h⟩ | ⟨_, _, _, _, h, _⟩
        · exact h
        · cases h
      rw [show gcRet H (.agg [.ns, .i m]) X2 = (.agg [.ns, .i m], H) from gcRet_flat hp2 rfl]
      exact ⟨.ns, [], by simp, .inl ⟨rfl, hbs⟩⟩
    · simp [e1, e2, e3, e13, e14, e15, rdN_ob hO, hRX, putAt, hX2, rdN_ob hR2]
      rw [gc_agg (by simp [flatC])]
      obtain ⟨L, rfl⟩ := hp2
      exact ⟨_, L, rfl, hT2⟩
end Go.Proofs.YtgdfgnppeekfjaaGreat.Vm
end
section
/- Programs copied by the specification: what is copied is one's own. No conditions. -/
namespace Go.Proofs.YtgdfgnppeekfjaaGreat.Vm
open Go.RowKit (wrap64)
set_option linter.unusedSimpArgs false
set_option linter.unusedVariables false
theorem rdC_to {X Y : Hp} (hp : Pre X Y) {id g off : Nat} {c : CV} (h : rdC X id g off = some c) : rdC Y id g off = some c := by
  unfold rdC at h ⊢
  cases ho : rdOb X id g with
  | none => simp [ho] at h
  | some o => rw [hp.rdOb ho]; rw [ho] at h; exact h
theorem rdN_to {X Y : Hp} (hp : Pre X Y) {id g off n : Nat} {c : List CV} (h : rdN X id g off n = some c) : rdN Y id g off n = some c := by
  unfold rdN at h ⊢
  cases ho : rdOb X id g with
  | none => simp [ho] at h
  | some o => rw [hp.rdOb ho]; rw [ho] at h; exact h
theorem rdOb_of_rdC {X : Hp} {id g off : Nat} {c : CV} (h : rdC X id g off = some c) : ∃ o, rdOb X id g = some o := by
  unfold rdC at h
  cases ho : rdOb X id g with
  | none => simp [ho] at h
  | some o => exact ⟨o, rfl⟩
set_option maxRecDepth 100000 in
theorem copyIn {B X6 : Hp} {o6 bf i id g off : Nat} {v wz u : CV} {m : Int} {ps : List PhiR} {t : TrmR} {e : Env} {Q : X × St → Prop} {x2 x3 : IV} (hp : Phis B wz ps) (hb : ps.length ≤ BIG) (hp6 : Pre B X6) (ho : B.length ≤ o6) (h6 : rdOb X6 o6 0 = some (BOb .ns u t))
    (hBf : rdOb B bf 0 = some ⟨[v, .i m], 0, true, 2⟩) (hix : idxOf 6 v (i : Int) = some (.p id g off)) (hwz : rdC B id g off = some wz)
    (e1 : Env.get e 1 = .c (.p bf 0 0)) (e2 : Env.get e 2 = x2) (e3 : Env.get e 3 = x3) (e4 : Env.get e 4 = .c (.i i)) (e5 : Env.get e 5 = .c (.p o6 0 0)) (e6 : Env.get e 6 = .c (.i 0))
    (hQ : ∀ (Y : Hp) (z : CV) (e' : Env), X6.length ≤ Y.length → rdOb Y o6 0 = some (BOb z u t) → FRow phiF 2 Y z ps (fun i => X6.length ≤ i ∧ i < Y.length) → Frm (fun i => i < X6.length ∧ i ≠ o6) X6 Y →
      Env.get e' 1 = .c (.p bf 0 0) → Env.get e' 2 = x2 → Env.get e' 3 = x3 → Env.get e' 4 = .c (.i i) → Env.get e' 5 = .c (.p o6 0 0) → Q (.exit 2, ⟨e', Y⟩)) :
    loopD (exW CM [0, 1, 2, 3, 4, 5, 6, 7, 15, 41] vf110b0) ⟨e, X6⟩ Q := by
  obtain ⟨I, hI⟩ : ∃ I : Nat → St → Prop, ∀ j s, I j s ↔ (∃ z, X6.length ≤ s.h.length ∧ rdOb s.h o6 0 = some (BOb z u t) ∧ FRow phiF 2 s.h z (ps.take j) (fun i => X6.length ≤ i ∧ i < s.h.length) ∧ Frm (fun i => i < X6.length ∧ i ≠ o6) X6 s.h ∧
      Env.get s.e 1 = .c (.p bf 0 0) ∧ Env.get s.e 2 = x2 ∧ Env.get s.e 3 = x3 ∧ Env.get s.e 4 = .c (.i i) ∧ Env.get s.e 5 = .c (.p o6 0 0) ∧ Env.get s.e 6 = .c (.i j)) := ⟨_, fun _ _ => Iff.rfl⟩
  have hl6 := rdOb_lt h6
  obtain ⟨oz, hoz⟩ := rdOb_of_rdC hwz
  refine wp_for CM_mono ps.length I ((hI _ _).2 ⟨.ns, Nat.le_refl _, h6, FRow.ns, Frm.refl _ _, e1, e2, e3, e4, e5, e6⟩) ?_ ?_
  · rintro j ⟨e0, X7⟩ hj hIs
    obtain ⟨z, hlX, hO, hR, hf, f1, f2, f3, f4, f5, f6⟩ := (hI _ _).1 hIs
    simp only at hlX hO hR hf f1 f2 f3 f4 f5 f6 ⊢
    have hp7 : Pre B X7 := (hf.mono fun i (hi : i < B.length) => by have := hp6.le; omega).cut hp6
    have hwz7 := rdC_to hp7 hwz
    have hBf7 := hp7.rdOb hBf
    have hoz7 := hp7.rdOb hoz
    obtain ⟨p, hpp⟩ : ∃ p, ps[j] = p := ⟨_, rfl⟩
    have hpX := Phis.pre hp7 hp
    have hlz := hpX.lenOf
    obtain ⟨id2, g2, off2, wa, q1, q2, q3, qa, qb, _, _⟩ := Phis.get hpX hj
    rw [hpp] at q2 q3 qa qb
    obtain ⟨Y1, hY1⟩ : ∃ Y1, X7 ++ [(⟨[.i p.d, wa], 0, true, 2⟩ : Ob)] = Y1 := ⟨_, rfl⟩
    have hp1 : Pre X7 Y1 := ⟨_, hY1.symm⟩
    have l1 : Y1.length = X7.length + 1 := by rw [← hY1]; simp
    have n1 : rdOb Y1 X7.length 0 = some ⟨[.i p.d, wa], 0, true, 2⟩ := by rw [← hY1]; simp
    have k1 := hp1.rdOb hO
    obtain ⟨Y2, hY2⟩ : ∃ Y2, Y1 ++ [(⟨[], 0, true, 2⟩ : Ob)] = Y2 := ⟨_, rfl⟩
    have hp2 : Pre Y1 Y2 := ⟨_, hY2.symm⟩
    have l2 : Y2.length = Y1.length + 1 := by rw [← hY2]; simp
    have n2 := hp2.rdOb n1
    have k2 := hp2.rdOb k1
    have m2 : rdOb Y2 Y1.length 0 = some ⟨[], 0, true, 2⟩ := by rw [← hY2]; simp
    have hsrcA := arms_srcF (Arms.pre (hp1.trans hp2) qa)
    obtain ⟨ga, hga⟩ := fillApp (n := p.arms.length) m2 (flat_map_len armC_len p.arms) (by omega) (big_lim qb (by omega))
    obtain ⟨Y3, hY3⟩ : ∃ Y3, Y2.set Y1.length ⟨(p.arms.map armC).flatten, ga, true, 2⟩ = Y3 := ⟨_, rfl⟩
    have l3 : Y3.length = Y2.length := by rw [← hY3]; simp
    have hf23 : ∀ G : Nat → Prop, ¬ G Y1.length → Frm G Y2 Y3 := fun G hG => by rw [← hY3]; exact Frm.set _ _ hG
    have n3 : rdOb Y3 X7.length 0 = some ⟨[.i p.d, wa], 0, true, 2⟩ := (hf23 (fun i => i = X7.length) (by omega)).ob rfl n2
    have k3 : rdOb Y3 o6 0 = some (BOb z u t) := (hf23 (fun i => i = o6) (by have := rdOb_lt hO; omega)).ob rfl k2
    have m3 : rdOb Y3 Y1.length ga = some ⟨(p.arms.map armC).flatten, ga, true, 2⟩ := by rw [← hY3, rdOb_set_self (rdOb_lt m2)]; simp
    have har : FRow armF 2 Y3 (.sl Y1.length ga 0 p.arms.length) p.arms (fun i => i = Y1.length) := FRow.leaf armC_len (fun _ _ _ => rfl) m3 rfl
    obtain ⟨Y4, hY4⟩ : ∃ Y4, Y3 ++ [(⟨[.i p.d, .sl Y1.length ga 0 p.arms.length], 0, true, 2⟩ : Ob)] = Y4 := ⟨_, rfl⟩
    have hp4 : Pre Y3 Y4 := ⟨_, hY4.symm⟩
    have l4 : Y4.length = Y3.length + 1 := by rw [← hY4]; simp
    have n4 : rdOb Y4 Y3.length 0 = some ⟨[.i p.d, .sl Y1.length ga 0 p.arms.length], 0, true, 2⟩ := by rw [← hY4]; simp
    have k4 := hp4.rdOb k3
    have hsrc : srcOf Y4 2 (.sl Y3.length 0 0 1) = some (1, [.i p.d, .sl Y1.length ga 0 p.arms.length]) := by simp [srcOf, n4]
    have h74 : ∀ G : Nat → Prop, ¬ G Y1.length → Frm G X7 Y4 := fun G hG => (Frm.pre (hp1.trans hp2)).trans ((hf23 G hG).trans (Frm.pre hp4))
    have hR4 := hR.fr phiF_st (h74 _ (by omega))
    obtain ⟨iz, gz, Y5, happ, hR5, hf5, l5⟩ := hR4.snoc phiF_st (by rw [List.length_take]; omega) (by omega) (by omega) (cs := [.i p.d, .sl Y1.length ga 0 p.arms.length]) (x := p) (G := fun i => i = Y1.length) rfl
      (fun Z hZ => ⟨_, rfl, har.fr armF_st ((Frm.pre hp4).trans hZ), qb⟩) (fun i hi => by subst hi; omega)
    rw [List.length_take, Nat.min_eq_left (by omega)] at happ hR5
    have k5 : rdOb Y5 o6 0 = some (BOb z u t) := hf5.ob (by omega) k4
    obtain ⟨Y6, hY6⟩ : ∃ Y6, Y5.set o6 (BOb (.sl iz gz 0 (j + 1)) u t) = Y6 := ⟨_, rfl⟩
    have l6 : Y6.length = Y5.length := by rw [← hY6]; simp
    have k6 : rdOb Y6 o6 0 = some (BOb (.sl iz gz 0 (j + 1)) u t) := by rw [← hY6, rdOb_set_self (rdOb_lt k5)]; simp
    have hf6 : ∀ G : Nat → Prop, ¬ G o6 → Frm G Y5 Y6 := fun G hG => by rw [← hY6]; exact Frm.set _ _ hG
    unfold vf110b0
    simp [f1, f2, f3, f4, f5, f6, rdC_ob hBf7, hix, hwz7, hlz, hj, q1, q2.2.2, putAt, hY1, rdC_ob n1, rdC_ob k1, hY2, rdC_ob n2, hsrcA, hga, hY3, hY4, k1, k2, n1, n2, k3, n3, k4, k5, hsrc, happ, hY6, up1 hj hb]
    refine (hI _ _).2 ⟨.sl iz gz 0 (j + 1), by simp only; omega, k6, ?_, ?_, by simp⟩
    · rw [List.take_succ_eq_append_getElem hj, hpp]
      refine (hR5.fr phiF_st (hf6 _ (by omega))).mono fun i hi => ?_
      simp only
      omega
    · refine hf.trans (((h74 _ (by omega)).trans (hf5.mono fun i hi => ?_)).trans (hf6 _ fun hn => hn.2 rfl))
      omega
  · rintro ⟨e0, X7⟩ hIs
    obtain ⟨z, hlX, hO, hR, hf, f1, f2, f3, f4, f5, f6⟩ := (hI _ _).1 hIs
    simp only at hlX hO hR hf f1 f2 f3 f4 f5 f6 ⊢
    have hp7 : Pre B X7 := (hf.mono fun i (hi : i < B.length) => by have := hp6.le; omega).cut hp6
    have hwz7 := rdC_to hp7 hwz
    have hBf7 := hp7.rdOb hBf
    have hlz := (Phis.pre hp7 hp).lenOf
    rw [List.take_length] at hR
    unfold vf110b0
    simp [f1, f2, f3, f4, f5, f6, rdC_ob hBf7, hix, hwz7, hlz]
    exact hQ X7 z _ hlX hO hR hf (by simp) (by simp) (by simp) (by simp) (by simp)
set_option maxRecDepth 100000 in
theorem specCopy {H : Hp} {v : CV} {m : Int} {bs : List BlkR} (hv : Blocks H v bs) (hb : bs.length ≤ BIG) :
    CM 110 [.agg [v, .i m]] H fun r => ∃ w L, r = (.agg [w, .i m], H ++ L) ∧ Tree (fun i => H.length ≤ i) (H ++ L) w bs := by
  refine cw110 ?_
  unfold vf110c
  obtain ⟨X0, hX0⟩ : ∃ X0, H ++ [(⟨[v, .i m], 0, true, 2⟩ : Ob), ⟨[.ns, .i 0], 0, true, 2⟩, ⟨[.ns, .i m], 0, true, 2⟩] = X0 := ⟨_, rfl⟩
  have hp0 : Pre H X0 := ⟨_, hX0.symm⟩
  have hl0 : X0.length = H.length + 3 := by rw [← hX0]; simp
  have hB0 : rdOb X0 H.length 0 = some ⟨[v, .i m], 0, true, 2⟩ := by rw [← hX0]; simp
  have hR0 : rdOb X0 (H.length + 1) 0 = some ⟨[.ns, .i 0], 0, true, 2⟩ := by rw [← hX0]; simp
  have hO0 : rdOb X0 (H.length + 2) 0 = some ⟨[.ns, .i m], 0, true, 2⟩ := by rw [← hX0]; simp
  have hl := hv.lenOf
  simp [putAt, hX0, rdC_ob hB0]
  obtain ⟨I, hI⟩ : ∃ I : Nat → St → Prop, ∀ i s, I i s ↔ (∃ w, rdOb s.h (H.length + 2) 0 = some ⟨[w, .i m], 0, true, 2⟩ ∧ Tree (fun j => X0.length ≤ j ∧ j < s.h.length) s.h w (bs.take i) ∧ Frm (fun j => j < H.length + 2) X0 s.h ∧ X0.length ≤ s.h.length ∧
      Env.get s.e 1 = .c (.p H.length 0 0) ∧ Env.get s.e 2 = .c (.p (H.length + 1) 0 0) ∧ Env.get s.e 3 = .c (.p (H.length + 2) 0 0) ∧ Env.get s.e 4 = .c (.i i)) := ⟨_, fun _ _ => Iff.rfl⟩
  refine wp_for CM_mono bs.length I ((hI _ _).2 ⟨.ns, hO0, FRow.ns, Frm.refl _ _, Nat.le_refl _, by simp⟩) ?_ ?_
  · rintro i ⟨e, X⟩ hi hIs
    obtain ⟨w, hO, hT, hf, hlX, e1, e2, e3, e4⟩ := (hI _ _).1 hIs
    simp only at hO hT hf hlX e1 e2 e3 e4 ⊢
    obtain ⟨b, hbb⟩ : ∃ b, bs[i] = b := ⟨_, rfl⟩
    have hpX : Pre H X := (hf.mono fun j (hj : j < H.length) => by omega).cut hp0
    have hBX : rdOb X H.length 0 = some ⟨[v, .i m], 0, true, 2⟩ := hf.ob (by omega) hB0
    obtain ⟨id, g, off, wz, wu, q1, q2, q3, qp, ql, qpl, qll, _, _⟩ := Blocks.get (Blocks.pre hpX hv) hi
    rw [hbb] at q2 q3 qp ql qpl qll
    obtain ⟨oz, hoz⟩ := rdOb_of_rdC q2.1
    have hcell : ∀ Y, Pre X Y → rdOb Y H.length 0 = some ⟨[v, .i m], 0, true, 2⟩ ∧ rdC Y id g off = some wz ∧ rdC Y id g (off + 1) = some wu ∧ rdN Y id g (off + 2) 4 = some [.i b.term.kind, .i b.term.a, .i b.term.to, .i b.term.els] ∧ rdOb Y id g = some oz :=
      fun Y hY => ⟨hY.rdOb hBX, rdC_to hY q2.1, rdC_to hY q2.2.1, rdN_to hY (by simp_all [BlkAt]), hY.rdOb hoz⟩
    have hsz : (b.list.map insC).flatten.length = b.list.length * 5 := flat_map_len insC_len _
    obtain ⟨A1, hA1⟩ : ∃ A1, X ++ [(⟨[], 0, true, 5⟩ : Ob)] = A1 := ⟨_, rfl⟩
    have pA1 : Pre X A1 := ⟨_, hA1.symm⟩
    have lA1 : A1.length = X.length + 1 := by rw [← hA1]; simp
    have mA1 : rdOb A1 X.length 0 = some ⟨[], 0, true, 5⟩ := by rw [← hA1]; simp
    have sA1 := list_srcF (List5.pre pA1 ql)
    obtain ⟨ga, hga⟩ := fillApp (n := b.list.length) mA1 hsz (by omega) (big_lim qll (by omega))
    obtain ⟨A2, hA2⟩ : ∃ A2, A1.set X.length ⟨(b.list.map insC).flatten, ga, true, 5⟩ = A2 := ⟨_, rfl⟩
    have pA2 : Pre X A2 := by rw [← hA2]; exact pA1.set (Nat.le_refl _) _
    have lA2 : A2.length = X.length + 1 := by rw [← hA2]; simp [lA1]
    have mA2 : rdOb A2 X.length ga = some ⟨(b.list.map insC).flatten, ga, true, 5⟩ := by rw [← hA2, rdOb_set_self (by omega)]; simp
    obtain ⟨A3, hA3⟩ : ∃ A3, A2 ++ [BOb .ns .ns ⟨0, 0, 0, 0⟩] = A3 := ⟨_, rfl⟩
    have pA3 : Pre A2 A3 := ⟨_, hA3.symm⟩
    have lA3 : A3.length = A2.length + 1 := by rw [← hA3]; simp
    have oA3 : rdOb A3 A2.length 0 = some (BOb .ns .ns ⟨0, 0, 0, 0⟩) := by rw [← hA3]; simp
    obtain ⟨A4, hA4⟩ : ∃ A4, A3.set A2.length (BOb .ns (.sl X.length ga 0 b.list.length) b.term) = A4 := ⟨_, rfl⟩
    have lA4 : A4.length = A3.length := by rw [← hA4]; simp
    have oA4 : rdOb A4 A2.length 0 = some (BOb .ns (.sl X.length ga 0 b.list.length) b.term) := by rw [← hA4, rdOb_set_self (by omega)]; simp
    have pXA : Pre X A4 := by rw [← hA4]; exact (pA2.trans pA3).set (by omega) _
    have uA4 : FRow insF 5 A4 (.sl X.length ga 0 b.list.length) b.list (fun j => j = X.length) := by
      refine FRow.leaf insC_len (fun _ _ _ => rfl) ?_ rfl
      rw [← hA4, rdOb_set_ne (by omega)]; exact pA3.rdOb mA2
    obtain ⟨C2, hC2⟩ : ∃ C2, A1 ++ [BOb .ns .ns ⟨0, 0, 0, 0⟩] = C2 := ⟨_, rfl⟩
    have pC2 : Pre A1 C2 := ⟨_, hC2.symm⟩
    have lC2 : C2.length = A1.length + 1 := by rw [← hC2]; simp
    have oC2 : rdOb C2 A1.length 0 = some (BOb .ns .ns ⟨0, 0, 0, 0⟩) := by rw [← hC2]; simp
    have mC2 := pC2.rdOb mA1
    have sC2 := list_srcF (List5.pre (pA1.trans pC2) ql)
    obtain ⟨gc, hgc⟩ := fillApp (n := b.list.length) mC2 hsz (by omega) (big_lim qll (by omega))
    obtain ⟨C3, hC3⟩ : ∃ C3, C2.set X.length ⟨(b.list.map insC).flatten, gc, true, 5⟩ = C3 := ⟨_, rfl⟩
    have lC3 : C3.length = C2.length := by rw [← hC3]; simp
    have pC3 : Pre X C3 := by rw [← hC3]; exact (pA1.trans pC2).set (Nat.le_refl _) _
    have oC3 : rdOb C3 A1.length 0 = some (BOb .ns .ns ⟨0, 0, 0, 0⟩) := by rw [← hC3, rdOb_set_ne (by omega)]; exact oC2
    have mC3 : rdOb C3 X.length gc = some ⟨(b.list.map insC).flatten, gc, true, 5⟩ := by rw [← hC3, rdOb_set_self (by omega)]; simp
    obtain ⟨C4, hC4⟩ : ∃ C4, C3.set A1.length (BOb .ns (.sl X.length gc 0 b.list.length) b.term) = C4 := ⟨_, rfl⟩
    have lC4 : C4.length = C3.length := by rw [← hC4]; simp
    have oC4 : rdOb C4 A1.length 0 = some (BOb .ns (.sl X.length gc 0 b.list.length) b.term) := by rw [← hC4, rdOb_set_self (by omega)]; simp
    have pXC : Pre X C4 := by rw [← hC4]; exact pC3.set (by omega) _
    have uC4 : FRow insF 5 C4 (.sl X.length gc 0 b.list.length) b.list (fun j => j = X.length) := by
      refine FRow.leaf insC_len (fun _ _ _ => rfl) ?_ rfl
      rw [← hC4, rdOb_set_ne (by omega)]; exact mC3
    obtain ⟨D1, hD1⟩ : ∃ D1, X ++ [BOb .ns .ns ⟨0, 0, 0, 0⟩] = D1 := ⟨_, rfl⟩
    have pD1 : Pre X D1 := ⟨_, hD1.symm⟩
    have lD1 : D1.length = X.length + 1 := by rw [← hD1]; simp
    have oD1 : rdOb D1 X.length 0 = some (BOb .ns .ns ⟨0, 0, 0, 0⟩) := by rw [← hD1]; simp
    obtain ⟨D2, hD2⟩ : ∃ D2, D1 ++ [(⟨[], 0, true, 5⟩ : Ob)] = D2 := ⟨_, rfl⟩
    have pD2 : Pre D1 D2 := ⟨_, hD2.symm⟩
    have lD2 : D2.length = D1.length + 1 := by rw [← hD2]; simp
    have oD2 := pD2.rdOb oD1
    have mD2 : rdOb D2 D1.length 0 = some ⟨[], 0, true, 5⟩ := by rw [← hD2]; simp
    have sD2 := list_srcF (List5.pre (pD1.trans pD2) ql)
    obtain ⟨gd, hgd⟩ := fillApp (n := b.list.length) mD2 hsz (by omega) (big_lim qll (by omega))
    obtain ⟨D3, hD3⟩ : ∃ D3, D2.set D1.length ⟨(b.list.map insC).flatten, gd, true, 5⟩ = D3 := ⟨_, rfl⟩
    have lD3 : D3.length = D2.length := by rw [← hD3]; simp
    have pD3 : Pre X D3 := by rw [← hD3]; exact (pD1.trans pD2).set (by omega) _
    have oD3 : rdOb D3 X.length 0 = some (BOb .ns .ns ⟨0, 0, 0, 0⟩) := by rw [← hD3, rdOb_set_ne (by omega)]; exact oD2
    have mD3 : rdOb D3 D1.length gd = some ⟨(b.list.map insC).flatten, gd, true, 5⟩ := by rw [← hD3, rdOb_set_self (by omega)]; simp
    obtain ⟨D4, hD4⟩ : ∃ D4, D3.set X.length (BOb .ns (.sl D1.length gd 0 b.list.length) b.term) = D4 := ⟨_, rfl⟩
    have lD4 : D4.length = D3.length := by rw [← hD4]; simp
    have oD4 : rdOb D4 X.length 0 = some (BOb .ns (.sl D1.length gd 0 b.list.length) b.term) := by rw [← hD4, rdOb_set_self (by omega)]; simp
    have pXD : Pre X D4 := by rw [← hD4]; exact pD3.set (by omega) _
    have uD4 : FRow insF 5 D4 (.sl D1.length gd 0 b.list.length) b.list (fun j => j = D1.length) := by
      refine FRow.leaf insC_len (fun _ _ _ => rfl) ?_ rfl
      rw [← hD4, rdOb_set_ne (by omega)]; exact mD3
    have hti : (bs.take i).length = i := by rw [List.length_take]; omega
    have hsnoc : bs.take (i + 1) = bs.take i ++ [b] := by rw [List.take_succ_eq_append_getElem hi, hbb]
    have gX := hcell X (Pre.refl _)
    have gA1 := hcell _ pA1
    have gA2 := hcell _ pA2
    have gA3 := hcell _ (pA2.trans pA3)
    have gC2 := hcell _ (pA1.trans pC2)
    have gC3 := hcell _ pC3
    have gD1 := hcell _ pD1
    have gD2 := hcell _ (pD1.trans pD2)
    have gD3 := hcell _ pD3
    unfold vf110b1
    simp [vf110t0, e1, e2, e3, e4, hl, hi, q1, putAt, gX, rdC_ob gX.1, gA1, rdC_ob gA1.1, gA2, rdC_ob gA2.1, gA3, rdC_ob gA3.1, gC2, rdC_ob gC2.1, gC3, rdC_ob gC3.1, gD1, rdC_ob gD1.1, gD2, rdC_ob gD2.1, gD3, rdC_ob gD3.1,
      hA1, sA1, hga, hA2, hA3, oA3, hA4, hC2, sC2, hgc, hC3, oC3, hC4, hD1, hD2, sD2, hgd, hD3, oD3, hD4]
    refine ⟨⟨copyIn qp qpl pXA (by omega) oA4 hBX q1 q2.1 rfl rfl rfl rfl rfl rfl ?_, copyIn qp qpl pXC (by omega) oC4 hBX q1 q2.1 rfl rfl rfl rfl rfl rfl ?_⟩, copyIn qp qpl pXD (by omega) oD4 hBX q1 q2.1 rfl rfl rfl rfl rfl rfl ?_⟩
    · intro Y z e' hlY hY hz hfY f1 f2 f3 f4 f5
      obtain ⟨i', g', Y1, Z, Z2, a1, a2, a3, a4, a5, a6, a7, a8, a9, a10⟩ := pushBlk (by omega) hT hti (by omega) hO hf hlX pXA (by omega) uA4 (fun j hj => by omega) hlY hY hz hfY qpl qll
      rw [← hsnoc] at a8
      simp [f1, f2, f3, f4, f5, putAt, rdC_ob a2, rdN_ob hY, a1, a3, a4, a5, a6, up1 hi hb]
      exact (hI _ _).2 ⟨_, a7, a8, a9, a10, by simp [f1, f2, f3]⟩
    · intro Y z e' hlY hY hz hfY f1 f2 f3 f4 f5
      obtain ⟨i', g', Y1, Z, Z2, a1, a2, a3, a4, a5, a6, a7, a8, a9, a10⟩ := pushBlk (by omega) hT hti (by omega) hO hf hlX pXC (by omega) uC4 (fun j hj => by omega) hlY hY hz hfY qpl qll
      rw [← hsnoc] at a8
      simp [f1, f2, f3, f4, f5, putAt, rdC_ob a2, rdN_ob hY, a1, a3, a4, a5, a6, up1 hi hb]
      exact (hI _ _).2 ⟨_, a7, a8, a9, a10, by simp [f1, f2, f3]⟩
    · intro Y z e' hlY hY hz hfY f1 f2 f3 f4 f5
      obtain ⟨i', g', Y1, Z, Z2, a1, a2, a3, a4, a5, a6, a7, a8, a9, a10⟩ := pushBlk (by omega) hT hti (by omega) hO hf hlX pXD (by omega) uD4 (fun j hj => by omega) hlY hY hz hfY qpl qll
      rw [← hsnoc] at a8
      simp [f1, f2, f3, f4, f5, putAt, rdC_ob a2, rdN_ob hY, a1, a3, a4, a5, a6, up1 hi hb]
      exact (hI _ _).2 ⟨_, a7, a8, a9, a10, by simp [f1, f2, f3]⟩
  · rintro ⟨e, X⟩ hIs
    obtain ⟨w, hO, hT, hf, hlX, e1, e2, e3, e4⟩ := (hI _ _).1 hIs
    simp only at hO hT hf hlX e1 e2 e3 e4 ⊢
    rw [List.take_length] at hT
    have hpX : Pre H X := (hf.mono fun j (hj : j < H.length) => by omega).cut hp0
    have hBX : rdOb X H.length 0 = some ⟨[v, .i m], 0, true, 2⟩ := hf.ob (by omega) hB0
    have hRX : rdOb X (H.length + 1) 0 = some ⟨[.ns, .i 0], 0, true, 2⟩ := hf.ob (by omega) hR0
    obtain ⟨X2, hX2⟩ : ∃ X2, X.set (H.length + 1) ⟨[w, .i m], 0, true, 2⟩ = X2 := ⟨_, rfl⟩
    have hR2 : rdOb X2 (H.length + 1) 0 = some ⟨[w, .i m], 0, true, 2⟩ := by rw [← hX2, rdOb_set_self (rdOb_lt hRX)]; simp
    have hp2 : Pre H X2 := by rw [← hX2]; exact hpX.set (by omega) _
    have hT2 : Tree (fun j => H.length ≤ j) X2 w bs := by
      rw [← hX2]
      exact (hT.fr blkF_st (Frm.set _ _ (by omega))).mono fun j hj => by omega
    unfold vf110b1
    rcases hT.form with rfl | ⟨i', g', n', rfl⟩
    · simp [e1, e2, e3, e4, rdC_ob hBX, hl, rdN_ob hO, hRX, putAt, hX2, rdN_ob hR2]
      have hbs : bs = [] := by
        rcases hT with ⟨_, h⟩ | ⟨_, _, _, _, h, _⟩
        · exact h
        · cases h
      rw [show gcRet H (.agg [.ns, .i m]) X2 = (.agg [.ns, .i m], H) from gcRet_flat hp2 rfl]
      exact ⟨.ns, [], by simp, .inl ⟨rfl, hbs⟩⟩
    · simp [e1, e2, e3, e4, rdC_ob hBX, hl, rdN_ob hO, hRX, putAt, hX2, rdN_ob hR2]
      rw [gc_agg (by simp [flatC])]
      obtain ⟨L, rfl⟩ := hp2
      exact ⟨_, L, rfl, hT2⟩
end Go.Proofs.YtgdfgnppeekfjaaGreat.Vm
end
