/- Programs copied: what is copied lies in memory of its own. No conditions. -/
import Derived.Test.YtnpbldjbfkpbcaaKh
namespace Go.Proofs.Ytnpbldjbfkpbcaa.Vm
open Go.RowKit (wrap64)
set_option linter.unusedSimpArgs false
set_option linter.unusedVariables false

/-- What lies from a place on is there still. -/
def Keep (lo : Nat) (X X' : Hp) : Prop := ∀ id g o, lo ≤ id → rdOb X id g = some o → rdOb X' id g = some o
theorem Keep.refl (lo : Nat) (X : Hp) : Keep lo X X := fun _ _ _ _ h => h
theorem Keep.trans {lo : Nat} {X Y Z : Hp} (h : Keep lo X Y) (k : Keep lo Y Z) : Keep lo X Z := fun id g o hl ho => k id g o hl (h id g o hl ho)
theorem Keep.app (lo : Nat) (X L : Hp) : Keep lo X (X ++ L) := fun _ _ _ _ h => rdOb_app L h
theorem Keep.mono {lo lo' : Nat} {X Y : Hp} (h : Keep lo X Y) (hl : lo ≤ lo') : Keep lo' X Y := fun id g o h1 h2 => h id g o (Nat.le_trans hl h1) h2
theorem Keep.mid (H : Hp) (a b : Ob) (L L' : Hp) : Keep (H.length + 1) (H ++ a :: L) (H ++ b :: (L ++ L')) := by
  intro id g o hl ho
  obtain ⟨j, rfl⟩ : ∃ j, id = H.length + (j + 1) := ⟨id - H.length - 1, by omega⟩
  rw [rdOb_r, rdOb_cs] at ho ⊢
  exact rdOb_app L' ho

theorem Keep.alt (X A B L L2 : Hp) (h : A.length = B.length) : Keep (X.length + A.length) (X ++ (A ++ L)) (X ++ (B ++ (L ++ L2))) := by
  intro id g o hl ho
  obtain ⟨j, rfl⟩ : ∃ j, id = X.length + (A.length + j) := ⟨id - X.length - A.length, by omega⟩
  rw [rdOb_r, rdOb_r] at ho
  rw [rdOb_r, h, rdOb_r]
  exact rdOb_app L2 ho

theorem keep3 (X : Hp) (a b c a' b' c' : Ob) (L : Hp) : Keep (X.length + 3) (X ++ a :: b :: c :: L) (X ++ a' :: b' :: c' :: L) := by
  have := Keep.alt X [a, b, c] [a', b', c'] L [] rfl
  simpa using this
theorem keep3' (X : Hp) (a b c a' b' c' : Ob) (L L2 : Hp) : Keep (X.length + 3) (X ++ a :: b :: c :: L) (X ++ a' :: b' :: c' :: (L ++ L2)) := by
  have := Keep.alt X [a, b, c] [a', b', c'] L L2 rfl
  simpa using this

/-- A row in an object of its own. -/
def ORow {α : Type} (P : Nat → Hp → List CV → α → Prop) (sz : Nat) (lo : Nat) (X : Hp) (w : CV) (xs : List α) : Prop :=
  ∃ (id : Nat) (css : List (List CV)), w = .sl id 0 0 xs.length ∧ lo ≤ id ∧ rdOb X id 0 = some ⟨css.flatten, 0, true, sz⟩ ∧ css.length = xs.length ∧ ∀ (k : Nat) cs x, css[k]? = some cs → xs[k]? = some x → cs.length = sz ∧ P lo X cs x
theorem ORow.row {α : Type} {P : Nat → Hp → List CV → α → Prop} {P' : Hp → List CV → α → Prop} {sz lo : Nat} {X : Hp} {w : CV} {xs : List α} (h : ORow P sz lo X w xs) (hP : ∀ cs x, x ∈ xs → P lo X cs x → P' X cs x) : Row P' sz X w xs := by
  obtain ⟨id, css, rfl, h2, h3, h4, h5⟩ := h
  exact Row.mk h3 rfl rfl h4 fun k cs x a b => ⟨(h5 k cs x a b).1, hP _ _ (List.mem_of_getElem? b) (h5 k cs x a b).2⟩
theorem ORow.keep {α : Type} {P : Nat → Hp → List CV → α → Prop} {sz lo : Nat} {X X' : Hp} (hk : Keep lo X X') (hP : ∀ cs x, P lo X cs x → P lo X' cs x) {w : CV} {xs : List α} (h : ORow P sz lo X w xs) : ORow P sz lo X' w xs := by
  obtain ⟨id, css, h1, h2, h3, h4, h5⟩ := h
  exact ⟨id, css, h1, h2, hk _ _ _ h2 h3, h4, fun k cs x a b => ⟨(h5 k cs x a b).1, hP _ _ (h5 k cs x a b).2⟩⟩
theorem ORow.lo {α : Type} {P : Nat → Hp → List CV → α → Prop} {sz lo lo' : Nat} {X : Hp} (hl : lo' ≤ lo) (hP : ∀ cs x, P lo X cs x → P lo' X cs x) {w : CV} {xs : List α} (h : ORow P sz lo X w xs) : ORow P sz lo' X w xs := by
  obtain ⟨id, css, h1, h2, h3, h4, h5⟩ := h
  exact ⟨id, css, h1, Nat.le_trans hl h2, h3, h4, fun k cs x a b => ⟨(h5 k cs x a b).1, hP _ _ (h5 k cs x a b).2⟩⟩
theorem ORow.sl {α : Type} {P : Nat → Hp → List CV → α → Prop} {sz lo : Nat} {X : Hp} {w : CV} {xs : List α} (h : ORow P sz lo X w xs) : ∃ id, w = .sl id 0 0 xs.length := by
  obtain ⟨id, css, rfl, _⟩ := h; exact ⟨_, rfl⟩
theorem ORow.lenOf {α : Type} {P : Nat → Hp → List CV → α → Prop} {sz lo : Nat} {X : Hp} {w : CV} {xs : List α} (h : ORow P sz lo X w xs) : lenOf w = some xs.length := by
  obtain ⟨id, css, rfl, _⟩ := h; rfl

def armO (_ : Nat) (_ : Hp) (cs : List CV) (a : ArmR) : Prop := cs = armC a
def insO (_ : Nat) (_ : Hp) (cs : List CV) (x : InsR) : Prop := cs = insC x
def phiO (lo : Nat) (X : Hp) (cs : List CV) (p : PhiR) : Prop := ∃ z, cs = [.i p.d, z] ∧ ORow armO 2 lo X z p.arms
def blkO (lo : Nat) (X : Hp) (cs : List CV) (b : BlkR) : Prop := ∃ z u, cs = z :: u :: trmC b.term ∧ ORow phiO 2 lo X z b.phis ∧ ORow insO 5 lo X u b.list
def fnO (lo : Nat) (X : Hp) (cs : List CV) (f : FnR) : Prop := ∃ z, cs = [z, .i f.values] ∧ ORow blkO 6 lo X z f.blocks
theorem armO.keep {lo lo' : Nat} {X X' : Hp} {cs : List CV} {a : ArmR} (h : armO lo X cs a) : armO lo' X' cs a := h
theorem insO.keep {lo lo' : Nat} {X X' : Hp} {cs : List CV} {a : InsR} (h : insO lo X cs a) : insO lo' X' cs a := h
theorem phiO.keep {lo : Nat} {X X' : Hp} (hk : Keep lo X X') {cs : List CV} {p : PhiR} (h : phiO lo X cs p) : phiO lo X' cs p := by
  obtain ⟨z, h1, h2⟩ := h; exact ⟨z, h1, h2.keep hk fun _ _ h => h⟩
theorem blkO.keep {lo : Nat} {X X' : Hp} (hk : Keep lo X X') {cs : List CV} {p : BlkR} (h : blkO lo X cs p) : blkO lo X' cs p := by
  obtain ⟨z, u, h1, h2, h3⟩ := h; exact ⟨z, u, h1, h2.keep hk fun _ _ => phiO.keep hk, h3.keep hk fun _ _ h => h⟩
theorem fnO.keep {lo : Nat} {X X' : Hp} (hk : Keep lo X X') {cs : List CV} {p : FnR} (h : fnO lo X cs p) : fnO lo X' cs p := by
  obtain ⟨z, h1, h2⟩ := h; exact ⟨z, h1, h2.keep hk fun _ _ => blkO.keep hk⟩
theorem phiO.lo {lo lo' : Nat} {X : Hp} (hl : lo' ≤ lo) {cs : List CV} {p : PhiR} (h : phiO lo X cs p) : phiO lo' X cs p := by
  obtain ⟨z, h1, h2⟩ := h; exact ⟨z, h1, h2.lo hl fun _ _ h => h⟩
theorem blkO.lo {lo lo' : Nat} {X : Hp} (hl : lo' ≤ lo) {cs : List CV} {p : BlkR} (h : blkO lo X cs p) : blkO lo' X cs p := by
  obtain ⟨z, u, h1, h2, h3⟩ := h; exact ⟨z, u, h1, h2.lo hl fun _ _ => phiO.lo hl, h3.lo hl fun _ _ h => h⟩
theorem fnO.lo {lo lo' : Nat} {X : Hp} (hl : lo' ≤ lo) {cs : List CV} {p : FnR} (h : fnO lo X cs p) : fnO lo' X cs p := by
  obtain ⟨z, h1, h2⟩ := h; exact ⟨z, h1, h2.lo hl fun _ _ => blkO.lo hl⟩
def Small (f : FnR) : Prop := f.blocks.length ≤ BIG ∧ ∀ b ∈ f.blocks, b.phis.length ≤ BIG ∧ b.list.length ≤ BIG ∧ ∀ p ∈ b.phis, p.arms.length ≤ BIG
theorem phiO.p {lo : Nat} {X : Hp} {cs : List CV} {p : PhiR} (hs : p.arms.length ≤ BIG) (h : phiO lo X cs p) : phiP BIG X cs p := by
  obtain ⟨z, h1, h2⟩ := h; exact ⟨z, h1, h2.row fun _ _ _ h => h, hs⟩
theorem blkO.p {lo : Nat} {X : Hp} {cs : List CV} {b : BlkR} (hs : b.phis.length ≤ BIG ∧ b.list.length ≤ BIG ∧ ∀ p ∈ b.phis, p.arms.length ≤ BIG) (h : blkO lo X cs b) : blkP BIG X cs b := by
  obtain ⟨z, u, h1, h2, h3⟩ := h; exact ⟨z, u, h1, h2.row fun _ _ hx => phiO.p (hs.2.2 _ hx), h3.row fun _ _ _ h => h, hs.1, hs.2.1⟩
theorem fnO.p {lo : Nat} {X : Hp} {cs : List CV} {f : FnR} (hs : Small f) (h : fnO lo X cs f) : fnP BIG X cs f := by
  obtain ⟨z, h1, h2⟩ := h; exact ⟨z, h1, h2.row fun _ _ hx => blkO.p (hs.2 _ hx), hs.1⟩

theorem gc_own {H L : Hp} {n : Nat} {ob : Ob} (hrw : ob.rw = true) (hg : ob.g = 0) :
    ∃ L', gcRet H (.c (.sl H.length 0 0 n)) (H ++ ob :: L) = (.c (.sl H.length 0 0 n), H ++ ob :: L') ∧ (L' = L ∨ (L' = [] ∧ ob.cells.all flatC = true)) := by
  unfold gcRet
  rw [if_pos (by simp), if_neg (by simp [flatV, flatC])]
  simp only [Nat.le_refl, if_true, List.getElem?_append_right (Nat.le_refl _), Nat.sub_self, List.getElem?_cons_zero, hg, hrw, true_and]
  by_cases hf : ob.cells.all flatC = true
  · rw [if_pos hf]
    refine ⟨[], ?_, .inr ⟨rfl, hf⟩⟩
    obtain ⟨cs, g, rw_, sz⟩ := ob
    simp only at hg hrw
    subst hg; subst hrw
    rfl
  · rw [if_neg hf]
    exact ⟨L, rfl, .inl rfl⟩
theorem gc_agg {H H' : Hp} {cs : List CV} (h : cs.all flatC = false) : gcRet H (.agg cs) H' = (.agg cs, H') := by
  unfold gcRet
  split
  · rw [if_neg (by simp only [flatV, h]; simp)]
  · rfl
theorem gc_aggF {H L : Hp} {cs : List CV} (h : cs.all flatC = true) : gcRet H (.agg cs) (H ++ L) = (.agg cs, H) := gc_flat H L h

theorem put_mid {A zs R cs : List CV} {n : Nat} (hn : A.length = n) (h : cs.length = zs.length) : putAt (A ++ (zs ++ R)) n cs = A ++ (cs ++ R) := by
  subst hn
  unfold putAt
  rw [List.take_append_of_le_length (Nat.le_refl _), List.take_length, List.drop_append, List.drop_eq_nil_of_le (by omega), List.nil_append, Nat.add_sub_cancel_left, h, List.drop_append, List.drop_eq_nil_of_le (by omega)]
  simp
theorem flat_len {css : List (List CV)} {sz : Nat} (h : ∀ cs ∈ css, cs.length = sz) : css.flatten.length = css.length * sz := by
  induction css with
  | nil => simp
  | cons c r ih => rw [List.flatten_cons, List.length_append, ih (fun cs hc => h cs (by simp [hc])), h c (by simp), List.length_cons, Nat.succ_mul]; omega

theorem toArm_call (H : Hp) (a : ArmR) (k : IV × Hp → Prop) : CM 186 [.agg (armC a)] H k = k (.agg (armC a), H) := by
  refine det (cw186 ?_) k
  unfold vf186c
  simp [armC, putAt]
  exact gc_aggF (by simp [flatC])
theorem toIns_call (H : Hp) (a : InsR) (k : IV × Hp → Prop) : CM 180 [.agg (insC a)] H k = k (.agg (insC a), H) := by
  refine det (cw180 ?_) k
  unfold vf180c
  simp [insC, putAt]
  exact gc_aggF (by simp [flatC])
theorem toTerm_call (H : Hp) (t : TrmR) (k : IV × Hp → Prop) : CM 167 [.agg [.i t.kind, .i t.a, .i t.to, .i t.els]] H k = k (.agg [.i t.kind, .i t.a, .i t.to, .i t.els], H) := by
  refine det (cw167 ?_) k
  unfold vf167c
  simp [putAt]
  exact gc_aggF (by simp [flatC])
theorem toArm_own (X : Hp) {cs : List CV} {a : ArmR} (h : armP X cs a) : CM 186 [.agg cs] X fun r => ∃ cs' L, r = (.agg cs', X ++ L) ∧ cs'.length = 2 ∧ armO X.length (X ++ L) cs' a := by
  cases h
  rw [toArm_call]
  exact ⟨armC a, [], by simp, rfl, rfl⟩
theorem toIns_own (X : Hp) {cs : List CV} {a : InsR} (h : insP X cs a) : CM 180 [.agg cs] X fun r => ∃ cs' L, r = (.agg cs', X ++ L) ∧ cs'.length = 5 ∧ insO X.length (X ++ L) cs' a := by
  cases h
  rw [toIns_call]
  exact ⟨insC a, [], by simp, rfl, rfl⟩

/-- A row that is being filled. -/
def ToInv {α : Type} (O : Nat → Hp → List CV → α → Prop) (sz : Nat) (zs : List CV) (H : Hp) (v : CV) (xs : List α) (i : Nat) (s : St) : Prop :=
  ∃ (css : List (List CV)) (L : Hp), s.h = H ++ ⟨css.flatten ++ (List.replicate (xs.length - i) zs).flatten, 0, true, sz⟩ :: L ∧ css.length = i ∧
    (∀ (k : Nat) cs x, css[k]? = some cs → xs[k]? = some x → cs.length = sz ∧ O (H.length + 1) s.h cs x) ∧ Env.get s.e 0 = .c v ∧ Env.get s.e 3 = .c (.sl H.length 0 0 xs.length) ∧ Env.get s.e 4 = .c (.i i)
section
variable {α : Type} {O : Nat → Hp → List CV → α → Prop} {sz : Nat} {zs : List CV} {H : Hp} {v : CV} {xs : List α} {i : Nat}
theorem ToInv.start {e : Env} (h0 : Env.get e 0 = .c v) (h3 : Env.get e 3 = .c (.sl H.length 0 0 xs.length)) (h4 : Env.get e 4 = .c (.i 0)) : ToInv O sz zs H v xs 0 ⟨e, H ++ [⟨(List.replicate xs.length zs).flatten, 0, true, sz⟩]⟩ :=
  ⟨[], [], by simp, rfl, fun k cs x h => by simp at h, h0, h3, h4⟩
theorem ToInv.next (hk : ∀ X X', Keep (H.length + 1) X X' → ∀ cs x, O (H.length + 1) X cs x → O (H.length + 1) X' cs x) (hlo : ∀ lo, H.length + 1 ≤ lo → ∀ X cs x, O lo X cs x → O (H.length + 1) X cs x) (hzs : zs.length = sz)
    (hi : i < xs.length) {css : List (List CV)} {L L' : Hp} {cs' : List CV} (hc : css.length = i) (hP : ∀ (k : Nat) cs x, css[k]? = some cs → xs[k]? = some x → cs.length = sz ∧ O (H.length + 1) (H ++ ⟨css.flatten ++ (List.replicate (xs.length - i) zs).flatten, 0, true, sz⟩ :: L) cs x)
    (hl : cs'.length = sz) (ho : O (H ++ ⟨css.flatten ++ (List.replicate (xs.length - i) zs).flatten, 0, true, sz⟩ :: L).length (H ++ ⟨css.flatten ++ (List.replicate (xs.length - i) zs).flatten, 0, true, sz⟩ :: L ++ L') cs' xs[i]) {e : Env} {X' : Hp}
    (hX : X' = H ++ ⟨putAt (css.flatten ++ (List.replicate (xs.length - i) zs).flatten) (i * sz) cs', 0, true, sz⟩ :: (L ++ L')) (h0 : Env.get e 0 = .c v) (h3 : Env.get e 3 = .c (.sl H.length 0 0 xs.length)) (h4 : Env.get e 4 = .c (.i (i + 1))) : ToInv O sz zs H v xs (i + 1) ⟨e, X'⟩ := by
  have hl2 : ∀ cs ∈ css, cs.length = sz := by
    intro cs hcs
    obtain ⟨j, hj, rfl⟩ := List.getElem_of_mem hcs
    exact (hP j _ xs[j] (List.getElem?_eq_getElem hj) (List.getElem?_eq_getElem (by omega))).1
  have hfl : css.flatten.length = i * sz := by rw [flat_len hl2, hc]
  have hrep : (List.replicate (xs.length - i) zs).flatten = zs ++ (List.replicate (xs.length - (i + 1)) zs).flatten := by
    rw [show xs.length - i = (xs.length - (i + 1)) + 1 by omega, List.replicate_succ, List.flatten_cons]
  have hput := put_mid (A := css.flatten) (zs := zs) (R := (List.replicate (xs.length - (i + 1)) zs).flatten) hfl (hl.trans hzs.symm)
  rw [← hrep] at hput
  rw [hput] at hX
  subst hX
  refine ⟨css ++ [cs'], L ++ L', by simp, by simp [hc], fun k cs x a b => ?_, h0, h3, by simpa using h4⟩
  by_cases hkl : k < css.length
  · rw [List.getElem?_append_left hkl] at a
    obtain ⟨g1, g2⟩ := hP k cs x a b
    exact ⟨g1, hk _ _ (Keep.mid _ _ _ _ _) _ _ g2⟩
  · have hk2 : k = css.length := by
      have := (List.getElem?_eq_some_iff.1 a).1
      simp at this; omega
    subst hk2
    rw [List.getElem?_append_right (Nat.le_refl _), Nat.sub_self] at a
    simp at a
    subst a
    have hx : x = xs[i] := by simp only [hc] at b; rw [List.getElem?_eq_getElem hi] at b; injection b with b; exact b.symm
    subst hx
    refine ⟨hl, hk _ _ ?_ _ _ (hlo _ (by simp) _ _ _ ho)⟩
    intro id g o hid hob
    obtain ⟨j, rfl⟩ : ∃ j, id = H.length + (j + 1) := ⟨id - H.length - 1, by omega⟩
    rw [List.append_assoc, rdOb_r, List.cons_append, rdOb_cs] at hob
    rw [rdOb_r, rdOb_cs]
    exact hob
theorem ToInv.fits (hzs : zs.length = sz) (hi : i < xs.length) {css : List (List CV)} (hc : css.length = i) (hl2 : ∀ (k : Nat) cs x, css[k]? = some cs → xs[k]? = some x → cs.length = sz) : i * sz + sz ≤ (css.flatten ++ (List.replicate (xs.length - i) zs).flatten).length := by
  have hl3 : ∀ cs ∈ css, cs.length = sz := by
    intro cs hcs
    obtain ⟨j, hj, rfl⟩ := List.getElem_of_mem hcs
    exact hl2 j _ xs[j] (List.getElem?_eq_getElem hj) (List.getElem?_eq_getElem (by omega))
  rw [List.length_append, flat_len hl3, hc, flat_len (sz := sz) (fun cs h => by rw [List.eq_of_mem_replicate h, hzs]), List.length_replicate]
  have : 1 * sz ≤ (xs.length - i) * sz := Nat.mul_le_mul_right _ (by omega)
  omega
theorem ToInv.done (hlo : ∀ X cs x, O (H.length + 1) X cs x → O H.length X cs x) (hfl : ∀ X X' cs x, cs.all flatC = true → O H.length X cs x → O H.length X' cs x) {css : List (List CV)} {L : Hp} (hc : css.length = xs.length)
    (hP : ∀ (k : Nat) cs x, css[k]? = some cs → xs[k]? = some x → cs.length = sz ∧ O (H.length + 1) (H ++ ⟨css.flatten ++ (List.replicate (xs.length - xs.length) zs).flatten, 0, true, sz⟩ :: L) cs x) :
    ∃ w L', gcRet H (.c (.sl H.length 0 0 xs.length)) (H ++ ⟨css.flatten ++ (List.replicate (xs.length - xs.length) zs).flatten, 0, true, sz⟩ :: L) = (.c w, H ++ L') ∧ ORow O sz H.length (H ++ L') w xs := by
  simp only [Nat.sub_self, List.replicate_zero, List.flatten_nil, List.append_nil] at hP ⊢
  obtain ⟨L', hg, hL⟩ := gc_own (H := H) (L := L) (n := xs.length) (ob := ⟨css.flatten, 0, true, sz⟩) rfl rfl
  refine ⟨_, _, hg, H.length, css, rfl, Nat.le_refl _, by simp, hc, fun k cs x a b => ?_⟩
  obtain ⟨g1, g2⟩ := hP k cs x a b
  refine ⟨g1, ?_⟩
  rcases hL with rfl | ⟨rfl, hf⟩
  · exact hlo _ _ _ g2
  · refine hfl _ _ _ _ ?_ (hlo _ _ _ g2)
    rw [List.all_eq_true] at hf ⊢
    intro c hcc
    exact hf c (List.mem_flatten.2 ⟨cs, List.mem_of_getElem? a, hcc⟩)
end

theorem toArmS_call {H : Hp} {v : CV} {xs : List ArmR} (hv : Row armP 2 H v xs) (hb : xs.length ≤ BIG) : CM 184 [.c v] H fun r => ∃ w L, r = (.c w, H ++ L) ∧ ORow armO 2 H.length (H ++ L) w xs := by
  refine cw184 ?_
  unfold vf184c
  have hlim : xs.length * 2 ≤ LIM := by simp only [BIG] at hb; simp only [LIM]; omega
  simp [hv.lenOf, hlim]
  refine wp_for CM_mono xs.length (ToInv armO 2 [.i 0, .i 0] H v xs) (ToInv.start (by simp) (by simp) (by simp)) ?_ ?_
  · rintro i ⟨e, X⟩ hi ⟨css, L, hX, hc, hP, h0, h3, h4⟩
    simp only at h0 h3 h4 hX hP ⊢
    subst hX
    obtain ⟨id, g, off, cs, q1, hA, hl, hp⟩ := Row.get hv hi
    have hq := (hA.app (⟨css.flatten ++ (List.replicate (xs.length - i) [.i 0, .i 0]).flatten, 0, true, 2⟩ :: L)).all hl
    have hfit := ToInv.fits (zs := [.i 0, .i 0]) (sz := 2) rfl hi hc (fun k cs x a b => (hP k cs x a b).1)
    generalize hcells : css.flatten ++ (List.replicate (xs.length - i) [.i 0, .i 0]).flatten = cells at hq hfit
    unfold vf184b0
    simp [h0, h3, h4, hv.lenOf, hi, q1, hq, hcells]
    refine (toArm_own _ (armP.pre hp)).mono ?_
    rintro _ ⟨cs', L', rfl, hl', ho⟩
    simp [h0, h3, h4, hl', up1 hi hb, hi, hfit]
    subst hcells
    exact ToInv.next (O := armO) (zs := [.i 0, .i 0]) (sz := 2) (fun _ _ hk _ _ => fun h => h) (fun _ hlo _ _ _ => fun h => h) rfl hi hc hP hl' ho rfl (by simp) (by simp) (by simp)
  · rintro ⟨e, X⟩ ⟨css, L, hX, hc, hP, h0, h3, h4⟩
    simp only at h0 h3 h4 hX hP ⊢
    subst hX
    obtain ⟨w, L', hg, ho⟩ := ToInv.done (O := armO) (zs := [.i 0, .i 0]) (sz := 2) (fun _ _ _ => fun h => h) (fun _ _ _ _ => fun _ h => h) hc hP
    generalize hcells : css.flatten ++ (List.replicate (xs.length - xs.length) [.i 0, .i 0]).flatten = cells at hg
    unfold vf184b0
    simp [h0, h3, h4, hv.lenOf, hcells, hg]
    exact ⟨_, _, ⟨rfl, rfl⟩, ho⟩

theorem toInsS_call {H : Hp} {v : CV} {xs : List InsR} (hv : Row insP 5 H v xs) (hb : xs.length ≤ BIG) : CM 166 [.c v] H fun r => ∃ w L, r = (.c w, H ++ L) ∧ ORow insO 5 H.length (H ++ L) w xs := by
  refine cw166 ?_
  unfold vf166c
  have hlim : xs.length * 5 ≤ LIM := by simp only [BIG] at hb; simp only [LIM]; omega
  simp [hv.lenOf, hlim]
  refine wp_for CM_mono xs.length (ToInv insO 5 [.i 0, .i 0, .i 0, .i 0, .i 0] H v xs) (ToInv.start (by simp) (by simp) (by simp)) ?_ ?_
  · rintro i ⟨e, X⟩ hi ⟨css, L, hX, hc, hP, h0, h3, h4⟩
    simp only at h0 h3 h4 hX hP ⊢
    subst hX
    obtain ⟨id, g, off, cs, q1, hA, hl, hp⟩ := Row.get hv hi
    have hq := (hA.app (⟨css.flatten ++ (List.replicate (xs.length - i) [.i 0, .i 0, .i 0, .i 0, .i 0]).flatten, 0, true, 5⟩ :: L)).all hl
    have hfit := ToInv.fits (zs := [.i 0, .i 0, .i 0, .i 0, .i 0]) (sz := 5) rfl hi hc (fun k cs x a b => (hP k cs x a b).1)
    generalize hcells : css.flatten ++ (List.replicate (xs.length - i) [.i 0, .i 0, .i 0, .i 0, .i 0]).flatten = cells at hq hfit
    unfold vf166b0
    simp [h0, h3, h4, hv.lenOf, hi, q1, hq, hcells]
    refine (toIns_own _ (insP.pre hp)).mono ?_
    rintro _ ⟨cs', L', rfl, hl', ho⟩
    simp [h0, h3, h4, hl', up1 hi hb, hi, hfit]
    subst hcells
    exact ToInv.next (O := insO) (zs := [.i 0, .i 0, .i 0, .i 0, .i 0]) (sz := 5) (fun _ _ hk _ _ => fun h => h) (fun _ hlo _ _ _ => fun h => h) rfl hi hc hP hl' ho rfl (by simp) (by simp) (by simp)
  · rintro ⟨e, X⟩ ⟨css, L, hX, hc, hP, h0, h3, h4⟩
    simp only at h0 h3 h4 hX hP ⊢
    subst hX
    obtain ⟨w, L', hg, ho⟩ := ToInv.done (O := insO) (zs := [.i 0, .i 0, .i 0, .i 0, .i 0]) (sz := 5) (fun _ _ _ => fun h => h) (fun _ _ _ _ => fun _ h => h) hc hP
    generalize hcells : css.flatten ++ (List.replicate (xs.length - xs.length) [.i 0, .i 0, .i 0, .i 0, .i 0]).flatten = cells at hg
    unfold vf166b0
    simp [h0, h3, h4, hv.lenOf, hcells, hg]
    exact ⟨_, _, ⟨rfl, rfl⟩, ho⟩

theorem toPhi_own (X : Hp) {cs : List CV} {p : PhiR} (h : phiP BIG X cs p) : CM 179 [.agg cs] X fun r => ∃ cs' L, r = (.agg cs', X ++ L) ∧ cs'.length = 2 ∧ phiO X.length (X ++ L) cs' p := by
  obtain ⟨z, rfl, hz, hbz⟩ := h
  refine cw179 ?_
  unfold vf179c
  simp [putAt]
  refine (toArmS_call (Arms.app hz _) hbz).mono ?_
  rintro _ ⟨w, L, rfl, ho⟩
  obtain ⟨idw, rfl⟩ := ho.sl
  simp [putAt]
  rw [gc_agg (by simp [flatC])]
  refine ⟨_, _, rfl, rfl, _, rfl, ?_⟩
  simp only [List.append_assoc, List.cons_append, List.nil_append, List.length_append, List.length_cons, List.length_nil, Nat.zero_add, Nat.reduceAdd] at ho
  exact (ho.keep (keep3 _ _ _ _ _ _ _ _) (fun _ _ => armO.keep)).lo (by simp) (fun _ _ => armO.keep)

theorem toPhiS_call {H : Hp} {v : CV} {xs : List PhiR} (hv : Row (phiP BIG) 2 H v xs) (hb : xs.length ≤ BIG) : CM 165 [.c v] H fun r => ∃ w L, r = (.c w, H ++ L) ∧ ORow phiO 2 H.length (H ++ L) w xs := by
  refine cw165 ?_
  unfold vf165c
  have hlim : xs.length * 2 ≤ LIM := by simp only [BIG] at hb; simp only [LIM]; omega
  simp [hv.lenOf, hlim]
  refine wp_for CM_mono xs.length (ToInv phiO 2 [.i 0, .ns] H v xs) (ToInv.start (by simp) (by simp) (by simp)) ?_ ?_
  · rintro i ⟨e, X⟩ hi ⟨css, L, hX, hc, hP, h0, h3, h4⟩
    simp only at h0 h3 h4 hX hP ⊢
    subst hX
    obtain ⟨id, g, off, cs, q1, hA, hl, hp⟩ := Row.get hv hi
    have hq := (hA.app (⟨css.flatten ++ (List.replicate (xs.length - i) [.i 0, .ns]).flatten, 0, true, 2⟩ :: L)).all hl
    have hfit := ToInv.fits (zs := [.i 0, .ns]) (sz := 2) rfl hi hc (fun k cs x a b => (hP k cs x a b).1)
    generalize hcells : css.flatten ++ (List.replicate (xs.length - i) [.i 0, .ns]).flatten = cells at hq hfit
    unfold vf165b0
    simp [h0, h3, h4, hv.lenOf, hi, q1, hq, hcells]
    refine (toPhi_own _ (phiP.pre ⟨_, rfl⟩ hp)).mono ?_
    rintro _ ⟨cs', L', rfl, hl', ho⟩
    simp [h0, h3, h4, hl', up1 hi hb, hi, hfit]
    subst hcells
    exact ToInv.next (O := phiO) (zs := [.i 0, .ns]) (sz := 2) (fun _ _ hk _ _ => phiO.keep hk) (fun _ hlo _ _ _ => phiO.lo hlo) rfl hi hc hP hl' ho rfl (by simp) (by simp) (by simp)
  · rintro ⟨e, X⟩ ⟨css, L, hX, hc, hP, h0, h3, h4⟩
    simp only at h0 h3 h4 hX hP ⊢
    subst hX
    obtain ⟨w, L', hg, ho⟩ := ToInv.done (O := phiO) (zs := [.i 0, .ns]) (sz := 2) (fun _ _ _ => phiO.lo (Nat.le_succ _)) (fun _ _ _ _ => fun hf h => by obtain ⟨z, rfl, id, css, rfl, _⟩ := h; simp [flatC] at hf) hc hP
    generalize hcells : css.flatten ++ (List.replicate (xs.length - xs.length) [.i 0, .ns]).flatten = cells at hg
    unfold vf165b0
    simp [h0, h3, h4, hv.lenOf, hcells, hg]
    exact ⟨_, _, ⟨rfl, rfl⟩, ho⟩

theorem toBlk_own (X : Hp) {cs : List CV} {b : BlkR} (h : blkP BIG X cs b) : CM 146 [.agg cs] X fun r => ∃ cs' L, r = (.agg cs', X ++ L) ∧ cs'.length = 6 ∧ blkO X.length (X ++ L) cs' b := by
  obtain ⟨z, u, rfl, hz, hu, hb1, hb2⟩ := h
  refine cw146 ?_
  unfold vf146c
  simp [trmC, putAt]
  refine (toPhiS_call (Phis.app hz _) hb1).mono ?_
  rintro _ ⟨w, L, rfl, ho⟩
  obtain ⟨idw, rfl⟩ := ho.sl
  simp [putAt]
  refine (toInsS_call (List5.app hu _) hb2).mono ?_
  rintro _ ⟨w2, L2, rfl, ho2⟩
  obtain ⟨idw2, rfl⟩ := ho2.sl
  simp [putAt, toTerm_call]
  rw [gc_agg (by simp [flatC])]
  refine ⟨_, _, rfl, rfl, _, _, rfl, ?_, ?_⟩
  · simp only [List.append_assoc, List.cons_append, List.nil_append, List.length_append, List.length_cons, List.length_nil, Nat.zero_add, Nat.reduceAdd] at ho
    exact (ho.keep (keep3' _ _ _ _ _ _ _ _ _) (fun _ _ => phiO.keep (keep3' _ _ _ _ _ _ _ _ _))).lo (by simp) (fun _ _ => phiO.lo (by simp))
  · simp only [List.append_assoc, List.cons_append, List.nil_append, List.length_append, List.length_cons, List.length_nil, Nat.zero_add, Nat.reduceAdd] at ho2
    exact (ho2.keep (Keep.mono (keep3 _ _ _ _ _ _ _ _) (by omega)) (fun _ _ => insO.keep)).lo (by omega) (fun _ _ => insO.keep)

theorem toBlkS_call {H : Hp} {v : CV} {xs : List BlkR} (hv : Row (blkP BIG) 6 H v xs) (hb : xs.length ≤ BIG) : CM 114 [.c v] H fun r => ∃ w L, r = (.c w, H ++ L) ∧ ORow blkO 6 H.length (H ++ L) w xs := by
  refine cw114 ?_
  unfold vf114c
  have hlim : xs.length * 6 ≤ LIM := by simp only [BIG] at hb; simp only [LIM]; omega
  simp [hv.lenOf, hlim]
  refine wp_for CM_mono xs.length (ToInv blkO 6 [.ns, .ns, .i 0, .i 0, .i 0, .i 0] H v xs) (ToInv.start (by simp) (by simp) (by simp)) ?_ ?_
  · rintro i ⟨e, X⟩ hi ⟨css, L, hX, hc, hP, h0, h3, h4⟩
    simp only at h0 h3 h4 hX hP ⊢
    subst hX
    obtain ⟨id, g, off, cs, q1, hA, hl, hp⟩ := Row.get hv hi
    have hq := (hA.app (⟨css.flatten ++ (List.replicate (xs.length - i) [.ns, .ns, .i 0, .i 0, .i 0, .i 0]).flatten, 0, true, 6⟩ :: L)).all hl
    have hfit := ToInv.fits (zs := [.ns, .ns, .i 0, .i 0, .i 0, .i 0]) (sz := 6) rfl hi hc (fun k cs x a b => (hP k cs x a b).1)
    generalize hcells : css.flatten ++ (List.replicate (xs.length - i) [.ns, .ns, .i 0, .i 0, .i 0, .i 0]).flatten = cells at hq hfit
    unfold vf114b0
    simp [h0, h3, h4, hv.lenOf, hi, q1, hq, hcells]
    refine (toBlk_own _ (blkP.pre ⟨_, rfl⟩ hp)).mono ?_
    rintro _ ⟨cs', L', rfl, hl', ho⟩
    simp [h0, h3, h4, hl', up1 hi hb, hi, hfit]
    subst hcells
    exact ToInv.next (O := blkO) (zs := [.ns, .ns, .i 0, .i 0, .i 0, .i 0]) (sz := 6) (fun _ _ hk _ _ => blkO.keep hk) (fun _ hlo _ _ _ => blkO.lo hlo) rfl hi hc hP hl' ho rfl (by simp) (by simp) (by simp)
  · rintro ⟨e, X⟩ ⟨css, L, hX, hc, hP, h0, h3, h4⟩
    simp only at h0 h3 h4 hX hP ⊢
    subst hX
    obtain ⟨w, L', hg, ho⟩ := ToInv.done (O := blkO) (zs := [.ns, .ns, .i 0, .i 0, .i 0, .i 0]) (sz := 6) (fun _ _ _ => blkO.lo (Nat.le_succ _)) (fun _ _ _ _ => fun hf h => by obtain ⟨z, u, rfl, ⟨id, css, rfl, _⟩, _⟩ := h; simp [flatC] at hf) hc hP
    generalize hcells : css.flatten ++ (List.replicate (xs.length - xs.length) [.ns, .ns, .i 0, .i 0, .i 0, .i 0]).flatten = cells at hg
    unfold vf114b0
    simp [h0, h3, h4, hv.lenOf, hcells, hg]
    exact ⟨_, _, ⟨rfl, rfl⟩, ho⟩

theorem toFn_call (X : Hp) {cs : List CV} {f : FnR} (h : fnP BIG X cs f) : CM 66 [.agg cs] X fun r => ∃ cs' L, r = (.agg cs', X ++ L) ∧ fnO X.length (X ++ L) cs' f := by
  obtain ⟨z, rfl, hz, hb1⟩ := h
  refine cw66 ?_
  unfold vf66c
  simp [putAt]
  refine (toBlkS_call (Blocks.app hz _) hb1).mono ?_
  rintro _ ⟨w, L, rfl, ho⟩
  obtain ⟨idw, rfl⟩ := ho.sl
  simp [putAt]
  rw [gc_agg (by simp [flatC])]
  refine ⟨_, _, rfl, _, rfl, ?_⟩
  simp only [List.append_assoc, List.cons_append, List.nil_append, List.length_append, List.length_cons, List.length_nil, Nat.zero_add, Nat.reduceAdd] at ho
  exact (ho.keep (keep3 _ _ _ _ _ _ _ _) (fun _ _ => blkO.keep (keep3 _ _ _ _ _ _ _ _))).lo (by simp) (fun _ _ => blkO.lo (by simp))
end Go.Proofs.Ytnpbldjbfkpbcaa.Vm
