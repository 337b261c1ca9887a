/- Rows of numbers: compared, marked, held. A copy is marked. No conditions. -/
import Derived.Test.YtnpbldjbfkpbcaaKp
namespace Go.Proofs.Ytnpbldjbfkpbcaa.Vm
open Go.RowKit (wrap64)
set_option linter.unusedSimpArgs false
set_option linter.unusedVariables false

/-! ### A copy, seen for its numbers -/
theorem chunk {css : List (List CV)} {sz : Nat} (h : ∀ cs ∈ css, cs.length = sz) {k : Nat} (hk : k < css.length) : (css.flatten.drop (k * sz)).take sz = css[k] := by
  induction css generalizing k with
  | nil => simp at hk
  | cons c r ih =>
    have hc := h c (by simp)
    cases k with
    | zero => rw [List.flatten_cons]; simp [← hc]
    | succ k =>
      rw [List.flatten_cons, Nat.succ_mul, List.drop_append, List.drop_eq_nil_of_le (by rw [hc]; omega), List.nil_append, hc, Nat.add_sub_cancel]
      simpa using ih (fun cs hcs => h cs (by simp [hcs])) (k := k) (by simpa using hk)
theorem ORow.m {α : Type} {P : Nat → Hp → List CV → α → Prop} {P' : Hp → List CV → Prop} {sz lo : Nat} {X : Hp} {w : CV} {xs : List α} (h : ORow P sz lo X w xs) (hP : ∀ cs x, x ∈ xs → P lo X cs x → P' X cs) : MRow P' sz lo X.length X w xs.length := by
  obtain ⟨id, css, rfl, h2, h3, h4, h5⟩ := h
  have hl : ∀ cs ∈ css, cs.length = sz := by
    intro cs hcs
    obtain ⟨j, hj, rfl⟩ := List.getElem_of_mem hcs
    exact (h5 j _ _ (List.getElem?_eq_getElem hj) (List.getElem?_eq_getElem (by omega))).1
  refine ⟨id, css.flatten, rfl, h2, rdOb_lt h3, h3, by rw [flat_len hl, h4], fun k hk => ?_⟩
  rw [chunk hl (by omega)]
  exact hP _ _ (List.getElem_mem hk) (h5 k _ _ (List.getElem?_eq_getElem (by omega)) (List.getElem?_eq_getElem hk)).2
theorem phiO.m {lo : Nat} {X : Hp} {cs : List CV} {p : PhiR} (hs : p.arms.length ≤ BIG) (h : phiO lo X cs p) : phiM lo X.length X cs := by
  obtain ⟨z, h1, h2⟩ := h
  exact ⟨p.d, z, p.arms.length, h1, h2.m fun cs x _ h => ⟨_, _, h⟩, hs⟩
theorem blkO.m {lo : Nat} {X : Hp} {cs : List CV} {b : BlkR} (hs : b.phis.length ≤ BIG ∧ b.list.length ≤ BIG ∧ ∀ p ∈ b.phis, p.arms.length ≤ BIG) (h : blkO lo X cs b) : blkM lo X.length X cs := by
  obtain ⟨z, u, h1, h2, h3⟩ := h
  exact ⟨z, u, _, _, _, _, _, _, h1, h2.m fun cs x hx h => phiO.m (hs.2.2 _ hx) h, hs.1, h3.m fun cs x _ h => ⟨_, _, _, _, _, h⟩, hs.2.1⟩
theorem MRow.app {P : Hp → List CV → Prop} {sz lo hi : Nat} {Y : Hp} (L : Hp) {v : CV} {n : Nat} (hP : ∀ cs, P Y cs → P (Y ++ L) cs) (h : MRow P sz lo hi Y v n) : MRow P sz lo hi (Y ++ L) v n := by
  obtain ⟨id, cells, h1, h2, h3, h4, h5, h6⟩ := h
  exact ⟨id, cells, h1, h2, h3, rdOb_app L h4, h5, fun k hk => hP _ (h6 k hk)⟩
theorem phiM.app {lo hi : Nat} {Y : Hp} (L : Hp) {cs : List CV} (h : phiM lo hi Y cs) : phiM lo hi (Y ++ L) cs := by
  obtain ⟨a, z, n, h1, h2, h3⟩ := h
  exact ⟨a, z, n, h1, h2.app L fun _ h => h, h3⟩
theorem blkM.app {lo hi : Nat} {Y : Hp} (L : Hp) {cs : List CV} (h : blkM lo hi Y cs) : blkM lo hi (Y ++ L) cs := by
  obtain ⟨z, u, n, m, a, b, c, d, h1, h2, h3, h4, h5⟩ := h
  exact ⟨z, u, n, m, a, b, c, d, h1, h2.app L fun _ h => phiM.app L h, h3, h4.app L fun _ h => h, h5⟩
def fnM (lo hi : Nat) (Y : Hp) (cs : List CV) : Prop := ∃ (z : CV) (m : Int) (n : Nat), cs = [z, .i m] ∧ MRow (blkM lo hi) 6 lo hi Y z n ∧ n ≤ BIG
theorem fnO.m {lo : Nat} {X : Hp} {cs : List CV} {f : FnR} (hs : Small f) (h : fnO lo X cs f) : fnM lo X.length X cs := by
  obtain ⟨z, h1, h2⟩ := h
  exact ⟨z, _, _, h1, h2.m fun cs x hx h => blkO.m (hs.2 _ hx) h, hs.1⟩
theorem fnM.app {lo hi : Nat} {Y : Hp} (L : Hp) {cs : List CV} (h : fnM lo hi Y cs) : fnM lo hi (Y ++ L) cs := by
  obtain ⟨z, m, n, h1, h2, h3⟩ := h
  exact ⟨z, m, n, h1, h2.app L fun _ h => blkM.app L h, h3⟩
theorem IntCh.cut {lo hi : Nat} {Y Z L : Hp} (hl : lo ≤ hi) (hh : hi ≤ Y.length) (h : IntCh lo hi (Y ++ L) Z) : ∃ Z', Z = Z' ++ L ∧ IntCh lo hi Y Z' := by
  refine ⟨Z.take Y.length, ?_, ?_⟩
  · have hlen := h.len
    rw [List.length_append] at hlen
    apply List.ext_getElem?
    intro i
    by_cases hi' : i < Y.length
    · rw [List.getElem?_append_left (by rw [List.length_take]; omega), List.getElem?_take, if_pos hi']
    · rw [List.getElem?_append_right (by rw [List.length_take]; omega), List.length_take, Nat.min_eq_left (by omega)]
      by_cases hz : i < Z.length
      · have e : (Y ++ L)[i]? = L[i - Y.length]? := List.getElem?_append_right (by omega)
        have h1 : i - Y.length < L.length := by omega
        rw [List.getElem?_eq_getElem h1] at e
        have := h.out i _ _ (.inr (by omega)) (rdOb_some.2 ⟨e, rfl⟩)
        rw [(rdOb_some.1 this).1, List.getElem?_eq_getElem h1]
      · rw [List.getElem?_eq_none (by omega), List.getElem?_eq_none (by omega)]
  · have hlen := h.len
    rw [List.length_append] at hlen
    have key : ∀ id g o, id < Y.length → (rdOb Z id g = some o ↔ rdOb (Z.take Y.length) id g = some o) := by
      intro id g o hid
      rw [rdOb_some, rdOb_some, List.getElem?_take, if_pos hid]
    refine ⟨by rw [List.length_take]; omega, fun id g o ho => ?_, fun id g o hl' ho => ?_⟩
    · obtain ⟨cs, h1, h2⟩ := h.ob id g o (rdOb_app L ho)
      exact ⟨cs, (key _ _ _ (rdOb_lt ho)).1 h1, h2⟩
    · exact (key _ _ _ (rdOb_lt ho)).1 (h.out id g o hl' (rdOb_app L ho))
/-- What a marked copy leaves. -/
def MarkRes (lo hi : Nat) (Y : Hp) (r : IV × Hp) : Prop := ∃ m Z L, r = (.c (.i m), Z ++ L) ∧ 0 ≤ m ∧ IntCh lo hi Y Z
theorem markFn_weak {lo hi : Nat} {Y : Hp} {cs : List CV} (h : fnM lo hi Y cs) (hh : hi ≤ Y.length) (hl : lo ≤ hi) :
    CM 69 [.agg cs, .c (.i 1)] Y (MarkRes lo hi Y) := by
  obtain ⟨z, m, n, rfl, hz, hn⟩ := h
  refine cw69 ?_
  unfold vf69c
  simp
  refine (markBlockS_weak (hz.app _ fun _ h => blkM.app _ h) hn (by omega) (by omega)).mono ?_
  rintro _ ⟨k, Z, rfl, h1, h2, h3⟩
  obtain ⟨Z', rfl, h4⟩ := h3.cut hl hh
  simp
  by_cases e : Z' = Y
  · subst e
    exact ⟨k, Z', [], by simp, by omega, h4⟩
  · have e2 : gcRet Y (.c (.i k)) (Z' ++ [⟨[z, .i m], 0, true, 2⟩]) = (.c (.i k), Z' ++ [⟨[z, .i m], 0, true, 2⟩]) := by
      unfold gcRet
      rw [if_neg]
      rw [List.take_append_of_le_length (by rw [h4.len]; exact Nat.le_refl _), List.take_of_length_le (by rw [h4.len]; exact Nat.le_refl _)]
      exact e
    rw [e2]
    exact ⟨k, Z', _, rfl, by omega, h4⟩

/-! ### Rows of numbers -/
theorem eqIntS_call {H : Hp} {v w : CV} {xs ys : List Int} (hv : IsI H v xs) (hw : IsI H w ys) (hb : xs.length ≤ BIG) (k : IV × Hp → Prop) : CM 40 [.c v, .c w] H k = k (.c (.b (decide (xs = ys))), H) := by
  refine det (cw40 ?_) k
  unfold vf40c
  simp [hv.lenOf, hw.lenOf]
  refine cnd_of (fun hl => ?_) (fun hl => ?_) <;> simp at hl
  · have : xs ≠ ys := fun e => hl (by rw [e])
    simp [this]
  · simp
    refine wp_for CM_mono xs.length (fun i s => xs.take i = ys.take i ∧ s.h = H ∧ Env.get s.e 0 = .c v ∧ Env.get s.e 1 = .c w ∧ Env.get s.e 5 = .c (.i i)) (by simp) ?_ ?_
    · rintro i ⟨e, X⟩ hi ⟨ht, rfl, h0, h1, h5⟩
      simp only at h0 h1 h5 hv hw ⊢
      obtain ⟨id, g, off, q1, q2⟩ := hv.at_ hi
      obtain ⟨id', g', off', p1, p2⟩ := hw.at_ (show i < ys.length by omega)
      unfold vf40b0
      by_cases he : xs[i] = ys[i]
      · simp [h0, h1, h5, q1, q2, p1, p2, hi, hv.lenOf, up1 hi hb, he]
        exact take_snoc_eq hi (by omega) ht he
      · have hne : xs ≠ ys := fun e => he (by subst e; rfl)
        simp [h0, h1, h5, q1, q2, p1, p2, hi, hv.lenOf, up1 hi hb, he, hne]
    · rintro ⟨e, X⟩ ⟨ht, rfl, h0, h1, h5⟩
      simp only at h0 h1 h5 hv hw ⊢
      rw [List.take_length, hl, List.take_length] at ht
      unfold vf40b0
      simp [h0, h1, h5, hv.lenOf, ht]
def ups (k : Int) (n : Nat) : List Int := (List.range n).map fun (j : Nat) => k + (j : Int)
@[simp] theorem ups_len (k : Int) (n : Nat) : (ups k n).length = n := by simp [ups]
theorem ups_get {k : Int} {n j : Nat} (h : j < (ups k n).length) : (ups k n)[j] = k + j := by simp [ups]
/-- A row of one's own: where it lies. -/
def Own (Y : Hp) (lo sz : Nat) (w : CV) (n : Nat) (cells : List CV) : Prop := (w = .ns ∧ n = 0 ∧ cells = []) ∨ ∃ id, w = .sl id 0 0 n ∧ lo ≤ id ∧ rdOb Y id 0 = some ⟨cells, 0, true, sz⟩ ∧ cells.length = n * sz
theorem Own.isI {Y : Hp} {lo : Nat} {w : CV} {n : Nat} {xs : List Int} (h : Own Y lo 1 w n (xs.map .i)) : IsI Y w xs := by
  rcases h with ⟨rfl, rfl, h⟩ | ⟨id, rfl, h1, h2, h3⟩
  · simp at h; subst h; exact IsI.ns _
  · simp at h3; subst h3
    exact IsI.mk h2 rfl (by simp) (by rw [List.drop_zero, List.take_of_length_le (by simp)])
theorem RowRes.own {H L : Hp} {w : CV} {xs : List Int} (h : RowRes H w L xs) : Own (H ++ L) H.length 1 w xs.length (xs.map .i) := by
  rcases h with ⟨rfl, rfl, rfl⟩ | ⟨rfl, rfl⟩
  · exact .inl ⟨rfl, rfl, rfl⟩
  · exact .inr ⟨_, rfl, Nat.le_refl _, by simp, by simp⟩
theorem Own.keep {Y Z : Hp} {lo sz : Nat} {w : CV} {n : Nat} {cells : List CV} (h : Own Y lo sz w n cells) (hk : ∀ id g o, lo ≤ id → rdOb Y id g = some o → rdOb Z id g = some o) : Own Z lo sz w n cells := by
  rcases h with h | ⟨id, rfl, h1, h2, h3⟩
  · exact .inl h
  · exact .inr ⟨id, rfl, h1, hk _ _ _ h1 h2, h3⟩
/-- Nothing has changed below. -/
def Low (lo : Nat) (Y Z : Hp) : Prop := ∀ id g o, id < lo → rdOb Y id g = some o → rdOb Z id g = some o
theorem Low.trans {lo : Nat} {X Y Z : Hp} (h : Low lo X Y) (k : Low lo Y Z) : Low lo X Z := fun id g o hl ho => k id g o hl (h id g o hl ho)
theorem Low.app (lo : Nat) (Y L : Hp) : Low lo Y (Y ++ L) := fun _ _ _ _ h => rdOb_app L h
theorem Low.mono {lo lo' : Nat} {Y Z : Hp} (h : Low lo Y Z) (hl : lo' ≤ lo) : Low lo' Y Z := fun id g o h1 h2 => h id g o (by omega) h2
theorem Low.pre {H Y Z : Hp} {lo : Nat} (h : Low lo Y Z) (hp : Pre H Y) (hl : H.length ≤ lo) : Pre H Z := by
  obtain ⟨G, rfl⟩ := hp
  refine ⟨Z.drop H.length, ?_⟩
  have key : ∀ i (hi : i < H.length), Z[i]? = some H[i] := by
    intro i hi
    have := h i H[i].g H[i] (by omega) (rdOb_some.2 ⟨by rw [List.getElem?_append_left hi, List.getElem?_eq_getElem hi], rfl⟩)
    exact (rdOb_some.1 this).1
  apply List.ext_getElem?
  intro i
  by_cases hi : i < H.length
  · rw [List.getElem?_append_left hi, List.getElem?_eq_getElem hi, key i hi]
  · rw [List.getElem?_append_right (by omega), List.getElem?_drop]
    congr 1; omega
theorem IntCh.low {lo hi : Nat} {Y Z : Hp} (h : IntCh lo hi Y Z) : Low lo Y Z := fun id g o hl ho => h.out id g o (.inl hl) ho
theorem markIntS_own {Y : Hp} {lo : Nat} {w : CV} {n : Nat} {cells : List CV} (h : Own Y lo 1 w n cells) (hn : n ≤ BIG) :
    ∃ Z, (∀ k : IV × Hp → Prop, CM 43 [.c w, .c (.i 1)] Y k = k (.c (.i (1 + n)), Z)) ∧ Z.length = Y.length ∧ Low lo Y Z ∧ Own Z lo 1 w n ((ups 1 n).map .i) := by
  rcases h with ⟨rfl, rfl, rfl⟩ | ⟨id, rfl, h1, h2, h3⟩
  · refine ⟨Y, fun k => det (cw43 ?_) k, rfl, fun _ _ _ _ h => h, .inl ⟨rfl, rfl, rfl⟩⟩
    unfold vf43c
    simp
    refine wp_for CM_mono 0 (fun i s => s.h = Y ∧ Env.get s.e 0 = .c .ns ∧ Env.get s.e 1 = .c (.i 1) ∧ Env.get s.e 5 = .c (.i i)) (by simp) (fun i s h => absurd h (by omega)) ?_
    rintro ⟨e, X⟩ ⟨rfl, h0, h1, h5⟩
    simp only at h0 h1 h5 ⊢
    unfold vf43b0
    simp [h0, h1, h5]
  · simp at h3
    have hlt := rdOb_lt h2
    refine ⟨Y.set id ⟨(ups 1 n).map .i, 0, true, 1⟩, fun k => det (cw43 ?_) k, by simp, fun id' g o hl ho => by rw [rdOb_set_ne (by omega)]; exact ho, .inr ⟨id, rfl, h1, by rw [rdOb_set_self hlt]; simp, by simp⟩⟩
    unfold vf43c
    simp
    obtain ⟨I, hI⟩ : ∃ I : Nat → St → Prop, ∀ i s, I i s ↔ (s.h = Y.set id ⟨(ups 1 i).map .i ++ cells.drop i, 0, true, 1⟩ ∧ Env.get s.e 0 = .c (.sl id 0 0 n) ∧ Env.get s.e 1 = .c (.i (1 + i)) ∧ Env.get s.e 5 = .c (.i i)) := ⟨_, fun _ _ => Iff.rfl⟩
    refine wp_for CM_mono n I ((hI _ _).2 ⟨?_, by simp⟩) ?_ ?_
    · have := (rdOb_some.1 h2).1
      simp [ups]
      rw [List.getElem?_eq_getElem hlt] at this
      injection this with this
      rw [← this]; simp
    · rintro i ⟨e, X⟩ hi hIs
      obtain ⟨hX, h0, h1', h5⟩ := (hI _ _).1 hIs
      simp only at hX h0 h1' h5 ⊢
      have ho : rdOb X id 0 = some ⟨(ups 1 i).map .i ++ cells.drop i, 0, true, 1⟩ := by rw [hX, rdOb_set_self hlt]; simp
      have hp : putAt ((ups 1 i).map .i ++ cells.drop i) i [.i (1 + (i : Int))] = (ups 1 (i + 1)).map .i ++ cells.drop (i + 1) := by
        have e1 : cells.drop i = cells[i]'(by omega) :: cells.drop (i + 1) := List.drop_eq_getElem_cons (by omega)
        have e2 : (cells.drop i).set 0 (.i (1 + (i : Int))) = .i (1 + (i : Int)) :: cells.drop (i + 1) := by rw [e1]; rfl
        rw [putAt_get (by simp; omega), List.set_append]
        simp [ups, List.range_succ] at e2 ⊢
        exact e2
      have hw1 : -9223372036854775808 ≤ (1 + (i : Int)) + 1 ∧ (1 + (i : Int)) + 1 ≤ 9223372036854775807 := by simp only [BIG] at hn; omega
      unfold vf43b0
      simp [h0, h1', h5, ho, hi, idxOf, hp, up1 hi hn, wrap64_id hw1, show i + 1 ≤ i + (cells.length - i) by omega]
      refine (hI _ _).2 ⟨?_, by simp; omega⟩
      rw [hX]; simp
    · rintro ⟨e, X⟩ hIs
      obtain ⟨hX, h0, h1', h5⟩ := (hI _ _).1 hIs
      simp only at hX h0 h1' h5 ⊢
      have hlen : X.length = Y.length := by rw [hX]; simp
      unfold vf43b0
      simp [h0, h1', h5, gc_nolen hlen (show flatV (.c (.i (1 + (n : Int)))) = true from rfl)]
      rw [hX, List.drop_eq_nil_of_le (by omega), List.append_nil]
theorem heldIntS_call {H : Hp} {v : CV} {n : Nat} (hv : IsI H v (ups 1 n)) (hn : n ≤ BIG) (k : IV × Hp → Prop) : CM 44 [.c v, .c (.i 1)] H k = k (.c (.i (1 + n)), H) := by
  refine det (cw44 ?_) k
  unfold vf44c
  simp
  refine wp_for CM_mono n (fun i s => s.h = H ∧ Env.get s.e 0 = .c v ∧ Env.get s.e 1 = .c (.i (1 + i)) ∧ Env.get s.e 5 = .c (.i i)) (by simp) ?_ ?_
  · rintro i ⟨e, X⟩ hi ⟨rfl, h0, h1, h5⟩
    simp only at h0 h1 h5 hv ⊢
    obtain ⟨id, g, off, q1, q2⟩ := hv.at_ (k := i) (by simpa using hi)
    rw [ups_get] at q2
    have hw1 : -9223372036854775808 ≤ (1 + (i : Int)) + 1 ∧ (1 + (i : Int)) + 1 ≤ 9223372036854775807 := by simp only [BIG] at hn; omega
    have hl := hv.lenOf
    rw [ups_len] at hl
    unfold vf44b0
    simp [h0, h1, h5, q1, q2, hi, hl, up1 hi hn, wrap64_id hw1]
    omega
  · rintro ⟨e, X⟩ ⟨rfl, h0, h1, h5⟩
    simp only at h0 h1 h5 hv ⊢
    have hl := hv.lenOf
    rw [ups_len] at hl
    unfold vf44b0
    simp [h0, h1, h5, hl]

/-! ### Who follows, who comes ahead -/
def rightB (f : FnR) (b : Int) : Bool := shapeB f && inB b 0 ((f.blocks.length : Int) - 1)
def succs0 (f : FnR) (b : Int) : List Int := if rightB f b = true then succsF (f.blocks.getD b.toNat ⟨[], [], ⟨0, 0, 0, 0⟩⟩).term else []
def preds0 (f : FnR) (b : Int) : List Int := if rightB f b = true then predsF f.blocks b else []
theorem implRight {H : Hp} {v : CV} {f : FnR} {b : Int} (hv : Blocks H v f.blocks) (hb : f.blocks.length ≤ BIG) (k : IV × Hp → Prop) : CM 102 [.agg [v, .i f.values], .c (.i b)] H k = k (.c (.b (rightB f b)), H) := by
  refine det (cw102 ?_) k
  obtain ⟨bs, m⟩ := f
  unfold vf102c rightB
  have hw : -9223372036854775807 ≤ (bs.length : Int) ∧ (bs.length : Int) ≤ 9223372036854775807 := bigI hb
  cases hsh : shapeB ⟨bs, m⟩ with
  | false => simp [implShape (f := ⟨bs, m⟩) (hv.app _) hb, hsh]
  | true => simp [implShape (f := ⟨bs, m⟩) (hv.app _) hb, hsh, hv.lenOf, (hv.app _).lenOf, implIn, wn1 hw]
end Go.Proofs.Ytnpbldjbfkpbcaa.Vm
