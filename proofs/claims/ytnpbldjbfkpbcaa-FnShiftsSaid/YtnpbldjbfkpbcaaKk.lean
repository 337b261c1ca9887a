/- What a program costs, where a value is made. No conditions. -/
import Derived.Test.YtnpbldjbfkpbcaaKj
namespace Go.Proofs.Ytnpbldjbfkpbcaa.Vm
open Go.RowKit (wrap64)
set_option linter.unusedSimpArgs false
set_option linter.unusedVariables false

/-! ### Cost -/
def costTo (bs : List BlkR) (n : Nat) : Nat := ((bs.take n).map fun b => b.phis.length + b.list.length).sum
def costF (f : FnR) : Int := if shapeB f = true then (costTo f.blocks f.blocks.length : Int) else -1
theorem costTo_succ {bs : List BlkR} {n : Nat} (h : n < bs.length) : costTo bs (n + 1) = costTo bs n + (bs[n].phis.length + bs[n].list.length) := by
  unfold costTo; rw [List.take_succ_eq_append_getElem h, List.map_append, List.sum_append]; simp
theorem costTo_le {bs : List BlkR} (hs : ∀ j (hj : j < bs.length), bs[j].phis.length ≤ BIG ∧ bs[j].list.length ≤ BIG) : ∀ n, n ≤ bs.length → costTo bs n ≤ n * (2 * BIG) := by
  intro n
  induction n with
  | zero => intro _; simp [costTo]
  | succ n ih =>
    intro h
    rw [costTo_succ (by omega), Nat.succ_mul]
    have := ih (by omega)
    have := hs n (by omega)
    omega
theorem Blocks.small {H : Hp} {v : CV} {bs : List BlkR} (hv : Blocks H v bs) : ∀ j (hj : j < bs.length), bs[j].phis.length ≤ BIG ∧ bs[j].list.length ≤ BIG := by
  intro j hj
  obtain ⟨id, g, off, w, u, q1, q2, q3, hw, hu, hb1, hb2, q4, q5⟩ := hv.get hj
  exact ⟨hb1, hb2⟩
theorem wcost {bs : List BlkR} {i : Nat} (hi : i < bs.length) (hb : bs.length ≤ BIG) (hs : ∀ j (hj : j < bs.length), bs[j].phis.length ≤ BIG ∧ bs[j].list.length ≤ BIG) :
    wrap64 ((costTo bs i : Int) + bs[i].phis.length) = (costTo bs i : Int) + bs[i].phis.length ∧ wrap64 ((costTo bs i : Int) + bs[i].phis.length + bs[i].list.length) = (costTo bs (i + 1) : Int) ∧
    wrap64 ((bs[i].phis.length : Int) + bs[i].list.length) = (bs[i].phis.length : Int) + bs[i].list.length ∧ wrap64 ((costTo bs i : Int) + ((bs[i].phis.length : Int) + bs[i].list.length)) = (costTo bs (i + 1) : Int) := by
  have h1 := costTo_le hs i (by omega)
  have h2 := hs i hi
  have h3 := costTo_succ hi
  have h4 : i * (2 * BIG) ≤ BIG * (2 * BIG) := Nat.mul_le_mul_right _ (by omega)
  simp only [BIG] at h1 h2 h4
  refine ⟨wrap64_id (by omega), ?_, wrap64_id (by omega), ?_⟩
  · rw [wrap64_id (by omega)]; omega
  · rw [wrap64_id (by omega)]; omega

/-! ### No phis -/
def plainF (f : FnR) : Bool := shapeB f && f.blocks.all fun b => decide (b.phis = [])
/-! ### Where a value is made -/
def makesF (op : Int) : Bool := wordOk op || decide (op = 20) || decide (op = 21) || decide (op = 24) || decide (op = 25)
theorem hasD (op : Int) : hasF op 68 = makesF op := by
  unfold makesF
  rcases has_tab op with h | h | h | h | h | h | h
  · rw [h.1, h.2.1]; rfl
  · obtain ⟨rfl, h⟩ := h; rw [h.1]; decide
  · obtain ⟨rfl | rfl, h⟩ := h <;> (rw [h.1]; decide)
  · obtain ⟨rfl, h⟩ := h; rw [h.1]; decide
  · obtain ⟨rfl, h⟩ := h; rw [h.1]; decide
  · obtain ⟨rfl, h⟩ := h; rw [h.1]; decide
  · obtain ⟨h0, e1, e2, e3, e4, e5, e6, h1, _⟩ := h; simp [h0, e1, e2, e3, e6, h1]
def insDefF (x : InsR) : Int := if makesF x.op = true then x.d else -1
theorem l2Makes_call (H : Hp) (op : Int) (k : IV × Hp → Prop) : CM 106 [.c (.i op)] H k = k (.c (.b (makesF op)), H) := by
  refine det (cw106 ?_) k
  unfold vf106c makesF
  cases hw : wordOk op with
  | true => simp [specWordOk, hw]
  | false => simp [specWordOk, hw]; repeat' first | (refine cnd_of (fun hc => ?_) (fun hc => ?_) <;> simp [hc, hw]) | (refine grd_t (fun hc => ?_) (fun hc => ?_) <;> simp [hc, hw]) | (refine grd_f (fun hc => ?_) (fun hc => ?_) <;> simp [hc, hw])
theorem implInsDef (H : Hp) (x : InsR) (k : IV × Hp → Prop) : CM 55 [.agg [.i x.op, .i x.d, .i x.a, .i x.b, .i x.n]] H k = k (.c (.i (insDefF x)), H) := by
  refine det (cw55 ?_) k
  unfold vf55c insDefF
  cases h : makesF x.op <;> simp [has_call, hasD, h]
theorem specInsDef (H : Hp) (x : InsR) (k : IV × Hp → Prop) : CM 59 [.agg [.i x.op, .i x.d, .i x.a, .i x.b, .i x.n]] H k = k (.c (.i (insDefF x)), H) := by
  refine det (cw59 ?_) k
  unfold vf59c insDefF
  cases h : makesF x.op <;> simp [l2Makes_call, h]

def madeAt (v : Int) (x : InsR) : Bool := makesF x.op && decide (x.d = v)
def defBlk (b : BlkR) (v : Int) : Option Int := if b.phis.any (fun p => decide (p.d = v)) = true then some (-1) else if 0 ≤ findI (madeAt v) b.list then some (findI (madeAt v) b.list) else none
def defGo (v : Int) : List BlkR → Nat → Int × Int
  | [], _ => (-1, -2)
  | b :: r, j => match defBlk b v with
    | some p => (j, p)
    | none => defGo v r (j + 1)
def defAtF (f : FnR) (v : Int) : Int × Int := if shapeB f = true then defGo v f.blocks 0 else (-1, -2)

theorem def1 {H : Hp} {id g : Nat} {v : Int} (h : rdC H id g 0 = some (.i v)) (d : Int) (w : CV) (k : IV × Hp → Prop) : CM 109 [.agg [.i d, w], .c (.p id g 0)] H k = k (.c (.b (decide (d = v))), H) := by
  refine det (cw109 ?_) k
  unfold vf109c
  simp [rdC_app h]
theorem def2 {H : Hp} {id g : Nat} {v : Int} (h : rdC H id g 0 = some (.i v)) (x : InsR) (k : IV × Hp → Prop) : CM 111 [.agg [.i x.op, .i x.d, .i x.a, .i x.b, .i x.n], .c (.p id g 0)] H k = k (.c (.b (madeAt v x)), H) := by
  refine det (cw111 ?_) k
  unfold vf111c madeAt
  cases hm : makesF x.op <;> simp [rdC_app h, has_call, hasD, hm]
theorem gc_ints (H L : Hp) (a b : Int) : gcRet H (.tup [(false, [.i a]), (false, [.i b])]) (H ++ L) = (.tup [(false, [.i a]), (false, [.i b])], H) := gc_flat H L rfl

theorem implDefAt {H : Hp} {w : CV} {f : FnR} {v : Int} (hv : Blocks H w f.blocks) (hb : f.blocks.length ≤ BIG) (k : IV × Hp → Prop) :
    CM 63 [.agg [w, .i f.values], .c (.i v)] H k = k (.tup [(false, [.i (defAtF f v).1]), (false, [.i (defAtF f v).2])], H) := by
  refine det (cw63 ?_) k
  unfold vf63c defAtF
  cases hsh : shapeB f with
  | false => simp [implShape (hv.app _) hb, hsh, gc_ints]
  | true =>
    obtain ⟨bs, m⟩ := f
    simp only at hv hb ⊢
    simp [implShape (f := ⟨bs, m⟩) (hv.app _) hb, hsh, hv.lenOf]
    obtain ⟨I, hI⟩ : ∃ I : Nat → St → Prop, ∀ i s, I i s ↔ (Pre (H ++ [⟨[w, .i m], 0, true, 2⟩, ⟨[.i v], 0, true, 1⟩]) s.h ∧ defGo v bs 0 = defGo v (bs.drop i) i ∧ Env.get s.e 3 = .c (.p (H.length + 1) 0 0) ∧ Env.get s.e 13 = .c w ∧ Env.get s.e 14 = .c (.i bs.length) ∧ Env.get s.e 15 = .c (.i i)) := ⟨_, fun _ _ => Iff.rfl⟩
    refine wp_for CM_mono bs.length I ((hI _ _).2 ⟨Pre.refl _, by simp⟩) ?_ ?_
    · rintro i ⟨e, X⟩ hi hIs
      obtain ⟨⟨L, hX⟩, hd, h3, h13, h14, h15⟩ := (hI _ _).1 hIs
      simp only at hX h3 h13 h14 h15 ⊢
      simp only [List.append_assoc, List.cons_append, List.nil_append] at hX
      subst hX
      obtain ⟨id, g, off, z, u, q1, q2, q3, hw, hu, hb1, hb2, q4, q5⟩ := hv.get hi
      rw [List.drop_eq_getElem_cons hi] at hd
      simp only [defGo] at hd
      unfold vf63b0
      simp [h3, h13, h14, h15, hi, q1, q3, putAt]
      rw [containsPhi (hw.app _) hb1 (fun p => decide (p.d = v)) (fun i hi cs hP k => by
        obtain ⟨z, rfl, _, _⟩ := hP
        exact def1 (by simp) _ _ k)]
      cases hph : bs[i].phis.any (fun p => decide (p.d = v)) with
      | true =>
        have : defBlk bs[i] v = some (-1) := by unfold defBlk; rw [if_pos hph]
        rw [this] at hd
        simp [hd, gc_ints]
      | false =>
        simp [h3, h13, h14, h15]
        rw [indexIns (hu.app _) hb2 (madeAt v) (fun i hi cs hP k => by
          have hP : cs = insC _ := hP
          subst hP
          exact def2 (by simp) _ k)]
        by_cases hf : 0 ≤ findI (madeAt v) bs[i].list
        · have : defBlk bs[i] v = some (findI (madeAt v) bs[i].list) := by unfold defBlk; rw [hph, if_neg (by simp), if_pos hf]
          rw [this] at hd
          simp [hd, hf, gc_ints]
        · have : defBlk bs[i] v = none := by unfold defBlk; rw [hph, if_neg (by simp), if_neg hf]
          rw [this] at hd
          simp [h3, h13, h14, h15, hf, up1 hi hb]
          exact (hI _ _).2 ⟨⟨L ++ [⟨[z, u, .i bs[i].term.kind, .i bs[i].term.a, .i bs[i].term.to, .i bs[i].term.els], 0, true, 6⟩], by simp⟩, hd, by simp⟩
    · rintro ⟨e, X⟩ hIs
      obtain ⟨⟨L, hX⟩, hd, h3, h13, h14, h15⟩ := (hI _ _).1 hIs
      simp only at hX h3 h13 h14 h15 ⊢
      simp only [List.append_assoc, List.cons_append, List.nil_append] at hX
      subst hX
      rw [List.drop_length] at hd
      simp only [defGo] at hd
      unfold vf63b0
      simp [h3, h13, h14, h15, hd, gc_ints]
end Go.Proofs.Ytnpbldjbfkpbcaa.Vm
