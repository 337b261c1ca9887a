import Derived.Test.YtgdfgnppeekfjaaGreatP2
import Derived.Test.YtgdfgnppeekfjaaGreatQze
import Derived.Test.YtgdfgnppeekfjaaGreatP4
section
/- The look: what it looks for, plain; copies and how often a value is made, both sides. No conditions. -/
namespace Go.Proofs.YtgdfgnppeekfjaaGreat.Vm
open Go.RowKit (wrap64)
set_option linter.unusedSimpArgs false
set_option linter.unusedVariables false

/-! ### Plain -/
def copiesB (bs : List BlkR) : Bool := bs.any fun b => b.list.any fun x => decide (x.op = 25)
/-- One more. -/
def tick (vs : List Int) (d : Int) : List Int := vs.set d.toNat (vs.getD d.toNat 0 + 1)
def tickI (vs : List Int) (x : InsR) : List Int := if 0 ≤ insDefF x then tick vs (insDefF x) else vs
def tickB (vs : List Int) (b : BlkR) : List Int := b.list.foldl tickI (b.phis.foldl (fun ws p => tick ws p.d) vs)
def madeF (f : FnR) : List Int := f.blocks.foldl tickB (List.replicate f.values.toNat 0)
def fromsF (p : PhiR) : List Int := p.arms.map (·.fr)
def homeF (bs : List BlkR) (v : Int) : Int × Int := defGo v bs 0
def atB (bs : List BlkR) (v : Int) (b : Nat) (i : Int) : Bool := if (homeF bs v).1 = b then decide ((homeF bs v).2 < i) else hasI (domF bs b) (homeF bs v).1
theorem tick_len (vs : List Int) (d : Int) : (tick vs d).length = vs.length := by simp [tick]
theorem tickI_len (vs : List Int) (x : InsR) : (tickI vs x).length = vs.length := by unfold tickI; split <;> simp [tick_len]
theorem ticks_len : ∀ (ps : List PhiR) (vs : List Int), (ps.foldl (fun ws p => tick ws p.d) vs).length = vs.length := by
  intro ps
  induction ps with
  | nil => intro vs; rfl
  | cons p r ih => intro vs; rw [List.foldl_cons, ih, tick_len]
theorem ticksI_len : ∀ (xs : List InsR) (vs : List Int), (xs.foldl tickI vs).length = vs.length := by
  intro xs
  induction xs with
  | nil => intro vs; rfl
  | cons p r ih => intro vs; rw [List.foldl_cons, ih, tickI_len]
theorem tickB_len (vs : List Int) (b : BlkR) : (tickB vs b).length = vs.length := by unfold tickB; rw [ticksI_len, ticks_len]
theorem ticksB_len : ∀ (bs : List BlkR) (vs : List Int), (bs.foldl tickB vs).length = vs.length := by
  intro bs
  induction bs with
  | nil => intro vs; rfl
  | cons p r ih => intro vs; rw [List.foldl_cons, ih, tickB_len]
theorem fold_succ {α β : Type} (f : β → α → β) (x0 : β) {xs : List α} {i : Nat} (hi : i < xs.length) : (xs.take (i + 1)).foldl f x0 = f ((xs.take i).foldl f x0) xs[i] := by
  rw [List.take_succ_eq_append_getElem hi, List.foldl_append]; rfl
theorem any_yes {α : Type} {p : α → Bool} {xs : List α} {i : Nat} (hi : i < xs.length) (h : p xs[i] = true) : xs.any p = true := by
  rw [List.any_eq_true]; exact ⟨_, List.getElem_mem hi, h⟩
/-! ### Copies -/
theorem copy1 {H : Hp} (x : InsR) (k : IV × Hp → Prop) : CM 151 [.agg [.i x.op, .i x.d, .i x.a, .i x.b, .i x.n]] H k = k (.c (.b (decide (x.op = 25))), H) := by
  refine det (cw151 ?_) k
  unfold vf151c
  simp
theorem copy2 {H : Hp} {cs : List CV} {b : BlkR} (hP : blkP BIG H cs b) (k : IV × Hp → Prop) : CM 150 [.agg cs] H k = k (.c (.b (b.list.any fun x => decide (x.op = 25))), H) := by
  obtain ⟨w, u, rfl, h1, h2, h3, h4⟩ := hP
  refine det (cw150 ?_) k
  unfold vf150c
  simp [trmC]
  have h2' : List5 (H ++ [(⟨[w, u, .i b.term.kind, .i b.term.a, .i b.term.to, .i b.term.els], 0, true, 6⟩ : Ob)]) u b.list := h2.pre (fun _ _ => insP.pre) ⟨_, rfl⟩
  rw [containsIns h2' h4 (fid := 151) (caps := []) (fun x => decide (x.op = 25)) (fun i hi cs hcs k => by
    have hcs : cs = insC b.list[i] := hcs
    subst hcs
    exact copy1 _ k)]
  simp
theorem implCopies {H : Hp} {v : CV} {bs : List BlkR} {m : Int} (hv : Blocks H v bs) (hb : bs.length ≤ BIG) (k : IV × Hp → Prop) : CM 85 [.agg [v, .i m]] H k = k (.c (.b (copiesB bs)), H) := by
  refine det (cw85 ?_) k
  unfold vf85c
  simp
  rw [containsBlk (hv.app _) hb (fid := 150) (caps := []) (fun b => b.list.any fun x => decide (x.op = 25)) (fun i hi cs hcs k => copy2 hcs k)]
  simp [copiesB]
theorem specCopies {H : Hp} {v : CV} {bs : List BlkR} {m : Int} (hv : Blocks H v bs) (hb : bs.length ≤ BIG) (k : IV × Hp → Prop) : CM 93 [.agg [v, .i m]] H k = k (.c (.b (copiesB bs)), H) := by
  refine det (cw93 ?_) k
  unfold vf93c
  obtain ⟨X, hX⟩ : ∃ X, H ++ [(⟨[v, .i m], 0, true, 2⟩ : Ob)] = X := ⟨_, rfl⟩
  have hp : Pre H X := ⟨_, hX.symm⟩
  have hB : rdOb X H.length 0 = some ⟨[v, .i m], 0, true, 2⟩ := by rw [← hX]; simp
  have hvX := Blocks.pre hp hv
  have hl := hvX.lenOf
  simp [hX]
  refine wp_for CM_mono bs.length (fun i s => (∀ j (hj : j < i) (hx : j < bs.length), (bs[j].list.any fun x => decide (x.op = 25)) = false) ∧ s.h = X ∧ Env.get s.e 1 = .c (.p H.length 0 0) ∧ Env.get s.e 3 = .c (.i i)) (by simp) ?_ ?_
  · rintro i ⟨e, Y⟩ hi ⟨ht, rfl, e1, e3⟩
    simp only at e1 e3 hB hvX hp ⊢
    obtain ⟨id, g, off, w, u, q1, q2, _, _, q3, _, q4, _, _⟩ := Blocks.get hvX hi
    have hlu := q3.lenOf
    unfold vf93b1
    simp [e1, e3, rdC_ob hB, hl, hi]
    refine wp_for CM_mono bs[i].list.length (fun j s => (∀ k (hk : k < j) (hx : k < bs[i].list.length), ¬ bs[i].list[k].op = 25) ∧ s.h = Y ∧ Env.get s.e 1 = .c (.p H.length 0 0) ∧ Env.get s.e 3 = .c (.i i) ∧ Env.get s.e 4 = .c (.i j)) (by simp [e1, e3]) ?_ ?_
    · rintro j ⟨e', Z⟩ hj ⟨ht2, rfl, e1, e3, e4⟩
      simp only at e1 e3 e4 hB hvX hp q1 q2 q3 ⊢
      obtain ⟨id2, g2, off2, r1, ⟨r2, _⟩, _⟩ := List5.get q3 hj
      unfold vf93b0
      by_cases hop : bs[i].list[j].op = 25
      · have hany : copiesB bs = true := any_yes hi (any_yes hj (by simp [hop]))
        simp [e1, e3, e4, rdC_ob hB, q1, q2.2.1, hlu, hj, r1, r2, hop, hany]
        rw [gcRet_flat hp rfl]
      · simp [e1, e3, e4, rdC_ob hB, q1, q2.2.1, hlu, hj, r1, r2, hop, up1 hj q4]
        intro k hk hx
        by_cases ek : k = j
        · subst ek; exact hop
        · exact ht2 k (by omega) hx
    · rintro ⟨e', Z⟩ ⟨ht2, rfl, e1, e3, e4⟩
      simp only at e1 e3 e4 hB q1 q2 ⊢
      unfold vf93b0
      simp [e1, e3, e4, rdC_ob hB, q1, q2.2.1, hlu, up1 hi hb]
      intro j hj hx
      by_cases ej : j = i
      · subst ej
        intro x hx2
        obtain ⟨k, hk, rfl⟩ := List.getElem_of_mem hx2
        exact ht2 k hk hk
      · have := ht j (by omega) hx
        rw [List.any_eq_false] at this
        intro x hx2
        simpa using this x hx2
  · rintro ⟨e, Y⟩ ⟨ht, rfl, e1, e3⟩
    simp only at e1 e3 hB hvX hp ⊢
    have hno : copiesB bs = false := by
      unfold copiesB
      rw [List.any_eq_false]
      intro b hb
      obtain ⟨j, hj, rfl⟩ := List.getElem_of_mem hb
      rw [ht j hj hj]; simp
    unfold vf93b1
    simp [e1, e3, rdC_ob hB, hl, hno]
    rw [gcRet_flat hp rfl]
end Go.Proofs.YtgdfgnppeekfjaaGreat.Vm
end
