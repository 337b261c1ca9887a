/- Programs held against each other, counted. No conditions. -/
import Derived.Test.YtnpbldjbfkpbcaaKg
namespace Go.Proofs.Ytnpbldjbfkpbcaa.Vm
open Go.RowKit (wrap64)
set_option linter.unusedSimpArgs false
set_option linter.unusedVariables false

theorem take_snoc_eq {α : Type} {xs ys : List α} {i : Nat} (hi : i < xs.length) (hj : i < ys.length) (ht : xs.take i = ys.take i) (he : xs[i] = ys[i]) : xs.take (i + 1) = ys.take (i + 1) := by
  rw [List.take_succ_eq_append_getElem hi, List.take_succ_eq_append_getElem hj, ht, he]
theorem At.all {H : Hp} {id g off : Nat} {cs : List CV} (h : At H id g off cs) {n : Nat} (hn : cs.length = n) : rdN H id g off n = some cs := by
  have := h.n 0 n (by omega)
  rwa [Nat.add_zero, List.drop_zero, List.take_of_length_le (by omega)] at this

theorem eqArm_call (H : Hp) {cs cs' : List CV} {a b : ArmR} (ha : armP H cs a) (hb : armP H cs' b) (k : IV × Hp → Prop) : CM 187 [.agg cs, .agg cs'] H k = k (.c (.b (decide (a = b))), H) := by
  cases ha; cases hb
  refine det (cw187 ?_) k
  unfold vf187c
  obtain ⟨a1, a2⟩ := a
  obtain ⟨b1, b2⟩ := b
  by_cases h1 : a1 = b1 <;> by_cases h2 : a2 = b2 <;> simp [armC, h1, h2]
theorem eqIns_call (H : Hp) {cs cs' : List CV} {a b : InsR} (ha : insP H cs a) (hb : insP H cs' b) (k : IV × Hp → Prop) : CM 182 [.agg cs, .agg cs'] H k = k (.c (.b (decide (a = b))), H) := by
  cases ha; cases hb
  refine det (cw182 ?_) k
  unfold vf182c
  obtain ⟨a1, a2, a3, a4, a5⟩ := a
  obtain ⟨b1, b2, b3, b4, b5⟩ := b
  by_cases h1 : a1 = b1
  · by_cases h2 : a2 = b2
    · by_cases h3 : a3 = b3
      · by_cases h4 : a4 = b4
        · by_cases h5 : a5 = b5 <;> simp [insC, h1, h2, h3, h4, h5]
        · simp [insC, h1, h2, h3, h4]
      · simp [insC, h1, h2, h3]
    · simp [insC, h1, h2]
  · simp [insC, h1]
theorem eqTerm_call (H : Hp) (a b : TrmR) (k : IV × Hp → Prop) : CM 170 [.agg [.i a.kind, .i a.a, .i a.to, .i a.els], .agg [.i b.kind, .i b.a, .i b.to, .i b.els]] H k = k (.c (.b (decide (a = b))), H) := by
  refine det (cw170 ?_) k
  unfold vf170c
  obtain ⟨a1, a2, a3, a4⟩ := a
  obtain ⟨b1, b2, b3, b4⟩ := b
  by_cases h1 : a1 = b1
  · by_cases h2 : a2 = b2
    · by_cases h3 : a3 = b3
      · by_cases h4 : a4 = b4 <;> simp [h1, h2, h3, h4]
      · simp [h1, h2, h3]
    · simp [h1, h2]
  · simp [h1]

theorem eqArmS_call {H : Hp} {v w : CV} {xs ys : List ArmR} (hv : Row armP 2 H v xs) (hw : Row armP 2 H w ys) (hb : xs.length ≤ BIG) (k : IV × Hp → Prop) : CM 185 [.c v, .c w] H k = k (.c (.b (decide (xs = ys))), H) := by
  refine det (cw185 ?_) k
  unfold vf185c
  simp [hv.lenOf, hw.lenOf]
  refine cnd_of (fun hl => ?_) (fun hl => ?_) <;> simp at hl
  · have he : ¬ xs = ys := fun h => hl (by rw [h])
    simp [he]
  · simp
    refine wp_for CM_mono xs.length (fun i s => xs.take i = ys.take i ∧ s.h = H ∧ Env.get s.e 0 = .c v ∧ Env.get s.e 1 = .c w ∧ Env.get s.e 5 = .c (.i i)) (by simp) ?_ ?_
    · rintro i ⟨e, X⟩ hi ⟨ht, rfl, h0, h1, h5⟩
      simp only at h0 h1 h5 hv hw ⊢
      obtain ⟨id, g, off, cs, p1, p2, p3, p4⟩ := Row.get hv hi
      obtain ⟨id', g', off', cs', q1, q2, q3, q4⟩ := Row.get hw (k := i) (by omega)
      unfold vf185b0
      by_cases he : xs[i] = ys[i]
      · simp [h0, h1, h5, hv.lenOf, p1, p2.all p3, q1, q2.all q3, hi, up1 hi hb, eqArm_call X p4 q4, he]
        exact take_snoc_eq hi (by omega) ht he
      · simp [h0, h1, h5, hv.lenOf, p1, p2.all p3, q1, q2.all q3, hi, up1 hi hb, eqArm_call X p4 q4, he]
        rintro rfl; exact he rfl
    · rintro ⟨e, X⟩ ⟨ht, rfl, h0, h1, h5⟩
      simp only at h0 h1 h5 hv hw ⊢
      unfold vf185b0
      simp [h0, h1, h5, hv.lenOf]
      rw [List.take_length, hl, List.take_length] at ht
      exact ht

theorem eqInsS_call {H : Hp} {v w : CV} {xs ys : List InsR} (hv : Row insP 5 H v xs) (hw : Row insP 5 H w ys) (hb : xs.length ≤ BIG) (k : IV × Hp → Prop) : CM 169 [.c v, .c w] H k = k (.c (.b (decide (xs = ys))), H) := by
  refine det (cw169 ?_) k
  unfold vf169c
  simp [hv.lenOf, hw.lenOf]
  refine cnd_of (fun hl => ?_) (fun hl => ?_) <;> simp at hl
  · have he : ¬ xs = ys := fun h => hl (by rw [h])
    simp [he]
  · simp
    refine wp_for CM_mono xs.length (fun i s => xs.take i = ys.take i ∧ s.h = H ∧ Env.get s.e 0 = .c v ∧ Env.get s.e 1 = .c w ∧ Env.get s.e 5 = .c (.i i)) (by simp) ?_ ?_
    · rintro i ⟨e, X⟩ hi ⟨ht, rfl, h0, h1, h5⟩
      simp only at h0 h1 h5 hv hw ⊢
      obtain ⟨id, g, off, cs, p1, p2, p3, p4⟩ := Row.get hv hi
      obtain ⟨id', g', off', cs', q1, q2, q3, q4⟩ := Row.get hw (k := i) (by omega)
      unfold vf169b0
      by_cases he : xs[i] = ys[i]
      · simp [h0, h1, h5, hv.lenOf, p1, p2.all p3, q1, q2.all q3, hi, up1 hi hb, eqIns_call X p4 q4, he]
        exact take_snoc_eq hi (by omega) ht he
      · simp [h0, h1, h5, hv.lenOf, p1, p2.all p3, q1, q2.all q3, hi, up1 hi hb, eqIns_call X p4 q4, he]
        rintro rfl; exact he rfl
    · rintro ⟨e, X⟩ ⟨ht, rfl, h0, h1, h5⟩
      simp only at h0 h1 h5 hv hw ⊢
      unfold vf169b0
      simp [h0, h1, h5, hv.lenOf]
      rw [List.take_length, hl, List.take_length] at ht
      exact ht

theorem eqPhi_call (H : Hp) {cs cs' : List CV} {a b : PhiR} (ha : phiP BIG H cs a) (hb : phiP BIG H cs' b) (k : IV × Hp → Prop) : CM 181 [.agg cs, .agg cs'] H k = k (.c (.b (decide (a = b))), H) := by
  obtain ⟨d, arms⟩ := a
  obtain ⟨d', arms'⟩ := b
  obtain ⟨z, rfl, hz, hbz⟩ := ha
  obtain ⟨z', rfl, hz', hbz'⟩ := hb
  simp only at hz hz' hbz hbz' ⊢
  refine det (cw181 ?_) k
  unfold vf181c
  by_cases h1 : d = d'
  · by_cases h2 : arms = arms'
    · simp [h1, eqArmS_call (Arms.app hz _) (Arms.app hz' _) hbz, h2]
    · simp [h1, eqArmS_call (Arms.app hz _) (Arms.app hz' _) hbz, h2]
  · simp [h1]

theorem eqPhiS_call {H : Hp} {v w : CV} {xs ys : List PhiR} (hv : Row (phiP BIG) 2 H v xs) (hw : Row (phiP BIG) 2 H w ys) (hb : xs.length ≤ BIG) (k : IV × Hp → Prop) : CM 168 [.c v, .c w] H k = k (.c (.b (decide (xs = ys))), H) := by
  refine det (cw168 ?_) k
  unfold vf168c
  simp [hv.lenOf, hw.lenOf]
  refine cnd_of (fun hl => ?_) (fun hl => ?_) <;> simp at hl
  · have he : ¬ xs = ys := fun h => hl (by rw [h])
    simp [he]
  · simp
    refine wp_for CM_mono xs.length (fun i s => xs.take i = ys.take i ∧ s.h = H ∧ Env.get s.e 0 = .c v ∧ Env.get s.e 1 = .c w ∧ Env.get s.e 5 = .c (.i i)) (by simp) ?_ ?_
    · rintro i ⟨e, X⟩ hi ⟨ht, rfl, h0, h1, h5⟩
      simp only at h0 h1 h5 hv hw ⊢
      obtain ⟨id, g, off, cs, p1, p2, p3, p4⟩ := Row.get hv hi
      obtain ⟨id', g', off', cs', q1, q2, q3, q4⟩ := Row.get hw (k := i) (by omega)
      unfold vf168b0
      by_cases he : xs[i] = ys[i]
      · simp [h0, h1, h5, hv.lenOf, p1, p2.all p3, q1, q2.all q3, hi, up1 hi hb, eqPhi_call X p4 q4, he]
        exact take_snoc_eq hi (by omega) ht he
      · simp [h0, h1, h5, hv.lenOf, p1, p2.all p3, q1, q2.all q3, hi, up1 hi hb, eqPhi_call X p4 q4, he]
        rintro rfl; exact he rfl
    · rintro ⟨e, X⟩ ⟨ht, rfl, h0, h1, h5⟩
      simp only at h0 h1 h5 hv hw ⊢
      unfold vf168b0
      simp [h0, h1, h5, hv.lenOf]
      rw [List.take_length, hl, List.take_length] at ht
      exact ht

theorem eqBlk_call (H : Hp) {cs cs' : List CV} {a b : BlkR} (ha : blkP BIG H cs a) (hb : blkP BIG H cs' b) (k : IV × Hp → Prop) : CM 147 [.agg cs, .agg cs'] H k = k (.c (.b (decide (a = b))), H) := by
  obtain ⟨ps, ls, t⟩ := a
  obtain ⟨ps', ls', t'⟩ := b
  obtain ⟨z, u, rfl, hz, hu, hb1, hb2⟩ := ha
  obtain ⟨z', u', rfl, hz', hu', hb1', hb2'⟩ := hb
  simp only at hz hu hz' hu' hb1 hb2 ⊢
  refine det (cw147 ?_) k
  unfold vf147c
  by_cases h1 : ps = ps'
  · by_cases h2 : ls = ls'
    · by_cases h3 : t = t' <;> simp [trmC, h1, eqPhiS_call (Phis.app hz _) (Phis.app hz' _) hb1, eqInsS_call (List5.app hu _) (List5.app hu' _) hb2, eqTerm_call, h2, h3]
    · simp [trmC, h1, eqPhiS_call (Phis.app hz _) (Phis.app hz' _) hb1, eqInsS_call (List5.app hu _) (List5.app hu' _) hb2, h2]
  · simp [trmC, h1, eqPhiS_call (Phis.app hz _) (Phis.app hz' _) hb1]

theorem eqBlkS_call {H : Hp} {v w : CV} {xs ys : List BlkR} (hv : Row (blkP BIG) 6 H v xs) (hw : Row (blkP BIG) 6 H w ys) (hb : xs.length ≤ BIG) (k : IV × Hp → Prop) : CM 115 [.c v, .c w] H k = k (.c (.b (decide (xs = ys))), H) := by
  refine det (cw115 ?_) k
  unfold vf115c
  simp [hv.lenOf, hw.lenOf]
  refine cnd_of (fun hl => ?_) (fun hl => ?_) <;> simp at hl
  · have he : ¬ xs = ys := fun h => hl (by rw [h])
    simp [he]
  · simp
    refine wp_for CM_mono xs.length (fun i s => xs.take i = ys.take i ∧ s.h = H ∧ Env.get s.e 0 = .c v ∧ Env.get s.e 1 = .c w ∧ Env.get s.e 5 = .c (.i i)) (by simp) ?_ ?_
    · rintro i ⟨e, X⟩ hi ⟨ht, rfl, h0, h1, h5⟩
      simp only at h0 h1 h5 hv hw ⊢
      obtain ⟨id, g, off, cs, p1, p2, p3, p4⟩ := Row.get hv hi
      obtain ⟨id', g', off', cs', q1, q2, q3, q4⟩ := Row.get hw (k := i) (by omega)
      unfold vf115b0
      by_cases he : xs[i] = ys[i]
      · simp [h0, h1, h5, hv.lenOf, p1, p2.all p3, q1, q2.all q3, hi, up1 hi hb, eqBlk_call X p4 q4, he]
        exact take_snoc_eq hi (by omega) ht he
      · simp [h0, h1, h5, hv.lenOf, p1, p2.all p3, q1, q2.all q3, hi, up1 hi hb, eqBlk_call X p4 q4, he]
        rintro rfl; exact he rfl
    · rintro ⟨e, X⟩ ⟨ht, rfl, h0, h1, h5⟩
      simp only at h0 h1 h5 hv hw ⊢
      unfold vf115b0
      simp [h0, h1, h5, hv.lenOf]
      rw [List.take_length, hl, List.take_length] at ht
      exact ht

theorem eqFn_call (H : Hp) {cs cs' : List CV} {a b : FnR} (ha : fnP BIG H cs a) (hb : fnP BIG H cs' b) (k : IV × Hp → Prop) : CM 68 [.agg cs, .agg cs'] H k = k (.c (.b (decide (a = b))), H) := by
  obtain ⟨bs, m⟩ := a
  obtain ⟨bs', m'⟩ := b
  obtain ⟨z, rfl, hz, hbz⟩ := ha
  obtain ⟨z', rfl, hz', hbz'⟩ := hb
  simp only at hz hz' hbz ⊢
  refine det (cw68 ?_) k
  unfold vf68c
  by_cases h1 : bs = bs'
  · by_cases h2 : m = m' <;> simp [h1, eqBlkS_call (Blocks.app hz _) (Blocks.app hz' _) hbz, h2]
  · simp [h1, eqBlkS_call (Blocks.app hz _) (Blocks.app hz' _) hbz]

/-! ### How great a program is -/
def szL (n : Nat) (l : Int) : Int := if l - n < 0 then -1 else l - n
def szPhisFrom : List PhiR → Int → Int
  | [], l => l
  | p :: r, l => if szL p.arms.length l < 0 then -1 else szPhisFrom r (szL p.arms.length l)
def szPhis (ps : List PhiR) (l : Int) : Int := if l - ps.length < 0 then -1 else szPhisFrom ps (l - ps.length)
def szBlk (b : BlkR) (l : Int) : Int := if szPhis b.phis l < 0 then -1 else szL b.list.length (szPhis b.phis l)
def szBlksFrom : List BlkR → Int → Int
  | [], l => l
  | b :: r, l => if szBlk b l < 0 then -1 else szBlksFrom r (szBlk b l)
def szFnF (f : FnR) (l : Int) : Int := if l - f.blocks.length < 0 then -1 else szBlksFrom f.blocks (l - f.blocks.length)
theorem szL_le {n : Nat} {l : Int} (h0 : 0 ≤ l) : -1 ≤ szL n l ∧ szL n l ≤ l ∧ (0 ≤ szL n l → n ≤ l.toNat) := by
  unfold szL; split <;> omega
theorem szPhisFrom_le : ∀ {ps : List PhiR} {l : Int}, 0 ≤ l → -1 ≤ szPhisFrom ps l ∧ szPhisFrom ps l ≤ l ∧ (0 ≤ szPhisFrom ps l → ∀ p ∈ ps, p.arms.length ≤ l.toNat) := by
  intro ps
  induction ps with
  | nil => intro l h; exact ⟨by simp only [szPhisFrom]; omega, by simp [szPhisFrom], fun _ p hp => by cases hp⟩
  | cons p r ih =>
    intro l h
    obtain ⟨a1, a2, a3⟩ := szL_le (n := p.arms.length) h
    simp only [szPhisFrom]
    split
    · exact ⟨by omega, by omega, fun h => by omega⟩
    · rename_i hn
      obtain ⟨b1, b2, b3⟩ := ih (l := szL p.arms.length l) (by omega)
      refine ⟨b1, by omega, fun h q hq => ?_⟩
      rcases List.mem_cons.1 hq with rfl | hq
      · exact a3 (by omega)
      · have := b3 h q hq; omega
theorem szPhis_le {ps : List PhiR} {l : Int} (h : 0 ≤ l) : -1 ≤ szPhis ps l ∧ szPhis ps l ≤ l ∧ (0 ≤ szPhis ps l → ps.length ≤ l.toNat ∧ ∀ p ∈ ps, p.arms.length ≤ l.toNat) := by
  unfold szPhis
  split
  · exact ⟨by omega, by omega, fun h => by omega⟩
  · obtain ⟨b1, b2, b3⟩ := szPhisFrom_le (ps := ps) (l := l - ps.length) (by omega)
    exact ⟨b1, by omega, fun h => ⟨by omega, fun p hp => by have := b3 h p hp; omega⟩⟩
theorem szBlk_le {b : BlkR} {l : Int} (h : 0 ≤ l) : -1 ≤ szBlk b l ∧ szBlk b l ≤ l ∧ (0 ≤ szBlk b l → b.phis.length ≤ l.toNat ∧ b.list.length ≤ l.toNat ∧ ∀ p ∈ b.phis, p.arms.length ≤ l.toNat) := by
  unfold szBlk
  obtain ⟨b1, b2, b3⟩ := szPhis_le (ps := b.phis) h
  split
  · exact ⟨by omega, by omega, fun h => by omega⟩
  · obtain ⟨c1, c2, c3⟩ := szL_le (n := b.list.length) (l := szPhis b.phis l) (by omega)
    refine ⟨c1, by omega, fun h => ?_⟩
    have := b3 (by omega)
    exact ⟨this.1, by have := c3 h; omega, this.2⟩
theorem szBlksFrom_le : ∀ {bs : List BlkR} {l : Int}, 0 ≤ l → -1 ≤ szBlksFrom bs l ∧ szBlksFrom bs l ≤ l ∧ (0 ≤ szBlksFrom bs l → ∀ b ∈ bs, b.phis.length ≤ l.toNat ∧ b.list.length ≤ l.toNat ∧ ∀ p ∈ b.phis, p.arms.length ≤ l.toNat) := by
  intro bs
  induction bs with
  | nil => intro l h; exact ⟨by simp only [szBlksFrom]; omega, by simp [szBlksFrom], fun _ p hp => by cases hp⟩
  | cons p r ih =>
    intro l h
    obtain ⟨a1, a2, a3⟩ := szBlk_le (b := p) h
    simp only [szBlksFrom]
    split
    · exact ⟨by omega, by omega, fun h => by omega⟩
    · rename_i hn
      obtain ⟨b1, b2, b3⟩ := ih (l := szBlk p l) (by omega)
      refine ⟨b1, by omega, fun h q hq => ?_⟩
      rcases List.mem_cons.1 hq with rfl | hq
      · exact a3 (by omega)
      · obtain ⟨c1, c2, c3⟩ := b3 h q hq
        exact ⟨by omega, by omega, fun x hx => by have := c3 x hx; omega⟩
theorem szFnF_le {f : FnR} {l : Int} (h : 0 ≤ l) : -1 ≤ szFnF f l ∧ szFnF f l ≤ l ∧ (0 ≤ szFnF f l → f.blocks.length ≤ l.toNat ∧ ∀ b ∈ f.blocks, b.phis.length ≤ l.toNat ∧ b.list.length ≤ l.toNat ∧ ∀ p ∈ b.phis, p.arms.length ≤ l.toNat) := by
  unfold szFnF
  split
  · exact ⟨by omega, by omega, fun h => by omega⟩
  · obtain ⟨b1, b2, b3⟩ := szBlksFrom_le (bs := f.blocks) (l := l - f.blocks.length) (by omega)
    refine ⟨b1, by omega, fun h => ⟨by omega, fun b hb => ?_⟩⟩
    obtain ⟨c1, c2, c3⟩ := b3 h b hb
    exact ⟨by omega, by omega, fun x hx => by have := c3 x hx; omega⟩

theorem wsub {l : Int} {n : Nat} (h0 : 0 ≤ l) (h1 : l ≤ 1048576) (hn : n ≤ maxLen) : wrap64 (l - n) = l - n := wrap64_id (by simp only [maxLen] at hn; omega)
theorem upM {i n : Nat} (hi : i < n) (hn : n ≤ maxLen) : wrap64 ((i : Int) + 1) = (i : Int) + 1 := wrap64_id (by simp only [maxLen] at hn; omega)

theorem szArmS_call {H : Hp} {v : CV} {xs : List ArmR} (hv : Row armP 2 H v xs) (hb : xs.length ≤ maxLen) {l : Int} (h0 : 0 ≤ l) (h1 : l ≤ 1048576) (k : IV × Hp → Prop) : CM 183 [.c v, .c (.i l)] H k = k (.c (.i (szL xs.length l)), H) := by
  refine det (cw183 ?_) k
  unfold vf183c szL
  by_cases h : l - (xs.length : Int) < 0
  · simp [hv.lenOf, wsub h0 h1 hb, h]
  · simp [hv.lenOf, wsub h0 h1 hb, h]

theorem szInsS_call {H : Hp} {v : CV} {xs : List InsR} (hv : Row insP 5 H v xs) (hb : xs.length ≤ maxLen) {l : Int} (h0 : 0 ≤ l) (h1 : l ≤ 1048576) (k : IV × Hp → Prop) : CM 164 [.c v, .c (.i l)] H k = k (.c (.i (szL xs.length l)), H) := by
  refine det (cw164 ?_) k
  unfold vf164c szL
  by_cases h : l - (xs.length : Int) < 0
  · simp [hv.lenOf, wsub h0 h1 hb, h]
  · simp [hv.lenOf, wsub h0 h1 hb, h]

theorem szPhi_call {H : Hp} {cs : List CV} {p : PhiR} (hp : phiP maxLen H cs p) {l : Int} (h0 : 0 ≤ l) (h1 : l ≤ 1048576) (k : IV × Hp → Prop) : CM 178 [.agg cs, .c (.i l)] H k = k (.c (.i (szL p.arms.length l)), H) := by
  obtain ⟨z, rfl, hz, hbz⟩ := hp
  refine det (cw178 ?_) k
  unfold vf178c
  by_cases h : szL p.arms.length l < 0
  · have h3 : szL p.arms.length l = -1 := by have := (szL_le (n := p.arms.length) h0).1; omega
    simp [szArmS_call (Arms.app hz _) hbz h0 h1, h3]
  · simp [szArmS_call (Arms.app hz _) hbz h0 h1, h]

theorem szPhiS_call {H : Hp} {v : CV} {xs : List PhiR} (hv : Row (phiP maxLen) 2 H v xs) (hb : xs.length ≤ maxLen) {l : Int} (h0 : 0 ≤ l) (h1 : l ≤ 1048576) (k : IV × Hp → Prop) : CM 163 [.c v, .c (.i l)] H k = k (.c (.i (szPhis xs l)), H) := by
  refine det (cw163 ?_) k
  unfold vf163c szPhis
  by_cases h : l - (xs.length : Int) < 0
  · simp [hv.lenOf, wsub h0 h1 hb, h]
  · simp [hv.lenOf, wsub h0 h1 hb, h]
    refine wp_for CM_mono xs.length (fun i s => ∃ m : Int, 0 ≤ m ∧ m ≤ 1048576 ∧ szPhisFrom xs (l - xs.length) = szPhisFrom (xs.drop i) m ∧ s.h = H ∧ Env.get s.e 0 = .c v ∧ Env.get s.e 1 = .c (.i m) ∧ Env.get s.e 5 = .c (.i i)) ⟨l - xs.length, by omega, by omega, by simp⟩ ?_ ?_
    · rintro i ⟨e, X⟩ hi ⟨m, m0, m1, ht, rfl, g0, g1, g5⟩
      simp only at g0 g1 g5 hv ⊢
      obtain ⟨id, g, off, cs, p1, p2, p3, p4⟩ := Row.get hv hi
      rw [List.drop_eq_getElem_cons hi] at ht
      simp only [szPhisFrom] at ht
      unfold vf163b0
      by_cases hn : szL xs[i].arms.length m < 0
      · rw [if_pos hn] at ht
        have h3 : szL xs[i].arms.length m = -1 := by have := (szL_le (n := xs[i].arms.length) m0).1; omega
        simp [g0, g1, g5, hv.lenOf, p1, p2.all p3, hi, szPhi_call p4 m0 m1, h3, ht]
      · rw [if_neg hn] at ht
        simp [g0, g1, g5, hv.lenOf, p1, p2.all p3, hi, szPhi_call p4 m0 m1, hn, upM hi hb, ht]
        have := (szL_le (n := xs[i].arms.length) m0).2.1
        refine ⟨szL xs[i].arms.length m, by omega, by omega, ?_⟩
        simp
    · rintro ⟨e, X⟩ ⟨m, m0, m1, ht, rfl, g0, g1, g5⟩
      simp only at g0 g1 g5 hv ⊢
      rw [List.drop_length] at ht
      unfold vf163b0
      simp [g0, g1, g5, hv.lenOf, ht, szPhisFrom]

theorem szBlk_call {H : Hp} {cs : List CV} {b : BlkR} (hp : blkP maxLen H cs b) {l : Int} (h0 : 0 ≤ l) (h1 : l ≤ 1048576) (k : IV × Hp → Prop) : CM 145 [.agg cs, .c (.i l)] H k = k (.c (.i (szBlk b l)), H) := by
  obtain ⟨z, u, rfl, hz, hu, hb1, hb2⟩ := hp
  refine det (cw145 ?_) k
  unfold vf145c szBlk
  have a0 := szPhis_le (ps := b.phis) h0
  by_cases h : szPhis b.phis l < 0
  · simp [trmC, szPhiS_call (Row.pre (fun _ _ => phiP.pre ⟨_, rfl⟩) ⟨_, rfl⟩ hz) hb1 h0 h1, h]
  · have a1 := szL_le (n := b.list.length) (l := szPhis b.phis l) (by omega)
    by_cases h2 : szL b.list.length (szPhis b.phis l) < 0
    · have h3 : szL b.list.length (szPhis b.phis l) = -1 := by omega
      simp [trmC, szPhiS_call (Row.pre (fun _ _ => phiP.pre ⟨_, rfl⟩) ⟨_, rfl⟩ hz) hb1 h0 h1, h, szInsS_call (List5.app hu _) hb2 (l := szPhis b.phis l) (by omega) (by omega), h3]
    · simp [trmC, szPhiS_call (Row.pre (fun _ _ => phiP.pre ⟨_, rfl⟩) ⟨_, rfl⟩ hz) hb1 h0 h1, h, szInsS_call (List5.app hu _) hb2 (l := szPhis b.phis l) (by omega) (by omega), h2]

theorem szBlkS_call {H : Hp} {v : CV} {xs : List BlkR} (hv : Row (blkP maxLen) 6 H v xs) (hb : xs.length ≤ maxLen) {l : Int} (h0 : 0 ≤ l) (h1 : l ≤ 1048576) (k : IV × Hp → Prop) : CM 113 [.c v, .c (.i l)] H k = k (.c (.i (szFnF ⟨xs, 0⟩ l)), H) := by
  refine det (cw113 ?_) k
  unfold vf113c szFnF
  by_cases h : l - (xs.length : Int) < 0
  · simp [hv.lenOf, wsub h0 h1 hb, h]
  · simp [hv.lenOf, wsub h0 h1 hb, h]
    refine wp_for CM_mono xs.length (fun i s => ∃ m : Int, 0 ≤ m ∧ m ≤ 1048576 ∧ szBlksFrom xs (l - xs.length) = szBlksFrom (xs.drop i) m ∧ s.h = H ∧ Env.get s.e 0 = .c v ∧ Env.get s.e 1 = .c (.i m) ∧ Env.get s.e 5 = .c (.i i)) ⟨l - xs.length, by omega, by omega, by simp⟩ ?_ ?_
    · rintro i ⟨e, X⟩ hi ⟨m, m0, m1, ht, rfl, g0, g1, g5⟩
      simp only at g0 g1 g5 hv ⊢
      obtain ⟨id, g, off, cs, p1, p2, p3, p4⟩ := Row.get hv hi
      rw [List.drop_eq_getElem_cons hi] at ht
      simp only [szBlksFrom] at ht
      unfold vf113b0
      by_cases hn : szBlk xs[i] m < 0
      · rw [if_pos hn] at ht
        have h3 : szBlk xs[i] m = -1 := by have := (szBlk_le (b := xs[i]) m0).1; omega
        simp [g0, g1, g5, hv.lenOf, p1, p2.all p3, hi, szBlk_call p4 m0 m1, h3, ht]
      · rw [if_neg hn] at ht
        simp [g0, g1, g5, hv.lenOf, p1, p2.all p3, hi, szBlk_call p4 m0 m1, hn, upM hi hb, ht]
        have := (szBlk_le (b := xs[i]) m0).2.1
        refine ⟨szBlk xs[i] m, by omega, by omega, ?_⟩
        simp
    · rintro ⟨e, X⟩ ⟨m, m0, m1, ht, rfl, g0, g1, g5⟩
      simp only at g0 g1 g5 hv ⊢
      rw [List.drop_length] at ht
      unfold vf113b0
      simp [g0, g1, g5, hv.lenOf, ht, szBlksFrom]

theorem szFn_call {H : Hp} {cs : List CV} {f : FnR} (hp : fnP maxLen H cs f) {l : Int} (h0 : 0 ≤ l) (h1 : l ≤ 1048576) (k : IV × Hp → Prop) : CM 65 [.agg cs, .c (.i l)] H k = k (.c (.i (szFnF f l)), H) := by
  obtain ⟨z, rfl, hz, hbz⟩ := hp
  refine det (cw65 ?_) k
  unfold vf65c
  have e : szFnF f l = szFnF ⟨f.blocks, 0⟩ l := rfl
  rw [e]
  have hz' : ∀ L, Row (blkP maxLen) 6 (H ++ L) z f.blocks := fun L => Row.pre (fun _ _ => blkP.pre ⟨_, rfl⟩) ⟨_, rfl⟩ hz
  by_cases h : szFnF ⟨f.blocks, 0⟩ l < 0
  · have h3 : szFnF ⟨f.blocks, 0⟩ l = -1 := by have := (szFnF_le (f := ⟨f.blocks, 0⟩) h0).1; omega
    simp [szBlkS_call (hz' _) hbz h0 h1, h3]
  · simp [szBlkS_call (hz' _) hbz h0 h1, h]
end Go.Proofs.Ytnpbldjbfkpbcaa.Vm
