/- Who follows whom; what a program costs. No conditions. -/
import Derived.Test.YtnpbldjbfkpbcaaKi
namespace Go.Proofs.Ytnpbldjbfkpbcaa.Vm
open Go.RowKit (wrap64)
set_option linter.unusedSimpArgs false
set_option linter.unusedVariables false

/-! ### Numbers -/
def intP (_ : Hp) (cs : List CV) (x : Int) : Prop := cs = [.i x]
theorem IsI.row {H : Hp} {v : CV} {xs : List Int} (h : IsI H v xs) : Row intP 1 H v xs := by
  refine ⟨xs.map fun x => [.i x], ?_, by simp, fun k cs x a b => ?_⟩
  · have e : ∀ xs : List Int, (xs.map fun x => [CV.i x]).flatten = xs.map .i := by
      intro xs
      induction xs with
      | nil => rfl
      | cons a r ih => simp [ih]
    rw [e]; exact h
  · rw [List.getElem?_map, b] at a
    simp at a; subst a
    exact ⟨rfl, rfl⟩
theorem indexInt {H : Hp} {v : CV} {xs : List Int} {x : Int} (hv : IsI H v xs) (hb : xs.length ≤ BIG) (k : IV × Hp → Prop) :
    CM 161 [.c v, .c (.i x)] H k = k (.c (.i (findI (fun y => decide (x = y)) xs)), H) := by
  refine det (cw161 ?_) k
  unfold vf161c
  simp [hv.lenOf]
  refine wp_for CM_mono xs.length (fun i s => (∀ j (hj : j < i) (hx : j < xs.length), decide (x = xs[j]) = false) ∧ s.h = H ∧ Env.get s.e 0 = .c v ∧ Env.get s.e 1 = .c (.i x) ∧ Env.get s.e 7 = .c (.i xs.length) ∧ Env.get s.e 8 = .c (.i i)) (by simp) ?_ ?_
  · rintro i ⟨e, X⟩ hi ⟨ht, rfl, h0, h1, h7, h8⟩
    simp only at h0 h1 h7 h8 hv ⊢
    obtain ⟨id, g, off, q1, q2⟩ := hv.at_ hi
    unfold vf161b0
    cases hpx : decide (x = xs[i]) with
    | false =>
      simp [h0, h1, h7, h8, q1, q2, hi, up1 hi hb, hpx]
      intro j hj hx
      by_cases e : j = i
      · subst e; exact of_decide_eq_false hpx
      · exact of_decide_eq_false (ht j (by omega) hx)
    | true =>
      simp [h0, h1, h7, h8, q1, q2, hi, up1 hi hb, hpx, findI_some hi (p := fun y => decide (x = y)) (fun j hj => ht j hj (by omega)) hpx]
  · rintro ⟨e, X⟩ ⟨ht, rfl, h0, h1, h7, h8⟩
    simp only at h0 h1 h7 h8 ⊢
    unfold vf161b0
    simp [h0, h1, h7, h8, findI_none (p := fun y => decide (x = y)) (fun j hj => ht j hj hj)]
def hasI (xs : List Int) (x : Int) : Bool := xs.any fun y => decide (x = y)
theorem hasI_iff {xs : List Int} {x : Int} : hasI xs x = true ↔ x ∈ xs := by simp [hasI]
theorem containsInt {H : Hp} {v : CV} {xs : List Int} {x : Int} (hv : IsI H v xs) (hb : xs.length ≤ BIG) (k : IV × Hp → Prop) :
    CM 140 [.c v, .c (.i x)] H k = k (.c (.b (hasI xs x)), H) := by
  refine det (cw140 ?_) k
  unfold vf140c
  have e : decide (0 ≤ findI (fun y => decide (x = y)) xs) = hasI xs x := by
    unfold hasI
    cases h : xs.any (fun y => decide (x = y)) with
    | true => exact decide_eq_true (findI_nonneg.2 h)
    | false => exact decide_eq_false fun hc => by rw [findI_nonneg.1 hc] at h; cases h
  simp [indexInt hv hb, e]

/-! ### A flat row handed back -/
def RowRes (H : Hp) (w : CV) (L : Hp) (xs : List Int) : Prop := (w = .ns ∧ L = [] ∧ xs = []) ∨ (w = .sl H.length 0 0 xs.length ∧ L = [⟨xs.map .i, 0, true, 1⟩])
theorem RowRes.isI {H : Hp} {w : CV} {L : Hp} {xs : List Int} (h : RowRes H w L xs) : IsI (H ++ L) w xs := by
  rcases h with ⟨rfl, rfl, rfl⟩ | ⟨rfl, rfl⟩
  · exact IsI.ns _
  · exact IsI.mk (o := ⟨xs.map .i, 0, true, 1⟩) (by simp) rfl (by simp) (by rw [List.drop_zero, List.take_of_length_le (by simp)])
theorem app_own {X : Hp} {o g n sz m : Nat} {cs xs : List CV} (h : rdOb X o g = some ⟨cs, g, true, sz⟩) (hn : n * sz = cs.length) (hx : 0 < xs.length) (hl : cs.length + xs.length ≤ LIM) :
    doApp X sz (.sl o g 0 n) m xs = some (.c (.sl o (g + 1) 0 (n + m)), X.set o ⟨cs ++ xs, g + 1, true, sz⟩) := by
  have h1 : ¬ (cs.length + xs.length ≤ cs.length) := by omega
  simp [doApp, h, hn, h1, hl]
theorem rdOb_set_same {X : Hp} {o g : Nat} {ob : Ob} (h : o < X.length) : rdOb (X.set o ⟨ob.cells, g, ob.rw, ob.sz⟩) o g = some ⟨ob.cells, g, ob.rw, ob.sz⟩ := by rw [rdOb_set_self h]; simp

/-! ### Who follows -/
def succsF (t : TrmR) : List Int := if t.kind = 1 ∨ (t.kind = 2 ∧ t.to = t.els) then [t.to] else if t.kind = 2 then [t.to, t.els] else []
theorem succsF_le (t : TrmR) : (succsF t).length ≤ 2 := by unfold succsF; (repeat' split) <;> simp
theorem implSuccs {H : Hp} {v : CV} {bs : List BlkR} {m : Int} (hv : Blocks H v bs) {b : Nat} (hb : b < bs.length) :
    ∃ w L, RowRes H w L (succsF bs[b].term) ∧ ∀ k : IV × Hp → Prop, CM 141 [.agg [v, .i m], .c (.i b)] H k = k (.c w, H ++ L) := by
  obtain ⟨id, g, off, w, u, q1, q2, q3, hw, hu, hb1, hb2, q4, q5⟩ := hv.get hb
  generalize bs[b].term = t at q2 q3 ⊢
  obtain ⟨kind, a, to, els⟩ := t
  have hg : ∀ (A : Hp) (cs : List CV), cs.all flatC = true → ∀ n, gcRet H (.c (.sl (H.length + A.length) 0 0 n)) (H ++ (A ++ [⟨cs, 0, true, 1⟩])) = (.c (.sl H.length 0 0 n), H ++ [⟨cs, 0, true, 1⟩]) :=
    fun A cs h n => gc_row H (A ++ [⟨cs, 0, true, 1⟩]) (k := A.length) (o := ⟨cs, 0, true, 1⟩) (by have := rdOb_r0 A [⟨cs, 0, true, 1⟩] 0; rw [this]; simp) rfl h
  have hg2 := fun (a b : Ob) (cs : List CV) (h : cs.all flatC = true) n => hg [a, b] cs h n
  simp only [List.length_cons, List.length_nil, Nat.zero_add, Nat.reduceAdd, List.cons_append, List.nil_append] at hg2
  by_cases h1 : kind = 1
  · subst h1
    refine ⟨.sl H.length 0 0 1, [⟨[.i to], 0, true, 1⟩], .inr (by simp [succsF]), fun k => det (cw141 ?_) k⟩
    unfold vf141c
    simp [q1, q3, putAt]
    exact hg2 _ _ _ (by simp [flatC]) _
  · by_cases h2 : kind = 2
    · subst h2
      by_cases h3 : to = els
      · subst h3
        refine ⟨.sl H.length 0 0 1, [⟨[.i to], 0, true, 1⟩], .inr (by simp [succsF]), fun k => det (cw141 ?_) k⟩
        unfold vf141c
        simp [q1, q3, putAt]
        exact hg2 _ _ _ (by simp [flatC]) _
      · refine ⟨.sl H.length 0 0 2, [⟨[.i to, .i els], 0, true, 1⟩], .inr (by simp [succsF, h3]), fun k => det (cw141 ?_) k⟩
        unfold vf141c
        simp [q1, q3, putAt, h3]
        exact hg2 _ _ _ (by simp [flatC]) _
    · refine ⟨.ns, [], .inl (by simp [succsF, h1, h2]), fun k => det (cw141 ?_) k⟩
      unfold vf141c
      simp [q1, q3, putAt, h1, h2]
theorem specSuccs {H : Hp} {v : CV} {bs : List BlkR} {m : Int} (hv : Blocks H v bs) {b : Nat} (hb : b < bs.length) :
    ∃ w L, RowRes H w L (succsF bs[b].term) ∧ ∀ k : IV × Hp → Prop, CM 160 [.agg [v, .i m], .c (.i b)] H k = k (.c w, H ++ L) := by
  obtain ⟨id, g, off, w, u, q1, q2, q3, hw, hu, hb1, hb2, q4, q5⟩ := hv.get hb
  generalize bs[b].term = t at q2 q3 ⊢
  obtain ⟨kind, a, to, els⟩ := t
  have hg : ∀ (A : Hp) (cs : List CV), cs.all flatC = true → ∀ n, gcRet H (.c (.sl (H.length + A.length) 0 0 n)) (H ++ (A ++ [⟨cs, 0, true, 1⟩])) = (.c (.sl H.length 0 0 n), H ++ [⟨cs, 0, true, 1⟩]) :=
    fun A cs h n => gc_row H (A ++ [⟨cs, 0, true, 1⟩]) (k := A.length) (o := ⟨cs, 0, true, 1⟩) (by have := rdOb_r0 A [⟨cs, 0, true, 1⟩] 0; rw [this]; simp) rfl h
  have hg2 := fun (a b : Ob) (cs : List CV) (h : cs.all flatC = true) n => hg [a, b] cs h n
  simp only [List.length_cons, List.length_nil, Nat.zero_add, Nat.reduceAdd, List.cons_append, List.nil_append] at hg2
  by_cases h1 : kind = 1
  · subst h1
    refine ⟨.sl H.length 0 0 1, [⟨[.i to], 0, true, 1⟩], .inr (by simp [succsF]), fun k => det (cw160 ?_) k⟩
    unfold vf160c
    simp [q1, q3, putAt]
    exact hg2 _ _ _ (by simp [flatC]) _
  · by_cases h2 : kind = 2
    · subst h2
      by_cases h3 : to = els
      · subst h3
        refine ⟨.sl H.length 0 0 1, [⟨[.i to], 0, true, 1⟩], .inr (by simp [succsF]), fun k => det (cw160 ?_) k⟩
        unfold vf160c
        simp [q1, q3, putAt]
        exact hg2 _ _ _ (by simp [flatC]) _
      · refine ⟨.sl H.length 0 0 2, [⟨[.i to, .i els], 0, true, 1⟩], .inr (by simp [succsF, h3]), fun k => det (cw160 ?_) k⟩
        unfold vf160c
        simp [q1, q3, putAt, h3]
        exact hg2 _ _ _ (by simp [flatC]) _
    · refine ⟨.sl H.length 0 0 0, [⟨[], 0, true, 1⟩], .inr (by simp [succsF, h1, h2]), fun k => det (cw160 ?_) k⟩
      unfold vf160c
      simp [q1, q3, putAt, h1, h2]
      exact hg2 _ _ [] (by simp) 0

def succsAt (bs : List BlkR) (j : Nat) : List Int := match bs[j]? with
  | some b => succsF b.term
  | none => []
theorem succsAt_eq {bs : List BlkR} {j : Nat} (hj : j < bs.length) : succsAt bs j = succsF bs[j].term := by unfold succsAt; rw [List.getElem?_eq_getElem hj]
/-- Who comes ahead, of the first so many blocks. -/
def predsTo (bs : List BlkR) (b : Int) (n : Nat) : List Int := ((List.range n).filter fun j => hasI (succsAt bs j) b).map fun (j : Nat) => (j : Int)
def predsF (bs : List BlkR) (b : Int) : List Int := predsTo bs b bs.length
theorem predsTo_le (bs : List BlkR) (b : Int) (n : Nat) : (predsTo bs b n).length ≤ n := by
  unfold predsTo
  rw [List.length_map]
  exact Nat.le_trans (List.length_filter_le _ _) (by simp)
theorem predsTo_succ (bs : List BlkR) (b : Int) (n : Nat) : predsTo bs b (n + 1) = if hasI (succsAt bs n) b = true then predsTo bs b n ++ [(n : Int)] else predsTo bs b n := by
  unfold predsTo
  rw [List.range_succ, List.filter_append, List.map_append]
  by_cases h : hasI (succsAt bs n) b = true <;> simp [h]
theorem box_get {H X : Hp} {cs : List CV} {sz : Nat} (hp : Pre (H ++ [⟨cs, 0, true, sz⟩]) X) : rdOb X H.length 0 = some ⟨cs, 0, true, sz⟩ := by
  obtain ⟨L, rfl⟩ := hp
  simp

theorem implPreds {H : Hp} {v : CV} {bs : List BlkR} {m b : Int} (hv : Blocks H v bs) (hb : bs.length ≤ BIG) :
    ∃ w L, RowRes H w L (predsF bs b) ∧ ∀ k : IV × Hp → Prop, CM 103 [.agg [v, .i m], .c (.i b)] H k = k (.c w, H ++ L) := by
  refine ⟨.sl H.length 0 0 (predsF bs b).length, [⟨(predsF bs b).map .i, 0, true, 1⟩], .inr ⟨rfl, rfl⟩, fun k => det (cw103 ?_) k⟩
  unfold vf103c
  simp [hv.lenOf, (hv.app _).lenOf]
  obtain ⟨I, hI⟩ : ∃ I : Nat → St → Prop, ∀ i s, I i s ↔ (∃ g, Pre (H ++ [⟨[v, .i m], 0, true, 2⟩]) s.h ∧ rdOb s.h (H.length + 1) g = some ⟨(predsTo bs b i).map .i, g, true, 1⟩ ∧ Env.get s.e 1 = .c (.i b) ∧ Env.get s.e 2 = .c (.p H.length 0 0) ∧
    Env.get s.e 5 = .c (.sl (H.length + 1) g 0 (predsTo bs b i).length) ∧ Env.get s.e 10 = .c (.i bs.length) ∧ Env.get s.e 11 = .c (.i i)) := ⟨_, fun _ _ => Iff.rfl⟩
  refine wp_for CM_mono bs.length I ((hI _ _).2 ⟨0, ⟨[⟨[], 0, true, 1⟩], by simp⟩, by simp [predsTo]⟩) ?_ ?_
  · rintro i ⟨e, X⟩ hi hIs
    obtain ⟨g, hp, ho, h1, h2, h5, h10, h11⟩ := (hI _ _).1 hIs
    simp only at hp ho h1 h2 h5 h10 h11 ⊢
    have hbox := box_get hp
    have hvX : Blocks X v bs := hv.pre (Pre.trans ⟨_, rfl⟩ hp)
    obtain ⟨w, L, hw, hcall⟩ := implSuccs (m := m) hvX hi
    have hsm := succsF_le bs[i].term
    have hle := predsTo_le bs b i
    have hsu := predsTo_succ bs b i
    rw [succsAt_eq hi] at hsu
    unfold vf103b0
    cases hc : hasI (succsF bs[i].term) b with
    | false =>
      rw [hc] at hsu
      simp [h1, h2, h5, h10, h11, hi, rdN_ob hbox, rdC_ob hbox, hvX.lenOf, hcall, containsInt hw.isI (by simp only [BIG]; omega), hc, up1 hi hb]
      exact (hI _ _).2 ⟨g, hp.app _, by simpa [hsu] using rdOb_app L ho, by simp [hsu]⟩
    | true =>
      rw [hc] at hsu
      simp [h1, h2, h5, h10, h11, hi, rdN_ob hbox, rdC_ob hbox, hvX.lenOf, hcall, containsInt hw.isI (by simp only [BIG]; omega), hc, up1 hi hb, srcOf, putAt]
      rw [app_own (cs := (predsTo bs b i).map .i) (rdOb_app _ ho) (by simp) (by simp) (by simp; simp only [BIG] at hb; simp only [LIM]; omega)]
      simp [h1, h2, h5, h10, h11, hi, up1 hi hb]
      have hlt := rdOb_lt ho
      refine (hI _ _).2 ⟨g + 1, (hp.app _).set (by simp) _, ?_, by simp [hsu]⟩
      rw [rdOb_set_self (by simp; omega)]
      simp [hsu]
  · rintro ⟨e, X⟩ hIs
    obtain ⟨g, hp, ho, h1, h2, h5, h10, h11⟩ := (hI _ _).1 hIs
    simp only at hp ho h1 h2 h5 h10 h11 ⊢
    have hbox := box_get hp
    have hvX : Blocks X v bs := hv.pre (Pre.trans ⟨_, rfl⟩ hp)
    unfold vf103b0
    simp [h1, h2, h5, h10, h11, rdN_ob hbox, rdC_ob hbox, hvX.lenOf]
    rw [gcRet_row (Pre.trans ⟨_, rfl⟩ hp) (by omega) ho rfl (by simp [flatC])]
    simp [predsF]

end Go.Proofs.Ytnpbldjbfkpbcaa.Vm
