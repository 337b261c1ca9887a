import Derived.Test.YtnapgdlfeadhaaaP2
section
/- Who stands just above, both sides. No conditions. -/
namespace Go.Proofs.Ytnapgdlfeadhaaa.Vm
open Go.RowKit (wrap64)
set_option linter.unusedSimpArgs false
set_option linter.unusedVariables false

def abvB (bs : List BlkR) (b : Nat) (x : Int) : Bool := decide (x ≠ (b : Int)) && decide ((domF bs x.toNat).length + 1 = (domF bs b).length)
def aboveF (f : FnR) (b : Int) : Int := if rightB f b = true then ((domF f.blocks b.toNat).find? (abvB f.blocks b.toNat)).getD (-1) else -1
theorem domF_mem {bs : List BlkR} {b : Nat} {x : Int} (h : x ∈ domF bs b) : ∃ a : Nat, a < bs.length ∧ x = a ∧ domB bs b a = true := by
  unfold domF domTo at h
  rw [List.mem_map] at h
  obtain ⟨a, ha, rfl⟩ := h
  rw [List.mem_filter, List.mem_range] at ha
  exact ⟨a, ha.1, rfl, ha.2⟩
theorem find_at {p : Int → Bool} {xs : List Int} {i : Nat} (hi : i < xs.length) (h : ∀ j (hj : j < i) (hx : j < xs.length), p xs[j] = false) (hp : p xs[i] = true) : (xs.find? p).getD (-1) = xs[i] := by
  have : xs.find? p = some xs[i] := by
    rw [List.find?_eq_some_iff_getElem]
    exact ⟨hp, i, hi, rfl, fun j hj => by simpa using h j hj (by omega)⟩
  rw [this]; rfl
theorem find_no {p : Int → Bool} {xs : List Int} (h : ∀ j (hx : j < xs.length), p xs[j] = false) : (xs.find? p).getD (-1) = -1 := by
  have : xs.find? p = none := by
    rw [List.find?_eq_none]
    intro x hx
    obtain ⟨j, hj, rfl⟩ := List.getElem_of_mem hx
    rw [h j hj]; simp
  rw [this]; rfl
theorem specAbove {H : Hp} {v : CV} {f : FnR} {b : Int} (hv : Blocks H v f.blocks) (hb : f.blocks.length ≤ BIG) (k : IV × Hp → Prop) : CM 35 [.agg [v, .i f.values], .c (.i b)] H k = k (.c (.i (aboveF f b)), H) := by
  refine det (cw35 ?_) k
  unfold vf35c aboveF
  cases hr : rightB f b with
  | false => simp [specRight (hv.app _) hb, hr]
  | true =>
    obtain ⟨n, rfl, hn⟩ := right_nat hr
    have hsh : shapeB f = true := by unfold rightB at hr; rw [Bool.and_eq_true] at hr; exact hr.1
    simp [specRight (hv.app _) hb, hr]
    refine (specDoms (m := f.values) (hv.app _) (shape_range hsh) hb (shape_pos hsh)).mono ?_
    rintro _ ⟨d, X, cells, rfl, hp, h1, h2, h3⟩
    obtain ⟨c, q1, q2⟩ := h3 n hn
    have hpH : Pre H X := Pre.trans ⟨_, rfl⟩ hp
    have hle := domF_le hb n
    have hI : ∀ j : Nat, j < f.blocks.length → idxOf 1 (.sl d 0 0 f.blocks.length) (j : Int) = some (.p d 0 j) := fun j hj => by simp [idxOf, hj]
    simp
    obtain ⟨xs, hxs⟩ : ∃ xs, domF f.blocks n = xs := ⟨_, rfl⟩
    rw [hxs] at q2 hle ⊢
    refine wp_for CM_mono xs.length (fun i st => (∀ j (hj : j < i) (hx : j < xs.length), abvB f.blocks n xs[j] = false) ∧ st.h = X ∧ Env.get st.e 1 = .c (.i n) ∧ Env.get st.e 5 = .c (.sl d 0 0 f.blocks.length) ∧ Env.get st.e 6 = .c (.i i)) (by simp) ?_ ?_
    · rintro i ⟨e, Y⟩ hi ⟨ht, rfl, e1, e5, e6⟩
      simp only at e1 e5 e6 ⊢
      obtain ⟨id, g, off, r1, r2⟩ := q2.at_ hi
      obtain ⟨a, ha, hxa, hdom⟩ := domF_mem (by rw [hxs]; exact List.getElem_mem hi : xs[i] ∈ domF f.blocks n)
      obtain ⟨ca, s1, s2⟩ := h3 a ha
      have hla := domF_le hb a
      have hwl : -9223372036854775807 ≤ (xs.length : Int) ∧ (xs.length : Int) ≤ 9223372036854775807 := bigI hle
      have htest : abvB f.blocks n xs[i] = (decide (a ≠ n) && decide ((domF f.blocks a).length + 1 = xs.length)) := by
        unfold abvB
        rw [hxa, hxs]
        simp
      unfold vf35b0
      by_cases han : a = n
      · subst han
        have hf : abvB f.blocks a xs[i] = false := by rw [htest]; simp
        simp [e1, e5, e6, hI _ hn, rdC_ob h1, q1, q2.lenOf, hi, r1, r2, hxa, up1 hi hle]
        intro j hj hx
        by_cases ej : j = i
        · subst ej; exact hf
        · exact ht j (by omega) hx
      · have hanI : ¬ ((a : Int) = (n : Int)) := by omega
        by_cases hlen : (domF f.blocks a).length + 1 = xs.length
        · have hf : abvB f.blocks n xs[i] = true := by rw [htest]; simp [han, hlen]
          have hlI : ((domF f.blocks a).length : Int) = (xs.length : Int) - 1 := by omega
          simp [e1, e5, e6, hI _ hn, hI _ ha, rdC_ob h1, q1, s1, q2.lenOf, s2.lenOf, hi, r1, r2, hxa, hanI, han, wn1 hwl, hlI, find_at hi ht hf]
          rw [gcRet_flat hpH rfl]
        · have hf : abvB f.blocks n xs[i] = false := by rw [htest]; simp [han, hlen]
          have hlI : ¬ ((domF f.blocks a).length : Int) = (xs.length : Int) - 1 := by omega
          simp [e1, e5, e6, hI _ hn, hI _ ha, rdC_ob h1, q1, s1, q2.lenOf, s2.lenOf, hi, r1, r2, hxa, hanI, han, wn1 hwl, hlI, up1 hi hle]
          intro j hj hx
          by_cases ej : j = i
          · subst ej; exact hf
          · exact ht j (by omega) hx
    · rintro ⟨e, Y⟩ ⟨ht, rfl, e1, e5, e6⟩
      simp only at e1 e5 e6 ⊢
      unfold vf35b0
      simp [e1, e5, e6, hI _ hn, rdC_ob h1, q1, q2.lenOf, find_no fun j hx => ht j hx hx]
      rw [gcRet_flat hpH rfl]

theorem mem_domF {bs : List BlkR} {b a : Nat} (ha : a < bs.length) (h : domB bs b a = true) : (a : Int) ∈ domF bs b := by
  unfold domF domTo
  rw [List.mem_map]
  exact ⟨a, by rw [List.mem_filter, List.mem_range]; exact ⟨ha, h⟩, rfl⟩
theorem domB_of_mem {bs : List BlkR} {b a : Nat} (h : (a : Int) ∈ domF bs b) : domB bs b a = true := by
  obtain ⟨c, _, e, hc⟩ := domF_mem h
  have : a = c := by omega
  subst this; exact hc
theorem above_any {bs : List BlkR} (hin : InRange bs) {a n : Nat} (ha : a < bs.length) (hn : n < bs.length) (han : a ≠ n) (hd : domB bs n a = true) :
    (!(leftF (fun x => decide (x = (n : Int))) (domF bs n) (domF bs n).length).any fun x => !(inB (a : Int) 0 ((bs.length : Int) - 1) && hasI (domF bs a) x)) = decide ((domF bs a).length + 1 = (domF bs n).length) := by
  have hia : inB (a : Int) 0 ((bs.length : Int) - 1) = true := decide_eq_true (by omega)
  rw [Bool.eq_iff_iff, decide_eq_true_eq, above_iff hin ha hn han hd, Bool.not_eq_true', List.any_eq_false]
  unfold leftF
  rw [List.take_length]
  constructor
  · intro h x hx hdx hxn
    have := h x (by rw [List.mem_filter]; exact ⟨mem_domF hx hdx, by simp; omega⟩)
    simp only [hia, Bool.true_and, Bool.not_eq_true', Bool.not_eq_false] at this
    exact domB_of_mem (hasI_iff.1 this)
  · intro h x hx
    rw [List.mem_filter] at hx
    obtain ⟨y, hy, rfl, hdy⟩ := domF_mem hx.1
    have hyn : y ≠ n := by have := hx.2; simp at this; omega
    have := hasI_iff.2 (mem_domF hy (h y hy hdy hyn))
    simp [hia, this]
theorem above1 {X : Hp} {id g : Nat} {b : Int} (h : rdC X id g 0 = some (.i b)) (x : Int) (k : IV × Hp → Prop) : CM 75 [.c (.i x), .c (.p id g 0)] X k = k (.c (.b (decide (x = b))), X) := by
  refine det (cw75 ?_) k
  unfold vf75c
  simp [h]
theorem above2 {X : Hp} {d t5 t7 : Nat} {cells : List CV} {bs : List BlkR} {a : Int} (h1 : rdOb X d 0 = some ⟨cells, 0, true, 1⟩) (h2 : cells.length = bs.length) (h3 : ∀ b, b < bs.length → ∃ c, cells[b]? = some c ∧ IsI X c (domF bs b)) (hb : bs.length ≤ BIG)
    (h5 : rdC X t5 0 0 = some (.sl d 0 0 bs.length)) (h7 : rdC X t7 0 0 = some (.i a)) (x : Int) (k : IV × Hp → Prop) : CM 77 [.c (.i x), .c (.p t5 0 0), .c (.p t7 0 0)] X k = k (.c (.b (!(inB a 0 ((bs.length : Int) - 1) && hasI (domF bs a.toNat) x))), X) := by
  refine det (cw77 ?_) k
  unfold vf77c
  simp [h5, h7, among_call h1 h2 h3 hb]
theorem implAbove {H : Hp} {v : CV} {f : FnR} {b : Int} (hv : Blocks H v f.blocks) (hb : f.blocks.length ≤ BIG) (k : IV × Hp → Prop) : CM 34 [.agg [v, .i f.values], .c (.i b)] H k = k (.c (.i (aboveF f b)), H) := by
  refine det (cw34 ?_) k
  unfold vf34c aboveF
  have hwn : -9223372036854775807 ≤ (f.blocks.length : Int) ∧ (f.blocks.length : Int) ≤ 9223372036854775807 := bigI hb
  cases hsh : shapeB f with
  | false =>
    have hr : rightB f b = false := by unfold rightB; rw [hsh]; rfl
    have hi : inB b 0 (-1) = false := decide_eq_false (by omega)
    simp [implDoms_no (hv.app _) hb hsh, hr, putAt_one, implIn, hi, wrap64_id (show -9223372036854775808 ≤ (-1 : Int) ∧ (-1 : Int) ≤ 9223372036854775807 by omega)]
  | true =>
    have hin := shape_range hsh
    simp
    refine (implDoms (m := f.values) (hv.app _) hb hsh).mono ?_
    rintro _ ⟨d, X, cells, rfl, hp, h1, h2, h3⟩
    have hpH : Pre H X := Pre.trans ⟨_, rfl⟩ hp
    have hboxb : rdOb X (H.length + 1) 0 = some ⟨[.i b], 0, true, 1⟩ := hp.rdOb (by simp)
    have hbx := rdOb_lt hboxb
    have hdx := rdOb_lt h1
    obtain ⟨X4, hX4⟩ : ∃ X4, X ++ [(⟨[.sl d 0 0 f.blocks.length], 0, true, 1⟩ : Ob)] = X4 := ⟨_, rfl⟩
    have hp4 : Pre X X4 := ⟨_, hX4.symm⟩
    have h5 : rdOb X4 X.length 0 = some ⟨[.sl d 0 0 f.blocks.length], 0, true, 1⟩ := by rw [← hX4]; simp
    have hb4 := hp4.rdOb hboxb
    simp [putAt_one, hX4, rdC_ob h5, rdC_ob hb4, wn1 hwn, implIn]
    cases hi : inB b 0 ((f.blocks.length : Int) - 1) with
    | false =>
      have hr : rightB f b = false := by unfold rightB; rw [hsh, hi]; rfl
      simp [hr]
      rw [gcRet_flat (hpH.trans hp4) rfl]
    | true =>
      have hr : rightB f b = true := by unfold rightB; rw [hsh, hi]; rfl
      obtain ⟨n, rfl, hn⟩ := right_nat hr
      have hI : ∀ j : Nat, j < f.blocks.length → idxOf 1 (.sl d 0 0 f.blocks.length) (j : Int) = some (.p d 0 j) := fun j hj => by simp [idxOf, hj]
      obtain ⟨c, q1, q2⟩ := h3 n hn
      have hle := domF_le hb n
      have hd4 := hp4.rdOb h1
      have q24 := q2.pre hp4
      obtain ⟨xs, hxs⟩ : ∃ xs, domF f.blocks n = xs := ⟨_, rfl⟩
      rw [hxs] at q2 q24 hle
      simp [hr, hI _ hn, rdC_ob hd4, rdC_ob h5, rdC_ob hb4, q1, q24.lenOf, hxs]
      obtain ⟨I, hII⟩ : ∃ I : Nat → St → Prop, ∀ i st, I i st ↔ ((∀ j (hj : j < i) (hx : j < xs.length), abvB f.blocks n xs[j] = false) ∧ Pre X4 st.h ∧ Env.get st.e 3 = .c (.p (H.length + 1) 0 0) ∧ Env.get st.e 5 = .c (.p X.length 0 0) ∧ Env.get st.e 20 = .c c ∧ Env.get st.e 21 = .c (.i xs.length) ∧ Env.get st.e 22 = .c (.i i)) := ⟨_, fun _ _ => Iff.rfl⟩
      refine wp_for CM_mono xs.length I ((hII _ _).2 ⟨by simp, Pre.refl _, by simp⟩) ?_ ?_
      · rintro i ⟨e, Y⟩ hi' hIs
        obtain ⟨ht, hpY, e3, e5, e20, e21, e22⟩ := (hII _ _).1 hIs
        simp only at hpY e3 e5 e20 e21 e22 ⊢
        have qY := q24.pre hpY
        obtain ⟨id, g, off, r1, r2⟩ := qY.at_ hi'
        obtain ⟨a, ha, hxa, hdom⟩ := domF_mem (by rw [hxs]; exact List.getElem_mem hi' : xs[i] ∈ domF f.blocks n)
        have htest : abvB f.blocks n xs[i] = (decide (a ≠ n) && decide ((domF f.blocks a).length + 1 = xs.length)) := by
          unfold abvB
          rw [hxa, hxs]
          simp
        obtain ⟨Y1, hY1⟩ : ∃ Y1, Y ++ [(⟨[.i (a : Int)], 0, true, 1⟩ : Ob)] = Y1 := ⟨_, rfl⟩
        have hpY1 : Pre Y Y1 := ⟨_, hY1.symm⟩
        have h7 : rdOb Y1 Y.length 0 = some ⟨[.i (a : Int)], 0, true, 1⟩ := by rw [← hY1]; simp
        have hbY1 := (hpY.trans hpY1).rdOb hb4
        have h5Y1 := (hpY.trans hpY1).rdOb h5
        have hdY1 := (hpY.trans hpY1).rdOb hd4
        unfold vf34b0
        by_cases han : a = n
        · subst han
          have hf : abvB f.blocks a xs[i] = false := by rw [htest]; simp
          simp [e3, e5, e20, e21, e22, hi', r1, r2, hxa, putAt_one, hY1, rdC_ob h7, rdC_ob hbY1, up1 hi' hle]
          refine (hII _ _).2 ⟨?_, hpY.trans hpY1, by simp [e3, e5, e20, e21]⟩
          intro j hj hx
          by_cases ej : j = i
          · subst ej; exact hf
          · exact ht j (by omega) hx
        · have hanI : ¬ ((a : Int) = (n : Int)) := by omega
          have qY1 := qY.pre hpY1
          have hne : 0 < xs.length := by omega
          obtain ⟨Y2, hY2⟩ : ∃ Y2, Y1 ++ [(⟨xs.map .i, 0, true, 1⟩ : Ob)] = Y2 := ⟨_, rfl⟩
          have hpY2 : Pre Y1 Y2 := ⟨_, hY2.symm⟩
          have hrow2 : rdOb Y2 Y1.length 0 = some ⟨xs.map .i, 0, true, 1⟩ := by rw [← hY2]; simp
          have hself : domB f.blocks n n = true := (domB_iff hin hn hn).2 (Dom.self ((domB_iff hin ha hn).1 hdom).2.1)
          have hany : xs.any (fun x => decide (x = (n : Int))) = true := by
            rw [List.any_eq_true]
            exact ⟨(n : Int), by rw [← hxs]; exact mem_domF hn hself, by simp⟩
          have hbY2 := hpY2.rdOb hbY1
          have hbl : H.length + 1 ≠ Y1.length := by have := rdOb_lt hbY1; omega
          have hdel := fun k => deleteInt hrow2 hle (fid := 75) (caps := [.p (H.length + 1) 0 0]) (fun x => decide (x = (n : Int))) hany (fun cells x k => above1 (by rw [rdC_ob (by rw [rdOb_set_ne hbl]; exact hbY2)]; rfl) x k) k
          obtain ⟨ys, hys⟩ : ∃ ys, leftF (fun x => decide (x = (n : Int))) xs xs.length = ys := ⟨_, rfl⟩
          rw [hys] at hdel
          have hyl : ys.length ≤ xs.length := by rw [← hys]; exact leftF_le _ _ _
          obtain ⟨Y3, hY3⟩ : ∃ Y3, Y2.set Y1.length ⟨ys.map .i ++ List.replicate (xs.length - ys.length) (.i 0), 0, true, 1⟩ = Y3 := ⟨_, rfl⟩
          have hpY3 : Pre Y1 Y3 := by rw [← hY3]; exact hpY2.set (Nat.le_refl _) _
          have hrow3 : rdOb Y3 Y1.length 0 = some ⟨ys.map .i ++ List.replicate (xs.length - ys.length) (.i 0), 0, true, 1⟩ := by rw [← hY3, rdOb_set_self (rdOb_lt hrow2)]; simp
          have hys3 : IsI Y3 (.sl Y1.length 0 0 ys.length) ys := IsI.mk hrow3 rfl (by simp) (by rw [List.drop_zero, List.take_append_of_le_length (by simp), List.take_of_length_le (by simp)])
          have hpX3 : Pre X Y3 := hp4.trans (hpY.trans (hpY1.trans hpY3))
          have hcon := fun k => containsFInt hys3 (by omega) (fid := 77) (caps := [.p X.length 0 0, .p Y.length 0 0]) (fun x => !(inB (a : Int) 0 ((f.blocks.length : Int) - 1) && hasI (domF f.blocks (a : Int).toNat) x)) (fun x _ k => above2 (hpX3.rdOb h1) h2 (fun b hb => by
            obtain ⟨c, w1, w2⟩ := h3 b hb
            exact ⟨c, w1, w2.pre hpX3⟩) hb (by rw [rdC_ob (hpY3.rdOb h5Y1)]; rfl) (by rw [rdC_ob (hpY3.rdOb h7)]; rfl) x k) k
          have habv := above_any hin ha hn han hdom
          rw [hxs, hys] at habv
          have h73 := hpY3.rdOb h7
          try simp only [Int.toNat_natCast] at hcon
          rw [hY3] at hdel
          try simp only [List.map_cons, List.map_nil] at hdel
          try simp only [List.map_cons, List.map_nil] at hcon
          generalize hA : (ys.any fun x => !(inB (a : Int) 0 ((f.blocks.length : Int) - 1) && hasI (domF f.blocks a) x)) = A at hcon habv
          have htest2 : abvB f.blocks n xs[i] = !A := by rw [htest, habv, decide_eq_true (show a ≠ n from han), Bool.true_and]
          cases A with
          | true =>
            simp [e3, e5, e20, e21, e22, hi', r1, r2, hxa, putAt_one, hY1, rdC_ob h7, rdC_ob hbY1, rdC_ob h5Y1, hI _ hn, rdC_ob hdY1, q1, hanI, han, cloneInt qY1 hne hle, hY2, hdel, hcon, up1 hi' hle]
            refine (hII _ _).2 ⟨?_, hpY.trans (hpY1.trans hpY3), by simp [e3, e5, e20, e21]⟩
            intro j hj hx
            by_cases ej : j = i
            · subst ej; rw [htest2]; rfl
            · exact ht j (by omega) hx
          | false =>
            simp [e3, e5, e20, e21, e22, hi', r1, r2, hxa, putAt_one, hY1, rdC_ob h7, rdC_ob hbY1, rdC_ob h5Y1, hI _ hn, rdC_ob hdY1, q1, hanI, han, cloneInt qY1 hne hle, hY2, hdel, hcon, rdC_ob h73, find_at hi' ht (by rw [htest2]; rfl)]
            rw [gcRet_flat (hpH.trans hpX3) rfl]
      · rintro ⟨e, Y⟩ hIs
        obtain ⟨ht, hpY, e3, e5, e20, e21, e22⟩ := (hII _ _).1 hIs
        simp only at hpY e3 e5 e20 e21 e22 ⊢
        unfold vf34b0
        simp [e3, e5, e20, e21, e22, find_no fun j hx => ht j hx hx]
        rw [gcRet_flat (hpH.trans (hp4.trans hpY)) rfl]
end Go.Proofs.Ytnapgdlfeadhaaa.Vm
end
