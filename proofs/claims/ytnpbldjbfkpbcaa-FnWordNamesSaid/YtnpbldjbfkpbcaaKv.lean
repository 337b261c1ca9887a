/- Moves. No conditions. -/
import Derived.Test.YtnpbldjbfkpbcaaKn
import Derived.Test.YtnpbldjbfkpbcaaKh
namespace Go.Proofs.Ytnpbldjbfkpbcaa.Vm
open Go.RowKit (wrap64)
set_option linter.unusedSimpArgs false
set_option linter.unusedVariables false
theorem eqMove_call (H : Hp) {cs cs' : List CV} {a b : ArmR} (ha : armP H cs a) (hb : armP H cs' b) (k : IV × Hp → Prop) : CM 95 [.agg cs, .agg cs'] H k = k (.c (.b (decide (a = b))), H) := by
  cases ha; cases hb
  refine det (cw95 ?_) k
  unfold vf95c
  obtain ⟨a1, a2⟩ := a
  obtain ⟨b1, b2⟩ := b
  by_cases h1 : a1 = b1 <;> by_cases h2 : a2 = b2 <;> simp [armC, h1, h2]
theorem eqMoveS_call {H : Hp} {v w : CV} {xs ys : List ArmR} (hv : Row armP 2 H v xs) (hw : Row armP 2 H w ys) (hb : xs.length ≤ BIG) (k : IV × Hp → Prop) : CM 41 [.c v, .c w] H k = k (.c (.b (decide (xs = ys))), H) := by
  refine det (cw41 ?_) k
  unfold vf41c
  simp [hv.lenOf, hw.lenOf]
  refine cnd_of (fun hl => ?_) (fun hl => ?_) <;> simp at hl
  · have he : ¬ xs = ys := fun h => hl (by rw [h])
    simp [he]
  · simp
    refine wp_for CM_mono xs.length (fun i s => xs.take i = ys.take i ∧ s.h = H ∧ Env.get s.e 0 = .c v ∧ Env.get s.e 1 = .c w ∧ Env.get s.e 5 = .c (.i i)) (by simp) ?_ ?_
    · rintro i ⟨e, X⟩ hi ⟨ht, rfl, h0, h1, h5⟩
      simp only at h0 h1 h5 hv hw ⊢
      obtain ⟨id, g, off, cs, p1, p2, p3, p4⟩ := Row.get hv hi
      obtain ⟨id', g', off', cs', q1, q2, q3, q4⟩ := Row.get hw (k := i) (by omega)
      unfold vf41b0
      by_cases he : xs[i] = ys[i]
      · simp [h0, h1, h5, hv.lenOf, p1, p2.all p3, q1, q2.all q3, hi, up1 hi hb, eqMove_call X p4 q4, he]
        exact take_snoc_eq hi (by omega) ht he
      · simp [h0, h1, h5, hv.lenOf, p1, p2.all p3, q1, q2.all q3, hi, up1 hi hb, eqMove_call X p4 q4, he]
        rintro rfl; exact he rfl
    · rintro ⟨e, X⟩ ⟨ht, rfl, h0, h1, h5⟩
      simp only at h0 h1 h5 hv hw ⊢
      unfold vf41b0
      simp [h0, h1, h5, hv.lenOf]
      rw [List.take_length, hl, List.take_length] at ht
      exact ht
theorem toMove_call (H : Hp) (a : ArmR) (k : IV × Hp → Prop) : CM 94 [.agg (armC a)] H k = k (.agg (armC a), H) := by
  refine det (cw94 ?_) k
  unfold vf94c
  simp [armC, putAt]
  exact gc_aggF (by simp [flatC])
theorem toMove_own (X : Hp) {cs : List CV} {a : ArmR} (h : armP X cs a) : CM 94 [.agg cs] X fun r => ∃ cs' L, r = (.agg cs', X ++ L) ∧ cs'.length = 2 ∧ armO X.length (X ++ L) cs' a := by
  cases h
  rw [toMove_call]
  exact ⟨armC a, [], by simp, rfl, rfl⟩
theorem toMoveS_call {H : Hp} {v : CV} {xs : List ArmR} (hv : Row armP 2 H v xs) (hb : xs.length ≤ BIG) : CM 38 [.c v] H fun r => ∃ w L, r = (.c w, H ++ L) ∧ ORow armO 2 H.length (H ++ L) w xs := by
  refine cw38 ?_
  unfold vf38c
  have hlim : xs.length * 2 ≤ LIM := by simp only [BIG] at hb; simp only [LIM]; omega
  simp [hv.lenOf, hlim]
  refine wp_for CM_mono xs.length (ToInv armO 2 [.i 0, .i 0] H v xs) (ToInv.start (by simp) (by simp) (by simp)) ?_ ?_
  · rintro i ⟨e, X⟩ hi ⟨css, L, hX, hc, hP, h0, h3, h4⟩
    simp only at h0 h3 h4 hX hP ⊢
    subst hX
    obtain ⟨id, g, off, cs, q1, hA, hl, hp⟩ := Row.get hv hi
    have hq := (hA.app (⟨css.flatten ++ (List.replicate (xs.length - i) [.i 0, .i 0]).flatten, 0, true, 2⟩ :: L)).all hl
    have hfit := ToInv.fits (zs := [.i 0, .i 0]) (sz := 2) rfl hi hc (fun k cs x a b => (hP k cs x a b).1)
    generalize hcells : css.flatten ++ (List.replicate (xs.length - i) [.i 0, .i 0]).flatten = cells at hq hfit
    unfold vf38b0
    simp [h0, h3, h4, hv.lenOf, hi, q1, hq, hcells]
    refine (toMove_own _ (armP.pre hp)).mono ?_
    rintro _ ⟨cs', L', rfl, hl', ho⟩
    simp [h0, h3, h4, hl', up1 hi hb, hi, hfit]
    subst hcells
    exact ToInv.next (O := armO) (zs := [.i 0, .i 0]) (sz := 2) (fun _ _ hk _ _ => fun h => h) (fun _ hlo _ _ _ => fun h => h) rfl hi hc hP hl' ho rfl (by simp) (by simp) (by simp)
  · rintro ⟨e, X⟩ ⟨css, L, hX, hc, hP, h0, h3, h4⟩
    simp only at h0 h3 h4 hX hP ⊢
    subst hX
    obtain ⟨w, L', hg, ho⟩ := ToInv.done (O := armO) (zs := [.i 0, .i 0]) (sz := 2) (fun _ _ _ => fun h => h) (fun _ _ _ _ => fun _ h => h) hc hP
    generalize hcells : css.flatten ++ (List.replicate (xs.length - xs.length) [.i 0, .i 0]).flatten = cells at hg
    unfold vf38b0
    simp [h0, h3, h4, hv.lenOf, hcells, hg]
    exact ⟨_, _, ⟨rfl, rfl⟩, ho⟩
theorem indexMove {H : Hp} {v : CV} {xs : List ArmR} (hv : Arms H v xs) (hb : xs.length ≤ BIG) {fid : Nat} {caps : List CV} (p : ArmR → Bool)
    (hp : ∀ i (hi : i < xs.length) cs, armP H cs xs[i] → ∀ k : IV × Hp → Prop, CM fid (.agg cs :: caps.map .c) H k = k (.c (.b (p xs[i])), H)) (k : IV × Hp → Prop) :
    CM 118 [.c v, .f fid caps] H k = k (.c (.i (findI p xs)), H) := by
  refine det (cw118 ?_) k
  unfold vf118c
  simp [hv.lenOf]
  refine wp_for CM_mono xs.length (fun i s => (∀ j (hj : j < i) (hx : j < xs.length), p xs[j] = false) ∧ s.h = H ∧ Env.get s.e 0 = .c v ∧ Env.get s.e 1 = .f fid caps ∧ Env.get s.e 7 = .c (.i xs.length) ∧ Env.get s.e 8 = .c (.i i)) (by simp) ?_ ?_
  · rintro i ⟨e, X⟩ hi ⟨ht, rfl, h0, h1, h7, h8⟩
    simp only at h0 h1 h7 h8 hv hp ⊢
    obtain ⟨id, g, off, cs, q1, hA, hl, hP⟩ := Row.get hv hi
    have hq : rdN X id g off 2 = some cs := by have := hA.n 0 2 (by omega); rw [Nat.add_zero, List.drop_zero, List.take_of_length_le (by omega)] at this; exact this
    have hwr := up1 hi hb
    unfold vf118b0
    cases hpx : p xs[i] with
    | false =>
      simp [h0, h1, h7, h8, q1, hq, hi, hwr, hp i hi _ hP, hpx]
      intro j hj hx
      by_cases e : j = i
      · subst e; exact hpx
      · exact ht j (by omega) hx
    | true =>
      simp [h0, h1, h7, h8, q1, hq, hi, hwr, hp i hi _ hP, hpx, findI_some hi (fun j hj => ht j hj (by omega)) hpx]
  · rintro ⟨e, X⟩ ⟨ht, rfl, h0, h1, h7, h8⟩
    simp only at h0 h1 h7 h8 ⊢
    unfold vf118b0
    simp [h0, h1, h7, h8, findI_none (fun j hj => ht j hj hj)]
theorem containsMove {H : Hp} {v : CV} {xs : List ArmR} (hv : Arms H v xs) (hb : xs.length ≤ BIG) {fid : Nat} {caps : List CV} (p : ArmR → Bool)
    (hp : ∀ i (hi : i < xs.length) cs, armP H cs xs[i] → ∀ k : IV × Hp → Prop, CM fid (.agg cs :: caps.map .c) H k = k (.c (.b (p xs[i])), H)) (k : IV × Hp → Prop) :
    CM 73 [.c v, .f fid caps] H k = k (.c (.b (xs.any p)), H) := by
  refine det (cw73 ?_) k
  unfold vf73c
  have e : decide (0 ≤ findI p xs) = xs.any p := by
    cases h : xs.any p with
    | true => exact decide_eq_true (findI_nonneg.2 h)
    | false => exact decide_eq_false fun hc => by rw [findI_nonneg.1 hc] at h; cases h
  simp [indexMove hv hb p hp, e]

def mvB (n : Int) (xs : List ArmR) (i : Nat) : Bool := match xs[i]? with
  | some a => decide (0 ≤ a.fr) && decide (a.fr < n) && decide (0 ≤ a.v) && decide (a.v < n) && !(xs.take i).any fun x => decide (x.fr = a.fr)
  | none => true
def mvsB (n : Int) (xs : List ArmR) : Bool := (List.range xs.length).all (mvB n xs)
def movesB (n : Int) (xs : List ArmR) : Bool := mvsB n xs && decide (xs.length ≤ 24)
theorem mvB_at {n : Int} {xs : List ArmR} {i : Nat} (hi : i < xs.length) : mvB n xs i = (decide (0 ≤ xs[i].fr) && decide (xs[i].fr < n) && decide (0 ≤ xs[i].v) && decide (xs[i].v < n) && !(xs.take i).any fun x => decide (x.fr = xs[i].fr)) := by
  unfold mvB; rw [List.getElem?_eq_getElem hi]
theorem mvsB_true {n : Int} {xs : List ArmR} (h : ∀ j, j < xs.length → mvB n xs j = true) : mvsB n xs = true := by
  unfold mvsB; rw [List.all_eq_true]; intro j hj; exact h j (List.mem_range.1 hj)
theorem mvsB_false {n : Int} {xs : List ArmR} {i : Nat} (hi : i < xs.length) (h : mvB n xs i = false) : mvsB n xs = false := by
  unfold mvsB
  rw [List.all_eq_false]
  exact ⟨i, List.mem_range.2 hi, by simp [h]⟩
theorem natLe24 {m : Nat} : ((m : Int) ≤ 24) = (m ≤ 24) := by simp only [eq_iff_iff]; omega
theorem specMoves {H : Hp} {w : CV} {xs : List ArmR} {n : Int} (hw : Arms H w xs) (hb : xs.length ≤ BIG) (k : IV × Hp → Prop) : CM 20 [.c w, .c (.i n)] H k = k (.c (.b (movesB n xs)), H) := by
  refine det (cw20 ?_) k
  unfold vf20c movesB
  simp
  refine wp_for CM_mono xs.length (fun i s => (∀ j, j < i → mvB n xs j = true) ∧ s.h = H ∧ Env.get s.e 0 = .c w ∧ Env.get s.e 1 = .c (.i n) ∧ Env.get s.e 5 = .c (.i i)) (by simp) ?_ ?_
  · rintro i ⟨e, X⟩ hi ⟨ht, rfl, h0, h1, h5⟩
    simp only at h0 h1 h5 hw ⊢
    obtain ⟨id, g, off, q1, q2, q3, q4, q5⟩ := hw.get hi
    have hA := mvB_at (n := n) hi
    unfold vf20b1
    by_cases f1 : xs[i].fr < 0
    · simp [h0, h1, h5, hw.lenOf, hi, q1, q2, f1, mvsB_false hi (by rw [hA, decide_eq_false (by omega : ¬ 0 ≤ xs[i].fr)]; rfl)]
    · by_cases f2 : n ≤ xs[i].fr
      · simp [h0, h1, h5, hw.lenOf, hi, q1, q2, f1, f2, mvsB_false hi (by rw [hA, decide_eq_false (by omega : ¬ xs[i].fr < n)]; simp)]
      · by_cases f3 : xs[i].v < 0
        · simp [h0, h1, h5, hw.lenOf, hi, q1, q2, f1, f2, f3, mvsB_false hi (by rw [hA, decide_eq_false (by omega : ¬ 0 ≤ xs[i].v)]; simp)]
        · by_cases f4 : n ≤ xs[i].v
          · simp [h0, h1, h5, hw.lenOf, hi, q1, q2, f1, f2, f3, f4, mvsB_false hi (by rw [hA, decide_eq_false (by omega : ¬ xs[i].v < n)]; simp)]
          · simp [h0, h1, h5, hw.lenOf, hi, q1, q2, f1, f2, f3, f4]
            refine wp_for CM_mono i (fun j s => (∀ l (hl : l < j) (hx : l < xs.length), ¬ xs[l].fr = xs[i].fr) ∧ s.h = X ∧ Env.get s.e 0 = .c w ∧ Env.get s.e 1 = .c (.i n) ∧ Env.get s.e 5 = .c (.i i) ∧ Env.get s.e 6 = .c (.i j)) (by simp [h0, h1, h5]) ?_ ?_
            · rintro j ⟨e', X'⟩ hj ⟨ht', rfl, h0, h1, h5, h6⟩
              simp only at h0 h1 h5 h6 hw ⊢
              obtain ⟨id', g', off', r1, r2, r3, r4, r5⟩ := hw.get (k := j) (by omega)
              unfold vf20b0
              by_cases f5 : xs[j].fr = xs[i].fr
              · have hany : ((xs.take i).any fun x => decide (x.fr = xs[i].fr)) = true := by
                  rw [List.any_eq_true]
                  exact ⟨xs[j], List.mem_take_iff_getElem.2 ⟨j, by omega, rfl⟩, by simp [f5]⟩
                simp [h0, h1, h5, h6, hj, q1, q2, r1, r2, f5, mvsB_false hi (by rw [hA, hany]; simp)]
              · simp [h0, h1, h5, h6, hj, q1, q2, r1, r2, f5, up1 hj (Nat.le_of_lt (Nat.lt_of_lt_of_le hi hb))]
                intro l hl hx
                by_cases el : l = j
                · subst el; exact f5
                · exact ht' l (by omega) hx
            · rintro ⟨e', X'⟩ ⟨ht', rfl, h0, h1, h5, h6⟩
              simp only at h0 h1 h5 h6 ⊢
              unfold vf20b0
              have hany : ((xs.take i).any fun x => decide (x.fr = xs[i].fr)) = false := by
                rw [List.any_eq_false]
                intro x hx
                obtain ⟨l, hl, rfl⟩ := List.mem_take_iff_getElem.1 hx
                simpa using ht' l (by omega) (by omega)
              have hAt : mvB n xs i = true := by rw [hA, hany]; simp; omega
              simp [h0, h1, h5, h6, up1 hi hb]
              intro l hl
              by_cases el : l = i
              · subst el; exact hAt
              · exact ht l (by omega)
  · rintro ⟨e, X⟩ ⟨ht, rfl, h0, h1, h5⟩
    simp only at h0 h1 h5 hw ⊢
    unfold vf20b1
    simp [h0, h1, h5, hw.lenOf, mvsB_true ht, natLe24]
theorem moveTest {H : Hp} {id g : Nat} {fr : Int} (h : rdC H id g 0 = some (.i fr)) (a : ArmR) (k : IV × Hp → Prop) :
    CM 74 [.agg (armC a), .c (.p id g 0)] H k = k (.c (.b (decide (a.fr = fr))), H) := by
  refine det (cw74 ?_) k
  unfold vf74c
  have hk : ∀ L, rdC (H ++ L) id g 0 = some (.i fr) := by
    intro L
    unfold rdC at h ⊢
    cases ho : rdOb H id g with
    | none => rw [ho] at h; cases h
    | some o => rw [ho] at h; rw [rdOb_app L ho]; exact h
  simp [armC, hk]
theorem implMoves {H : Hp} {w : CV} {xs : List ArmR} {n : Int} (hw : Arms H w xs) (hb : xs.length ≤ BIG) (k : IV × Hp → Prop) : CM 17 [.c w, .c (.i n)] H k = k (.c (.b (movesB n xs)), H) := by
  refine det (cw17 ?_) k
  unfold vf17c movesB
  simp [hw.lenOf]
  refine wp_for CM_mono xs.length (fun i s => (∀ j, j < i → mvB n xs j = true) ∧ Pre H s.h ∧ Env.get s.e 0 = .c w ∧ Env.get s.e 1 = .c (.i n) ∧ Env.get s.e 7 = .c w ∧ Env.get s.e 8 = .c (.i xs.length) ∧ Env.get s.e 9 = .c (.i i)) ⟨by simp, Pre.refl _, by simp⟩ ?_ ?_
  · rintro i ⟨e, X⟩ hi ⟨ht, ⟨L, hX⟩, h0, h1, h7, h8, h9⟩
    simp only at h0 h1 h7 h8 h9 hX ⊢
    subst hX
    obtain ⟨id, g, off, q1, q2, q3, q4, q5⟩ := hw.get hi
    have hA := mvB_at (n := n) hi
    unfold vf17b0
    by_cases f1 : xs[i].fr < 0
    · simp [h0, h1, h7, h8, h9, hi, q1, q3, f1, putAt, mvsB_false hi (by rw [hA, decide_eq_false (by omega : ¬ 0 ≤ xs[i].fr)]; rfl)]
    · by_cases f2 : n ≤ xs[i].fr
      · simp [h0, h1, h7, h8, h9, hi, q1, q3, f1, f2, putAt, mvsB_false hi (by rw [hA, decide_eq_false (by omega : ¬ xs[i].fr < n)]; simp)]
      · by_cases f3 : xs[i].v < 0
        · simp [h0, h1, h7, h8, h9, hi, q1, q3, f1, f2, f3, putAt, mvsB_false hi (by rw [hA, decide_eq_false (by omega : ¬ 0 ≤ xs[i].v)]; simp)]
        · by_cases f4 : n ≤ xs[i].v
          · simp [h0, h1, h7, h8, h9, hi, q1, q3, f1, f2, f3, f4, putAt, mvsB_false hi (by rw [hA, decide_eq_false (by omega : ¬ xs[i].v < n)]; simp)]
          · obtain ⟨w', s1, s2, s3, _⟩ := Row.slice (Arms.app hw (L ++ [⟨[.i xs[i].fr, .i xs[i].v], 0, true, 2⟩])) (l := 0) (m := i) (by omega) (by omega)
            have s3 := s3 rfl
            rw [List.drop_zero, Nat.sub_zero] at s2
            simp [h0, h1, h7, h8, h9, hi, q1, q3, f1, f2, f3, f4, putAt, s3]
            rw [containsMove s2 (by simp; omega) (fun a => decide (a.fr = xs[i].fr)) (fun l hl cs hcs k => by
              have hcs : cs = armC _ := hcs
              subst hcs
              exact moveTest (by simp) _ k)]
            cases f5 : (xs.take i).any fun a => decide (a.fr = xs[i].fr) with
            | true => simp [h0, h1, h7, h8, h9, mvsB_false hi (by rw [hA, f5]; simp)]
            | false =>
              have hAt : mvB n xs i = true := by rw [hA, f5]; simp; omega
              simp [h0, h1, h7, h8, h9, up1 hi hb]
              refine ⟨fun l hl => ?_, ?_⟩
              · by_cases el : l = i
                · subst el; exact hAt
                · exact ht l (by omega)
              · exact ⟨L ++ [⟨[.i xs[i].fr, .i xs[i].v], 0, true, 2⟩], by simp⟩
  · rintro ⟨e, X⟩ ⟨ht, ⟨L, hX⟩, h0, h1, h7, h8, h9⟩
    simp only at h0 h1 h7 h8 h9 hX ⊢
    subst hX
    unfold vf17b0
    simp [h0, h1, h7, h8, h9, hw.lenOf, (hw.app L).lenOf, mvsB_true ht, natLe24]
theorem szMoveS_call {H : Hp} {w : CV} {n : Nat} (hw : lenOf w = some n) (hn : n ≤ maxLen) (k : IV × Hp → Prop) : CM 36 [.c w, .c (.i 1048576)] H k = k (.c (.i (if 1048576 < n then -1 else 1048576 - n)), H) := by
  refine det (cw36 ?_) k
  unfold vf36c
  by_cases h : 1048576 < n
  · have h2 : ((1048576 : Int) - (n : Int) < 0) := by omega
    simp [hw, wsub (show (0 : Int) ≤ 1048576 by omega) (by omega) hn, h, h2]
  · have h2 : ¬ ((1048576 : Int) - (n : Int) < 0) := by omega
    simp [hw, wsub (show (0 : Int) ≤ 1048576 by omega) (by omega) hn, h, h2]
end Go.Proofs.Ytnpbldjbfkpbcaa.Vm
