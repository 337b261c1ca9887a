/- Rows of numbers: searched, copied, thinned. No conditions. -/
import Derived.Test.YtnmnpfdjigpgaaaKzc
namespace Go.Proofs.Ytnmnpfdjigpgaaa.Vm
open Go.RowKit (wrap64)
set_option linter.unusedSimpArgs false
set_option linter.unusedVariables false

theorem indexFInt {H : Hp} {v : CV} {xs : List Int} (hv : IsI H v xs) (hb : xs.length ≤ BIG) {fid : Nat} {caps : List CV} (p : Int → Bool)
    (hp : ∀ x ∈ xs, ∀ k : IV × Hp → Prop, CM fid (.c (.i x) :: caps.map .c) H k = k (.c (.b (p x)), H)) (k : IV × Hp → Prop) :
    CM 122 [.c v, .f fid caps] H k = k (.c (.i (findI p xs)), H) := by
  refine det (cw122 ?_) k
  unfold vf122c
  simp [hv.lenOf]
  refine wp_for CM_mono xs.length (fun i s => (∀ j (hj : j < i) (hx : j < xs.length), p xs[j] = false) ∧ s.h = H ∧ Env.get s.e 0 = .c v ∧ Env.get s.e 1 = .f fid caps ∧ Env.get s.e 7 = .c (.i xs.length) ∧ Env.get s.e 8 = .c (.i i)) (by simp) ?_ ?_
  · rintro i ⟨e, X⟩ hi ⟨ht, rfl, h0, h1, h7, h8⟩
    simp only at h0 h1 h7 h8 hv hp ⊢
    obtain ⟨id, g, off, q1, q2⟩ := hv.at_ hi
    have hpi := hp xs[i] (List.getElem_mem hi)
    unfold vf122b0
    cases hpx : p xs[i] with
    | false =>
      simp [h0, h1, h7, h8, q1, q2, hi, up1 hi hb, hpi, hpx]
      intro j hj hx
      by_cases e : j = i
      · subst e; exact hpx
      · exact ht j (by omega) hx
    | true =>
      simp [h0, h1, h7, h8, q1, q2, hi, up1 hi hb, hpi, hpx, findI_some hi (fun j hj => ht j hj (by omega)) hpx]
  · rintro ⟨e, X⟩ ⟨ht, rfl, h0, h1, h7, h8⟩
    simp only at h0 h1 h7 h8 ⊢
    unfold vf122b0
    simp [h0, h1, h7, h8, findI_none (fun j hj => ht j hj hj)]
theorem containsFInt {H : Hp} {v : CV} {xs : List Int} (hv : IsI H v xs) (hb : xs.length ≤ BIG) {fid : Nat} {caps : List CV} (p : Int → Bool)
    (hp : ∀ x ∈ xs, ∀ k : IV × Hp → Prop, CM fid (.c (.i x) :: caps.map .c) H k = k (.c (.b (p x)), H)) (k : IV × Hp → Prop) :
    CM 96 [.c v, .f fid caps] H k = k (.c (.b (xs.any p)), H) := by
  refine det (cw96 ?_) k
  unfold vf96c
  have e : decide (0 ≤ findI p xs) = xs.any p := by
    cases h : xs.any p with
    | true => exact decide_eq_true (findI_nonneg.2 h)
    | false => exact decide_eq_false fun hc => by rw [findI_nonneg.1 hc] at h; cases h
  simp [indexFInt hv hb p hp, e]
theorem cloneInt {H : Hp} {v : CV} {xs : List Int} (hv : IsI H v xs) (hne : 0 < xs.length) (hb : xs.length ≤ BIG) (k : IV × Hp → Prop) :
    CM 94 [.c v] H k = k (.c (.sl H.length 0 0 xs.length), H ++ [⟨xs.map .i, 0, true, 1⟩]) := by
  refine det (cw94 ?_) k
  unfold vf94c
  have hv1 := hv.app [⟨[], 0, true, 1⟩]
  have hlim : xs.length ≤ LIM := by simp only [BIG] at hb; simp only [LIM]; omega
  have hnn : ∃ (id g off : Nat) (o : Ob), v = .sl id g off xs.length ∧ rdOb (H ++ [⟨[], 0, true, 1⟩]) id g = some o ∧ o.sz = 1 ∧ off + xs.length ≤ o.cells.length ∧ (o.cells.drop off).take xs.length = xs.map .i := by
    have hv2 : Sl (H ++ [⟨[], 0, true, 1⟩]) 1 v xs.length (xs.map .i) := hv1
    rcases hv2 with ⟨_, h, _⟩ | ⟨id, g, off, o, h1, h2, h3, h4, h5⟩
    · omega
    · exact ⟨id, g, off, o, h1, h2, h3, by omega, by rwa [Nat.mul_one] at h5⟩
  obtain ⟨id, g, off, o, rfl, h2, h3, h4, h5⟩ := hnn
  have hsrc : srcOf (H ++ [⟨[], 0, true, 1⟩]) 1 (.sl id g off xs.length) = some (xs.length, xs.map .i) := by
    simp [srcOf, h2, h4, h5, h3]
  simp [hsrc]
  rw [show doApp (H ++ [⟨[], 0, true, 1⟩]) 1 (.sl H.length 0 0 0) xs.length (xs.map .i) = some (.c (.sl H.length 1 0 xs.length), (H ++ [(⟨[], 0, true, 1⟩ : Ob)]).set H.length ⟨xs.map .i, 1, true, 1⟩) from by
    have := app_own (X := H ++ [⟨[], 0, true, 1⟩]) (o := H.length) (g := 0) (n := 0) (sz := 1) (m := xs.length) (cs := []) (xs := xs.map .i) (by simp) (by simp) (by simpa using hne) (by simpa using hlim)
    simpa using this]
  simp
  rw [gcRet_row ⟨_, rfl⟩ (Nat.le_refl _) (o := ⟨xs.map .i, 1, true, 1⟩) (by simp) rfl (by simp [flatC])]

theorem gc_inner {X Z : Hp} {id g n : Nat} (hlt : id < X.length) : gcRet X (.c (.sl id g 0 n)) Z = (.c (.sl id g 0 n), Z) := by
  unfold gcRet
  split
  · rw [if_neg (by simp [flatV, flatC])]
    simp only
    rw [if_neg (by omega)]
  · rfl
/-- What is left. -/
def leftF (p : Int → Bool) (xs : List Int) (i : Nat) : List Int := (xs.take i).filter fun x => !p x
theorem leftF_succ {p : Int → Bool} {xs : List Int} {i : Nat} (hi : i < xs.length) : leftF p xs (i + 1) = leftF p xs i ++ (if p xs[i] = true then [] else [xs[i]]) := by
  unfold leftF
  rw [List.take_succ_eq_append_getElem hi, List.filter_append]
  congr 1
  cases h : p xs[i] <;> simp [h]
theorem leftF_le (p : Int → Bool) (xs : List Int) (i : Nat) : (leftF p xs i).length ≤ i := by
  unfold leftF
  exact Nat.le_trans (List.length_filter_le _ _) (by rw [List.length_take]; omega)
theorem deleteInt {X : Hp} {id : Nat} {xs : List Int} (h : rdOb X id 0 = some ⟨xs.map .i, 0, true, 1⟩) (hb : xs.length ≤ BIG) {fid : Nat} {caps : List CV} (p : Int → Bool) (hany : xs.any p = true)
    (hp : ∀ cells x, ∀ k : IV × Hp → Prop, CM fid (.c (.i x) :: caps.map .c) (X.set id ⟨cells, 0, true, 1⟩) k = k (.c (.b (p x)), X.set id ⟨cells, 0, true, 1⟩)) (k : IV × Hp → Prop) :
    CM 93 [.c (.sl id 0 0 xs.length), .f fid caps] X k =
      k (.c (.sl id 0 0 (leftF p xs xs.length).length), X.set id ⟨(leftF p xs xs.length).map .i ++ List.replicate (xs.length - (leftF p xs xs.length).length) (.i 0), 0, true, 1⟩) := by
  refine det (cw93 ?_) k
  unfold vf93c
  have hlt := rdOb_lt h
  have hX : X.set id ⟨xs.map .i, 0, true, 1⟩ = X := by
    have := (rdOb_some.1 h).1
    rw [List.getElem?_eq_getElem hlt] at this
    injection this with this
    rw [← this]; simp
  have hv : IsI X (.sl id 0 0 xs.length) xs := IsI.mk h rfl (by simp) (by rw [List.drop_zero, List.take_of_length_le (by simp)])
  have hp0 : ∀ x ∈ xs, ∀ k : IV × Hp → Prop, CM fid (.c (.i x) :: caps.map .c) X k = k (.c (.b (p x)), X) := fun x _ k => by
    have := hp (xs.map .i) x k
    rwa [hX] at this
  obtain ⟨j, hj, hfj, hpj, hbf⟩ : ∃ j : Nat, ∃ hj : j < xs.length, findI p xs = j ∧ p (xs[j]'hj) = true ∧ ∀ i (hi : i < j), p (xs[i]'(by omega)) = false := by
    have h1 := findI_nonneg.2 hany
    unfold findI at h1 ⊢
    cases hf : xs.findIdx? p with
    | none => rw [hf] at h1; exact absurd h1 (by decide)
    | some j =>
      rw [List.findIdx?_eq_some_iff_getElem] at hf
      obtain ⟨hj, h2, h3⟩ := hf
      exact ⟨j, hj, rfl, h2, fun i hi => by simpa using h3 i hi⟩
  have hl0 : leftF p xs (j + 1) = xs.take j := by
    rw [leftF_succ hj, if_pos hpj, List.append_nil]
    unfold leftF
    rw [List.filter_eq_self]
    intro x hx
    obtain ⟨i, hi, rfl⟩ := List.mem_take_iff_getElem.1 hx
    rw [hbf i (by omega)]; rfl
  simp [indexFInt hv hb p hp0, hfj, up1 hj hb, show ¬ ((j : Int) = -1) by omega]
  obtain ⟨I, hI⟩ : ∃ I : Nat → St → Prop, ∀ i st, I i st ↔ (st.h = X.set id ⟨(leftF p xs (j + 1 + i)).map .i ++ (xs.drop (leftF p xs (j + 1 + i)).length).map .i, 0, true, 1⟩ ∧ (leftF p xs (j + 1 + i)).length < j + 1 + i ∧ Env.get st.e 0 = .c (.sl id 0 0 xs.length) ∧ Env.get st.e 1 = .f fid caps ∧ Env.get st.e 5 = .c (.i (leftF p xs (j + 1 + i)).length) ∧ Env.get st.e 6 = .c (.i ((j + 1 + i : Nat) : Int))) := ⟨_, fun _ _ => Iff.rfl⟩
  refine wp_for CM_mono (xs.length - (j + 1)) I ((hI _ _).2 ⟨?_, ?_, ?_⟩) ?_ ?_
  · simp only [Nat.add_zero, hl0]
    rw [← List.map_append, List.length_take, Nat.min_eq_left (by omega), List.take_append_drop, hX]
  · simp only [Nat.add_zero, hl0, List.length_take]; omega
  · simp [hl0]; omega
  · rintro i ⟨e, Y⟩ hi hIs
    obtain ⟨hY, hlen, h0, h1, h5, h6⟩ := (hI _ _).1 hIs
    simp only at hY hlen h0 h1 h5 h6 ⊢
    obtain ⟨n, hn⟩ : ∃ n, n = j + 1 + i := ⟨_, rfl⟩
    have hnl : n < xs.length := by omega
    rw [← hn] at hY hlen h5 h6
    generalize hF : leftF p xs n = F at hY hlen h5
    have ho : rdOb Y id 0 = some ⟨F.map .i ++ (xs.drop F.length).map .i, 0, true, 1⟩ := by rw [hY, rdOb_set_self hlt]; simp
    have hc : (F.map CV.i ++ (xs.drop F.length).map CV.i)[n]? = some (.i xs[n]) := by
      rw [List.getElem?_append_right (by simp; omega), List.length_map, List.getElem?_map, List.getElem?_drop, show F.length + (n - F.length) = n by omega, List.getElem?_eq_getElem hnl]; rfl
    have hpn := fun k => hp (F.map .i ++ (xs.drop F.length).map .i) xs[n] k
    rw [← hY] at hpn
    have hsu := leftF_succ (p := p) hnl
    rw [hF] at hsu
    have en : j + 1 + (i + 1) = n + 1 := by omega
    have hFl : F.length < xs.length := by omega
    have hlY := rdOb_lt ho
    have hle : F.length + 1 ≤ (F.map CV.i ++ (xs.drop F.length).map CV.i).length := by simp; omega
    have e2 : ((xs.drop F.length).map CV.i).set 0 (.i xs[n]) = .i xs[n] :: (xs.drop (F.length + 1)).map CV.i := by rw [List.drop_eq_getElem_cons hFl]; rfl
    have hput : putAt (F.map CV.i ++ (xs.drop F.length).map CV.i) F.length [.i xs[n]] = (F ++ [xs[n]]).map CV.i ++ (xs.drop (F.length + 1)).map CV.i := by
      rw [putAt_get (by omega), List.set_append, if_neg (by simp), List.length_map, Nat.sub_self, e2, List.map_append, List.append_assoc]; rfl
    generalize hcs : F.map CV.i ++ (xs.drop F.length).map CV.i = cs at *
    generalize hcs2 : (F ++ [xs[n]]).map CV.i ++ (xs.drop (F.length + 1)).map CV.i = cs2 at *
    unfold vf93b0
    cases hpx : p xs[n] with
    | true =>
      rw [if_pos hpx, List.append_nil] at hsu
      simp [h0, h1, h5, h6, hnl, idxOf, rdC_ob ho, hc, hpn, hpx, up1 hnl hb]
      exact (hI _ _).2 ⟨by rw [en, hsu, hcs]; exact hY, by rw [en, hsu]; omega, by simp [h0, h1, h5, en, hsu]⟩
    | false =>
      rw [if_neg (by simp [hpx])] at hsu
      simp [h0, h1, h5, h6, hnl, hFl, idxOf, rdC_ob ho, ho, hc, hpn, hpx, up1 hnl hb, up1 hFl hb, hle, hput]
      refine (hI _ _).2 ⟨?_, by rw [en, hsu]; simp; omega, by simp [en, hsu]⟩
      rw [en, hsu, hY, show (F ++ [xs[n]]).length = F.length + 1 by simp, hcs2]; simp
  · rintro ⟨e, Y⟩ hIs
    obtain ⟨hY, hlen, h0, h1, h5, h6⟩ := (hI _ _).1 hIs
    simp only at hY hlen h0 h1 h5 h6 ⊢
    rw [show j + 1 + (xs.length - (j + 1)) = xs.length by omega] at hY hlen h5 h6
    generalize hF : leftF p xs xs.length = F at hY hlen h5
    have ho : rdOb Y id 0 = some ⟨F.map .i ++ (xs.drop F.length).map .i, 0, true, 1⟩ := by rw [hY, rdOb_set_self hlt]; simp
    have hlY := rdOb_lt ho
    have hle : F.length + (xs.length - F.length) ≤ (F.map CV.i ++ (xs.drop F.length).map CV.i).length := by simp
    have hput : putAt (F.map CV.i ++ (xs.drop F.length).map CV.i) F.length (List.replicate (xs.length - F.length) (CV.i 0)) = F.map CV.i ++ List.replicate (xs.length - F.length) (.i 0) := by
      unfold putAt
      rw [List.take_append_of_le_length (by simp), List.take_of_length_le (by simp), List.drop_eq_nil_of_le (by simp), List.append_nil]
    generalize hcs : F.map CV.i ++ (xs.drop F.length).map CV.i = cs at *
    generalize hcs2 : F.map CV.i ++ List.replicate (xs.length - F.length) (CV.i 0) = cs2 at *
    have hs1 : doSlice Y 1 (.sl id 0 0 xs.length) (some (.c (.i (F.length : Int)))) none = some (.c (.sl id 0 F.length (xs.length - F.length))) := by
      simp [doSlice, ho]; omega
    have hs2 : doSlice (Y.set id ⟨cs2, 0, true, 1⟩) 1 (.sl id 0 0 xs.length) none (some (.c (.i (F.length : Int)))) = some (.c (.sl id 0 0 F.length)) := by
      simp [doSlice, rdOb_set_self hlY]; omega
    unfold vf93b0
    simp [h0, h1, h5, h6, hs1, ho, hle, hput, hs2]
    rw [gc_inner hlt, hY]; simp
end Go.Proofs.Ytnmnpfdjigpgaaa.Vm
