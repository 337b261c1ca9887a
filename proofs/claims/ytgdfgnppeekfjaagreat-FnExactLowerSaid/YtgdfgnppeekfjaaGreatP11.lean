import Derived.Test.YtgdfgnppeekfjaaGreatQfc
import Derived.Test.YtgdfgnppeekfjaaGreatP2
import Derived.Test.YtgdfgnppeekfjaaGreatP3
import Derived.Test.YtgdfgnppeekfjaaGreatP10
section
/- Rows of copies: cloned, thinned, one dropped; who is free. No conditions. -/
namespace Go.Proofs.YtgdfgnppeekfjaaGreat.Vm
open Go.RowKit (wrap64)
set_option linter.unusedSimpArgs false
set_option linter.unusedVariables false
theorem edC_app (a b : List ArmR) : edC (a ++ b) = edC a ++ edC b := by simp [edC]
theorem edC_cons (a : ArmR) (r : List ArmR) : edC (a :: r) = .i a.fr :: .i a.v :: edC r := rfl
theorem edC_split {ms : List ArmR} {k : Nat} (hk : k < ms.length) : edC ms = edC (ms.take k) ++ .i ms[k].fr :: .i ms[k].v :: edC (ms.drop (k + 1)) := by
  have e : ms = ms.take k ++ ms[k] :: ms.drop (k + 1) := by rw [← List.drop_eq_getElem_cons hk, List.take_append_drop]
  calc edC ms = edC (ms.take k ++ ms[k] :: ms.drop (k + 1)) := by rw [← e]
    _ = _ := by rw [edC_app, edC_cons]
theorem take_len2 {ms : List ArmR} {k : Nat} (hk : k < ms.length) : (edC (ms.take k)).length = k * 2 := by
  rw [edC_len, List.length_take, Nat.min_eq_left (by omega)]
def MvO (X : Hp) (id g : Nat) (ms : List ArmR) (rest : List CV) : Prop := rdOb X id g = some ⟨edC ms ++ rest, g, true, 2⟩
theorem MvO.lt {X : Hp} {id g : Nat} {ms : List ArmR} {rest : List CV} (h : MvO X id g ms rest) : id < X.length := rdOb_lt h
theorem MvO.row {X : Hp} {id g : Nat} {ms : List ArmR} {rest : List CV} (h : MvO X id g ms rest) : Arms X (.sl id g 0 ms.length) ms := by
  refine ⟨ms.map armC, .inr ⟨id, g, 0, _, rfl, h, rfl, by simp, ?_⟩, by simp, fun k cs x a b => ?_⟩
  · rw [List.drop_zero, List.take_append_of_le_length (by simp), List.take_of_length_le (by simp)]; rfl
  · rw [List.getElem?_map, b] at a
    simp at a; subst a
    exact ⟨rfl, rfl⟩
theorem MvO.at {X : Hp} {id g : Nat} {ms : List ArmR} {rest : List CV} (h : MvO X id g ms rest) {k : Nat} (hk : k < ms.length) :
    rdN X id g (k * 2) 2 = some [.i ms[k].fr, .i ms[k].v] ∧ rdC X id g (k * 2) = some (.i ms[k].fr) ∧ rdC X id g (k * 2 + 1) = some (.i ms[k].v) := by
  have hl := take_len2 hk
  have e : edC ms ++ rest = edC (ms.take k) ++ .i ms[k].fr :: .i ms[k].v :: (edC (ms.drop (k + 1)) ++ rest) := by rw [edC_split hk]; simp
  have h' : rdOb X id g = some ⟨edC (ms.take k) ++ .i ms[k].fr :: .i ms[k].v :: (edC (ms.drop (k + 1)) ++ rest), g, true, 2⟩ := by rw [← e]; exact h
  refine ⟨?_, ?_, ?_⟩
  · rw [rdN_ob h', if_pos (by simp; omega)]
    simp only
    rw [← hl, List.drop_left]; rfl
  · rw [rdC_ob h']
    simp only
    rw [← hl, List.getElem?_append_right (Nat.le_refl _), Nat.sub_self]; rfl
  · rw [rdC_ob h']
    simp only
    rw [← hl, List.getElem?_append_right (by omega), show (edC (ms.take k)).length + 1 - (edC (ms.take k)).length = 1 by omega]; rfl
theorem set_split {ms : List ArmR} {k : Nat} (hk : k < ms.length) (a : ArmR) : edC (ms.set k a) = edC (ms.take k) ++ .i a.fr :: .i a.v :: edC (ms.drop (k + 1)) := by
  rw [List.set_eq_take_append_cons_drop, if_pos hk, edC_app, edC_cons]
theorem mv_put {ms : List ArmR} {rest : List CV} {k : Nat} (hk : k < ms.length) (a : ArmR) : putAt (edC ms ++ rest) (k * 2) [.i a.fr, .i a.v] = edC (ms.set k a) ++ rest ∧ k * 2 + 2 ≤ (edC ms ++ rest).length := by
  have hl := take_len2 hk
  refine ⟨?_, by simp; omega⟩
  rw [set_split hk, edC_split hk]
  generalize edC (ms.take k) = P at hl
  rw [← hl]
  simp [putAt, List.drop_append]
theorem mv_putv {ms : List ArmR} {rest : List CV} {k : Nat} (hk : k < ms.length) (x : Int) : putAt (edC ms ++ rest) (k * 2 + 1) [.i x] = edC (ms.set k ⟨ms[k].fr, x⟩) ++ rest ∧ k * 2 + 1 + 1 ≤ (edC ms ++ rest).length := by
  have hl := take_len2 hk
  refine ⟨?_, by simp; omega⟩
  rw [putAt_get (by simp; omega), set_split hk, edC_split hk]
  generalize edC (ms.take k) = P at hl
  rw [← hl]
  simp [List.set_append, show P.length + 1 - P.length = 1 by omega]
def But (id : Nat) (X Z : Hp) : Prop := X.length ≤ Z.length ∧ ∀ i g o, i ≠ id → rdOb X i g = some o → rdOb Z i g = some o
theorem But.refl (id : Nat) (X : Hp) : But id X X := ⟨Nat.le_refl _, fun _ _ _ _ h => h⟩
theorem But.trans {id : Nat} {X Y Z : Hp} (h : But id X Y) (k : But id Y Z) : But id X Z := ⟨Nat.le_trans h.1 k.1, fun i g o hi ho => k.2 i g o hi (h.2 i g o hi ho)⟩
theorem But.app (id : Nat) (X L : Hp) : But id X (X ++ L) := ⟨by simp, fun _ _ _ _ h => rdOb_app L h⟩
theorem But.set (id : Nat) (X : Hp) (o : Ob) : But id X (X.set id o) := ⟨by simp, fun i g ob hi ho => by rw [rdOb_set_ne hi]; exact ho⟩
theorem But.low {id lo : Nat} {X Z : Hp} (h : But id X Z) (hl : lo ≤ id) : Low lo X Z := fun i g o hi ho => h.2 i g o (by omega) ho
theorem cloneAppM {H : Hp} (ms : List ArmR) (hb : ms.length ≤ BIG) : ∃ g, doApp (H ++ [(⟨[], 0, true, 2⟩ : Ob)]) 2 (.sl H.length 0 0 0) ms.length (edC ms) = some (.c (.sl H.length g 0 ms.length), H ++ [(⟨edC ms, g, true, 2⟩ : Ob)]) := by
  by_cases h0 : 0 < ms.length
  · refine ⟨1, ?_⟩
    have := app_own (X := H ++ [⟨[], 0, true, 2⟩]) (o := H.length) (g := 0) (n := 0) (sz := 2) (m := ms.length) (cs := []) (xs := edC ms) (by simp) (by simp) (by simp; omega) (by simp only [BIG] at hb; simp only [LIM, List.length_nil, edC_len]; omega)
    simpa using this
  · have : ms = [] := List.length_eq_zero_iff.1 (by omega)
    subst this
    exact ⟨0, by simp [doApp, putAt]⟩
theorem arms_src {H : Hp} {v : CV} {ms : List ArmR} (h : Arms H v ms) : srcOf H 2 v = some (ms.length, edC ms) := by
  obtain ⟨css, h1, h2, h3⟩ := h
  have e : css = ms.map armC := by
    apply List.ext_getElem?
    intro k
    by_cases hk : k < ms.length
    · have a := List.getElem?_eq_getElem (show k < css.length by omega)
      have b := List.getElem?_eq_getElem hk
      have := (h3 k _ _ a b).2
      rw [a, List.getElem?_map, b, show css[k] = armC ms[k] from this]; rfl
    · rw [List.getElem?_eq_none (by omega), List.getElem?_eq_none (by simp; omega)]
  subst e
  rcases h1 with ⟨rfl, h4, h5⟩ | ⟨id, g, off, o, rfl, h4, h5, h6, h7⟩
  · have : ms = [] := List.length_eq_zero_iff.1 h4
    subst this; rfl
  · simp [srcOf, h4, h6, h7]; rfl
theorem cloneMove {H : Hp} {v : CV} {ms : List ArmR} (hv : Arms H v ms) (hnn : v ≠ .ns) (hb : ms.length ≤ BIG) (k : IV × Hp → Prop) :
    CM 185 [.c v] H k = k (.c (.sl H.length 0 0 ms.length), H ++ [⟨edC ms, 0, true, 2⟩]) := by
  refine det (cw185 ?_) k
  unfold vf185c
  have hsrc := arms_src (hv.app [⟨[], 0, true, 2⟩])
  obtain ⟨g, hg⟩ := cloneAppM (H := H) ms hb
  obtain ⟨id, gg, off, n, rfl⟩ : ∃ id gg off n, v = .sl id gg off n := by
    obtain ⟨css, h1, _⟩ := hv
    rcases h1 with ⟨h, _⟩ | ⟨id, gg, off, o, h, _⟩
    · exact absurd h hnn
    · exact ⟨_, _, _, _, h⟩
  simp [hsrc, hg]
  rw [gcRet_row ⟨_, rfl⟩ (Nat.le_refl _) (o := ⟨edC ms, g, true, 2⟩) (by simp) rfl (by simpa using edC_flat ms)]
def leftM (p : ArmR → Bool) (xs : List ArmR) (i : Nat) : List ArmR := (xs.take i).filter fun x => !p x
theorem leftM_succ {p : ArmR → Bool} {xs : List ArmR} {i : Nat} (hi : i < xs.length) : leftM p xs (i + 1) = leftM p xs i ++ (if p xs[i] = true then [] else [xs[i]]) := by
  unfold leftM
  rw [List.take_succ_eq_append_getElem hi, List.filter_append]
  congr 1
  cases h : p xs[i] <;> simp [h]
theorem leftM_le (p : ArmR → Bool) (xs : List ArmR) (i : Nat) : (leftM p xs i).length ≤ i := by
  unfold leftM
  exact Nat.le_trans (List.length_filter_le _ _) (by rw [List.length_take]; omega)
theorem set_left {L xs : List ArmR} (h : L.length < xs.length) (a : ArmR) : (L ++ xs.drop L.length).set L.length a = (L ++ [a]) ++ xs.drop (L.length + 1) := by
  have e : (xs.drop L.length).set 0 a = a :: xs.drop (L.length + 1) := by rw [List.drop_eq_getElem_cons h]; rfl
  rw [List.set_append, if_neg (by omega), Nat.sub_self, e]; simp
theorem deleteMove {X : Hp} {id : Nat} {xs : List ArmR} (h : MvO X id 0 xs []) (hb : xs.length ≤ BIG) {fid : Nat} (p : ArmR → Bool)
    (hp : ∀ (Y : Hp) (a : ArmR) (k : IV × Hp → Prop), CM fid [.agg [.i a.fr, .i a.v]] Y k = k (.c (.b (p a)), Y)) :
    CM 184 [.c (.sl id 0 0 xs.length), .f fid []] X fun r => ∃ Z rest, r = (.c (.sl id 0 0 (leftM p xs xs.length).length), Z) ∧ But id X Z ∧ MvO Z id 0 (leftM p xs xs.length) rest := by
  refine cw184 ?_
  unfold vf184c
  have hlt := h.lt
  have hix := fun k => indexMove h.row hb (fid := fid) (caps := []) p (fun i hi cs hcs k => by
    have hcs : cs = armC _ := hcs
    subst hcs
    exact hp X _ k) k
  have hlook : ∀ i, i ≤ xs.length → (∀ j (hj : j < i) (hx : j < xs.length), p xs[j] = false) → leftM p xs i = xs.take i := fun i hi hf => by
    unfold leftM
    rw [List.filter_eq_self]
    intro x hx
    obtain ⟨l, hl, rfl⟩ := List.mem_take_iff_getElem.1 hx
    rw [hf l (by omega) (by omega)]; rfl
  cases hany : xs.any p with
  | false =>
    have hf : findI p xs = -1 := by
      cases hd : decide (0 ≤ findI p xs) with
      | true => rw [findI_nonneg.1 (of_decide_eq_true hd)] at hany; cases hany
      | false =>
        refine findI_none fun j hj => ?_
        rw [List.any_eq_false] at hany
        simpa using hany _ (List.getElem_mem hj)
    have hall : leftM p xs xs.length = xs := by
      rw [hlook _ (Nat.le_refl _) fun j _ hx => by
        rw [List.any_eq_false] at hany
        simpa using hany _ (List.getElem_mem hx), List.take_length]
    simp [hix, hf]
    rw [gc_inner hlt, hall]
    exact ⟨X, rfl, But.refl _ _, [], h⟩
  | true =>
    obtain ⟨j, hj, hfj, hpj, hbf⟩ : ∃ j : Nat, ∃ hj : j < xs.length, findI p xs = j ∧ p (xs[j]'hj) = true ∧ ∀ i (hi : i < j), p (xs[i]'(by omega)) = false := by
      have h1 := findI_nonneg.2 hany
      unfold findI at h1 ⊢
      cases hf : xs.findIdx? p with
      | none => rw [hf] at h1; exact absurd h1 (by decide)
      | some j =>
        rw [List.findIdx?_eq_some_iff_getElem] at hf
        obtain ⟨hj, h2, h3⟩ := hf
        exact ⟨j, hj, rfl, h2, fun i hi => by simpa using h3 i hi⟩
    have hl0 : leftM p xs (j + 1) = xs.take j := by
      rw [leftM_succ hj, if_pos hpj, List.append_nil, hlook j (by omega) fun l hl hx => hbf l hl]
    simp [hix, hfj, up1 hj hb, show ¬ ((j : Int) = -1) by omega]
    obtain ⟨I, hI⟩ : ∃ I : Nat → St → Prop, ∀ i st, I i st ↔ (But id X st.h ∧ MvO st.h id 0 (leftM p xs (j + 1 + i) ++ xs.drop (leftM p xs (j + 1 + i)).length) [] ∧ (leftM p xs (j + 1 + i)).length < j + 1 + i ∧ Env.get st.e 0 = .c (.sl id 0 0 xs.length) ∧ Env.get st.e 1 = .f fid [] ∧ Env.get st.e 5 = .c (.i (leftM p xs (j + 1 + i)).length) ∧ Env.get st.e 6 = .c (.i ((j + 1 + i : Nat) : Int))) := ⟨_, fun _ _ => Iff.rfl⟩
    refine wp_for CM_mono (xs.length - (j + 1)) I ((hI _ _).2 ⟨But.refl _ _, ?_, ?_, ?_⟩) ?_ ?_
    · simp only [Nat.add_zero, hl0]
      rw [List.length_take, Nat.min_eq_left (by omega), List.take_append_drop]; exact h
    · simp only [Nat.add_zero, hl0, List.length_take]; omega
    · simp [hl0]; omega
    · rintro i ⟨e, Y⟩ hi hIs
      obtain ⟨hB, hY, hlen, h0, h1, h5, h6⟩ := (hI _ _).1 hIs
      simp only at hB hY hlen h0 h1 h5 h6 ⊢
      obtain ⟨n, hn⟩ : ∃ n, n = j + 1 + i := ⟨_, rfl⟩
      have hnl : n < xs.length := by omega
      rw [← hn] at hY hlen h5 h6
      have hsu := leftM_succ (p := p) hnl
      generalize hF : leftM p xs n = F at hY hlen h5 hsu
      have hFl : F.length < xs.length := by omega
      have hlm : (F ++ xs.drop F.length).length = xs.length := by simp; omega
      have hg : (F ++ xs.drop F.length)[n]'(by omega) = xs[n] := by
        rw [List.getElem_append_right (by omega), List.getElem_drop]
        congr 1; omega
      obtain ⟨r1, r2, r3⟩ := hY.at (k := n) (by omega)
      rw [hg] at r1
      obtain ⟨Y1, hY1⟩ : ∃ Y1, Y ++ [(⟨[.i xs[n].fr, .i xs[n].v], 0, true, 2⟩ : Ob)] = Y1 := ⟨_, rfl⟩
      have hM1 : MvO Y1 id 0 (F ++ xs.drop F.length) [] := by rw [← hY1]; exact rdOb_app _ hY
      have hB1 : But id X Y1 := by rw [← hY1]; exact hB.trans (But.app _ _ _)
      have hlY := hY.lt
      have hlY1 := hM1.lt
      have hnew : rdN Y1 Y.length 0 0 2 = some [.i xs[n].fr, .i xs[n].v] := by rw [← hY1, rdN_ob (o := ⟨[.i xs[n].fr, .i xs[n].v], 0, true, 2⟩) (by simp)]; simp
      have en : j + 1 + (i + 1) = n + 1 := by omega
      have hp2 : putAt [.i 0, .i 0] 0 [.i xs[n].fr, .i xs[n].v] = [.i xs[n].fr, .i xs[n].v] := rfl
      unfold vf184b0
      cases hpx : p xs[n] with
      | true =>
        rw [if_pos hpx, List.append_nil] at hsu
        simp [h0, h1, h5, h6, hnl, idxOf, r1, hp2, hY1, hnew, hp, hpx, up1 hnl hb]
        exact (hI _ _).2 ⟨hB1, by rw [en, hsu]; exact hM1, by rw [en, hsu]; omega, by simp [h0, h1, h5, en, hsu]⟩
      | false =>
        rw [if_neg (by simp [hpx])] at hsu
        obtain ⟨w1, w2⟩ := mv_put (ms := F ++ xs.drop F.length) (rest := []) (k := F.length) (by omega) xs[n]
        rw [set_left hFl] at w1
        have hM1' : rdOb Y1 id 0 = some ⟨edC (F ++ xs.drop F.length) ++ [], 0, true, 2⟩ := hM1
        generalize hcs : edC (F ++ xs.drop F.length) ++ [] = cs at w1 w2 hM1'
        simp [h0, h1, h5, h6, hnl, hFl, idxOf, r1, hp2, hY1, hnew, hp, hpx, hM1', w1, w2, up1 hnl hb, up1 hFl hb]
        refine (hI _ _).2 ⟨hB1.trans (But.set _ _ _), ?_, by rw [en, hsu]; simp; omega, by simp [en, hsu, h0, h1]⟩
        rw [en, hsu, show (F ++ [xs[n]]).length = F.length + 1 by simp]
        show rdOb (Y1.set id _) id 0 = _
        rw [rdOb_set_self hlY1]; simp
    · rintro ⟨e, Y⟩ hIs
      obtain ⟨hB, hY, hlen, h0, h1, h5, h6⟩ := (hI _ _).1 hIs
      simp only at hB hY hlen h0 h1 h5 h6 ⊢
      rw [show j + 1 + (xs.length - (j + 1)) = xs.length by omega] at hY hlen h5 h6
      generalize hF : leftM p xs xs.length = F at hY hlen h5
      have hlY := hY.lt
      have hcl : (edC F).length = F.length * 2 := by simp
      obtain ⟨zs, hzs⟩ : ∃ zs : List CV, (List.replicate (xs.length - F.length) [CV.i 0, CV.i 0]).flatten = zs := ⟨_, rfl⟩
      have hzl : zs.length = (xs.length - F.length) * 2 := by rw [← hzs]; simp
      have hYo : rdOb Y id 0 = some ⟨edC (F ++ xs.drop F.length) ++ [], 0, true, 2⟩ := hY
      have hput : putAt (edC (F ++ xs.drop F.length) ++ []) (F.length * 2) zs = edC F ++ zs := by
        unfold putAt
        rw [List.append_nil, edC_app, List.take_append_of_le_length (by omega), List.take_of_length_le (by omega), List.drop_eq_nil_of_le (by simp; omega), List.append_nil]
      have hle : F.length * 2 + (xs.length - F.length) * 2 ≤ (edC (F ++ xs.drop F.length) ++ []).length := by simp; omega
      generalize hcs : edC (F ++ xs.drop F.length) ++ [] = cs at hYo hput hle
      have hs1 : doSlice Y 2 (.sl id 0 0 xs.length) (some (.c (.i (F.length : Int)))) none = some (.c (.sl id 0 (F.length * 2) (xs.length - F.length))) := by
        simp [doSlice, hYo] <;> omega
      have hs2 : doSlice (Y.set id ⟨edC F ++ zs, 0, true, 2⟩) 2 (.sl id 0 0 xs.length) none (some (.c (.i (F.length : Int)))) = some (.c (.sl id 0 0 F.length)) := by
        simp [doSlice, rdOb_set_self hlY] <;> omega
      unfold vf184b0
      simp [h0, h1, h5, h6, hs1, hYo, hzs, hle, hput, hs2]
      rw [gc_inner hlt]
      exact ⟨_, rfl, hB.trans (But.set _ _ _), zs, by show rdOb (Y.set id _) id 0 = _; rw [rdOb_set_self hlY]; simp⟩
end Go.Proofs.YtgdfgnppeekfjaaGreat.Vm
end
section
/- One copy dropped; who is free; in which order copies may go, plain. No conditions. -/
namespace Go.Proofs.YtgdfgnppeekfjaaGreat.Vm
open Go.RowKit (wrap64)
set_option linter.unusedSimpArgs false
set_option linter.unusedVariables false
theorem erase_split {ms : List ArmR} {i : Nat} (hi : i < ms.length) : ms.eraseIdx i = ms.take i ++ ms.drop (i + 1) := by rw [List.eraseIdx_eq_take_drop_succ]
theorem dropMove {X : Hp} {id : Nat} {ms : List ArmR} {rest : List CV} (h : MvO X id 0 ms rest) (hb : ms.length ≤ BIG) {i : Nat} (hi : i < ms.length) :
    CM 188 [.c (.sl id 0 0 ms.length), .c (.i i), .c (.i ((i : Int) + 1))] X fun r => ∃ Z rest', r = (.c (.sl id 0 0 (ms.eraseIdx i).length), Z) ∧ But id X Z ∧ MvO Z id 0 (ms.eraseIdx i) rest' := by
  refine cw188 ?_
  unfold vf188c
  have hlt := h.lt
  have ho : rdOb X id 0 = some ⟨edC ms ++ rest, 0, true, 2⟩ := h
  obtain ⟨n, hn⟩ : ∃ n, n = ms.length := ⟨_, rfl⟩
  have hel : (ms.eraseIdx i).length = n - 1 := by rw [List.length_eraseIdx, if_pos hi, hn]
  obtain ⟨D, hD⟩ : ∃ D, (edC ms ++ rest).drop (i * 2 + (edC (ms.drop (i + 1))).length) = D := ⟨_, rfl⟩
  have hDl : D.length = 2 + rest.length := by rw [← hD]; simp; omega
  have hput : putAt (edC ms ++ rest) (i * 2) (edC (ms.drop (i + 1))) = edC (ms.eraseIdx i) ++ D := by
    unfold putAt
    rw [hD, erase_split hi, edC_app]
    congr 2
    have : edC ms ++ rest = edC (ms.take i) ++ (edC (ms.drop i) ++ rest) := by rw [← List.append_assoc, ← edC_app, List.take_append_drop]
    rw [this, List.take_append_of_le_length (by rw [take_len2 hi]; exact Nat.le_refl _), List.take_of_length_le (by rw [take_len2 hi]; exact Nat.le_refl _)]
  obtain ⟨a, b, D', hD'⟩ : ∃ a b D', D = a :: b :: D' := by
    match D, hDl with
    | a :: b :: D', _ => exact ⟨a, b, D', rfl⟩
    | [a], h => simp at h; omega
    | [], h => simp at h; omega
  have hput2 : putAt (edC (ms.eraseIdx i) ++ D) ((n - 1) * 2) [.i 0, .i 0] = edC (ms.eraseIdx i) ++ (.i 0 :: .i 0 :: D') := by
    have hl : (edC (ms.eraseIdx i)).length = (n - 1) * 2 := by rw [edC_len, hel]
    rw [hD', ← hl]
    simp [putAt, List.drop_append]
  have hcl : (edC ms ++ rest).length = n * 2 + rest.length := by rw [hn]; simp
  have hcl2 : (edC (ms.eraseIdx i) ++ D).length = (n - 1) * 2 + (2 + rest.length) := by rw [List.length_append, edC_len, hel, hDl]
  have hsrc : srcOf X 2 (.sl id 0 ((i + 1) * 2) (n - (i + 1))) = some (n - (i + 1), edC (ms.drop (i + 1))) := by
    have e1 : ((edC ms ++ rest).drop ((i + 1) * 2)).take ((n - (i + 1)) * 2) = edC (ms.drop (i + 1)) := by
      have : edC ms ++ rest = edC (ms.take (i + 1)) ++ (edC (ms.drop (i + 1)) ++ rest) := by rw [← List.append_assoc, ← edC_app, List.take_append_drop]
      have hl : (edC (ms.take (i + 1))).length = (i + 1) * 2 := by simp; omega
      rw [this, ← hl, List.drop_left, List.take_append_of_le_length (by simp; omega), List.take_of_length_le (by simp; omega)]
    have h1 : (i + 1) * 2 + (n - (i + 1)) * 2 ≤ (edC ms ++ rest).length := by omega
    unfold srcOf
    simp only [ho, Option.bind_some]
    rw [if_pos h1, e1]
  have happ : doApp X 2 (.sl id 0 0 i) (n - (i + 1)) (edC (ms.drop (i + 1))) = some (.c (.sl id 0 0 (n - 1)), X.set id ⟨edC (ms.eraseIdx i) ++ D, 0, true, 2⟩) := by
    have h1 : i * 2 + (edC (ms.drop (i + 1))).length ≤ (edC ms ++ rest).length := by simp; omega
    have e : i + (n - (i + 1)) = n - 1 := by omega
    unfold doApp
    simp only [ho, Option.bind_some]
    rw [if_pos (by simp), if_pos h1, hput, e]
  generalize hc1 : edC ms ++ rest = c1 at ho hcl
  generalize hc2 : edC (ms.eraseIdx i) ++ D = c2 at happ hput2 hcl2
  have hs1 : doSlice X 2 (.sl id 0 0 n) none (some (.c (.i i))) = some (.c (.sl id 0 0 i)) := by
    simp [doSlice, ho] <;> omega
  have hs2 : doSlice X 2 (.sl id 0 0 n) (some (.c (.i ((i : Int) + 1)))) none = some (.c (.sl id 0 ((i + 1) * 2) (n - (i + 1)))) := by
    have e : ((i : Int) + 1).toNat = i + 1 := by omega
    simp [doSlice, ho, e] <;> omega
  obtain ⟨X2, hX2⟩ : ∃ X2, X.set id ⟨c2, 0, true, 2⟩ = X2 := ⟨_, rfl⟩
  have ho2 : rdOb X2 id 0 = some ⟨c2, 0, true, 2⟩ := by rw [← hX2, rdOb_set_self hlt]; simp
  have hs3 : doSlice X2 2 (.sl id 0 0 (n - 1)) (some (.c (.i ((n - 1 : Nat) : Int)))) (some (.c (.i n))) = some (.c (.sl id 0 ((n - 1) * 2) 1)) := by
    have e1 : ¬ ((n : Int) ≤ ((n - 1 : Nat) : Int)) := by omega
    have e2 : n - (n - 1) = 1 := by omega
    have e3 : ((n - 1 : Nat) : Int) ≤ n := by omega
    simp [doSlice, ho2, e1, e2, e3] <;> omega
  have hle : (n - 1) * 2 + 2 ≤ c2.length := by omega
  have hne : ¬ ((i : Int) = (i : Int) + 1) := by omega
  have hbk1 : (i : Int) + 1 ≤ (n : Int) := by omega
  have hbk0 : (i : Int) ≤ (i : Int) + 1 := by omega
  rw [← hn]
  have hlt2 : id < X2.length := rdOb_lt ho2
  simp [hne, hbk0, hs1, hs2, hsrc, happ, hX2, hs3, ho2, hle, hput2, hbk1]
  rw [gc_inner hlt]
  exact ⟨X2.set id ⟨edC (ms.eraseIdx i) ++ (.i 0 :: .i 0 :: D'), 0, true, 2⟩, by rw [hel], ⟨by simp [← hX2], fun j g o hj ho => by rw [rdOb_set_ne hj, ← hX2, rdOb_set_ne hj]; exact ho⟩, .i 0 :: .i 0 :: D', by show rdOb (X2.set id _) id 0 = _; rw [rdOb_set_self hlt2]; simp⟩
/-! ### Who is free -/
def frB (ms : List ArmR) (m : ArmR) : Bool := !ms.any fun o => decide (o.v = m.fr)
theorem rdC_pre {X Y : Hp} (hp : Pre X Y) {id g off : Nat} {c : CV} (h : rdC X id g off = some c) : rdC Y id g off = some c := by
  unfold rdC at h ⊢
  cases ho : rdOb X id g with
  | none => simp [ho] at h
  | some o => rw [hp.rdOb ho]; rw [ho] at h; exact h
theorem freeOther {X : Hp} {p g : Nat} {m : ArmR} (h : rdOb X p g = some ⟨[.i m.fr, .i m.v], g, true, 2⟩) (hne : m.fr ≠ m.v) (a : ArmR) (k : IV × Hp → Prop) :
    CM 224 [.agg [.i a.fr, .i a.v], .c (.p p g 0)] X k = k (.c (.b (decide (a.v = m.fr))), X) := by
  refine det (cw224 ?_) k
  unfold vf224c
  obtain ⟨a1, a2⟩ := a
  obtain ⟨m1, m2⟩ := m
  simp only at h hne ⊢
  obtain ⟨X1, hX1⟩ : ∃ X1, X ++ [(⟨[.i a1, .i a2], 0, true, 2⟩ : Ob)] = X1 := ⟨_, rfl⟩
  have h1 : rdOb X1 p g = some ⟨[.i m1, .i m2], g, true, 2⟩ := by rw [← hX1]; exact rdOb_app _ h
  have h2 : rdOb X1 X.length 0 = some ⟨[.i a1, .i a2], 0, true, 2⟩ := by rw [← hX1]; simp
  have n1 : rdN X1 p g 0 2 = some [.i m1, .i m2] := by rw [rdN_ob h1]; simp
  have n2 : rdN X1 X.length 0 0 2 = some [.i a1, .i a2] := by rw [rdN_ob h2]; simp
  have k1 : rdC X1 p g 0 = some (.i m1) := by rw [rdC_ob h1]; rfl
  have k2 : rdC X1 X.length 0 1 = some (.i a2) := by rw [rdC_ob h2]; rfl
  have hp : Pre X X1 := ⟨_, hX1.symm⟩
  have hne' : ¬ m2 = m1 := fun h => hne h.symm
  by_cases e1 : a1 = m1
  · subst e1
    by_cases e2 : a2 = m2
    · subst e2
      simp [hX1, n1, n2, k1, k2, hne', allInt]
      exact gcRet_flat hp rfl
    · by_cases e4 : a2 = a1
      · subst e4
        simp [hX1, n1, n2, k1, k2, e2, allInt]
        exact gcRet_flat hp rfl
      · simp [hX1, n1, n2, k1, k2, e2, e4, allInt]
        exact gcRet_flat hp rfl
  · by_cases e4 : a2 = m1
    · subst e4
      simp [hX1, n1, n2, k1, k2, e1, allInt]
      exact gcRet_flat hp rfl
    · simp [hX1, n1, n2, k1, k2, e1, e4, allInt]
      exact gcRet_flat hp rfl
theorem freeOne {X : Hp} {q : Nat} {w : CV} {ms : List ArmR} (h : rdC X q 0 0 = some w) (hw : Arms X w ms) (hb : ms.length ≤ BIG) {m : ArmR} (hne : m.fr ≠ m.v) (k : IV × Hp → Prop) :
    CM 223 [.agg [.i m.fr, .i m.v], .c (.p q 0 0)] X k = k (.c (.b (frB ms m)), X) := by
  refine det (cw223 ?_) k
  unfold vf223c
  obtain ⟨X1, hX1⟩ : ∃ X1, X ++ [(⟨[.i m.fr, .i m.v], 0, true, 2⟩ : Ob)] = X1 := ⟨_, rfl⟩
  have hp : Pre X X1 := ⟨_, hX1.symm⟩
  have h1 : rdC X1 q 0 0 = some w := rdC_pre hp h
  have h2 : rdOb X1 X.length 0 = some ⟨[.i m.fr, .i m.v], 0, true, 2⟩ := by rw [← hX1]; simp
  have hc := fun k => containsMove (Row.pre (fun _ _ => armP.pre) hp hw) hb (fid := 224) (caps := [.p X.length 0 0]) (fun o => decide (o.v = m.fr)) (fun i hi cs hcs k => by
    have hcs : cs = armC _ := hcs
    subst hcs
    exact freeOther h2 hne _ k) k
  simp [hX1, h1, hc]
  rw [gcRet_flat hp rfl]
  simp [frB]
theorem freeMove_call {X : Hp} {id g off n : Nat} {ms : List ArmR} (hw : Arms X (.sl id g off n) ms) (hb : ms.length ≤ BIG) (hne : ∀ m ∈ ms, m.fr ≠ m.v) (k : IV × Hp → Prop) :
    CM 187 [.c (.sl id g off n)] X k = k (.c (.i (findI (frB ms) ms)), X) := by
  refine det (cw187 ?_) k
  unfold vf187c
  obtain ⟨X1, hX1⟩ : ∃ X1, X ++ [(⟨[.sl id g off n], 0, true, 1⟩ : Ob)] = X1 := ⟨_, rfl⟩
  have hp : Pre X X1 := ⟨_, hX1.symm⟩
  have h2 : rdOb X1 X.length 0 = some ⟨[.sl id g off n], 0, true, 1⟩ := by rw [← hX1]; simp
  have h1 : rdC X1 X.length 0 0 = some (.sl id g off n) := by rw [rdC_ob h2]; rfl
  have hw1 := Row.pre (fun _ _ => armP.pre) hp hw
  have hc := fun k => indexMove hw1 hb (fid := 223) (caps := [.p X.length 0 0]) (frB ms) (fun i hi cs hcs k => by
    have hcs : cs = armC _ := hcs
    subst hcs
    exact freeOne h1 hw1 hb (hne _ (List.getElem_mem hi)) k) k
  simp [hX1, h1, hc]
  rw [gcRet_flat hp rfl]
/-! ### Plain -/
def turnM (n b : Int) (a : ArmR) : ArmR := if a.v = b then ⟨a.fr, n⟩ else a
def seqF (n : Int) : Nat → List ArmR → List ArmR → List ArmR
  | 0, _, out => out
  | f + 1, left, out =>
    if left.length = 0 then out
    else if 0 ≤ findI (frB left) left then seqF n f (left.eraseIdx (findI (frB left) left).toNat) (out ++ [left.getD (findI (frB left) left).toNat ⟨0, 0⟩])
    else seqF n f (left.map (turnM n (left.getD 0 ⟨0, 0⟩).fr)) (out ++ [⟨n, (left.getD 0 ⟨0, 0⟩).fr⟩])
def GoodM (n : Int) (ms : List ArmR) : Prop := ∀ m ∈ ms, m.fr ≠ m.v ∧ m.fr < n
def muM (ms : List ArmR) : Nat := 2 * ms.length + (if ms.any (frB ms) = true then 0 else 1)
theorem seq_nil (n : Int) (f : Nat) (out : List ArmR) : seqF n f [] out = out := by cases f <;> rfl
theorem findI_at {p : ArmR → Bool} {xs : List ArmR} (h : 0 ≤ findI p xs) : ∃ i : Nat, findI p xs = i ∧ ∃ hi : i < xs.length, p xs[i] = true := by
  unfold findI at h ⊢
  cases hf : xs.findIdx? p with
  | none => rw [hf] at h; exact absurd h (by decide)
  | some j =>
    rw [List.findIdx?_eq_some_iff_getElem] at hf
    obtain ⟨hj, h2, h3⟩ := hf
    exact ⟨j, rfl, hj, h2⟩
theorem good_erase {n : Int} {ms : List ArmR} (h : GoodM n ms) (i : Nat) : GoodM n (ms.eraseIdx i) := fun m hm => h m (List.mem_of_mem_eraseIdx hm)
theorem mu_erase {ms : List ArmR} {i : Nat} (hi : i < ms.length) : muM (ms.eraseIdx i) < muM ms := by
  unfold muM
  rw [List.length_eraseIdx, if_pos hi]
  split <;> split <;> omega
theorem good_turn {n b : Int} {ms : List ArmR} (h : GoodM n ms) : GoodM n (ms.map (turnM n b)) := by
  intro m hm
  rw [List.mem_map] at hm
  obtain ⟨a, ha, rfl⟩ := hm
  have := h a ha
  unfold turnM
  split
  · exact ⟨by simp only; omega, this.2⟩
  · exact this
theorem mu_turn {n : Int} {ms : List ArmR} (h : GoodM n ms) (h0 : 0 < ms.length) (hf : findI (frB ms) ms < 0) : muM (ms.map (turnM n (ms.getD 0 ⟨0, 0⟩).fr)) < muM ms := by
  have hno : ms.any (frB ms) = false := by
    cases ha : ms.any (frB ms) with
    | false => rfl
    | true => have := findI_nonneg.2 ha; omega
  unfold muM
  rw [List.length_map, hno]
  have hyes : (ms.map (turnM n (ms.getD 0 ⟨0, 0⟩).fr)).any (frB (ms.map (turnM n (ms.getD 0 ⟨0, 0⟩).fr))) = true := by
    match ms, h0 with
    | a :: r, _ =>
      have hga := h a (by simp)
      rw [List.any_eq_true]
      refine ⟨turnM n a.fr a, by simp, ?_⟩
      unfold frB
      rw [Bool.not_eq_true', List.any_eq_false]
      intro o ho
      rw [List.mem_map] at ho
      obtain ⟨c, hc, rfl⟩ := ho
      have e : (turnM n a.fr a).fr = a.fr := by unfold turnM; split <;> rfl
      rw [e]
      simp only [decide_eq_true_eq]
      simp only [List.getD_cons_zero]
      unfold turnM
      split
      · simp only; omega
      · assumption
  rw [hyes]
  simp
end Go.Proofs.YtgdfgnppeekfjaaGreat.Vm
end
section
/- In which order copies may go: the program's side. No conditions. -/
namespace Go.Proofs.YtgdfgnppeekfjaaGreat.Vm
open Go.RowKit (wrap64)
set_option linter.unusedSimpArgs false
set_option linter.unusedVariables false
theorem MvO.but {id g i : Nat} {X Z : Hp} {ms : List ArmR} {rest : List CV} (h : MvO X i g ms rest) (hb : But id X Z) (hne : i ≠ id) : MvO Z i g ms rest := hb.2 _ _ _ hne h
theorem MvO.app {i g : Nat} {X : Hp} {ms : List ArmR} {rest : List CV} (h : MvO X i g ms rest) (L : Hp) : MvO (X ++ L) i g ms rest := rdOb_app L h
theorem MvO.push {X : Hp} {b g : Nat} {out : List ArmR} (h : MvO X b g out []) (hl : out.length ≤ 100) (a : ArmR) :
    doApp (X ++ [(⟨[.i a.fr, .i a.v], 0, true, 2⟩ : Ob)]) 2 (.sl b g 0 out.length) 1 [.i a.fr, .i a.v] = some (.c (.sl b (g + 1) 0 (out.length + 1)), (X ++ [(⟨[.i a.fr, .i a.v], 0, true, 2⟩ : Ob)]).set b ⟨edC (out ++ [a]), g + 1, true, 2⟩) ∧
    But b X ((X ++ [(⟨[.i a.fr, .i a.v], 0, true, 2⟩ : Ob)]).set b ⟨edC (out ++ [a]), g + 1, true, 2⟩) ∧ MvO ((X ++ [(⟨[.i a.fr, .i a.v], 0, true, 2⟩ : Ob)]).set b ⟨edC (out ++ [a]), g + 1, true, 2⟩) b (g + 1) (out ++ [a]) [] := by
  have hlt := h.lt
  have h' : rdOb X b g = some ⟨edC out, g, true, 2⟩ := by have h2 : rdOb X b g = some ⟨edC out ++ [], g, true, 2⟩ := h; rwa [List.append_nil] at h2
  have happ := app_own (X := X ++ [(⟨[.i a.fr, .i a.v], 0, true, 2⟩ : Ob)]) (o := b) (g := g) (n := out.length) (sz := 2) (m := 1) (cs := edC out) (xs := [.i a.fr, .i a.v]) (rdOb_app _ h') (by simp) (by simp) (by simp only [LIM, List.length_cons, List.length_nil, edC_len]; omega)
  have e : edC out ++ [.i a.fr, .i a.v] = edC (out ++ [a]) := by rw [edC_snoc]; rfl
  rw [e] at happ
  exact ⟨happ, (But.app _ _ _).trans (But.set _ _ _), by show rdOb _ _ _ = _; rw [rdOb_set_self (by simp; omega), List.append_nil]; simp⟩
def turnTo (n b : Int) (ms : List ArmR) (j : Nat) : List ArmR := (ms.take j).map (turnM n b) ++ ms.drop j
theorem turnTo_len (n b : Int) (ms : List ArmR) (j : Nat) : (turnTo n b ms j).length = ms.length := by
  unfold turnTo; rw [List.length_append, List.length_map, ← List.length_append, List.take_append_drop]
theorem turnTo_all (n b : Int) (ms : List ArmR) : turnTo n b ms ms.length = ms.map (turnM n b) := by simp [turnTo]
theorem turnTo_at {n b : Int} {ms : List ArmR} {j : Nat} (hj : j < ms.length) : (turnTo n b ms j)[j]'(by rw [turnTo_len]; exact hj) = ms[j] := by
  unfold turnTo
  rw [List.getElem_append_right (by simp; omega), List.getElem_drop]
  congr 1
  simp; omega
theorem turnTo_succ {n b : Int} {ms : List ArmR} {j : Nat} (hj : j < ms.length) : turnTo n b ms (j + 1) = (turnTo n b ms j).set j (turnM n b ms[j]) := by
  unfold turnTo
  have hl : ((ms.take j).map (turnM n b)).length = j := by simp; omega
  have e : (ms.drop j).set 0 (turnM n b ms[j]) = turnM n b ms[j] :: ms.drop (j + 1) := by rw [List.drop_eq_getElem_cons hj]; rfl
  rw [List.set_append, if_neg (by omega), hl, Nat.sub_self, e, List.take_succ_eq_append_getElem hj, List.map_append, List.append_assoc]; rfl
theorem turnTo_same {n b : Int} {ms : List ArmR} {j : Nat} (hj : j < ms.length) (h : ¬ ms[j].v = b) : turnTo n b ms (j + 1) = turnTo n b ms j := by
  rw [turnTo_succ hj]
  have e : turnM n b ms[j] = (turnTo n b ms j)[j]'(by rw [turnTo_len]; exact hj) := by rw [turnTo_at hj]; unfold turnM; rw [if_neg h]
  rw [e, List.set_getElem_self]
theorem getD_idx {ms : List ArmR} {i : Nat} (h : i < ms.length) : ms.getD i ⟨0, 0⟩ = ms[i] := by rw [List.getD_eq_getElem?_getD, List.getElem?_eq_getElem h]; rfl
def idM (m : ArmR) : Bool := decide (m.fr = m.v)
theorem impl_idM (Y : Hp) (a : ArmR) (k : IV × Hp → Prop) : CM 186 [.agg [.i a.fr, .i a.v]] Y k = k (.c (.b (idM a)), Y) := by
  refine det (cw186 ?_) k
  unfold vf186c
  simp [idM]
def SeqRes (H : Hp) (ms : List ArmR) (n : Int) (r : IV × Hp) : Prop := ∃ Z b g, r = (.tup [(false, [.sl b g 0 (seqF n 60 (leftM idM ms ms.length) []).length]), (false, [.b true])], Z) ∧ Pre H Z ∧ H.length ≤ b ∧ MvO Z b g (seqF n 60 (leftM idM ms ms.length) []) []
theorem gc_tup3 {H : Hp} {w u : CV} (hu : flatC w = false) (Y : Hp) : gcRet H (.tup [(false, [w]), (false, [u])]) Y = (.tup [(false, [w]), (false, [u])], Y) := by
  unfold gcRet; split
  · rw [if_neg (by unfold flatV; simp only [List.all_cons, List.all_nil, Bool.and_true, hu, Bool.false_and]; decide)]
  · rfl
theorem mvB_all {n : Int} {ms : List ArmR} (h : movesB n ms = true) : ms.length ≤ 24 ∧ ∀ m ∈ ms, m.fr < n := by
  unfold movesB at h
  rw [Bool.and_eq_true, decide_eq_true_eq] at h
  refine ⟨h.2, fun m hm => ?_⟩
  obtain ⟨i, hi, rfl⟩ := List.getElem_of_mem hm
  have h1 := h.1
  unfold mvsB at h1
  rw [List.all_eq_true] at h1
  have h2 := h1 i (List.mem_range.2 hi)
  rw [mvB_at hi] at h2
  simp only [Bool.and_eq_true, decide_eq_true_eq] at h2
  omega
theorem left_good {n : Int} {ms : List ArmR} (h : ∀ m ∈ ms, m.fr < n) : GoodM n (leftM idM ms ms.length) := by
  intro m hm
  unfold leftM at hm
  rw [List.take_length, List.mem_filter] at hm
  refine ⟨fun e => ?_, h m hm.1⟩
  have := hm.2
  unfold idM at this
  simp [e] at this
theorem left_mu {ms : List ArmR} (h : ms.length ≤ 24) : muM (leftM idM ms ms.length) ≤ 60 ∧ (leftM idM ms ms.length).length ≤ 24 := by
  have := leftM_le idM ms ms.length
  unfold muM
  split <;> omega
set_option maxRecDepth 100000 in
theorem implSeq {H : Hp} {id0 g0 off0 n0 : Nat} {ms : List ArmR} {n : Int} (hw : Arms H (.sl id0 g0 off0 n0) ms) (hb : ms.length ≤ BIG) (hok : movesB n ms = true) : CM 129 [.c (.sl id0 g0 off0 n0), .c (.i n)] H (SeqRes H ms n) := by
  obtain ⟨h24, hfr⟩ := mvB_all hok
  refine cw129 ?_
  unfold vf129c
  simp [implMoves hw hb, hok, cloneMove hw (by simp) hb]
  obtain ⟨a, ha⟩ : ∃ a, a = H.length := ⟨_, rfl⟩
  have hM0 : MvO (H ++ [(⟨edC ms, 0, true, 2⟩ : Ob)]) a 0 ms [] := by show rdOb _ _ _ = _; rw [ha]; simp
  have hp0 : Pre H (H ++ [(⟨edC ms, 0, true, 2⟩ : Ob)]) := ⟨_, rfl⟩
  rw [← ha]
  generalize H ++ [(⟨edC ms, 0, true, 2⟩ : Ob)] = X0 at hM0 hp0 ⊢
  refine (deleteMove hM0 hb idM impl_idM).mono ?_
  rintro _ ⟨X1, rest1, rfl, hB1, hM1⟩
  obtain ⟨hmu, hl24⟩ := left_mu h24
  have hgood := left_good hfr
  unfold SeqRes
  generalize leftM idM ms ms.length = L0 at hM1 hmu hgood hl24 ⊢
  obtain ⟨F, hF⟩ : ∃ F, seqF n 60 L0 [] = F := ⟨_, rfl⟩
  rw [hF]
  have hlow1 : Low H.length X0 X1 := hB1.low (by omega)
  have hlt1 := hM1.lt
  simp
  obtain ⟨I, hI⟩ : ∃ I : Nat → St → Prop, ∀ f st, I f st ↔ ∃ left out rest b g, Low H.length X0 st.h ∧ MvO st.h a 0 left rest ∧ MvO st.h b g out [] ∧ X1.length ≤ b ∧ GoodM n left ∧ muM left ≤ f ∧ left.length ≤ 24 ∧ out.length + f ≤ 60 ∧ seqF n f left out = F ∧ Env.get st.e 1 = .c (.i n) ∧ Env.get st.e 6 = .c (.sl a 0 0 left.length) ∧ Env.get st.e 7 = .c (.sl b g 0 out.length) := ⟨_, fun _ _ => Iff.rfl⟩
  refine wp_loop CM_mono I (k := 60) ((hI _ _).2 ⟨L0, [], rest1, X1.length, 0, hlow1.trans (Low.app _ _ _), hM1.app _, by show rdOb _ _ _ = _; simp, Nat.le_refl _, hgood, hmu, hl24, by simp, hF, by simp⟩) ?_
  rintro f ⟨e, Y⟩ hIs
  obtain ⟨left, out, rest, b, g, hL, hMa, hMb, hbX, hG, hmu', hll, hol, hseq, e1, e6, e7⟩ := (hI _ _).1 hIs
  simp only at hL hMa hMb e1 e6 e7 ⊢
  have hab : a ≠ b := by omega
  have hlY := hMa.lt
  unfold vf129b1
  by_cases h0 : left.length = 0
  · have : left = [] := List.length_eq_zero_iff.1 h0
    subst this
    rw [seq_nil] at hseq
    subst hseq
    simp [e1, e6, e7, gc_tup3 (w := .sl b g 0 out.length) rfl]
    exact ⟨Y, b, g, ⟨⟨rfl, rfl⟩, rfl⟩, hL.pre hp0 (Nat.le_refl _), by have := hp0.le; have := hB1.1; omega, hMb⟩
  · have hpos : (0 : Int) < (left.length : Int) := by omega
    have hpos' : 0 < left.length := by omega
    obtain ⟨f', rfl⟩ : ∃ f', f = f' + 1 := ⟨f - 1, by unfold muM at hmu'; omega⟩
    have hne : ∀ m ∈ left, m.fr ≠ m.v := fun m hm => (hG m hm).1
    have hfm := fun k => freeMove_call hMa.row (by simp only [BIG]; omega) hne k
    by_cases hfr0 : 0 ≤ findI (frB left) left
    · obtain ⟨i, hfi, hi, hfp⟩ := findI_at hfr0
      have hseq' : seqF n f' (left.eraseIdx i) (out ++ [left[i]]) = F := by
        rw [← hseq]
        conv => rhs; unfold seqF
        rw [if_neg h0, if_pos hfr0, hfi, Int.toNat_natCast, getD_idx hi]
      obtain ⟨r1, r2, r3⟩ := hMa.at hi
      obtain ⟨p1, p2, p3⟩ := hMb.push (by omega) left[i]
      obtain ⟨Y2, hY2⟩ : ∃ Y2, (Y ++ [(⟨[.i left[i].fr, .i left[i].v], 0, true, 2⟩ : Ob)]).set b ⟨edC (out ++ [left[i]]), g + 1, true, 2⟩ = Y2 := ⟨_, rfl⟩
      rw [hY2] at p1 p2 p3
      have hMa2 := hMa.but p2 hab
      simp [e1, e6, e7, hpos, hpos', hfm, hfi, idxOf, hi, r1, srcOf, putD0, p1, up1 hi (show left.length ≤ BIG by simp only [BIG]; omega)]
      refine (dropMove hMa2 (by simp only [BIG]; omega) hi).mono ?_
      rintro _ ⟨Y3, rest', rfl, hB3, hMa3⟩
      simp
      refine ⟨f', by omega, (hI _ _).2 ⟨left.eraseIdx i, out ++ [left[i]], rest', b, g + 1, (hL.trans (p2.low (by have := hp0.le; have := hB1.1; omega))).trans (hB3.low (by omega)), hMa3, p3.but hB3 (Ne.symm hab), hbX, good_erase hG i, by have := mu_erase hi; omega, by rw [List.length_eraseIdx, if_pos hi]; omega, by simp; omega, hseq', by simp [e1]⟩⟩
    · have hfr1 : findI (frB left) left < 0 := by omega
      obtain ⟨m0, hm0⟩ : ∃ m0, left[0] = m0 := ⟨_, rfl⟩
      have hgd : left.getD 0 ⟨0, 0⟩ = m0 := by rw [getD_idx hpos', hm0]
      have hmt := mu_turn hG hpos' hfr1
      have hseq' : seqF n f' (left.map (turnM n m0.fr)) (out ++ [⟨n, m0.fr⟩]) = F := by
        rw [← hseq]
        conv => rhs; unfold seqF
        rw [if_neg h0, if_neg hfr0, hgd]
      rw [hgd] at hmt
      obtain ⟨r1, r2, r3⟩ := hMa.at hpos'
      rw [hm0] at r2
      rw [Nat.zero_mul] at r2
      obtain ⟨p1, p2, p3⟩ := hMb.push (by omega) ⟨n, m0.fr⟩
      simp only at p1 p2 p3
      obtain ⟨Y2, hY2⟩ : ∃ Y2, (Y ++ [(⟨[.i n, .i m0.fr], 0, true, 2⟩ : Ob)]).set b ⟨edC (out ++ [⟨n, m0.fr⟩]), g + 1, true, 2⟩ = Y2 := ⟨_, rfl⟩
      rw [hY2] at p1 p2 p3
      have hMa2 := hMa.but p2 hab
      simp [e1, e6, e7, hpos, hpos', hfm, hfr0, idxOf, r2, srcOf, putL0, putL1, putD0, p1]
      obtain ⟨T, hT⟩ : ∃ T : Nat → St → Prop, ∀ j st, T j st ↔ (But a Y2 st.h ∧ MvO st.h a 0 (turnTo n m0.fr left j) rest ∧ Env.get st.e 1 = .c (.i n) ∧ Env.get st.e 6 = .c (.sl a 0 0 left.length) ∧ Env.get st.e 7 = .c (.sl b (g + 1) 0 (out.length + 1)) ∧ Env.get st.e 9 = .c (.i m0.fr) ∧ Env.get st.e 49 = .c (.sl a 0 0 left.length) ∧ Env.get st.e 50 = .c (.i left.length) ∧ Env.get st.e 51 = .c (.i j)) := ⟨_, fun _ _ => Iff.rfl⟩
      refine wp_for CM_mono left.length T ((hT _ _).2 ⟨But.refl _ _, hMa2, by simp [e1, e6]⟩) ?_ ?_
      · rintro j ⟨e', W⟩ hj hTs
        obtain ⟨hBW, hMW, e1, e6, e7, e9, e49, e50, e51⟩ := (hT _ _).1 hTs
        simp only at hBW hMW e1 e6 e7 e9 e49 e50 e51 ⊢
        obtain ⟨s1, s2, s3⟩ := hMW.at (k := j) (by rw [turnTo_len]; exact hj)
        rw [turnTo_at hj] at s1 s2 s3
        obtain ⟨W1, hW1⟩ : ∃ W1, W ++ [(⟨[.i left[j].fr, .i left[j].v], 0, true, 2⟩ : Ob)] = W1 := ⟨_, rfl⟩
        have hMW1 : MvO W1 a 0 (turnTo n m0.fr left j) rest := by rw [← hW1]; exact hMW.app _
        have hBW1 : But a Y2 W1 := by rw [← hW1]; exact hBW.trans (But.app _ _ _)
        have hnew : rdC W1 W.length 0 1 = some (.i left[j].v) := by rw [← hW1, rdC_ob (o := ⟨[.i left[j].fr, .i left[j].v], 0, true, 2⟩) (by simp)]; rfl
        have hp2 : putAt [.i 0, .i 0] 0 [.i left[j].fr, .i left[j].v] = [.i left[j].fr, .i left[j].v] := rfl
        have hltW := hMW1.lt
        unfold vf129b0
        by_cases hv : left[j].v = m0.fr
        · obtain ⟨q1, q2⟩ := mv_putv (ms := turnTo n m0.fr left j) (rest := rest) (k := j) (by rw [turnTo_len]; exact hj) n
          rw [turnTo_at hj] at q1
          have hset : (turnTo n m0.fr left j).set j ⟨left[j].fr, n⟩ = turnTo n m0.fr left (j + 1) := by rw [turnTo_succ hj]; unfold turnM; rw [if_pos hv]
          rw [hset] at q1
          have hMo : rdOb W1 a 0 = some ⟨edC (turnTo n m0.fr left j) ++ rest, 0, true, 2⟩ := hMW1
          generalize hcs : edC (turnTo n m0.fr left j) ++ rest = cs at q1 q2 hMo
          rw [hv] at hW1 hnew hp2 s1
          simp [e1, e6, e7, e9, e49, e50, e51, hj, idxOf, s1, hp2, hW1, hnew, hMo, q1, q2, up1 hj (show left.length ≤ BIG by simp only [BIG]; omega)]
          exact (hT _ _).2 ⟨hBW1.trans (But.set _ _ _), by show rdOb (W1.set a _) a 0 = _; rw [rdOb_set_self hltW]; simp, by simp [e1, e6, e7, e9, e49, e50]⟩
        · have hsame := turnTo_same (n := n) hj hv
          simp [e1, e6, e7, e9, e49, e50, e51, hj, idxOf, s1, hp2, hW1, hnew, hv, up1 hj (show left.length ≤ BIG by simp only [BIG]; omega)]
          exact (hT _ _).2 ⟨hBW1, by rw [hsame]; exact hMW1, by simp [e1, e6, e7, e9, e49, e50]⟩
      · rintro ⟨e', W⟩ hTs
        obtain ⟨hBW, hMW, e1, e6, e7, e9, e49, e50, e51⟩ := (hT _ _).1 hTs
        simp only at hBW hMW e1 e6 e7 e9 e49 e50 e51 ⊢
        rw [turnTo_all] at hMW
        unfold vf129b0
        simp [e1, e6, e7, e9, e49, e50, e51]
        exact ⟨f', by omega, (hI _ _).2 ⟨left.map (turnM n m0.fr), out ++ [⟨n, m0.fr⟩], rest, b, g + 1, (hL.trans (p2.low (by have := hp0.le; have := hB1.1; omega))).trans (hBW.low (by omega)), hMW, p3.but hBW (Ne.symm hab), hbX, good_turn hG, by omega, by simpa using hll, by simp; omega, hseq', by simp [e1, e6, e7]⟩⟩
end Go.Proofs.YtgdfgnppeekfjaaGreat.Vm
end
section
/- In which order copies may go: the other side. No conditions. -/
namespace Go.Proofs.YtgdfgnppeekfjaaGreat.Vm
open Go.RowKit (wrap64)
set_option linter.unusedSimpArgs false
set_option linter.unusedVariables false
theorem l9Free_call {X : Hp} {w : CV} {ms : List ArmR} (hw : Arms X w ms) (hb : ms.length ≤ BIG) (hne : ∀ m ∈ ms, m.fr ≠ m.v) (k : IV × Hp → Prop) :
    CM 182 [.c w] X k = k (.c (.i (findI (frB ms) ms)), X) := by
  refine det (cw182 ?_) k
  unfold vf182c
  simp
  refine wp_for CM_mono ms.length (fun i s => (∀ j (hj : j < i) (hx : j < ms.length), frB ms ms[j] = false) ∧ s.h = X ∧ Env.get s.e 0 = .c w ∧ Env.get s.e 3 = .c (.i i)) (by simp) ?_ ?_
  · rintro i ⟨e, Y⟩ hi ⟨ht, rfl, h0, h3⟩
    simp only at h0 h3 hw ⊢
    unfold vf182b1
    simp [h0, h3, hw.lenOf, hi]
    obtain ⟨id1, g1, off1, q1, q2, q3, q4, q5⟩ := hw.get hi
    refine wp_for CM_mono ms.length (fun j s => s.h = Y ∧ Env.get s.e 0 = .c w ∧ Env.get s.e 3 = .c (.i i) ∧ Env.get s.e 4 = .c (.b ((ms.take j).any fun o => decide (o.v = ms[i].fr))) ∧ Env.get s.e 5 = .c (.i j)) (by simp [h0, h3]) ?_ ?_
    · rintro j ⟨e', Y'⟩ hj ⟨rfl, h0, h3, h4, h5⟩
      simp only at h0 h3 h4 h5 hw q2 q3 q4 ⊢
      obtain ⟨id2, g2, off2, r1, r2, r3, r4, r5⟩ := hw.get hj
      have hsucc : ((ms.take (j + 1)).any fun o => decide (o.v = ms[i].fr)) = (((ms.take j).any fun o => decide (o.v = ms[i].fr)) || decide (ms[j].v = ms[i].fr)) := by
        rw [List.take_succ_eq_append_getElem hj, List.any_append]; simp
      unfold vf182b0
      cases hA : ((ms.take j).any fun o => decide (o.v = ms[i].fr)) with
      | true =>
        rw [hA] at h4 hsucc
        simp at hsucc
        simp [h0, h3, h4, h5, hw.lenOf, hj, up1 hj hb]
        simpa using hsucc
      | false =>
        rw [hA] at h4 hsucc
        by_cases hij : j = i
        · subst hij
          have hv : ¬ ms[j].v = ms[j].fr := fun h => hne _ (List.getElem_mem hj) h.symm
          simp [hv] at hsucc
          simp [h0, h3, h4, h5, hw.lenOf, hj, up1 hj hb]
          simpa using hsucc
        · have hij' : ¬ ((j : Int) = (i : Int)) := by omega
          by_cases hv : ms[j].v = ms[i].fr
          · simp [hv] at hsucc
            simp [h0, h3, h4, h5, hw.lenOf, hj, hij, hij', q1, q2, q3, q4, r1, r2, r3, r4, hv, up1 hj hb]
            simpa using hsucc
          · simp [hv] at hsucc
            simp [h0, h3, h4, h5, hw.lenOf, hj, hij, hij', q1, q2, q3, q4, r1, r2, r3, r4, hv, up1 hj hb]
            simpa using hsucc
    · rintro ⟨e', Y'⟩ ⟨rfl, h0, h3, h4, h5⟩
      simp only at h0 h3 h4 h5 hw ⊢
      rw [List.take_length] at h4
      unfold vf182b0
      cases hA : (ms.any fun o => decide (o.v = ms[i].fr)) with
      | true =>
        rw [hA] at h4
        have hf : frB ms ms[i] = false := by unfold frB; rw [hA]; rfl
        simp [h0, h3, h4, h5, hw.lenOf, up1 hi hb]
        intro l hl hx
        by_cases el : l = i
        · subst el; exact hf
        · exact ht l (by omega) hx
      | false =>
        rw [hA] at h4
        have hf : frB ms ms[i] = true := by unfold frB; rw [hA]; rfl
        simp [h0, h3, h4, h5, hw.lenOf, findI_some hi (fun j hj => ht j hj (by omega)) hf]
  · rintro ⟨e, Y⟩ ⟨ht, rfl, h0, h3⟩
    simp only at h0 h3 hw ⊢
    unfold vf182b1
    simp [h0, h3, hw.lenOf, findI_none (fun j hj => ht j hj hj)]
theorem appM {X : Hp} {id g : Nat} {A : List ArmR} (h : MvO X id g A []) (hl : A.length ≤ 100) (B : List ArmR) (hB : B.length ≤ 100) :
    ∃ g' Z, doApp X 2 (.sl id g 0 A.length) B.length (edC B) = some (.c (.sl id g' 0 (A.length + B.length)), Z) ∧ But id X Z ∧ MvO Z id g' (A ++ B) [] := by
  have hlt := h.lt
  have h' : rdOb X id g = some ⟨edC A, g, true, 2⟩ := by have h2 : rdOb X id g = some ⟨edC A ++ [], g, true, 2⟩ := h; rwa [List.append_nil] at h2
  by_cases h0 : 0 < B.length
  · have := app_own (X := X) (o := id) (g := g) (n := A.length) (sz := 2) (m := B.length) (cs := edC A) (xs := edC B) h' (by simp) (by simp; omega) (by simp only [LIM, edC_len]; omega)
    refine ⟨g + 1, _, this, But.set _ _ _, ?_⟩
    show rdOb _ _ _ = _
    rw [rdOb_set_self hlt, List.append_nil, ← edC_app]; simp
  · have : B = [] := List.length_eq_zero_iff.1 (by omega)
    subst this
    refine ⟨g, X, ?_, But.refl _ _, by rw [List.append_nil]; exact h⟩
    have e : X.set id ⟨edC A, g, true, 2⟩ = X := by
      have := (rdOb_some.1 h').1
      rw [List.getElem?_eq_getElem hlt] at this
      injection this with this
      rw [← this]; simp
    simp [doApp, h', putAt, e]
theorem MvO.same {X Y : Hp} {id g off n : Nat} {ms : List ArmR} {rest : List CV} (h : MvO X id g ms rest) (k : MvO Y id g ms rest) : sameAt (.sl id g off n) X Y := by
  show rdOb Y id g = rdOb X id g
  rw [show rdOb Y id g = _ from k, show rdOb X id g = _ from h]
set_option maxRecDepth 100000 in
theorem specSeq0 {H : Hp} {w : CV} {ms : List ArmR} {n : Int} (hw : Arms H w ms) (hok : movesB n ms = true) : CM 127 [.c w, .c (.i n)] H fun r => ∃ Z b g, r = (.c (.sl b g 0 (seqF n 60 (leftM idM ms ms.length) []).length), Z) ∧ Pre H Z ∧ H.length ≤ b ∧ MvO Z b g (seqF n 60 (leftM idM ms ms.length) []) [] := by
  obtain ⟨h24, hfr⟩ := mvB_all hok
  have hb : ms.length ≤ BIG := by simp only [BIG]; omega
  refine cw127 ?_
  unfold vf127c
  simp
  obtain ⟨J, hJ⟩ : ∃ J : Nat → St → Prop, ∀ i st, J i st ↔ ∃ g, Low H.length H st.h ∧ MvO st.h H.length g (leftM idM ms i) [] ∧ Env.get st.e 0 = .c w ∧ Env.get st.e 1 = .c (.i n) ∧ Env.get st.e 5 = .c (.sl H.length g 0 (leftM idM ms i).length) ∧ Env.get st.e 6 = .c (.i i) := ⟨_, fun _ _ => Iff.rfl⟩
  refine wp_for CM_mono ms.length J ((hJ _ _).2 ⟨0, Low.app _ _ _, by show rdOb _ _ _ = _; simp [leftM], by simp [leftM]⟩) ?_ ?_
  · rintro i ⟨e, Y⟩ hi hJs
    obtain ⟨g, hL, hM, h0, h1, h5, h6⟩ := (hJ _ _).1 hJs
    simp only at hL hM h0 h1 h5 h6 ⊢
    have hwY : Arms Y w ms := Row.pre (fun _ _ => armP.pre) (hL.pre (Pre.refl _) (Nat.le_refl _)) hw
    obtain ⟨id1, g1, off1, q1, q2, q3, q4, q5⟩ := hwY.get hi
    have hsu := leftM_succ (p := idM) hi
    have hle := leftM_le idM ms i
    unfold vf127b0
    by_cases hv : ms[i].fr = ms[i].v
    · rw [if_pos (show idM ms[i] = true by unfold idM; rw [hv]; simp), List.append_nil] at hsu
      simp [h0, h1, h5, h6, hwY.lenOf, hi, q1, q2, q3, q4, hv, up1 hi hb]
      exact (hJ _ _).2 ⟨g, hL, by rw [hsu]; exact hM, by simp [h0, h1, h5, hsu]⟩
    · rw [if_neg (show ¬ idM ms[i] = true by unfold idM; simpa using hv)] at hsu
      obtain ⟨p1, p2, p3⟩ := hM.push (by omega) ms[i]
      generalize leftM idM ms i = L at hsu p1 p2 p3 h5 hM
      obtain ⟨Y2, hY2⟩ : ∃ Y2, (Y ++ [(⟨[.i ms[i].fr, .i ms[i].v], 0, true, 2⟩ : Ob)]).set H.length ⟨edC (L ++ [ms[i]]), g + 1, true, 2⟩ = Y2 := ⟨_, rfl⟩
      rw [hY2] at p1 p2 p3
      simp [h0, h1, h5, h6, hwY.lenOf, hi, q1, q2, q3, q4, hv, srcOf, putD0, p1, up1 hi hb]
      exact (hJ _ _).2 ⟨g + 1, hL.trans (p2.low (Nat.le_refl _)), by rw [hsu]; exact p3, by simp [h0, h1, hsu]⟩
  · rintro ⟨e, Y⟩ hJs
    obtain ⟨g0, hL0, hM0, h0, h1, h5, h6⟩ := (hJ _ _).1 hJs
    simp only at hL0 hM0 h0 h1 h5 h6 ⊢
    have hwY : Arms Y w ms := Row.pre (fun _ _ => armP.pre) (hL0.pre (Pre.refl _) (Nat.le_refl _)) hw
    obtain ⟨hmu, hl24⟩ := left_mu h24
    have hgood := left_good hfr
    generalize leftM idM ms ms.length = L0 at hM0 hmu hgood hl24 h5 ⊢
    obtain ⟨F, hF⟩ : ∃ F, seqF n 60 L0 [] = F := ⟨_, rfl⟩
    rw [hF]
    have hlt0 := hM0.lt
    unfold vf127b0
    simp [h0, h1, h5, h6, hwY.lenOf]
    obtain ⟨I, hI⟩ : ∃ I : Nat → St → Prop, ∀ f st, I f st ↔ ∃ left out a g b h, Low H.length H st.h ∧ MvO st.h a g left [] ∧ MvO st.h b h out [] ∧ H.length ≤ a ∧ H.length ≤ b ∧ a ≠ b ∧ GoodM n left ∧ muM left ≤ f ∧ left.length ≤ 24 ∧ out.length + f ≤ 60 ∧ seqF n f left out = F ∧ Env.get st.e 1 = .c (.i n) ∧ Env.get st.e 5 = .c (.sl a g 0 left.length) ∧ Env.get st.e 7 = .c (.sl b h 0 out.length) := ⟨_, fun _ _ => Iff.rfl⟩
    refine wp_loop CM_mono I (k := 60) ((hI _ _).2 ⟨L0, [], H.length, g0, Y.length, 0, hL0.trans (Low.app _ _ _), hM0.app _, by show rdOb _ _ _ = _; simp, Nat.le_refl _, by omega, by omega, hgood, hmu, hl24, by simp, hF, by simp [h1, h5]⟩) ?_
    rintro f ⟨e, Y⟩ hIs
    obtain ⟨left, out, a, g, b, h, hL, hMa, hMb, haH, hbH, hab, hG, hmu', hll, hol, hseq, e1, e5, e7⟩ := (hI _ _).1 hIs
    simp only at hL hMa hMb e1 e5 e7 ⊢
    have hlY := hMa.lt
    unfold vf127b2
    by_cases h0 : left.length = 0
    · have : left = [] := List.length_eq_zero_iff.1 h0
      subst this
      rw [seq_nil] at hseq
      subst hseq
      simp [e1, e5, e7]
      have hgc : ∀ Z, Pre H Z → MvO Z b h out [] → ∃ Z' b' h', gcRet H (.c (.sl b h 0 out.length)) Z = (.c (.sl b' h' 0 out.length), Z') ∧ Pre H Z' ∧ H.length ≤ b' ∧ MvO Z' b' h' out [] := fun Z hpZ hM => by
        have ho : rdOb Z b h = some ⟨edC out ++ [], h, true, 2⟩ := hM
        rw [gcRet_row hpZ hbH ho rfl (by simpa using edC_flat out)]
        exact ⟨_, _, _, rfl, ⟨_, rfl⟩, Nat.le_refl _, by show rdOb _ _ _ = _; simp⟩
      obtain ⟨Z', b', h', e', e2, e2', e3⟩ := hgc Y (hL.pre (Pre.refl _) (Nat.le_refl _)) hMb
      rw [e']
      exact ⟨Z', b', h', rfl, e2, e2', e3⟩
    · have hpos : (0 : Int) < (left.length : Int) := by omega
      have hpos' : 0 < left.length := by omega
      obtain ⟨f', rfl⟩ : ∃ f', f = f' + 1 := ⟨f - 1, by unfold muM at hmu'; omega⟩
      have hne : ∀ m ∈ left, m.fr ≠ m.v := fun m hm => (hG m hm).1
      have hfm := fun k => l9Free_call hMa.row (by simp only [BIG]; omega) hne k
      by_cases hfr0 : 0 ≤ findI (frB left) left
      · obtain ⟨i, hfi, hi, hfp⟩ := findI_at hfr0
        have hseq' : seqF n f' (left.eraseIdx i) (out ++ [left[i]]) = F := by
          rw [← hseq]
          conv => rhs; unfold seqF
          rw [if_neg h0, if_pos hfr0, hfi, Int.toNat_natCast, getD_idx hi]
        obtain ⟨r1, r2, r3⟩ := hMa.at hi
        obtain ⟨p1, p2, p3⟩ := hMb.push (by omega) left[i]
        obtain ⟨Y2, hY2⟩ : ∃ Y2, (Y ++ [(⟨[.i left[i].fr, .i left[i].v], 0, true, 2⟩ : Ob)]).set b ⟨edC (out ++ [left[i]]), h + 1, true, 2⟩ = Y2 := ⟨_, rfl⟩
        rw [hY2] at p1 p2 p3
        have hMa2 := hMa.but p2 hab
        obtain ⟨Y3, hY3⟩ : ∃ Y3, Y2 ++ [(⟨[], 0, true, 2⟩ : Ob)] = Y3 := ⟨_, rfl⟩
        have hN3 : MvO Y3 Y2.length 0 [] [] := by show rdOb _ _ _ = _; rw [← hY3]; simp
        have hMa3 : MvO Y3 a g left [] := by rw [← hY3]; exact hMa2.app _
        have hMb3 : MvO Y3 b (h + 1) (out ++ [left[i]]) [] := by rw [← hY3]; exact p3.app _
        have haY := hMa2.lt
        have hbY := p3.lt
        have hle := hi
        obtain ⟨wa, s1, ra, s2, s3⟩ := hMa3.row.slice (l := 0) (m := i) (Nat.zero_le _) (by omega)
        have s4 := s2 rfl
        simp only [List.drop_zero, Nat.sub_zero] at ra
        have src1 := arms_src ra
        have hli : (left.take i).length = i := by simp; omega
        rw [hli] at src1
        obtain ⟨g4, Y4, a1, a2, a3⟩ := appM hN3 (by simp) (left.take i) (by simp; omega)
        rw [hli] at a1
        simp only [List.length_nil, Nat.zero_add, List.nil_append] at a1 a3
        have hMa4 := hMa3.but a2 (by omega)
        have hMb4 := hMb3.but a2 (by omega)
        obtain ⟨wb, t1, rb, t2, t3⟩ := hMa4.row.slice (l := i + 1) (m := left.length) (by omega) (Nat.le_refl _)
        have t4 := t3 rfl
        rw [List.take_of_length_le (by simp)] at rb
        have src2 := arms_src rb
        have hld : (left.drop (i + 1)).length = left.length - (i + 1) := by simp
        rw [hld] at src2
        obtain ⟨g5, Y5, b1, b2, b3⟩ := appM a3 (by simp; omega) (left.drop (i + 1)) (by simp; omega)
        rw [hld, hli] at b1
        rw [← erase_split hi] at b3
        have hel : i + (left.length - (i + 1)) = (left.eraseIdx i).length := by rw [List.length_eraseIdx, if_pos hi]; omega
        rw [hel] at b1
        have hcast : ((i + 1 : Nat) : Int) = (i : Int) + 1 := by omega
        rw [hcast] at t4
        have hMa5 := hMa4.but b2 (by omega)
        have hnn : ¬ ((i : Int) < 0) := by omega
        have hs0 : srcOf (Y ++ [(⟨[.i left[i].fr, .i left[i].v], 0, true, 2⟩ : Ob)]) 2 (.sl Y.length 0 0 1) = some (1, [.i left[i].fr, .i left[i].v]) := by simp [srcOf]
        have o2 : rdOb Y2 a g = some ⟨edC left ++ [], g, true, 2⟩ := hMa2
        have o3 : rdOb Y3 a g = some ⟨edC left ++ [], g, true, 2⟩ := hMa3
        have o4 : rdOb Y4 a g = some ⟨edC left ++ [], g, true, 2⟩ := hMa4
        have o5 : rdOb Y5 a g = some ⟨edC left ++ [], g, true, 2⟩ := hMa5
        generalize edC left ++ [] = cl at o2 o3 o4 o5
        simp [e1, e5, e7, hpos, hpos', hfm, hfi, hnn, idxOf, hi, r1, hs0, putD0, p1, hY3, s4, src1, a1, t4, src2, b1, o2, o3, o4, o5, sameAt, up1 hi (show left.length ≤ BIG by simp only [BIG]; omega)]
        have lo4 : Low H.length Y2 Y5 := ((show Low H.length Y2 Y3 by rw [← hY3]; exact Low.app _ _ _).trans (a2.low (by omega))).trans (b2.low (by omega))
        exact ⟨f', by omega, (hI _ _).2 ⟨left.eraseIdx i, out ++ [left[i]], Y2.length, g5, b, h + 1, (hL.trans (p2.low hbH)).trans lo4, b3, hMb4.but b2 (by omega), by omega, hbH, by omega, good_erase hG i, by have := mu_erase hi; omega, by rw [List.length_eraseIdx, if_pos hi]; omega, by simp; omega, hseq', by simp [e1]⟩⟩
      · have hfr1 : findI (frB left) left < 0 := by omega
        obtain ⟨m0, hm0⟩ : ∃ m0, left[0] = m0 := ⟨_, rfl⟩
        have hgd : left.getD 0 ⟨0, 0⟩ = m0 := by rw [getD_idx hpos', hm0]
        have hmt := mu_turn hG hpos' hfr1
        have hseq' : seqF n f' (left.map (turnM n m0.fr)) (out ++ [⟨n, m0.fr⟩]) = F := by
          rw [← hseq]
          conv => rhs; unfold seqF
          rw [if_neg h0, if_neg hfr0, hgd]
        rw [hgd] at hmt
        obtain ⟨r1, r2, r3⟩ := hMa.at hpos'
        rw [hm0] at r2
        rw [Nat.zero_mul] at r2
        obtain ⟨p1, p2, p3⟩ := hMb.push (by omega) ⟨n, m0.fr⟩
        simp only at p1 p2 p3
        obtain ⟨Y2, hY2⟩ : ∃ Y2, (Y ++ [(⟨[.i n, .i m0.fr], 0, true, 2⟩ : Ob)]).set b ⟨edC (out ++ [⟨n, m0.fr⟩]), h + 1, true, 2⟩ = Y2 := ⟨_, rfl⟩
        rw [hY2] at p1 p2 p3
        have hMa2 := hMa.but p2 hab
        simp [e1, e5, e7, hpos, hpos', hfm, hfr1, idxOf, r2, srcOf, putL0, putL1, putD0, p1]
        obtain ⟨T, hT⟩ : ∃ T : Nat → St → Prop, ∀ j st, T j st ↔ (But a Y2 st.h ∧ MvO st.h a g (turnTo n m0.fr left j) [] ∧ Env.get st.e 1 = .c (.i n) ∧ Env.get st.e 5 = .c (.sl a g 0 left.length) ∧ Env.get st.e 7 = .c (.sl b (h + 1) 0 (out.length + 1)) ∧ Env.get st.e 9 = .c (.i m0.fr) ∧ Env.get st.e 10 = .c (.i j)) := ⟨_, fun _ _ => Iff.rfl⟩
        refine wp_for CM_mono left.length T ((hT _ _).2 ⟨But.refl _ _, hMa2, by simp [e1, e5]⟩) ?_ ?_
        · rintro j ⟨e', W⟩ hj hTs
          obtain ⟨hBW, hMW, e1, e5, e7, e9, e10⟩ := (hT _ _).1 hTs
          simp only at hBW hMW e1 e5 e7 e9 e10 ⊢
          obtain ⟨s1, s2, s3⟩ := hMW.at (k := j) (by rw [turnTo_len]; exact hj)
          rw [turnTo_at hj] at s1 s2 s3
          have hltW := hMW.lt
          unfold vf127b1
          by_cases hv : left[j].v = m0.fr
          · obtain ⟨q1, q2⟩ := mv_putv (ms := turnTo n m0.fr left j) (rest := []) (k := j) (by rw [turnTo_len]; exact hj) n
            rw [turnTo_at hj] at q1
            have hset : (turnTo n m0.fr left j).set j ⟨left[j].fr, n⟩ = turnTo n m0.fr left (j + 1) := by rw [turnTo_succ hj]; unfold turnM; rw [if_pos hv]
            rw [hset] at q1
            have hMo : rdOb W a g = some ⟨edC (turnTo n m0.fr left j) ++ [], g, true, 2⟩ := hMW
            generalize hcs : edC (turnTo n m0.fr left j) ++ [] = cs at q1 q2 hMo
            rw [hv] at s3
            simp [e1, e5, e7, e9, e10, hj, idxOf, s3, hMo, q1, q2, up1 hj (show left.length ≤ BIG by simp only [BIG]; omega)]
            exact (hT _ _).2 ⟨hBW.trans (But.set _ _ _), by show rdOb (W.set a _) a g = _; rw [rdOb_set_self hltW]; simp, by simp [e1, e5, e7, e9]⟩
          · have hsame := turnTo_same (n := n) hj hv
            simp [e1, e5, e7, e9, e10, hj, idxOf, s3, hv, up1 hj (show left.length ≤ BIG by simp only [BIG]; omega)]
            exact (hT _ _).2 ⟨hBW, by rw [hsame]; exact hMW, by simp [e1, e5, e7, e9]⟩
        · rintro ⟨e', W⟩ hTs
          obtain ⟨hBW, hMW, e1, e5, e7, e9, e10⟩ := (hT _ _).1 hTs
          simp only at hBW hMW e1 e5 e7 e9 e10 ⊢
          rw [turnTo_all] at hMW
          unfold vf127b1
          simp [e1, e5, e7, e9, e10]
          exact ⟨f', by omega, (hI _ _).2 ⟨left.map (turnM n m0.fr), out ++ [⟨n, m0.fr⟩], a, g, b, h + 1, (hL.trans (p2.low hbH)).trans (hBW.low haH), hMW, p3.but hBW (Ne.symm hab), haH, hbH, hab, good_turn hG, by omega, by simpa using hll, by simp; omega, hseq', by simp [e1, e5, e7]⟩⟩
end Go.Proofs.YtgdfgnppeekfjaaGreat.Vm
end
section
/- In which order copies may go: exactly. No conditions. -/
namespace Go.Proofs.YtgdfgnppeekfjaaGreat.Vm
open Go.RowKit (wrap64)
set_option linter.unusedSimpArgs false
set_option linter.unusedVariables false
def OwnG (lo : Nat) (Z : Hp) (w : CV) (xs : List ArmR) : Prop := (w = .ns ∧ xs = []) ∨ ∃ b g, w = .sl b g 0 xs.length ∧ lo ≤ b ∧ MvO Z b g xs []
theorem OwnG.row {lo : Nat} {Z : Hp} {w : CV} {xs : List ArmR} (h : OwnG lo Z w xs) : Arms Z w xs := by
  rcases h with ⟨rfl, rfl⟩ | ⟨b, g, rfl, _, h⟩
  · exact Row.ns
  · exact h.row
theorem OwnG.keep {lo : Nat} {Y Z : Hp} {w : CV} {xs : List ArmR} (h : OwnG lo Y w xs) (hk : ∀ id g o, lo ≤ id → rdOb Y id g = some o → rdOb Z id g = some o) : OwnG lo Z w xs := by
  rcases h with h | ⟨b, g, h1, h2, h3⟩
  · exact .inl h
  · exact .inr ⟨b, g, h1, h2, hk _ _ _ h2 h3⟩
end Go.Proofs.YtgdfgnppeekfjaaGreat.Vm
end
section
/- Programs lowered. Plain. No conditions. -/
namespace Go.Proofs.YtgdfgnppeekfjaaGreat.Vm
set_option linter.unusedSimpArgs false
set_option linter.unusedVariables false
def mvsOf (b d : Int) (xs : List ArmR) : List ArmR := (xs.filter fun a => decide (a.fr = b)).map fun a => ⟨d, a.v⟩
def mvsP (b : Int) (ps : List PhiR) : List ArmR := ps.flatMap fun p => mvsOf b p.d p.arms
def seqL (n : Int) (ms : List ArmR) : List ArmR := seqF n 60 (leftM idM ms ms.length) []
def cpI (m : ArmR) : InsR := ⟨25, m.fr, m.v, 0, 0⟩
def lowerL (f : FnR) (b : Nat) : List InsR := if (succsAt f.blocks b).length = 1 then (seqL f.values (mvsP b (f.blocks.getD ((succsAt f.blocks b).getD 0 0).toNat blk0).phis)).map cpI else []
def lowerB (f : FnR) (b : Nat) : BlkR := ⟨[], (f.blocks.getD b blk0).list ++ lowerL f b, (f.blocks.getD b blk0).term⟩
def lowerTo (f : FnR) (i : Nat) : List BlkR := (List.range i).map (lowerB f) ++ f.blocks.drop i
def lowerF (f : FnR) : FnR := ⟨lowerTo f f.blocks.length, f.values + 1⟩
def LowerC (f : FnR) : Prop := checkF f = 0 ∧ (crit0 f).length = 0 ∧ shapeB (lowerF f) = true
noncomputable instance : DecidablePred LowerC := fun _ => Classical.propDecidable _
noncomputable def lower0 (f : FnR) : FnR := if LowerC f then lowerF f else ⟨[], 0⟩
noncomputable def lowerOk (f : FnR) : Bool := pB (LowerC f)
theorem lowerTo_len (f : FnR) (i : Nat) (hi : i ≤ f.blocks.length) : (lowerTo f i).length = f.blocks.length := by
  unfold lowerTo; simp; omega
theorem lowerTo_at (f : FnR) (i : Nat) (hi : i < f.blocks.length) : (lowerTo f i)[i]'(by rw [lowerTo_len f i (by omega)]; exact hi) = f.blocks[i] := by
  unfold lowerTo
  rw [List.getElem_append_right (by simp)]
  simp
theorem lowerTo_succ (f : FnR) (i : Nat) (hi : i < f.blocks.length) : (lowerTo f i).set i (lowerB f i) = lowerTo f (i + 1) := by
  unfold lowerTo
  rw [List.set_append_right _ _ (by simp), List.range_succ, List.map_append, List.append_assoc]
  congr 1
  rw [List.length_map, List.length_range, Nat.sub_self, List.drop_eq_getElem_cons hi]
  rfl
theorem lower0_le {f : FnR} (hb : f.blocks.length ≤ BIG) : (lower0 f).blocks.length ≤ BIG := by
  unfold lower0
  split
  · unfold lowerF; simp only; rw [lowerTo_len f _ (Nat.le_refl _)]; exact hb
  · simp
theorem seqF_len (n : Int) : ∀ (k : Nat) (left out : List ArmR), (seqF n k left out).length ≤ out.length + k := by
  intro k
  induction k with
  | zero => intro left out; exact Nat.le_refl _
  | succ k ih =>
    intro left out
    unfold seqF
    split
    · omega
    · split
      · refine Nat.le_trans (ih _ _) ?_; simp; omega
      · refine Nat.le_trans (ih _ _) ?_; simp; omega
theorem seqL_len (n : Int) (ms : List ArmR) : (seqL n ms).length ≤ 60 := by
  have := seqF_len n 60 (leftM idM ms ms.length) []
  unfold seqL; simpa using this
theorem mvsOf_nil {b d : Int} {xs : List ArmR} (h : ∀ a ∈ xs, a.fr ≠ b) : mvsOf b d xs = [] := by
  unfold mvsOf
  rw [List.filter_eq_nil_iff.2 (fun a ha => by simpa using h a ha)]; rfl
theorem mvsOf_one {b d : Int} : ∀ {xs : List ArmR}, (∀ i j (hi : i < xs.length) (hj : j < xs.length), i < j → xs[i].fr ≠ xs[j].fr) → mvsOf b d xs = [] ∨ ∃ a ∈ xs, a.fr = b ∧ mvsOf b d xs = [⟨d, a.v⟩] := by
  intro xs
  induction xs with
  | nil => intro _; exact .inl rfl
  | cons a r ih =>
    intro h
    by_cases ha : a.fr = b
    · refine .inr ⟨a, by simp, ha, ?_⟩
      have hr : mvsOf b d r = [] := mvsOf_nil fun c hc e => by
        obtain ⟨j, hj, rfl⟩ := List.getElem_of_mem hc
        exact h 0 (j + 1) (by simp) (by simpa using hj) (by omega) (by simpa using ha.trans e.symm)
      unfold mvsOf at hr ⊢
      rw [List.filter_cons, if_pos (by simpa using ha), List.map_cons, hr]
    · have e : mvsOf b d (a :: r) = mvsOf b d r := by
        unfold mvsOf
        rw [List.filter_cons, if_neg (by simpa using ha)]
      rw [e]
      rcases ih (fun i j hi hj hij => by have := h (i + 1) (j + 1) (by simpa using hi) (by simpa using hj) (by omega); simpa using this) with h1 | ⟨c, hc, h1⟩
      · exact .inl h1
      · exact .inr ⟨c, by simp [hc], h1⟩
theorem arms_once {f : FnR} (hsh : shapeB f = true) {b : BlkR} (hb : b ∈ f.blocks) {p : PhiR} (hp : p ∈ b.phis) : ∀ i j (hi : i < p.arms.length) (hj : j < p.arms.length), i < j → p.arms[i].fr ≠ p.arms[j].fr := by
  intro i j hi hj hij e
  have h1 := shape_phi hsh hb hp
  unfold phiB at h1
  simp only [Bool.and_eq_true] at h1
  have h2 := h1.2
  unfold armsB at h2
  rw [List.all_eq_true] at h2
  have h3 := h2 j (List.mem_range.2 hj)
  rw [armB_at hj] at h3
  simp only [Bool.and_eq_true, Bool.not_eq_true', List.any_eq_false] at h3
  have := h3.2 p.arms[i] (List.mem_take_iff_getElem.2 ⟨i, by omega, rfl⟩)
  simp [e] at this
theorem mvs_sub {f : FnR} (hsh : shapeB f = true) {b : BlkR} (hb : b ∈ f.blocks) (u : Int) : ∀ ps : List PhiR, (∀ p ∈ ps, p ∈ b.phis) → ((mvsP u ps).map (·.fr)).Sublist (ps.map (·.d)) ∧ ∀ m ∈ mvsP u ps, ∃ p ∈ ps, ∃ a ∈ p.arms, a.fr = u ∧ m = ⟨p.d, a.v⟩ := by
  intro ps
  induction ps with
  | nil => intro _; exact ⟨List.Sublist.refl _, fun m hm => by simp [mvsP] at hm⟩
  | cons p r ih =>
    intro h
    obtain ⟨h1, h2⟩ := ih fun q hq => h q (by simp [hq])
    have e : mvsP u (p :: r) = mvsOf u p.d p.arms ++ mvsP u r := rfl
    rw [e]
    rcases mvsOf_one (b := u) (d := p.d) (arms_once hsh hb (h p (by simp))) with h3 | ⟨a, ha, hau, h3⟩
    · rw [h3]
      exact ⟨List.Sublist.cons _ h1, fun m hm => by
        obtain ⟨q, hq, x⟩ := h2 m (by simpa using hm)
        exact ⟨q, by simp [hq], x⟩⟩
    · rw [h3]
      refine ⟨List.Sublist.cons_cons _ h1, fun m hm => ?_⟩
      rcases List.mem_append.1 hm with hm | hm
      · exact ⟨p, by simp, a, ha, hau, by simpa using hm⟩
      · obtain ⟨q, hq, x⟩ := h2 m hm
        exact ⟨q, by simp [hq], x⟩
theorem val_in {v m : Int} (h : valB v m = true) : 0 ≤ v ∧ v < m := by
  obtain ⟨k, hk, h2⟩ := val_nat h
  omega
theorem moves_ok {f : FnR} (hsh : shapeB f = true) (ho : Once f.blocks) {b : BlkR} (hb : b ∈ f.blocks) (u : Int) : movesB f.values (mvsP u b.phis) = true ∧ (mvsP u b.phis).length ≤ 24 := by
  obtain ⟨h1, h2⟩ := mvs_sub hsh hb u b.phis fun _ h => h
  have hl : (mvsP u b.phis).length ≤ 24 := by
    have h3 := h1.length_le
    simp only [List.length_map] at h3
    have h4 := hsh
    unfold shapeB at h4
    simp only [Bool.and_eq_true, List.all_eq_true] at h4
    have h5 := h4.2 b hb
    unfold blkB at h5
    simp only [Bool.and_eq_true, decide_eq_true_eq] at h5
    omega
  have hnd : ((mvsP u b.phis).map (·.fr)).Nodup := by
    refine h1.nodup ?_
    rw [List.nodup_iff_count]
    intro v
    have := once_in ho hb v
    omega
  refine ⟨?_, hl⟩
  unfold movesB
  rw [Bool.and_eq_true, decide_eq_true_eq]
  refine ⟨mvsB_true fun j hj => ?_, hl⟩
  rw [mvB_at hj]
  obtain ⟨p, hp, a, ha, _, hm⟩ := h2 _ (List.getElem_mem hj)
  have hpv := phi_vals (shape_phi hsh hb hp)
  obtain ⟨i, hi, rfl⟩ := List.getElem_of_mem ha
  have hd := val_in hpv.1
  have hv := val_in (hpv.2.2 i hi).2
  simp only [Bool.and_eq_true, decide_eq_true_eq, Bool.not_eq_true', List.any_eq_false]
  have ef : ((mvsP u b.phis)[j]).fr = p.d := by rw [hm]
  have ev : ((mvsP u b.phis)[j]).v = p.arms[i].v := by rw [hm]
  refine ⟨⟨⟨⟨by rw [ef]; exact hd.1, by rw [ef]; exact hd.2⟩, by rw [ev]; exact hv.1⟩, by rw [ev]; exact hv.2⟩, fun x hx => ?_⟩
  obtain ⟨l, hl', rfl⟩ := List.mem_take_iff_getElem.1 hx
  intro e
  have hne := List.pairwise_iff_getElem.1 hnd l j (by simp; omega) (by simpa using hj) (by omega)
  exact hne (by simpa using e)
end Go.Proofs.YtgdfgnppeekfjaaGreat.Vm
end
section
/- The copies of an edge. No conditions. -/
namespace Go.Proofs.YtgdfgnppeekfjaaGreat.Vm
open Go.RowKit (wrap64)
set_option linter.unusedSimpArgs false
set_option linter.unusedVariables false
theorem mvsP_succ {b : Int} {ps : List PhiR} {i : Nat} (hi : i < ps.length) : mvsP b (ps.take (i + 1)) = mvsP b (ps.take i) ++ mvsOf b ps[i].d ps[i].arms := by
  unfold mvsP
  rw [List.take_succ_eq_append_getElem hi, List.flatMap_append]
  simp
theorem mvsOf_succ {b d : Int} {xs : List ArmR} {i : Nat} (hi : i < xs.length) : mvsOf b d (xs.take (i + 1)) = mvsOf b d (xs.take i) ++ (if xs[i].fr = b then [⟨d, xs[i].v⟩] else []) := by
  unfold mvsOf
  rw [List.take_succ_eq_append_getElem hi, List.filter_append, List.map_append]
  congr 1
  by_cases h : xs[i].fr = b <;> simp [h]
theorem mvs_le {b : Int} {ps : List PhiR} {i j : Nat} (hi : i < ps.length) : (mvsP b (ps.take i) ++ mvsOf b ps[i].d (ps[i].arms.take j)).length ≤ (mvsP b ps).length := by
  have h1 : (mvsP b ps).length = (mvsP b (ps.take (i + 1))).length + (mvsP b (ps.drop (i + 1))).length := by
    unfold mvsP
    rw [← List.length_append, ← List.flatMap_append, List.take_append_drop]
  rw [mvsP_succ hi, List.length_append] at h1
  have h2 : (mvsOf b ps[i].d (ps[i].arms.take j)).length ≤ (mvsOf b ps[i].d ps[i].arms).length := by
    unfold mvsOf
    rw [List.length_map, List.length_map]
    exact ((List.take_sublist j ps[i].arms).filter _).length_le
  rw [List.length_append]
  omega
set_option maxRecDepth 100000 in
theorem implMvs {H : Hp} {z : CV} {ps : List PhiR} {b : Int} (hz : Phis H z ps) (hb : ps.length ≤ BIG) (hl : (mvsP b ps).length ≤ 24) (k : IV × Hp → Prop) :
    CM 130 [.c z, .c (.i b)] H k = k (.c (.sl H.length 0 0 (mvsP b ps).length), H ++ [⟨edC (mvsP b ps), 0, true, 2⟩]) := by
  refine det (cw130 ?_) k
  unfold vf130c
  simp [hz.lenOf]
  obtain ⟨I, hI⟩ : ∃ I : Nat → St → Prop, ∀ i s, I i s ↔ (∃ g, Low H.length H s.h ∧ MvO s.h H.length g (mvsP b (ps.take i)) [] ∧ Env.get s.e 1 = .c (.i b) ∧ Env.get s.e 5 = .c (.sl H.length g 0 (mvsP b (ps.take i)).length) ∧ Env.get s.e 11 = .c z ∧ Env.get s.e 12 = .c (.i ps.length) ∧ Env.get s.e 13 = .c (.i i)) := ⟨_, fun _ _ => Iff.rfl⟩
  refine wp_for CM_mono ps.length I ((hI _ ⟨_, _⟩).2 ⟨0, Low.app _ _ _, by show rdOb _ _ _ = _; simp [mvsP], by simp [mvsP]⟩) ?_ ?_
  · rintro i ⟨e, Y⟩ hi hIs
    obtain ⟨g, hL, hM, e1, e5, e11, e12, e13⟩ := (hI _ _).1 hIs
    simp only at hL hM e1 e5 e11 e12 e13 ⊢
    have hpY : Pre H Y := hL.pre (Pre.refl _) (Nat.le_refl _)
    obtain ⟨id1, g1, off1, wa, q1, _, q3, q4, q5, _, _⟩ := Phis.get hz hi
    have q2 : PhiAt Y id1 g1 off1 ps[i].d wa := by obtain ⟨L, rfl⟩ := id hpY; exact q3 L
    obtain ⟨p, hp⟩ : ∃ p, ps[i] = p := ⟨_, rfl⟩
    have hsucc := mvsP_succ (b := b) hi
    have hpre := fun j => Nat.le_trans (mvs_le (b := b) (j := j) hi) hl
    rw [hp] at q2 q4 q5 hsucc
    simp only [hp] at hpre
    obtain ⟨A, hA⟩ : ∃ A, mvsP b (ps.take i) = A := ⟨_, rfl⟩
    simp only [hA] at hpre
    rw [hA] at hM e5 hsucc
    obtain ⟨Y1, hY1⟩ : ∃ Y1, Y ++ [(⟨[.i p.d, wa], 0, true, 2⟩ : Ob)] = Y1 := ⟨_, rfl⟩
    have n1 : rdOb Y1 Y.length 0 = some ⟨[.i p.d, wa], 0, true, 2⟩ := by rw [← hY1]; simp
    have hM1 : MvO Y1 H.length g A [] := by rw [← hY1]; exact hM.app _
    have hlt := hM.lt
    have hL1 : Low H.length H Y1 := by rw [← hY1]; exact hL.trans (Low.app _ _ _)
    have hlw := q4.lenOf
    unfold vf130b1
    simp [e1, e5, e11, e12, e13, hi, q1, q2.2.2, putAt, hY1, rdN_ob n1, n1, rdC_ob n1, hlw]
    obtain ⟨J, hJ⟩ : ∃ J : Nat → St → Prop, ∀ j s, J j s ↔ (∃ g, Low H.length H s.h ∧ rdOb s.h Y.length 0 = some ⟨[.i p.d, wa], 0, true, 2⟩ ∧ MvO s.h H.length g (A ++ mvsOf b p.d (p.arms.take j)) [] ∧ Env.get s.e 1 = .c (.i b) ∧ Env.get s.e 5 = .c (.sl H.length g 0 (A ++ mvsOf b p.d (p.arms.take j)).length) ∧ Env.get s.e 7 = .c (.p Y.length 0 0) ∧ Env.get s.e 11 = .c z ∧ Env.get s.e 12 = .c (.i ps.length) ∧ Env.get s.e 13 = .c (.i i) ∧ Env.get s.e 18 = .c wa ∧ Env.get s.e 19 = .c (.i p.arms.length) ∧ Env.get s.e 20 = .c (.i j)) := ⟨_, fun _ _ => Iff.rfl⟩
    refine wp_for CM_mono p.arms.length J ((hJ _ ⟨_, _⟩).2 ⟨g, hL1, n1, by simpa [mvsOf] using hM1, by simp [mvsOf, e1, e5, e11, e12, e13]⟩) ?_ ?_
    · rintro j ⟨e, Z⟩ hj hJs
      obtain ⟨g2, hL2, n2, hM2, f1, f5, f7, f11, f12, f13, f18, f19, f20⟩ := (hJ _ _).1 hJs
      simp only at hL2 n2 hM2 f1 f5 f7 f11 f12 f13 f18 f19 f20 ⊢
      have hpZ : Pre H Z := hL2.pre (Pre.refl _) (Nat.le_refl _)
      have hwZ : Arms Z wa p.arms := Row.pre (fun _ _ => armP.pre) hpZ q4
      obtain ⟨id3, g3, off3, r1, r2, _, _, _⟩ := Arms.get hwZ hj
      have hso := mvsOf_succ (b := b) (d := p.d) hj
      have hlen := hpre j
      obtain ⟨a, ha⟩ : ∃ a, p.arms[j] = a := ⟨_, rfl⟩
      rw [ha] at r2 hso
      obtain ⟨C, hC⟩ : ∃ C, A ++ mvsOf b p.d (p.arms.take j) = C := ⟨_, rfl⟩
      have hCs : A ++ mvsOf b p.d (p.arms.take (j + 1)) = C ++ (if a.fr = b then [⟨p.d, a.v⟩] else []) := by rw [hso, ← List.append_assoc, hC]
      rw [hC] at hM2 f5 hlen
      obtain ⟨Z1, hZ1⟩ : ∃ Z1, Z ++ [(⟨[.i a.fr, .i a.v], 0, true, 2⟩ : Ob)] = Z1 := ⟨_, rfl⟩
      have m1 : rdOb Z1 Z.length 0 = some ⟨[.i a.fr, .i a.v], 0, true, 2⟩ := by rw [← hZ1]; simp
      have n3 : rdOb Z1 Y.length 0 = some ⟨[.i p.d, wa], 0, true, 2⟩ := by rw [← hZ1]; exact rdOb_app _ n2
      have hM3 : MvO Z1 H.length g2 C [] := by rw [← hZ1]; exact hM2.app _
      have hL3 : Low H.length H Z1 := by rw [← hZ1]; exact hL2.trans (Low.app _ _ _)
      have hltY : Y.length ≠ H.length := by omega
      unfold vf130b0
      by_cases hab : a.fr = b
      · rw [if_pos hab] at hCs
        rw [hab] at hZ1 m1
        obtain ⟨p1, p2, p3⟩ := hM3.push (by omega) ⟨p.d, a.v⟩
        obtain ⟨Z2, hZ2⟩ : ∃ Z2, Z1 ++ [(⟨[.i p.d, .i a.v], 0, true, 2⟩ : Ob)] = Z2 := ⟨_, rfl⟩
        have m2 : rdOb Z2 Z1.length 0 = some ⟨[.i p.d, .i a.v], 0, true, 2⟩ := by rw [← hZ2]; simp
        obtain ⟨Z3, hZ3⟩ : ∃ Z3, Z2.set H.length ⟨edC (C ++ [⟨p.d, a.v⟩]), g2 + 1, true, 2⟩ = Z3 := ⟨_, rfl⟩
        simp only [hZ2, hZ3] at p1 p2 p3
        simp [f1, f5, f7, f11, f12, f13, f18, f19, f20, hj, r1, r2.2.2, putAt, hZ1, rdN_ob m1, m1, rdC_ob m1, n3, rdC_ob n3, hab, hZ2, srcOf, m2, p1, up1 hj q5]
        refine (hJ _ ⟨_, _⟩).2 ⟨g2 + 1, hL3.trans (p2.low (Nat.le_refl _)), p2.2 _ _ _ hltY n3, by rw [hCs]; exact p3, ?_⟩
        rw [hCs]; simp
      · rw [if_neg hab, List.append_nil] at hCs
        simp [f1, f5, f7, f11, f12, f13, f18, f19, f20, hj, r1, r2.2.2, putAt, hZ1, rdN_ob m1, m1, rdC_ob m1, n3, rdC_ob n3, hab, up1 hj q5]
        refine (hJ _ ⟨_, _⟩).2 ⟨g2, hL3, n3, by rw [hCs]; exact hM3, ?_⟩
        rw [hCs]; simp
    · rintro ⟨e, Z⟩ hJs
      obtain ⟨g2, hL2, n2, hM2, f1, f5, f7, f11, f12, f13, f18, f19, f20⟩ := (hJ _ _).1 hJs
      simp only at hL2 n2 hM2 f1 f5 f7 f11 f12 f13 f18 f19 f20 ⊢
      rw [List.take_length, ← hsucc] at hM2 f5
      unfold vf130b0
      simp [f1, f5, f7, f11, f12, f13, f18, f19, f20, up1 hi hb]
      refine (hI _ ⟨_, _⟩).2 ⟨g2, hL2, hM2, ?_⟩
      simp
  · rintro ⟨e, Y⟩ hIs
    obtain ⟨g, hL, hM, e1, e5, e11, e12, e13⟩ := (hI _ _).1 hIs
    simp only at hL hM e1 e5 e11 e12 e13 ⊢
    rw [List.take_length] at hM e5
    unfold vf130b1
    simp [e1, e5, e11, e12, e13, putAt]
    have ho : rdOb Y H.length g = some ⟨edC (mvsP b ps) ++ [], g, true, 2⟩ := hM
    rw [gcRet_row (hL.pre (Pre.refl _) (Nat.le_refl _)) (Nat.le_refl _) ho rfl (by simpa using edC_flat _)]
    simp
set_option maxRecDepth 100000 in
theorem specMvs {H : Hp} {v : CV} {bs : List BlkR} {m b : Int} {d : Nat} (hv : Blocks H v bs) (hd : d < bs.length) (hl : (mvsP b bs[d].phis).length ≤ 24) (k : IV × Hp → Prop) :
    CM 128 [.agg [v, .i m], .c (.i b), .c (.i d)] H k = k (.c (.sl H.length 0 0 (mvsP b bs[d].phis).length), H ++ [⟨edC (mvsP b bs[d].phis), 0, true, 2⟩]) := by
  refine det (cw128 ?_) k
  unfold vf128c
  obtain ⟨bid, bg, boff, z, u, x1, _, x3, hz, _, hb, _, _, _⟩ := hv.get hd
  obtain ⟨ps, hps⟩ : ∃ ps, bs[d].phis = ps := ⟨_, rfl⟩
  rw [hps] at hz hb hl ⊢
  simp
  obtain ⟨I, hI⟩ : ∃ I : Nat → St → Prop, ∀ i s, I i s ↔ (∃ g, Low (H.length + 1) (H ++ [⟨[v, .i m], 0, true, 2⟩]) s.h ∧ MvO s.h (H.length + 1) g (mvsP b (ps.take i)) [] ∧ Env.get s.e 1 = .c (.i b) ∧ Env.get s.e 2 = .c (.i d) ∧ Env.get s.e 3 = .c (.p H.length 0 0) ∧ Env.get s.e 7 = .c (.sl (H.length + 1) g 0 (mvsP b (ps.take i)).length) ∧ Env.get s.e 8 = .c (.i i)) := ⟨_, fun _ _ => Iff.rfl⟩
  refine wp_for CM_mono ps.length I ((hI _ ⟨_, _⟩).2 ⟨0, ?_, ?_, ?_⟩) ?_ ?_
  · have := Low.app (H.length + 1) (H ++ [(⟨[v, .i m], 0, true, 2⟩ : Ob)]) [⟨[], 0, true, 2⟩]
    simpa using this
  · show rdOb _ _ _ = _; simp [mvsP]
  · simp [mvsP]
  · rintro i ⟨e, Y⟩ hi hIs
    obtain ⟨g, hL, hM, e1, e2, e3, e7, e8⟩ := (hI _ _).1 hIs
    simp only at hL hM e1 e2 e3 e7 e8 ⊢
    have hpY : Pre H Y := hL.pre ⟨_, rfl⟩ (by omega)
    have hB : rdOb Y H.length 0 = some ⟨[v, .i m], 0, true, 2⟩ := hL _ _ _ (by omega) (by simp)
    have x2 : BlkAt Y bid bg boff z u bs[d].term := by obtain ⟨L, rfl⟩ := id hpY; exact x3 L
    obtain ⟨id1, g1, off1, wa, q1, _, q3, q4, q5, _, _⟩ := Phis.get hz hi
    have q2 : PhiAt Y id1 g1 off1 ps[i].d wa := by obtain ⟨L, rfl⟩ := id hpY; exact q3 L
    obtain ⟨p, hp⟩ : ∃ p, ps[i] = p := ⟨_, rfl⟩
    have hsucc := mvsP_succ (b := b) hi
    have hpre := fun j => Nat.le_trans (mvs_le (b := b) (j := j) hi) hl
    rw [hp] at q2 q4 q5 hsucc
    simp only [hp] at hpre
    obtain ⟨A, hA⟩ : ∃ A, mvsP b (ps.take i) = A := ⟨_, rfl⟩
    simp only [hA] at hpre
    rw [hA] at hM e7 hsucc
    obtain ⟨Y1, hY1⟩ : ∃ Y1, Y ++ [(⟨[.i p.d, wa], 0, true, 2⟩ : Ob)] = Y1 := ⟨_, rfl⟩
    have n1 : rdOb Y1 Y.length 0 = some ⟨[.i p.d, wa], 0, true, 2⟩ := by rw [← hY1]; simp
    have hM1 : MvO Y1 (H.length + 1) g A [] := by rw [← hY1]; exact hM.app _
    have hlt := hM.lt
    have hL1 : Low (H.length + 1) (H ++ [⟨[v, .i m], 0, true, 2⟩]) Y1 := by rw [← hY1]; exact hL.trans (Low.app _ _ _)
    have hlw := q4.lenOf
    have hlz := hz.lenOf
    have x2' : rdC Y bid bg boff = some z := x2.1
    unfold vf128b1
    simp [e1, e2, e3, e7, e8, hi, rdC_ob hB, x1, x2', hlz, q1, q2.2.2, putAt, hY1, rdN_ob n1, n1, rdC_ob n1]
    obtain ⟨J, hJ⟩ : ∃ J : Nat → St → Prop, ∀ j s, J j s ↔ (∃ g, Low (H.length + 1) (H ++ [⟨[v, .i m], 0, true, 2⟩]) s.h ∧ rdOb s.h Y.length 0 = some ⟨[.i p.d, wa], 0, true, 2⟩ ∧ MvO s.h (H.length + 1) g (A ++ mvsOf b p.d (p.arms.take j)) [] ∧ Env.get s.e 1 = .c (.i b) ∧ Env.get s.e 2 = .c (.i d) ∧ Env.get s.e 3 = .c (.p H.length 0 0) ∧ Env.get s.e 7 = .c (.sl (H.length + 1) g 0 (A ++ mvsOf b p.d (p.arms.take j)).length) ∧ Env.get s.e 8 = .c (.i i) ∧ Env.get s.e 9 = .c (.p Y.length 0 0) ∧ Env.get s.e 10 = .c (.i j)) := ⟨_, fun _ _ => Iff.rfl⟩
    refine wp_for CM_mono p.arms.length J ((hJ _ ⟨_, _⟩).2 ⟨g, hL1, n1, by simpa [mvsOf] using hM1, by simp [mvsOf, e1, e2, e3, e7, e8]⟩) ?_ ?_
    · rintro j ⟨e, Z⟩ hj hJs
      obtain ⟨g2, hL2, n2, hM2, f1, f2, f3, f7, f8, f9, f10⟩ := (hJ _ _).1 hJs
      simp only at hL2 n2 hM2 f1 f2 f3 f7 f8 f9 f10 ⊢
      have hpZ : Pre H Z := hL2.pre ⟨_, rfl⟩ (by omega)
      have hwZ : Arms Z wa p.arms := Row.pre (fun _ _ => armP.pre) hpZ q4
      obtain ⟨id3, g3, off3, r1, r2, _, _, _⟩ := Arms.get hwZ hj
      have hso := mvsOf_succ (b := b) (d := p.d) hj
      have hlen := hpre j
      obtain ⟨a, ha⟩ : ∃ a, p.arms[j] = a := ⟨_, rfl⟩
      rw [ha] at r2 hso
      obtain ⟨C, hC⟩ : ∃ C, A ++ mvsOf b p.d (p.arms.take j) = C := ⟨_, rfl⟩
      have hCs : A ++ mvsOf b p.d (p.arms.take (j + 1)) = C ++ (if a.fr = b then [⟨p.d, a.v⟩] else []) := by rw [hso, ← List.append_assoc, hC]
      rw [hC] at hM2 f7 hlen
      have hltY : Y.length ≠ H.length + 1 := by omega
      unfold vf128b0
      by_cases hab : a.fr = b
      · rw [if_pos hab] at hCs
        obtain ⟨p1, p2, p3⟩ := hM2.push (by omega) ⟨p.d, a.v⟩
        obtain ⟨Z2, hZ2⟩ : ∃ Z2, Z ++ [(⟨[.i p.d, .i a.v], 0, true, 2⟩ : Ob)] = Z2 := ⟨_, rfl⟩
        have m2 : rdOb Z2 Z.length 0 = some ⟨[.i p.d, .i a.v], 0, true, 2⟩ := by rw [← hZ2]; simp
        obtain ⟨Z3, hZ3⟩ : ∃ Z3, Z2.set (H.length + 1) ⟨edC (C ++ [⟨p.d, a.v⟩]), g2 + 1, true, 2⟩ = Z3 := ⟨_, rfl⟩
        simp only [hZ2, hZ3] at p1 p2 p3
        simp [f1, f2, f3, f7, f8, f9, f10, hj, hlw, r1, r2.1, r2.2.1, n2, rdC_ob n2, hab, putAt, hZ2, srcOf, m2, p1, up1 hj q5]
        refine (hJ _ ⟨_, _⟩).2 ⟨g2 + 1, hL2.trans (p2.low (Nat.le_refl _)), p2.2 _ _ _ hltY n2, by rw [hCs]; exact p3, ?_⟩
        rw [hCs]; simp
      · rw [if_neg hab, List.append_nil] at hCs
        simp [f1, f2, f3, f7, f8, f9, f10, hj, hlw, r1, r2.1, r2.2.1, n2, rdC_ob n2, hab, up1 hj q5]
        refine (hJ _ ⟨_, _⟩).2 ⟨g2, hL2, n2, by rw [hCs]; exact hM2, ?_⟩
        rw [hCs]; simp
    · rintro ⟨e, Z⟩ hJs
      obtain ⟨g2, hL2, n2, hM2, f1, f2, f3, f7, f8, f9, f10⟩ := (hJ _ _).1 hJs
      simp only at hL2 n2 hM2 f1 f2 f3 f7 f8 f9 f10 ⊢
      rw [List.take_length, ← hsucc] at hM2 f7
      unfold vf128b0
      simp [f1, f2, f3, f7, f8, f9, f10, hlw, n2, rdC_ob n2, up1 hi hb]
      refine (hI _ ⟨_, _⟩).2 ⟨g2, hL2, hM2, ?_⟩
      simp
  · rintro ⟨e, Y⟩ hIs
    obtain ⟨g, hL, hM, e1, e2, e3, e7, e8⟩ := (hI _ _).1 hIs
    simp only at hL hM e1 e2 e3 e7 e8 ⊢
    rw [List.take_length] at hM e7
    have hpY : Pre H Y := hL.pre ⟨_, rfl⟩ (by omega)
    have hB : rdOb Y H.length 0 = some ⟨[v, .i m], 0, true, 2⟩ := hL _ _ _ (by omega) (by simp)
    have x2 : BlkAt Y bid bg boff z u bs[d].term := by obtain ⟨L, rfl⟩ := id hpY; exact x3 L
    have hlz := hz.lenOf
    have x2' : rdC Y bid bg boff = some z := x2.1
    unfold vf128b1
    simp [e1, e2, e3, e7, e8, rdC_ob hB, x1, x2', hlz]
    have ho : rdOb Y (H.length + 1) g = some ⟨edC (mvsP b ps) ++ [], g, true, 2⟩ := hM
    rw [gcRet_row hpY (by omega) ho rfl (by simpa using edC_flat _)]
    simp
end Go.Proofs.YtgdfgnppeekfjaaGreat.Vm
end
section
/- Programs lowered: a block's phis dropped, a copy put behind. No conditions. -/
namespace Go.Proofs.YtgdfgnppeekfjaaGreat.Vm
open Go.RowKit (wrap64)
set_option linter.unusedSimpArgs false
set_option linter.unusedVariables false
theorem SplitH.dry {N o3 : Nat} {E : Nat → Prop} {m : Int} {X0 Y : Hp} {w : CV} {bs : List BlkR} {b : Nat} (h : SplitH N o3 E m X0 Y w bs) (hN : N ≤ o3) (hb : b < bs.length) :
    ∃ id g cells Y2, idxOf 6 w (b : Int) = some (.p id g (b * 6)) ∧ rdOb Y id g = some ⟨cells, g, true, 6⟩ ∧ b * 6 + 1 ≤ cells.length ∧ Y.set id ⟨putAt cells (b * 6) [.ns], g, true, 6⟩ = Y2 ∧
      SplitH N o3 E m X0 Y2 w (bs.set b ⟨[], bs[b].list, bs[b].term⟩) ∧ Y2.length = Y.length := by
  obtain ⟨id, g, cells, z, u, Gz, q1, q2, q3, q4, q5, q6, q7, q8, q9, q10⟩ := h.tree.phisH hb
  obtain ⟨_, s2⟩ := q10 Y [] .ns (fun _ => False) (Nat.le_refl _) (Frm.refl _ _) FRow.ns (fun _ h => h.elim) (by simp)
  refine ⟨id, g, cells, _, q1, q2, by omega, rfl, ?_, by simp⟩
  exact h.to hN s2 (Frm.set _ _ (fun hn => hn.2 q8)) (by simp)
theorem SplitH.cat {N o3 : Nat} {E : Nat → Prop} {m : Int} {X0 Y : Hp} {w : CV} {bs : List BlkR} {b : Nat} (h : SplitH N o3 E m X0 Y w bs) (hN : N ≤ o3) (hNY : N ≤ Y.length) (hE : ∀ j, E j → j < Y.length) (hb : b < bs.length) (hl : bs[b].list.length < BIG) (x : InsR) :
    ∃ id g cells u iz gz Y1 Y5 Y6, idxOf 6 w (b : Int) = some (.p id g (b * 6)) ∧ rdOb Y id g = some ⟨cells, g, true, 6⟩ ∧ rdC Y id g (b * 6 + 1) = some u ∧ b * 6 + 1 + 1 ≤ cells.length ∧ Y ++ [(⟨insC x, 0, true, 5⟩ : Ob)] = Y1 ∧ rdOb Y1 Y.length 0 = some ⟨insC x, 0, true, 5⟩ ∧ rdOb Y1 o3 0 = some ⟨[w, .i m], 0, true, 2⟩ ∧ rdC Y1 id g (b * 6 + 1) = some u ∧
      doApp Y1 5 u 1 (insC x) = some (.c (.sl iz gz 0 (bs[b].list.length + 1)), Y5) ∧ rdOb Y5 o3 0 = some ⟨[w, .i m], 0, true, 2⟩ ∧ rdOb Y5 id g = some ⟨cells, g, true, 6⟩ ∧ Y5.set id ⟨putAt cells (b * 6 + 1) [.sl iz gz 0 (bs[b].list.length + 1)], g, true, 6⟩ = Y6 ∧
      SplitH N o3 E m X0 Y6 w (bs.set b ⟨bs[b].phis, bs[b].list ++ [x], bs[b].term⟩) ∧ Y.length ≤ Y6.length := by
  obtain ⟨Y1, hY1⟩ : ∃ Y1, Y ++ [(⟨insC x, 0, true, 5⟩ : Ob)] = Y1 := ⟨_, rfl⟩
  have hp1 : Pre Y Y1 := ⟨_, hY1.symm⟩
  have l1 : Y1.length = Y.length + 1 := by rw [← hY1]; simp
  have n1 : rdOb Y1 Y.length 0 = some ⟨insC x, 0, true, 5⟩ := by rw [← hY1]; simp
  have hT1 : Tree (fun j => N ≤ j ∧ ¬ E j ∧ j ≠ o3) Y1 w bs := h.tree.fr blkF_st (Frm.pre hp1)
  obtain ⟨id, g, cells, z, u, Gu, r1, r2, r3, r4, r5, r6, r7, r8, r9, r10⟩ := hT1.listH hb
  have hO1 := hp1.rdOb h.out
  have hlo := rdOb_lt h.out
  obtain ⟨id0, g0, cells0, z0, u0, Gu0, t1, t2, t3, t4, t5, t6, t7, t8, t9, t10⟩ := h.tree.listH hb
  have ei : id0 = id ∧ g0 = g := by have e := t1.symm.trans r1; injection e with e; injection e with e1 e2; exact ⟨e1, e2⟩
  obtain ⟨rfl, rfl⟩ := ei
  have ec : cells0 = cells := by have e := (hp1.rdOb t2).symm.trans r2; injection e with e; injection e
  subst ec
  have eu : u0 = u := by have e := (rdC_to hp1 t5).symm.trans r5; injection e
  subst eu
  obtain ⟨iz, gz, Y5, happ, hR5, hf5, l5⟩ := r6.snoc insF_st (by omega) (by omega) (by omega) (cs := insC x) (x := x) (G := fun _ => False) rfl (fun Z hZ => rfl) (fun i hi => hi.elim)
  have o5 : rdOb Y5 o3 0 = some ⟨[w, .i m], 0, true, 2⟩ := hf5.ob (fun hg => (r7 _ hg).1.2.2 rfl) hO1
  obtain ⟨s1, s2⟩ := r10 Y5 _ (.sl iz gz 0 (bs[b].list.length + 1)) _ (by omega) (hf5.mono fun j hj => hj.2) hR5 (fun i hi => by
    rcases hi with hi | hi | hi
    · exact .inl hi
    · exact hi.elim
    · exact .inr ⟨by omega, ⟨by omega, fun he => by have := hE i he; omega, by omega⟩, by omega⟩) (by simp; omega)
  refine ⟨id0, g0, cells0, u0, iz, gz, Y1, Y5, _, r1, t2, t5, by omega, hY1, n1, hO1, r5, happ, o5, s1, rfl, ?_, by simp; omega⟩
  refine h.to hN s2 ?_ (by simp; omega)
  refine (Frm.pre hp1).trans ((hf5.mono fun i hi hg => hi.2 (r7 _ hg).1).trans ?_)
  exact Frm.set _ _ (fun hn => hn.2 r8)
end Go.Proofs.YtgdfgnppeekfjaaGreat.Vm
end
section
/- Programs lowered: the copies of an edge put behind. No conditions. -/
namespace Go.Proofs.YtgdfgnppeekfjaaGreat.Vm
open Go.RowKit (wrap64)
set_option linter.unusedSimpArgs false
set_option linter.unusedVariables false
theorem c50 (a b c d e x : CV) : putAt [a, b, c, d, e] 0 [x] = [x, b, c, d, e] := rfl
theorem c51 (a b c d e x : CV) : putAt [a, b, c, d, e] 1 [x] = [a, x, c, d, e] := rfl
theorem c52 (a b c d e x : CV) : putAt [a, b, c, d, e] 2 [x] = [a, b, x, d, e] := rfl
theorem c55 (a b c d e v w x y z : CV) : putAt [a, b, c, d, e] 0 [v, w, x, y, z] = [v, w, x, y, z] := rfl
set_option maxRecDepth 100000 in
theorem implCats {N o3 mb mg b n : Nat} {w : CV} {m : Int} {ms : List ArmR} {Y0 : Hp} {A D : List BlkR} {ls : List InsR} {t : TrmR} {e : Env} {Q : X × St → Prop} {x1 x2 x3 : IV}
    (h0 : SplitH N o3 (fun j => j = mb) m Y0 Y0 w (A ++ ⟨[], ls, t⟩ :: D)) (hM0 : MvO Y0 mb mg ms []) (hA : A.length = b) (hN : N ≤ o3) (hmb : N ≤ mb) (hmo : mb ≠ o3) (hls : ls.length ≤ 100) (hms : ms.length ≤ 100)
    (e1 : Env.get e 1 = x1) (e2 : Env.get e 2 = x2) (e3 : Env.get e 3 = x3) (e4 : Env.get e 4 = .c (.p o3 0 0)) (e5 : Env.get e 5 = .c (.i b)) (e29 : Env.get e 29 = .c (.i n)) (e30 : Env.get e 30 = .c (.i b))
    (e60 : Env.get e 60 = .c (.sl mb mg 0 ms.length)) (e61 : Env.get e 61 = .c (.i ms.length)) (e62 : Env.get e 62 = .c (.i 0))
    (hQ : ∀ (Y : Hp) (e' : Env), SplitH N o3 (fun j => j = mb) m Y0 Y w (A ++ ⟨[], ls ++ ms.map cpI, t⟩ :: D) →
      Env.get e' 1 = x1 → Env.get e' 2 = x2 → Env.get e' 3 = x3 → Env.get e' 4 = .c (.p o3 0 0) → Env.get e' 29 = .c (.i n) → Env.get e' 30 = .c (.i b) → Q (.exit 2, ⟨e', Y⟩)) :
    loopD (exW CM [0, 1, 2, 3, 4, 5, 6, 7, 10, 19, 29, 30, 31, 43, 60, 61, 62, 63, 88] vf59b0) ⟨e, Y0⟩ Q := by
  have hmlt := hM0.lt
  obtain ⟨I, hI⟩ : ∃ I : Nat → St → Prop, ∀ j s, I j s ↔ (SplitH N o3 (fun j => j = mb) m Y0 s.h w (A ++ ⟨[], ls ++ (ms.take j).map cpI, t⟩ :: D) ∧
      Env.get s.e 1 = x1 ∧ Env.get s.e 2 = x2 ∧ Env.get s.e 3 = x3 ∧ Env.get s.e 4 = .c (.p o3 0 0) ∧ Env.get s.e 5 = .c (.i b) ∧ Env.get s.e 29 = .c (.i n) ∧ Env.get s.e 30 = .c (.i b) ∧ Env.get s.e 60 = .c (.sl mb mg 0 ms.length) ∧ Env.get s.e 61 = .c (.i ms.length) ∧ Env.get s.e 62 = .c (.i j)) := ⟨_, fun _ _ => Iff.rfl⟩
  refine wp_for CM_mono ms.length I ((hI _ ⟨_, _⟩).2 ⟨by simpa using h0, e1, e2, e3, e4, e5, e29, e30, e60, e61, e62⟩) ?_ ?_
  · rintro j ⟨e0, Y⟩ hj hIs
    obtain ⟨hH, f1, f2, f3, f4, f5, f29, f30, f60, f61, f62⟩ := (hI _ _).1 hIs
    simp only at hH f1 f2 f3 f4 f5 f29 f30 f60 f61 f62 ⊢
    have hlY := hH.len
    have hMY : MvO Y mb mg ms [] := hH.fr.ob ⟨hmlt, .inr ⟨rfl, hmo⟩⟩ hM0
    obtain ⟨id2, g2, off2, q1, q2, _, _, _⟩ := Arms.get hMY.row hj
    obtain ⟨a, ha⟩ : ∃ a, ms[j] = a := ⟨_, rfl⟩
    rw [ha] at q2
    have hsu : ls ++ (ms.take (j + 1)).map cpI = (ls ++ (ms.take j).map cpI) ++ [cpI a] := by
      rw [List.take_succ_eq_append_getElem hj, List.map_append, List.append_assoc, ha]; rfl
    obtain ⟨C, hC⟩ : ∃ C, ls ++ (ms.take j).map cpI = C := ⟨_, rfl⟩
    have hCl : C.length ≤ 200 := by rw [← hC]; simp; omega
    rw [hC] at hH hsu
    obtain ⟨Y1, hY1⟩ : ∃ Y1, Y ++ [(⟨[.i a.fr, .i a.v], 0, true, 2⟩ : Ob)] = Y1 := ⟨_, rfl⟩
    have n1 : rdOb Y1 Y.length 0 = some ⟨[.i a.fr, .i a.v], 0, true, 2⟩ := by rw [← hY1]; simp
    have l1 : Y1.length = Y.length + 1 := by rw [← hY1]; simp
    have hH1 : SplitH N o3 (fun j => j = mb) m Y0 Y1 w (A ++ ⟨[], C, t⟩ :: D) := by rw [← hY1]; exact hH.app _
    have hbl : b < (A ++ (⟨[], C, t⟩ : BlkR) :: D).length := by simp; omega
    have hat : (A ++ (⟨[], C, t⟩ : BlkR) :: D)[b] = ⟨[], C, t⟩ := by subst hA; exact mid_at _ _ _ hbl
    have hset : ∀ x y : BlkR, (A ++ x :: D).set b y = A ++ y :: D := fun x y => by subst hA; exact mid_set _ _ _ _
    have ec : insC (cpI a) = [.i 25, .i a.fr, .i a.v, .i 0, .i 0] := rfl
    obtain ⟨id, g, cells, u, iz, gz, Y2, Y5, Y6, r1, r2, r3, r4, r5, r6, r7, r8, r9, r10, r11, r12, r13, r14⟩ := hH1.cat hN (by omega) (fun j hj => by omega) hbl (by rw [hat]; simp only [BIG]; omega) (cpI a)
    rw [hat, hset] at r13
    rw [hat] at r9 r12
    rw [ec] at r5 r6 r9
    simp only at r9 r12 r13
    have o1 := hH1.out
    have n2 : rdOb Y2 Y.length 0 = some ⟨[.i a.fr, .i a.v], 0, true, 2⟩ := by rw [← r5]; exact rdOb_app _ n1
    have r2' : rdOb Y2 id g = some ⟨cells, g, true, 6⟩ := by rw [← r5]; exact rdOb_app _ r2
    have hsrc : srcOf Y2 5 (.sl Y1.length 0 0 1) = some (1, [.i 25, .i a.fr, .i a.v, .i 0, .i 0]) := by simp [srcOf, r6]
    unfold vf59b0
    simp [f1, f2, f3, f4, f5, f29, f30, f60, f61, f62, hj, q1, q2.2.2, p22, hY1, n1, rdN_ob n1, rdC_ob n1, o1, rdC_ob o1, r1, r2, r2', r3, c50, c51, c52, c55, r5, r7, rdC_ob r7, r8, n2, rdC_ob n2, hsrc, r9, r10, r11, r4, r12, up1 hj (show ms.length ≤ BIG by simp only [BIG]; omega)]
    refine (hI _ ⟨_, _⟩).2 ⟨?_, ?_⟩
    · rw [hsu]; exact r13
    · simp
  · rintro ⟨e0, Y⟩ hIs
    obtain ⟨hH, f1, f2, f3, f4, f5, f29, f30, f60, f61, f62⟩ := (hI _ _).1 hIs
    simp only at hH f1 f2 f3 f4 f5 f29 f30 f60 f61 f62 ⊢
    rw [List.take_length] at hH
    unfold vf59b0
    simp [f1, f2, f3, f4, f5, f29, f30, f60, f61, f62]
    exact hQ Y _ hH (by simp) (by simp) (by simp) (by simp) (by simp) (by simp)
set_option maxRecDepth 100000 in
theorem specCats {N o3 mb mg b : Nat} {w : CV} {m : Int} {ms : List ArmR} {Y0 : Hp} {A D : List BlkR} {ls : List InsR} {t : TrmR} {e : Env} {Q : X × St → Prop} {x1 x2 x3 : IV}
    (h0 : SplitH N o3 (fun j => j = mb) m Y0 Y0 w (A ++ ⟨[], ls, t⟩ :: D)) (hM0 : MvO Y0 mb mg ms []) (hA : A.length = b) (hN : N ≤ o3) (hmb : N ≤ mb) (hmo : mb ≠ o3) (hls : ls.length ≤ 100) (hms : ms.length ≤ 100)
    (e1 : Env.get e 1 = x1) (e2 : Env.get e 2 = x2) (e3 : Env.get e 3 = x3) (e4 : Env.get e 4 = .c (.p o3 0 0)) (e5 : Env.get e 5 = .c (.i b))
    (e7 : Env.get e 7 = .c (.sl mb mg 0 ms.length)) (e8 : Env.get e 8 = .c (.i 0))
    (hQ : ∀ (Y : Hp) (e' : Env), SplitH N o3 (fun j => j = mb) m Y0 Y w (A ++ ⟨[], ls ++ ms.map cpI, t⟩ :: D) →
      Env.get e' 1 = x1 → Env.get e' 2 = x2 → Env.get e' 3 = x3 → Env.get e' 4 = .c (.p o3 0 0) → Env.get e' 5 = .c (.i b) → Q (.exit 2, ⟨e', Y⟩)) :
    loopD (exW CM [0, 1, 2, 3, 4, 5, 6, 7, 8, 17, 29, 42, 55, 84] vf58b0) ⟨e, Y0⟩ Q := by
  have hmlt := hM0.lt
  obtain ⟨I, hI⟩ : ∃ I : Nat → St → Prop, ∀ j s, I j s ↔ (SplitH N o3 (fun j => j = mb) m Y0 s.h w (A ++ ⟨[], ls ++ (ms.take j).map cpI, t⟩ :: D) ∧
      Env.get s.e 1 = x1 ∧ Env.get s.e 2 = x2 ∧ Env.get s.e 3 = x3 ∧ Env.get s.e 4 = .c (.p o3 0 0) ∧ Env.get s.e 5 = .c (.i b) ∧ Env.get s.e 7 = .c (.sl mb mg 0 ms.length) ∧ Env.get s.e 8 = .c (.i j)) := ⟨_, fun _ _ => Iff.rfl⟩
  refine wp_for CM_mono ms.length I ((hI _ ⟨_, _⟩).2 ⟨by simpa using h0, e1, e2, e3, e4, e5, e7, e8⟩) ?_ ?_
  · rintro j ⟨e0, Y⟩ hj hIs
    obtain ⟨hH, f1, f2, f3, f4, f5, f7, f8⟩ := (hI _ _).1 hIs
    simp only at hH f1 f2 f3 f4 f5 f7 f8 ⊢
    have hlY := hH.len
    have hMY : MvO Y mb mg ms [] := hH.fr.ob ⟨hmlt, .inr ⟨rfl, hmo⟩⟩ hM0
    obtain ⟨id2, g2, off2, q1, q2, _, _, _⟩ := Arms.get hMY.row hj
    obtain ⟨a, ha⟩ : ∃ a, ms[j] = a := ⟨_, rfl⟩
    rw [ha] at q2
    have hsu : ls ++ (ms.take (j + 1)).map cpI = (ls ++ (ms.take j).map cpI) ++ [cpI a] := by
      rw [List.take_succ_eq_append_getElem hj, List.map_append, List.append_assoc, ha]; rfl
    obtain ⟨C, hC⟩ : ∃ C, ls ++ (ms.take j).map cpI = C := ⟨_, rfl⟩
    have hCl : C.length ≤ 200 := by rw [← hC]; simp; omega
    rw [hC] at hH hsu
    have hbl : b < (A ++ (⟨[], C, t⟩ : BlkR) :: D).length := by simp; omega
    have hat : (A ++ (⟨[], C, t⟩ : BlkR) :: D)[b] = ⟨[], C, t⟩ := by subst hA; exact mid_at _ _ _ hbl
    have hset : ∀ x y : BlkR, (A ++ x :: D).set b y = A ++ y :: D := fun x y => by subst hA; exact mid_set _ _ _ _
    have ec : insC (cpI a) = [.i 25, .i a.fr, .i a.v, .i 0, .i 0] := rfl
    obtain ⟨id, g, cells, u, iz, gz, Y2, Y5, Y6, r1, r2, r3, r4, r5, r6, r7, r8, r9, r10, r11, r12, r13, r14⟩ := hH.cat hN (by omega) (fun j hj => by omega) hbl (by rw [hat]; simp only [BIG]; omega) (cpI a)
    rw [hat, hset] at r13
    rw [hat] at r9 r12
    rw [ec] at r5 r6 r9
    simp only at r9 r12 r13
    have o1 := hH.out
    have r2' : rdOb Y2 id g = some ⟨cells, g, true, 6⟩ := by rw [← r5]; exact rdOb_app _ r2
    have hsrc : srcOf Y2 5 (.sl Y.length 0 0 1) = some (1, [.i 25, .i a.fr, .i a.v, .i 0, .i 0]) := by simp [srcOf, r6]
    unfold vf58b0
    simp [f1, f2, f3, f4, f5, f7, f8, hj, hMY.row.lenOf, q1, q2.1, q2.2.1, o1, rdC_ob o1, r1, r2, r2', r3, c50, c51, c52, c55, r5, r7, rdC_ob r7, r8, hsrc, r9, r10, r11, r4, r12, up1 hj (show ms.length ≤ BIG by simp only [BIG]; omega)]
    refine (hI _ ⟨_, _⟩).2 ⟨?_, ?_⟩
    · rw [hsu]; exact r13
    · simp
  · rintro ⟨e0, Y⟩ hIs
    obtain ⟨hH, f1, f2, f3, f4, f5, f7, f8⟩ := (hI _ _).1 hIs
    simp only at hH f1 f2 f3 f4 f5 f7 f8 ⊢
    rw [List.take_length] at hH
    have hMY : MvO Y mb mg ms [] := hH.fr.ob ⟨hmlt, .inr ⟨rfl, hmo⟩⟩ hM0
    unfold vf58b0
    simp [f1, f2, f3, f4, f5, f7, f8, hMY.row.lenOf]
    exact hQ Y _ hH (by simp) (by simp) (by simp) (by simp) (by simp)
end Go.Proofs.YtgdfgnppeekfjaaGreat.Vm
end
section
/- Programs lowered, by the program. No conditions. -/
namespace Go.Proofs.YtgdfgnppeekfjaaGreat.Vm
open Go.RowKit (wrap64)
set_option linter.unusedSimpArgs false
set_option linter.unusedVariables false
theorem shape_small {f : FnR} (h : shapeB f = true) : 0 ≤ f.values ∧ f.values ≤ 80 ∧ f.blocks.length ≤ 16 ∧ ∀ b ∈ f.blocks, b.list.length ≤ 24 := by
  unfold shapeB inB at h
  simp only [Bool.and_eq_true, decide_eq_true_eq, List.all_eq_true] at h
  refine ⟨by omega, by omega, by omega, fun b hb => ?_⟩
  have h5 := h.2 b hb
  unfold blkB at h5
  simp only [Bool.and_eq_true, decide_eq_true_eq] at h5
  omega
theorem lowerTo_set {f : FnR} {i : Nat} (hi : i < f.blocks.length) (x : BlkR) : (lowerTo f i).set i x = (List.range i).map (lowerB f) ++ x :: f.blocks.drop (i + 1) := by
  unfold lowerTo
  rw [List.set_append_right _ _ (by simp)]
  congr 1
  rw [List.length_map, List.length_range, Nat.sub_self, List.drop_eq_getElem_cons hi]
  rfl
theorem lowerB_none {f : FnR} {i : Nat} (hi : i < f.blocks.length) (h : (succsAt f.blocks i).length ≠ 1) : lowerB f i = ⟨[], f.blocks[i].list, f.blocks[i].term⟩ := by
  unfold lowerB lowerL
  rw [if_neg h, List.append_nil, blk_at hi]
theorem lowerB_one {f : FnR} {i d : Nat} (hi : i < f.blocks.length) (hd : d < f.blocks.length) (h : succsAt f.blocks i = [(d : Int)]) : lowerB f i = ⟨[], f.blocks[i].list ++ (seqL f.values (mvsP i f.blocks[d].phis)).map cpI, f.blocks[i].term⟩ := by
  unfold lowerB lowerL
  rw [h]
  simp only [List.length_cons, List.length_nil, Nat.zero_add, if_pos, List.getD_cons_zero, Int.toNat_natCast, blk_at hi, blk_at hd]
set_option maxRecDepth 100000 in
theorem implLower {H : Hp} {v : CV} {f : FnR} (hv : Blocks H v f.blocks) (hb : f.blocks.length ≤ BIG) : CM 59 [.agg [v, .i f.values]] H (FnRes2 H (lower0 f) (lowerOk f)) := by
  refine cw59 ?_
  unfold vf59c
  obtain ⟨X1, hX1⟩ : ∃ X1, H ++ [(⟨[v, .i f.values], 0, true, 2⟩ : Ob), ⟨[.ns, .i 0], 0, true, 2⟩] = X1 := ⟨_, rfl⟩
  have hp1 : Pre H X1 := ⟨_, hX1.symm⟩
  have l1 : X1.length = H.length + 2 := by rw [← hX1]; simp
  have hB1 : rdOb X1 H.length 0 = some ⟨[v, .i f.values], 0, true, 2⟩ := by rw [← hX1]; simp
  have hR1 : rdOb X1 (H.length + 1) 0 = some ⟨[.ns, .i 0], 0, true, 2⟩ := by rw [← hX1]; simp
  have hv1 := hv.pre hp1
  obtain ⟨ew, Le, hew, hcrit⟩ := implCrit0 (f := f) hv1 hb
  obtain ⟨X2, hX2⟩ : ∃ X2, X1 ++ Le = X2 := ⟨_, rfl⟩
  have hp2 : Pre X1 X2 := ⟨_, hX2.symm⟩
  have l2 := hp2.le
  have hE2 : Arms X2 ew (crit0 f) := by rw [← hX2]; exact hew.isE
  have hle := hE2.lenOf
  have hfalse : ∀ (h : ¬ LowerC f), lower0 f = ⟨[], 0⟩ ∧ lowerOk f = false := fun h => ⟨by unfold lower0; rw [if_neg h], pB_false h⟩
  have hbad : ∀ X X6, Pre H X → X.set (H.length + 1) ⟨[.ns, .i 0], 0, true, 2⟩ = X6 → FnRes2 H ⟨[], 0⟩ false (gcRet H (.tup [(true, [.ns, .i 0]), (false, [.b false])]) X6) := by
    intro X X6 hp hX6
    refine FnRes2.mk (H := H) (g := ⟨[], 0⟩) (S := fun j => False) ?_ FRow.ns (fun j hj => hj.elim)
    rw [← hX6]; exact hp.set (by omega) _
  have hRs : ∀ X X6, rdOb X (H.length + 1) 0 = some ⟨[.ns, .i 0], 0, true, 2⟩ → X.set (H.length + 1) ⟨[.ns, .i 0], 0, true, 2⟩ = X6 → rdOb X6 (H.length + 1) 0 = some ⟨[.ns, .i 0], 0, true, 2⟩ := fun X X6 h e => by rw [← e, rdOb_set_self (rdOb_lt h)]; simp
  by_cases hck : checkF f = 0
  · by_cases hcr : (crit0 f).length = 0
    · have hW := well_iff.1 hck
      have hsh := hW.sh
      have hsm := shape_small hsh
      have hR2 := hp2.rdOb hR1
      have hB2 := hp2.rdOb hB1
      have hv2 := hv1.pre hp2
      simp [hX1, rdN_ob hB1, implCheck hv1 hb, hck, hcrit, hX2, hle, hcr, rdN_ob hB2]
      refine (implClone hv2 hb).mono ?_
      rintro _ ⟨w, L1, rfl, hT⟩
      obtain ⟨X3, hX3⟩ : ∃ X3, X2 ++ L1 = X3 := ⟨_, rfl⟩
      rw [hX3] at hT ⊢
      have hp3 : Pre X2 X3 := ⟨_, hX3.symm⟩
      have l3 := hp3.le
      obtain ⟨X4, hX4⟩ : ∃ X4, X3 ++ [(⟨[w, .i f.values], 0, true, 2⟩ : Ob)] = X4 := ⟨_, rfl⟩
      have hp4 : Pre X3 X4 := ⟨_, hX4.symm⟩
      have l4 : X4.length = X3.length + 1 := by rw [← hX4]; simp
      have hO4 : rdOb X4 X3.length 0 = some ⟨[w, .i f.values], 0, true, 2⟩ := by rw [← hX4]; simp
      obtain ⟨X5, hX5⟩ : ∃ X5, X4.set X3.length ⟨[w, .i (f.values + 1)], 0, true, 2⟩ = X5 := ⟨_, rfl⟩
      have l5 : X5.length = X4.length := by rw [← hX5]; simp
      have hO5 : rdOb X5 X3.length 0 = some ⟨[w, .i (f.values + 1)], 0, true, 2⟩ := by rw [← hX5, rdOb_set_self (rdOb_lt hO4)]; simp
      have hp35 : Pre X3 X5 := by rw [← hX5]; exact hp4.set (Nat.le_refl _) _
      have hp25 := hp3.trans hp35
      have hB5 := hp25.rdOb hB2
      have hR5 := hp25.rdOb hR2
      have hpH5 := hp1.trans (hp2.trans hp25)
      have hT5 : Tree (fun j => X2.length ≤ j ∧ j < X3.length) X5 w f.blocks := hT.bound.fr blkF_st (Frm.pre hp35)
      have hlv := (hv.pre hpH5).lenOf
      have hw1 : wrap64 (f.values + 1) = f.values + 1 := wrap64_id (by omega)
      simp [p20, p21, p22, hX4, hO4, rdC_ob hO4, hw1, hX5, rdC_ob hB5, hlv]
      clear hw1
      have hH0 : SplitH X2.length X3.length (fun _ => False) (f.values + 1) X5 X5 w (lowerTo f 0) :=
        ⟨by have e : lowerTo f 0 = f.blocks := by simp [lowerTo]
            rw [e]; exact hT5.mono fun j hj => ⟨hj.1, fun h => h, by omega⟩, hO5, Frm.refl _ _, Nat.le_refl _⟩
      obtain ⟨I, hI⟩ : ∃ I : Nat → St → Prop, ∀ i s, I i s ↔ (SplitH X2.length X3.length (fun _ => False) (f.values + 1) X5 s.h w (lowerTo f i) ∧
        Env.get s.e 1 = .c (.p H.length 0 0) ∧ Env.get s.e 2 = .c (.p (H.length + 1) 0 0) ∧ Env.get s.e 4 = .c (.p X3.length 0 0) ∧ Env.get s.e 29 = .c (.i f.blocks.length) ∧ Env.get s.e 30 = .c (.i i)) := ⟨_, fun _ _ => Iff.rfl⟩
      refine wp_for CM_mono f.blocks.length I ((hI _ ⟨_, _⟩).2 ⟨hH0, by simp⟩) ?_ ?_
      · rintro i ⟨e, Y⟩ hi hIs
        obtain ⟨hH, e1, e2, e4, e29, e30⟩ := (hI _ _).1 hIs
        simp only at hH e1 e2 e4 e29 e30 ⊢
        have hlY := hH.len
        have hll := lowerTo_len f i (by omega)
        have hli : i < (lowerTo f i).length := by omega
        have hat := lowerTo_at f i hi
        have hsuc := lowerTo_succ f i hi
        obtain ⟨id, g, cells, Y2, q1, q2, q3, hY2, hH2, lY2⟩ := hH.dry (by omega) hli
        rw [hat] at hH2
        have oY := hH.out
        have hpY2 : Pre H Y2 := (hH2.fr.mono fun j (hj : j < H.length) => ⟨by omega, .inl (by omega)⟩).cut hpH5
        have bY2 : rdOb Y2 H.length 0 = some ⟨[v, .i f.values], 0, true, 2⟩ := hH2.fr.ob ⟨by omega, .inl (by omega)⟩ hB5
        have hvY2 := hv.pre hpY2
        obtain ⟨sw, Ls, hsw, hsucs⟩ := implSuccs (m := f.values) hvY2 hi
        have hse : succsF f.blocks[i].term = succsAt f.blocks i := (succsAt_eq hi).symm
        obtain ⟨Y3, hY3⟩ : ∃ Y3, Y2 ++ Ls = Y3 := ⟨_, rfl⟩
        have hpY3 : Pre Y2 Y3 := ⟨_, hY3.symm⟩
        have hlY3 := hpY3.le
        rw [hse] at hsw
        have hls := hsw.len
        unfold vf59b1
        by_cases h1 : (succsAt f.blocks i).length = 1
        · obtain ⟨d, hd, hsd⟩ : ∃ d : Nat, d < f.blocks.length ∧ succsAt f.blocks i = [(d : Int)] := by
            obtain ⟨x, hx⟩ := List.length_eq_one_iff.1 h1
            have := shape_range hsh i x (by rw [hx]; simp)
            exact ⟨x.toNat, by omega, by rw [hx, Int.toNat_of_nonneg this.1]⟩
          have hsl := lowerB_one hi hd hsd
          rw [hsd] at hsw
          obtain ⟨rfl, rfl⟩ : sw = .sl Y2.length 0 0 1 ∧ Ls = [⟨[.i (d : Int)], 0, true, 1⟩] := by
            rcases hsw with ⟨_, _, h⟩ | h
            · cases h
            · exact h
          have s3 : rdOb Y3 Y2.length 0 = some ⟨[.i (d : Int)], 0, true, 1⟩ := by rw [← hY3]; simp
          have hpH3 := hpY2.trans hpY3
          have hvY3 := hv.pre hpH3
          have bY3 := hpY3.rdOb bY2
          obtain ⟨bid, bg, boff, z, u, x1, x2, _, hz, _, hzb, _, _, _⟩ := hvY3.get hd
          have x2' : rdC Y3 bid bg boff = some z := x2.1
          obtain ⟨hmo, hml⟩ := moves_ok hsh hW.once (List.getElem_mem hd) (i : Int)
          have hmv := implMvs (b := (i : Int)) hz hzb hml
          obtain ⟨ms, hms⟩ : ∃ ms, mvsP (i : Int) f.blocks[d].phis = ms := ⟨_, rfl⟩
          rw [hms] at hmo hml hmv hsl
          obtain ⟨Y4, hY4⟩ : ∃ Y4, Y3 ++ [(⟨edC ms, 0, true, 2⟩ : Ob)] = Y4 := ⟨_, rfl⟩
          have hpY4 : Pre Y3 Y4 := ⟨_, hY4.symm⟩
          have hlY4 := hpY4.le
          have hM4 : MvO Y4 Y3.length 0 ms [] := by show rdOb _ _ _ = _; rw [← hY4]; simp
          have bY4 := hpY4.rdOb bY3
          have hseq := implSeq (n := f.values) hM4.row (by simp only [BIG]; omega) hmo
          simp [e1, e2, e4, e29, e30, hi, rdC_ob oY, q1, q2, q3, hY2, rdN_ob bY2, hsucs, hY3, hls, h1, bY3, bY4, rdC_ob bY3, s3, rdC_ob s3, x1, x2', hmv, hY4, rdC_ob bY4]
          refine hseq.mono ?_
          rintro _ ⟨Z, mb, mg, rfl, hpZ, hmb, hMZ⟩
          obtain ⟨sq, hsq⟩ : ∃ sq, seqL f.values ms = sq := ⟨_, rfl⟩
          have hsq' : seqF f.values 60 (leftM idM ms ms.length) [] = sq := hsq
          have hsl60 : sq.length ≤ 60 := by rw [← hsq]; exact seqL_len _ _
          rw [hsq'] at hMZ ⊢
          rw [hsq] at hsl
          have hpYZ : Pre Y2 Z := hpY3.trans (hpY4.trans hpZ)
          have hlZ := hpYZ.le
          rw [lowerTo_set hi] at hH2 hsuc
          have hHZ : SplitH X2.length X3.length (fun j => j = mb) (f.values + 1) Z Z w ((List.range i).map (lowerB f) ++ ⟨[], f.blocks[i].list, f.blocks[i].term⟩ :: f.blocks.drop (i + 1)) :=
            ⟨((FRow.bound hH2.tree).fr blkF_st (Frm.pre hpYZ)).mono fun j hj => ⟨hj.1.1, by have := hj.2; omega, hj.1.2.2⟩, hpYZ.rdOb hH2.out, Frm.refl _ _, Nat.le_refl _⟩
          have hll24 : f.blocks[i].list.length ≤ 24 := hsm.2.2.2 _ (List.getElem_mem hi)
          have hmne : mb ≠ X3.length := by omega
          simp
          refine implCats (b := i) (n := f.blocks.length) (x1 := .c (.p H.length 0 0)) (x2 := .c (.p (H.length + 1) 0 0)) (x3 := Env.get e 3) hHZ hMZ (by simp) (by omega) (by omega) hmne (by omega) (by omega) (by simp) (by simp) (by simp) (by simp) (by simp) (by simp) (by simp) (by simp) (by simp) (by simp) ?_
          intro Y6 e' hH6 k1 k2 k3 k4 k29 k30
          have hl6 := hH6.len
          have hl2 := hH2.len
          simp [k1, k2, k3, k4, k29, k30, up1 hi hb]
          refine (hI _ ⟨_, _⟩).2 ⟨?_, ?_⟩
          · rw [← hsuc, hsl]
            exact ⟨hH6.tree.mono fun j hj => ⟨hj.1, fun h => h, hj.2.2⟩, hH6.out, hH2.fr.trans ((Frm.pre hpYZ).trans (hH6.fr.mono fun j hj => ⟨Nat.lt_of_lt_of_le hj.1 (Nat.le_trans hl2 hlZ), .inl (by rcases hj.2 with h | h; exact h; exact h.1.elim)⟩)), Nat.le_trans hl2 (Nat.le_trans hlZ hl6)⟩
          · simp
        · have hsl := lowerB_none hi h1
          rw [hsl] at hsuc
          have h1i : ¬ (((succsAt f.blocks i).length : Int) = 1) := by omega
          simp [e1, e2, e4, e29, e30, hi, rdC_ob oY, q1, q2, q3, hY2, rdN_ob bY2, hsucs, hY3, hls, h1i, up1 hi hb]
          refine (hI _ ⟨_, _⟩).2 ⟨?_, ?_⟩
          · rw [← hsuc, ← hY3]
            exact hH2.app _
          · simp
      · rintro ⟨e, Y⟩ hIs
        obtain ⟨hH, e1, e2, e4, e29, e30⟩ := (hI _ _).1 hIs
        simp only at hH e1 e2 e4 e29 e30 ⊢
        have oY := hH.out
        have hlY := hH.len
        have hRY : rdOb Y (H.length + 1) 0 = some ⟨[.ns, .i 0], 0, true, 2⟩ := hH.fr.ob ⟨by omega, .inl (by omega)⟩ hR5
        have hpY : Pre H Y := (hH.fr.mono fun j (hj : j < H.length) => ⟨by omega, .inl (by omega)⟩).cut hpH5
        have hbl := lowerTo_len f f.blocks.length (Nat.le_refl _)
        have hshp := implShape (v := w) (f := lowerF f) (Tree.blocks hH.tree) (by show (lowerTo f f.blocks.length).length ≤ BIG; omega)
        have hshp' : ∀ k, CM 19 [.agg [w, .i (f.values + 1)]] Y k = k (.c (.b (shapeB (lowerF f))), Y) := hshp
        unfold vf59b1
        cases hs : shapeB (lowerF f) with
        | true =>
          rw [hs] at hshp'
          have hC : LowerC f := ⟨hck, hcr, hs⟩
          have hg : lower0 f = lowerF f ∧ lowerOk f = true := ⟨by unfold lower0; rw [if_pos hC], pB_true hC⟩
          obtain ⟨Y2, hY2⟩ : ∃ Y2, Y.set (H.length + 1) ⟨[w, .i (f.values + 1)], 0, true, 2⟩ = Y2 := ⟨_, rfl⟩
          have hRY2 : rdOb Y2 (H.length + 1) 0 = some ⟨[w, .i (f.values + 1)], 0, true, 2⟩ := by rw [← hY2, rdOb_set_self (rdOb_lt hRY)]; simp
          simp [e1, e2, e4, e29, e30, rdN_ob oY, hshp', hRY, p22, hY2, rdN_ob hRY2]
          rw [hg.1, hg.2]
          refine FnRes2.mk (H := H) (g := lowerF f) (S := fun j => X2.length ≤ j ∧ ¬ False ∧ j ≠ X3.length) ?_ ?_ (fun j hj => by omega)
          · rw [← hY2]; exact hpY.set (by omega) _
          · rw [← hY2]; exact hH.tree.fr blkF_st (Frm.set _ _ (by omega))
        | false =>
          rw [hs] at hshp'
          obtain ⟨g1, g2⟩ := hfalse (fun h => by have := h.2.2; rw [hs] at this; cases this)
          obtain ⟨X6, hX6⟩ : ∃ X6, Y.set (H.length + 1) ⟨[.ns, .i 0], 0, true, 2⟩ = X6 := ⟨_, rfl⟩
          simp [e1, e2, e4, e29, e30, rdN_ob oY, hshp', hRY, p22, hX6, rdN_ob (hRs _ _ hRY hX6)]
          rw [g1, g2]
          exact hbad _ _ hpY hX6
    · obtain ⟨g1, g2⟩ := hfalse (fun h => hcr h.2.1)
      obtain ⟨X6, hX6⟩ : ∃ X6, X2.set (H.length + 1) ⟨[.ns, .i 0], 0, true, 2⟩ = X6 := ⟨_, rfl⟩
      have hR2 := hp2.rdOb hR1
      simp [hX1, rdN_ob hB1, implCheck hv1 hb, hck, hcrit, hX2, hle, hcr, show 0 < (crit0 f).length by omega, hR2, p22, hX6, rdN_ob (hRs _ _ hR2 hX6)]
      rw [g1, g2]
      exact hbad _ _ (hp1.trans hp2) hX6
  · obtain ⟨g1, g2⟩ := hfalse (fun h => hck h.1)
    obtain ⟨X6, hX6⟩ : ∃ X6, X1.set (H.length + 1) ⟨[.ns, .i 0], 0, true, 2⟩ = X6 := ⟨_, rfl⟩
    simp [hX1, rdN_ob hB1, implCheck hv1 hb, hck, hR1, p22, hX6, rdN_ob (hRs _ _ hR1 hX6)]
    rw [g1, g2]
    exact hbad _ _ hp1 hX6
end Go.Proofs.YtgdfgnppeekfjaaGreat.Vm
end
section
/- Programs lowered, by the specification. No conditions. -/
namespace Go.Proofs.YtgdfgnppeekfjaaGreat.Vm
open Go.RowKit (wrap64)
set_option linter.unusedSimpArgs false
set_option linter.unusedVariables false
set_option maxRecDepth 100000 in
theorem specLower {H : Hp} {v : CV} {f : FnR} (hv : Blocks H v f.blocks) (hb : f.blocks.length ≤ BIG) : CM 58 [.agg [v, .i f.values]] H (FnRes2 H (lower0 f) (lowerOk f)) := by
  refine cw58 ?_
  unfold vf58c
  obtain ⟨X1, hX1⟩ : ∃ X1, H ++ [(⟨[v, .i f.values], 0, true, 2⟩ : Ob), ⟨[.ns, .i 0], 0, true, 2⟩] = X1 := ⟨_, rfl⟩
  have hp1 : Pre H X1 := ⟨_, hX1.symm⟩
  have l1 : X1.length = H.length + 2 := by rw [← hX1]; simp
  have hB1 : rdOb X1 H.length 0 = some ⟨[v, .i f.values], 0, true, 2⟩ := by rw [← hX1]; simp
  have hR1 : rdOb X1 (H.length + 1) 0 = some ⟨[.ns, .i 0], 0, true, 2⟩ := by rw [← hX1]; simp
  have hv1 := hv.pre hp1
  have hfalse : ∀ (h : ¬ LowerC f), lower0 f = ⟨[], 0⟩ ∧ lowerOk f = false := fun h => ⟨by unfold lower0; rw [if_neg h], pB_false h⟩
  have hbad : ∀ X X6, Pre H X → X.set (H.length + 1) ⟨[.ns, .i 0], 0, true, 2⟩ = X6 → FnRes2 H ⟨[], 0⟩ false (gcRet H (.tup [(true, [.ns, .i 0]), (false, [.b false])]) X6) := by
    intro X X6 hp hX6
    refine FnRes2.mk (H := H) (g := ⟨[], 0⟩) (S := fun j => False) ?_ FRow.ns (fun j hj => hj.elim)
    rw [← hX6]; exact hp.set (by omega) _
  have hRs : ∀ X X6, rdOb X (H.length + 1) 0 = some ⟨[.ns, .i 0], 0, true, 2⟩ → X.set (H.length + 1) ⟨[.ns, .i 0], 0, true, 2⟩ = X6 → rdOb X6 (H.length + 1) 0 = some ⟨[.ns, .i 0], 0, true, 2⟩ := fun X X6 h e => by rw [← e, rdOb_set_self (rdOb_lt h)]; simp
  by_cases hck : checkF f = 0
  · have hW := well_iff.1 hck
    have hsh := hW.sh
    have hcrit := specCrit (m := f.values) hv1 (shape_range hsh) hb
    have hc0 : critTo f.blocks f.blocks.length = crit0 f := by unfold crit0; rw [if_pos hsh]
    rw [hc0] at hcrit
    obtain ⟨X2, hX2⟩ : ∃ X2, X1 ++ [(⟨edC (crit0 f), 0, true, 2⟩ : Ob)] = X2 := ⟨_, rfl⟩
    have hp2 : Pre X1 X2 := ⟨_, hX2.symm⟩
    have l2 := hp2.le
    obtain ⟨ew, hewd⟩ : ∃ ew, CV.sl X1.length 0 0 (crit0 f).length = ew := ⟨_, rfl⟩
    have hew : RowE X1 ew [⟨edC (crit0 f), 0, true, 2⟩] (crit0 f) := .inr ⟨hewd.symm, rfl⟩
    have hE2 : Arms X2 ew (crit0 f) := by rw [← hX2]; exact hew.isE
    have hle := hE2.lenOf
    rw [hewd] at hcrit
    by_cases hcr : (crit0 f).length = 0
    · have hsm := shape_small hsh
      have hR2 := hp2.rdOb hR1
      have hB2 := hp2.rdOb hB1
      have hv2 := hv1.pre hp2
      simp [hX1, rdN_ob hB1, specCheck hv1 hb, hck, hcrit, hX2, hle, hcr, rdN_ob hB2]
      refine (specCopy hv2 hb).mono ?_
      rintro _ ⟨w, L1, rfl, hT⟩
      obtain ⟨X3, hX3⟩ : ∃ X3, X2 ++ L1 = X3 := ⟨_, rfl⟩
      rw [hX3] at hT ⊢
      have hp3 : Pre X2 X3 := ⟨_, hX3.symm⟩
      have l3 := hp3.le
      obtain ⟨X4, hX4⟩ : ∃ X4, X3 ++ [(⟨[w, .i f.values], 0, true, 2⟩ : Ob)] = X4 := ⟨_, rfl⟩
      have hp4 : Pre X3 X4 := ⟨_, hX4.symm⟩
      have l4 : X4.length = X3.length + 1 := by rw [← hX4]; simp
      have hO4 : rdOb X4 X3.length 0 = some ⟨[w, .i f.values], 0, true, 2⟩ := by rw [← hX4]; simp
      obtain ⟨X5, hX5⟩ : ∃ X5, X4.set X3.length ⟨[w, .i (f.values + 1)], 0, true, 2⟩ = X5 := ⟨_, rfl⟩
      have l5 : X5.length = X4.length := by rw [← hX5]; simp
      have hO5 : rdOb X5 X3.length 0 = some ⟨[w, .i (f.values + 1)], 0, true, 2⟩ := by rw [← hX5, rdOb_set_self (rdOb_lt hO4)]; simp
      have hp35 : Pre X3 X5 := by rw [← hX5]; exact hp4.set (Nat.le_refl _) _
      have hp25 := hp3.trans hp35
      have hB5 := hp25.rdOb hB2
      have hR5 := hp25.rdOb hR2
      have hpH5 := hp1.trans (hp2.trans hp25)
      have hT5 : Tree (fun j => X2.length ≤ j ∧ j < X3.length) X5 w f.blocks := hT.bound.fr blkF_st (Frm.pre hp35)
      have hlv := (hv.pre hpH5).lenOf
      have hw1 : wrap64 (f.values + 1) = f.values + 1 := wrap64_id (by omega)
      simp [p20, p21, p22, hX4, hO4, rdC_ob hO4, hw1, hX5, rdC_ob ((hp3.trans hp4).rdOb hB2)]
      clear hw1
      have hH0 : SplitH X2.length X3.length (fun _ => False) (f.values + 1) X5 X5 w (lowerTo f 0) :=
        ⟨by have e : lowerTo f 0 = f.blocks := by simp [lowerTo]
            rw [e]; exact hT5.mono fun j hj => ⟨hj.1, fun h => h, by omega⟩, hO5, Frm.refl _ _, Nat.le_refl _⟩
      obtain ⟨I, hI⟩ : ∃ I : Nat → St → Prop, ∀ i s, I i s ↔ (SplitH X2.length X3.length (fun _ => False) (f.values + 1) X5 s.h w (lowerTo f i) ∧
        Env.get s.e 1 = .c (.p H.length 0 0) ∧ Env.get s.e 2 = .c (.p (H.length + 1) 0 0) ∧ Env.get s.e 4 = .c (.p X3.length 0 0) ∧ Env.get s.e 5 = .c (.i i)) := ⟨_, fun _ _ => Iff.rfl⟩
      refine wp_for CM_mono f.blocks.length I ((hI _ ⟨_, _⟩).2 ⟨hH0, ?_⟩) ?_ ?_
      · simp
      · rintro i ⟨e, Y⟩ hi hIs
        obtain ⟨hH, e1, e2, e4, e5⟩ := (hI _ _).1 hIs
        simp only at hH e1 e2 e4 e5 ⊢
        have hlY := hH.len
        have hll := lowerTo_len f i (by omega)
        have hli : i < (lowerTo f i).length := by omega
        have hat := lowerTo_at f i hi
        have hsuc := lowerTo_succ f i hi
        have bY : rdOb Y H.length 0 = some ⟨[v, .i f.values], 0, true, 2⟩ := hH.fr.ob ⟨by omega, .inl (by omega)⟩ hB5
        obtain ⟨id, g, cells, Y2, q1, q2, q3, hY2, hH2, lY2⟩ := hH.dry (by omega) hli
        rw [hat] at hH2
        have oY := hH.out
        have hpY2 : Pre H Y2 := (hH2.fr.mono fun j (hj : j < H.length) => ⟨by omega, .inl (by omega)⟩).cut hpH5
        have bY2 : rdOb Y2 H.length 0 = some ⟨[v, .i f.values], 0, true, 2⟩ := hH2.fr.ob ⟨by omega, .inl (by omega)⟩ hB5
        have hvY2 := hv.pre hpY2
        obtain ⟨sw, Ls, hsw, hsucs⟩ := specSuccs (m := f.values) hvY2 hi
        have hse : succsF f.blocks[i].term = succsAt f.blocks i := (succsAt_eq hi).symm
        obtain ⟨Y3, hY3⟩ : ∃ Y3, Y2 ++ Ls = Y3 := ⟨_, rfl⟩
        have hpY3 : Pre Y2 Y3 := ⟨_, hY3.symm⟩
        have hlY3 := hpY3.le
        rw [hse] at hsw
        have hls := hsw.len
        unfold vf58b1
        by_cases h1 : (succsAt f.blocks i).length = 1
        · obtain ⟨d, hd, hsd⟩ : ∃ d : Nat, d < f.blocks.length ∧ succsAt f.blocks i = [(d : Int)] := by
            obtain ⟨x, hx⟩ := List.length_eq_one_iff.1 h1
            have := shape_range hsh i x (by rw [hx]; simp)
            exact ⟨x.toNat, by omega, by rw [hx, Int.toNat_of_nonneg this.1]⟩
          have hsl := lowerB_one hi hd hsd
          rw [hsd] at hsw
          obtain ⟨rfl, rfl⟩ : sw = .sl Y2.length 0 0 1 ∧ Ls = [⟨[.i (d : Int)], 0, true, 1⟩] := by
            rcases hsw with ⟨_, _, h⟩ | h
            · cases h
            · exact h
          have s3 : rdOb Y3 Y2.length 0 = some ⟨[.i (d : Int)], 0, true, 1⟩ := by rw [← hY3]; simp
          have hpH3 := hpY2.trans hpY3
          have hvY3 := hv.pre hpH3
          have bY3 := hpY3.rdOb bY2
          obtain ⟨hmo, hml⟩ := moves_ok hsh hW.once (List.getElem_mem hd) (i : Int)
          have hmv := specMvs (m := f.values) (b := (i : Int)) hvY3 hd hml
          obtain ⟨ms, hms⟩ : ∃ ms, mvsP (i : Int) f.blocks[d].phis = ms := ⟨_, rfl⟩
          rw [hms] at hmo hml hmv hsl
          obtain ⟨Y4, hY4⟩ : ∃ Y4, Y3 ++ [(⟨edC ms, 0, true, 2⟩ : Ob)] = Y4 := ⟨_, rfl⟩
          have hpY4 : Pre Y3 Y4 := ⟨_, hY4.symm⟩
          have hlY4 := hpY4.le
          have hM4 : MvO Y4 Y3.length 0 ms [] := by show rdOb _ _ _ = _; rw [← hY4]; simp
          have bY4 := hpY4.rdOb bY3
          have hseq := specSeq0 (n := f.values) hM4.row hmo
          simp [e1, e2, e4, e5, hi, rdC_ob bY, hlv, rdC_ob oY, q1, q2, q3, hY2, rdN_ob bY2, hsucs, hY3, hls, h1, bY3, bY4, rdC_ob bY3, s3, rdC_ob s3, rdN_ob bY3, hmv, hY4, rdC_ob bY4]
          refine hseq.mono ?_
          rintro _ ⟨Z, mb, mg, rfl, hpZ, hmb, hMZ⟩
          obtain ⟨sq, hsq⟩ : ∃ sq, seqL f.values ms = sq := ⟨_, rfl⟩
          have hsq' : seqF f.values 60 (leftM idM ms ms.length) [] = sq := hsq
          have hsl60 : sq.length ≤ 60 := by rw [← hsq]; exact seqL_len _ _
          rw [hsq'] at hMZ ⊢
          rw [hsq] at hsl
          have hpYZ : Pre Y2 Z := hpY3.trans (hpY4.trans hpZ)
          have hlZ := hpYZ.le
          rw [lowerTo_set hi] at hH2 hsuc
          have hHZ : SplitH X2.length X3.length (fun j => j = mb) (f.values + 1) Z Z w ((List.range i).map (lowerB f) ++ ⟨[], f.blocks[i].list, f.blocks[i].term⟩ :: f.blocks.drop (i + 1)) :=
            ⟨((FRow.bound hH2.tree).fr blkF_st (Frm.pre hpYZ)).mono fun j hj => ⟨hj.1.1, by have := hj.2; omega, hj.1.2.2⟩, hpYZ.rdOb hH2.out, Frm.refl _ _, Nat.le_refl _⟩
          have hll24 : f.blocks[i].list.length ≤ 24 := hsm.2.2.2 _ (List.getElem_mem hi)
          have hmne : mb ≠ X3.length := by omega
          simp
          refine specCats (b := i) (x1 := .c (.p H.length 0 0)) (x2 := .c (.p (H.length + 1) 0 0)) (x3 := Env.get e 3) hHZ hMZ (by simp) (by omega) (by omega) hmne (by omega) (by omega) (by simp) (by simp) (by simp) (by simp) (by simp) (by simp) (by simp) ?_
          intro Y6 e' hH6 k1 k2 k3 k4 k5
          have hl6 := hH6.len
          have hl2 := hH2.len
          simp [k1, k2, k3, k4, k5, up1 hi hb]
          refine (hI _ ⟨_, _⟩).2 ⟨?_, ?_⟩
          · rw [← hsuc, hsl]
            exact ⟨hH6.tree.mono fun j hj => ⟨hj.1, fun h => h, hj.2.2⟩, hH6.out, hH2.fr.trans ((Frm.pre hpYZ).trans (hH6.fr.mono fun j hj => ⟨Nat.lt_of_lt_of_le hj.1 (Nat.le_trans hl2 hlZ), .inl (by rcases hj.2 with h | h; exact h; exact h.1.elim)⟩)), Nat.le_trans hl2 (Nat.le_trans hlZ hl6)⟩
          · simp
        · have hsl := lowerB_none hi h1
          rw [hsl] at hsuc
          have h1i : ¬ (((succsAt f.blocks i).length : Int) = 1) := by omega
          simp [e1, e2, e4, e5, hi, rdC_ob bY, hlv, rdC_ob oY, q1, q2, q3, hY2, rdN_ob bY2, hsucs, hY3, hls, h1i, up1 hi hb]
          refine (hI _ ⟨_, _⟩).2 ⟨?_, ?_⟩
          · rw [← hsuc, ← hY3]
            exact hH2.app _
          · simp
      · rintro ⟨e, Y⟩ hIs
        obtain ⟨hH, e1, e2, e4, e5⟩ := (hI _ _).1 hIs
        simp only at hH e1 e2 e4 e5 ⊢
        have oY := hH.out
        have hlY := hH.len
        have bY : rdOb Y H.length 0 = some ⟨[v, .i f.values], 0, true, 2⟩ := hH.fr.ob ⟨by omega, .inl (by omega)⟩ hB5
        have hRY : rdOb Y (H.length + 1) 0 = some ⟨[.ns, .i 0], 0, true, 2⟩ := hH.fr.ob ⟨by omega, .inl (by omega)⟩ hR5
        have hpY : Pre H Y := (hH.fr.mono fun j (hj : j < H.length) => ⟨by omega, .inl (by omega)⟩).cut hpH5
        have hbl := lowerTo_len f f.blocks.length (Nat.le_refl _)
        have hshp := specShape (v := w) (f := lowerF f) (Tree.blocks hH.tree) (by show (lowerTo f f.blocks.length).length ≤ BIG; omega)
        have hshp' : ∀ k, CM 20 [.agg [w, .i (f.values + 1)]] Y k = k (.c (.b (shapeB (lowerF f))), Y) := hshp
        unfold vf58b1
        cases hs : shapeB (lowerF f) with
        | true =>
          rw [hs] at hshp'
          have hC : LowerC f := ⟨hck, hcr, hs⟩
          have hg : lower0 f = lowerF f ∧ lowerOk f = true := ⟨by unfold lower0; rw [if_pos hC], pB_true hC⟩
          obtain ⟨Y2, hY2⟩ : ∃ Y2, Y.set (H.length + 1) ⟨[w, .i (f.values + 1)], 0, true, 2⟩ = Y2 := ⟨_, rfl⟩
          have hRY2 : rdOb Y2 (H.length + 1) 0 = some ⟨[w, .i (f.values + 1)], 0, true, 2⟩ := by rw [← hY2, rdOb_set_self (rdOb_lt hRY)]; simp
          simp [e1, e2, e4, e5, rdC_ob bY, hlv, rdN_ob oY, hshp', hRY, p22, hY2, rdN_ob hRY2]
          rw [hg.1, hg.2]
          refine FnRes2.mk (H := H) (g := lowerF f) (S := fun j => X2.length ≤ j ∧ ¬ False ∧ j ≠ X3.length) ?_ ?_ (fun j hj => by omega)
          · rw [← hY2]; exact hpY.set (by omega) _
          · rw [← hY2]; exact hH.tree.fr blkF_st (Frm.set _ _ (by omega))
        | false =>
          rw [hs] at hshp'
          obtain ⟨g1, g2⟩ := hfalse (fun h => by have := h.2.2; rw [hs] at this; cases this)
          obtain ⟨X6, hX6⟩ : ∃ X6, Y.set (H.length + 1) ⟨[.ns, .i 0], 0, true, 2⟩ = X6 := ⟨_, rfl⟩
          simp [e1, e2, e4, e5, rdC_ob bY, hlv, rdN_ob oY, hshp', hRY, p22, hX6, rdN_ob (hRs _ _ hRY hX6)]
          rw [g1, g2]
          exact hbad _ _ hpY hX6
    · obtain ⟨g1, g2⟩ := hfalse (fun h => hcr h.2.1)
      obtain ⟨X6, hX6⟩ : ∃ X6, X2.set (H.length + 1) ⟨[.ns, .i 0], 0, true, 2⟩ = X6 := ⟨_, rfl⟩
      have hR2 := hp2.rdOb hR1
      simp [hX1, rdN_ob hB1, specCheck hv1 hb, hck, hcrit, hX2, hle, hcr, show 0 < (crit0 f).length by omega, hR2, p22, hX6, rdN_ob (hRs _ _ hR2 hX6)]
      rw [g1, g2]
      exact hbad _ _ (hp1.trans hp2) hX6
  · obtain ⟨g1, g2⟩ := hfalse (fun h => hck h.1)
    obtain ⟨X6, hX6⟩ : ∃ X6, X1.set (H.length + 1) ⟨[.ns, .i 0], 0, true, 2⟩ = X6 := ⟨_, rfl⟩
    simp [hX1, rdN_ob hB1, specCheck hv1 hb, hck, hR1, p22, hX6, rdN_ob (hRs _ _ hR1 hX6)]
    rw [g1, g2]
    exact hbad _ _ hp1 hX6
end Go.Proofs.YtgdfgnppeekfjaaGreat.Vm
end
