import Derived.Test.YtnpbldjbfkpbcaaQfc
import Derived.Test.YtnpbldjbfkpbcaaP2
section
/- Rows of copies: cloned, thinned, one dropped; who is free. No conditions. -/
namespace Go.Proofs.Ytnpbldjbfkpbcaa.Vm
open Go.RowKit (wrap64)
set_option linter.unusedSimpArgs false
set_option linter.unusedVariables false

theorem edC_app (a b : List ArmR) : edC (a ++ b) = edC a ++ edC b := by simp [edC]
theorem edC_cons (a : ArmR) (r : List ArmR) : edC (a :: r) = .i a.fr :: .i a.v :: edC r := rfl
theorem edC_split {ms : List ArmR} {k : Nat} (hk : k < ms.length) : edC ms = edC (ms.take k) ++ .i ms[k].fr :: .i ms[k].v :: edC (ms.drop (k + 1)) := by
  have e : ms = ms.take k ++ ms[k] :: ms.drop (k + 1) := by rw [← List.drop_eq_getElem_cons hk, List.take_append_drop]
  calc edC ms = edC (ms.take k ++ ms[k] :: ms.drop (k + 1)) := by rw [← e]
    _ = _ := by rw [edC_app, edC_cons]
theorem take_len2 {ms : List ArmR} {k : Nat} (hk : k < ms.length) : (edC (ms.take k)).length = k * 2 := by
  rw [edC_len, List.length_take, Nat.min_eq_left (by omega)]
/-- A row of copies, of whatever room. -/
def MvO (X : Hp) (id g : Nat) (ms : List ArmR) (rest : List CV) : Prop := rdOb X id g = some ⟨edC ms ++ rest, g, true, 2⟩
theorem MvO.lt {X : Hp} {id g : Nat} {ms : List ArmR} {rest : List CV} (h : MvO X id g ms rest) : id < X.length := rdOb_lt h
theorem MvO.row {X : Hp} {id g : Nat} {ms : List ArmR} {rest : List CV} (h : MvO X id g ms rest) : Arms X (.sl id g 0 ms.length) ms := by
  refine ⟨ms.map armC, .inr ⟨id, g, 0, _, rfl, h, rfl, by simp, ?_⟩, by simp, fun k cs x a b => ?_⟩
  · rw [List.drop_zero, List.take_append_of_le_length (by simp), List.take_of_length_le (by simp)]; rfl
  · rw [List.getElem?_map, b] at a
    simp at a; subst a
    exact ⟨rfl, rfl⟩
theorem MvO.at {X : Hp} {id g : Nat} {ms : List ArmR} {rest : List CV} (h : MvO X id g ms rest) {k : Nat} (hk : k < ms.length) :
    rdN X id g (k * 2) 2 = some [.i ms[k].fr, .i ms[k].v] ∧ rdC X id g (k * 2) = some (.i ms[k].fr) ∧ rdC X id g (k * 2 + 1) = some (.i ms[k].v) := by
  have hl := take_len2 hk
  have e : edC ms ++ rest = edC (ms.take k) ++ .i ms[k].fr :: .i ms[k].v :: (edC (ms.drop (k + 1)) ++ rest) := by rw [edC_split hk]; simp
  have h' : rdOb X id g = some ⟨edC (ms.take k) ++ .i ms[k].fr :: .i ms[k].v :: (edC (ms.drop (k + 1)) ++ rest), g, true, 2⟩ := by rw [← e]; exact h
  refine ⟨?_, ?_, ?_⟩
  · rw [rdN_ob h', if_pos (by simp; omega)]
    simp only
    rw [← hl, List.drop_left]; rfl
  · rw [rdC_ob h']
    simp only
    rw [← hl, List.getElem?_append_right (Nat.le_refl _), Nat.sub_self]; rfl
  · rw [rdC_ob h']
    simp only
    rw [← hl, List.getElem?_append_right (by omega), show (edC (ms.take k)).length + 1 - (edC (ms.take k)).length = 1 by omega]; rfl
theorem set_split {ms : List ArmR} {k : Nat} (hk : k < ms.length) (a : ArmR) : edC (ms.set k a) = edC (ms.take k) ++ .i a.fr :: .i a.v :: edC (ms.drop (k + 1)) := by
  rw [List.set_eq_take_append_cons_drop, if_pos hk, edC_app, edC_cons]
theorem mv_put {ms : List ArmR} {rest : List CV} {k : Nat} (hk : k < ms.length) (a : ArmR) : putAt (edC ms ++ rest) (k * 2) [.i a.fr, .i a.v] = edC (ms.set k a) ++ rest ∧ k * 2 + 2 ≤ (edC ms ++ rest).length := by
  have hl := take_len2 hk
  refine ⟨?_, by simp; omega⟩
  rw [set_split hk, edC_split hk]
  generalize edC (ms.take k) = P at hl
  rw [← hl]
  simp [putAt, List.drop_append]
theorem mv_putv {ms : List ArmR} {rest : List CV} {k : Nat} (hk : k < ms.length) (x : Int) : putAt (edC ms ++ rest) (k * 2 + 1) [.i x] = edC (ms.set k ⟨ms[k].fr, x⟩) ++ rest ∧ k * 2 + 1 + 1 ≤ (edC ms ++ rest).length := by
  have hl := take_len2 hk
  refine ⟨?_, by simp; omega⟩
  rw [putAt_get (by simp; omega), set_split hk, edC_split hk]
  generalize edC (ms.take k) = P at hl
  rw [← hl]
  simp [List.set_append, show P.length + 1 - P.length = 1 by omega]
/-- Nothing but one object has changed. -/
def But (id : Nat) (X Z : Hp) : Prop := X.length ≤ Z.length ∧ ∀ i g o, i ≠ id → rdOb X i g = some o → rdOb Z i g = some o
theorem But.refl (id : Nat) (X : Hp) : But id X X := ⟨Nat.le_refl _, fun _ _ _ _ h => h⟩
theorem But.trans {id : Nat} {X Y Z : Hp} (h : But id X Y) (k : But id Y Z) : But id X Z := ⟨Nat.le_trans h.1 k.1, fun i g o hi ho => k.2 i g o hi (h.2 i g o hi ho)⟩
theorem But.app (id : Nat) (X L : Hp) : But id X (X ++ L) := ⟨by simp, fun _ _ _ _ h => rdOb_app L h⟩
theorem But.set (id : Nat) (X : Hp) (o : Ob) : But id X (X.set id o) := ⟨by simp, fun i g ob hi ho => by rw [rdOb_set_ne hi]; exact ho⟩
theorem But.low {id lo : Nat} {X Z : Hp} (h : But id X Z) (hl : lo ≤ id) : Low lo X Z := fun i g o hi ho => h.2 i g o (by omega) ho
theorem cloneAppM {H : Hp} (ms : List ArmR) (hb : ms.length ≤ BIG) : ∃ g, doApp (H ++ [(⟨[], 0, true, 2⟩ : Ob)]) 2 (.sl H.length 0 0 0) ms.length (edC ms) = some (.c (.sl H.length g 0 ms.length), H ++ [(⟨edC ms, g, true, 2⟩ : Ob)]) := by
  by_cases h0 : 0 < ms.length
  · refine ⟨1, ?_⟩
    have := app_own (X := H ++ [⟨[], 0, true, 2⟩]) (o := H.length) (g := 0) (n := 0) (sz := 2) (m := ms.length) (cs := []) (xs := edC ms) (by simp) (by simp) (by simp; omega) (by simp only [BIG] at hb; simp only [LIM, List.length_nil, edC_len]; omega)
    simpa using this
  · have : ms = [] := List.length_eq_zero_iff.1 (by omega)
    subst this
    exact ⟨0, by simp [doApp, putAt]⟩
theorem arms_src {H : Hp} {v : CV} {ms : List ArmR} (h : Arms H v ms) : srcOf H 2 v = some (ms.length, edC ms) := by
  obtain ⟨css, h1, h2, h3⟩ := h
  have e : css = ms.map armC := by
    apply List.ext_getElem?
    intro k
    by_cases hk : k < ms.length
    · have a := List.getElem?_eq_getElem (show k < css.length by omega)
      have b := List.getElem?_eq_getElem hk
      have := (h3 k _ _ a b).2
      rw [a, List.getElem?_map, b, show css[k] = armC ms[k] from this]; rfl
    · rw [List.getElem?_eq_none (by omega), List.getElem?_eq_none (by simp; omega)]
  subst e
  rcases h1 with ⟨rfl, h4, h5⟩ | ⟨id, g, off, o, rfl, h4, h5, h6, h7⟩
  · have : ms = [] := List.length_eq_zero_iff.1 h4
    subst this; rfl
  · simp [srcOf, h4, h6, h7]; rfl
theorem cloneMove {H : Hp} {v : CV} {ms : List ArmR} (hv : Arms H v ms) (hnn : v ≠ .ns) (hb : ms.length ≤ BIG) (k : IV × Hp → Prop) :
    CM 76 [.c v] H k = k (.c (.sl H.length 0 0 ms.length), H ++ [⟨edC ms, 0, true, 2⟩]) := by
  refine det (cw76 ?_) k
  unfold vf76c
  have hsrc := arms_src (hv.app [⟨[], 0, true, 2⟩])
  obtain ⟨g, hg⟩ := cloneAppM (H := H) ms hb
  obtain ⟨id, gg, off, n, rfl⟩ : ∃ id gg off n, v = .sl id gg off n := by
    obtain ⟨css, h1, _⟩ := hv
    rcases h1 with ⟨h, _⟩ | ⟨id, gg, off, o, h, _⟩
    · exact absurd h hnn
    · exact ⟨_, _, _, _, h⟩
  simp [hsrc, hg]
  rw [gcRet_row ⟨_, rfl⟩ (Nat.le_refl _) (o := ⟨edC ms, g, true, 2⟩) (by simp) rfl (by simpa using edC_flat ms)]
/-- What is left. -/
def leftM (p : ArmR → Bool) (xs : List ArmR) (i : Nat) : List ArmR := (xs.take i).filter fun x => !p x
theorem leftM_succ {p : ArmR → Bool} {xs : List ArmR} {i : Nat} (hi : i < xs.length) : leftM p xs (i + 1) = leftM p xs i ++ (if p xs[i] = true then [] else [xs[i]]) := by
  unfold leftM
  rw [List.take_succ_eq_append_getElem hi, List.filter_append]
  congr 1
  cases h : p xs[i] <;> simp [h]
theorem leftM_le (p : ArmR → Bool) (xs : List ArmR) (i : Nat) : (leftM p xs i).length ≤ i := by
  unfold leftM
  exact Nat.le_trans (List.length_filter_le _ _) (by rw [List.length_take]; omega)
theorem set_left {L xs : List ArmR} (h : L.length < xs.length) (a : ArmR) : (L ++ xs.drop L.length).set L.length a = (L ++ [a]) ++ xs.drop (L.length + 1) := by
  have e : (xs.drop L.length).set 0 a = a :: xs.drop (L.length + 1) := by rw [List.drop_eq_getElem_cons h]; rfl
  rw [List.set_append, if_neg (by omega), Nat.sub_self, e]; simp
theorem deleteMove {X : Hp} {id : Nat} {xs : List ArmR} (h : MvO X id 0 xs []) (hb : xs.length ≤ BIG) {fid : Nat} (p : ArmR → Bool)
    (hp : ∀ (Y : Hp) (a : ArmR) (k : IV × Hp → Prop), CM fid [.agg [.i a.fr, .i a.v]] Y k = k (.c (.b (p a)), Y)) :
    CM 75 [.c (.sl id 0 0 xs.length), .f fid []] X fun r => ∃ Z rest, r = (.c (.sl id 0 0 (leftM p xs xs.length).length), Z) ∧ But id X Z ∧ MvO Z id 0 (leftM p xs xs.length) rest := by
  refine cw75 ?_
  unfold vf75c
  have hlt := h.lt
  have hix := fun k => indexMove h.row hb (fid := fid) (caps := []) p (fun i hi cs hcs k => by
    have hcs : cs = armC _ := hcs
    subst hcs
    exact hp X _ k) k
  have hlook : ∀ i, i ≤ xs.length → (∀ j (hj : j < i) (hx : j < xs.length), p xs[j] = false) → leftM p xs i = xs.take i := fun i hi hf => by
    unfold leftM
    rw [List.filter_eq_self]
    intro x hx
    obtain ⟨l, hl, rfl⟩ := List.mem_take_iff_getElem.1 hx
    rw [hf l (by omega) (by omega)]; rfl
  cases hany : xs.any p with
  | false =>
    have hf : findI p xs = -1 := by
      cases hd : decide (0 ≤ findI p xs) with
      | true => rw [findI_nonneg.1 (of_decide_eq_true hd)] at hany; cases hany
      | false =>
        refine findI_none fun j hj => ?_
        rw [List.any_eq_false] at hany
        simpa using hany _ (List.getElem_mem hj)
    have hall : leftM p xs xs.length = xs := by
      rw [hlook _ (Nat.le_refl _) fun j _ hx => by
        rw [List.any_eq_false] at hany
        simpa using hany _ (List.getElem_mem hx), List.take_length]
    simp [hix, hf]
    rw [gc_inner hlt, hall]
    exact ⟨X, rfl, But.refl _ _, [], h⟩
  | true =>
    obtain ⟨j, hj, hfj, hpj, hbf⟩ : ∃ j : Nat, ∃ hj : j < xs.length, findI p xs = j ∧ p (xs[j]'hj) = true ∧ ∀ i (hi : i < j), p (xs[i]'(by omega)) = false := by
      have h1 := findI_nonneg.2 hany
      unfold findI at h1 ⊢
      cases hf : xs.findIdx? p with
      | none => rw [hf] at h1; exact absurd h1 (by decide)
      | some j =>
        rw [List.findIdx?_eq_some_iff_getElem] at hf
        obtain ⟨hj, h2, h3⟩ := hf
        exact ⟨j, hj, rfl, h2, fun i hi => by simpa using h3 i hi⟩
    have hl0 : leftM p xs (j + 1) = xs.take j := by
      rw [leftM_succ hj, if_pos hpj, List.append_nil, hlook j (by omega) fun l hl hx => hbf l hl]
    simp [hix, hfj, up1 hj hb, show ¬ ((j : Int) = -1) by omega]
    obtain ⟨I, hI⟩ : ∃ I : Nat → St → Prop, ∀ i st, I i st ↔ (But id X st.h ∧ MvO st.h id 0 (leftM p xs (j + 1 + i) ++ xs.drop (leftM p xs (j + 1 + i)).length) [] ∧ (leftM p xs (j + 1 + i)).length < j + 1 + i ∧ Env.get st.e 0 = .c (.sl id 0 0 xs.length) ∧ Env.get st.e 1 = .f fid [] ∧ Env.get st.e 5 = .c (.i (leftM p xs (j + 1 + i)).length) ∧ Env.get st.e 6 = .c (.i ((j + 1 + i : Nat) : Int))) := ⟨_, fun _ _ => Iff.rfl⟩
    refine wp_for CM_mono (xs.length - (j + 1)) I ((hI _ _).2 ⟨But.refl _ _, ?_, ?_, ?_⟩) ?_ ?_
    · simp only [Nat.add_zero, hl0]
      rw [List.length_take, Nat.min_eq_left (by omega), List.take_append_drop]; exact h
    · simp only [Nat.add_zero, hl0, List.length_take]; omega
    · simp [hl0]; omega
    · rintro i ⟨e, Y⟩ hi hIs
      obtain ⟨hB, hY, hlen, h0, h1, h5, h6⟩ := (hI _ _).1 hIs
      simp only at hB hY hlen h0 h1 h5 h6 ⊢
      obtain ⟨n, hn⟩ : ∃ n, n = j + 1 + i := ⟨_, rfl⟩
      have hnl : n < xs.length := by omega
      rw [← hn] at hY hlen h5 h6
      have hsu := leftM_succ (p := p) hnl
      generalize hF : leftM p xs n = F at hY hlen h5 hsu
      have hFl : F.length < xs.length := by omega
      have hlm : (F ++ xs.drop F.length).length = xs.length := by simp; omega
      have hg : (F ++ xs.drop F.length)[n]'(by omega) = xs[n] := by
        rw [List.getElem_append_right (by omega), List.getElem_drop]
        congr 1; omega
      obtain ⟨r1, r2, r3⟩ := hY.at (k := n) (by omega)
      rw [hg] at r1
      obtain ⟨Y1, hY1⟩ : ∃ Y1, Y ++ [(⟨[.i xs[n].fr, .i xs[n].v], 0, true, 2⟩ : Ob)] = Y1 := ⟨_, rfl⟩
      have hM1 : MvO Y1 id 0 (F ++ xs.drop F.length) [] := by rw [← hY1]; exact rdOb_app _ hY
      have hB1 : But id X Y1 := by rw [← hY1]; exact hB.trans (But.app _ _ _)
      have hlY := hY.lt
      have hlY1 := hM1.lt
      have hnew : rdN Y1 Y.length 0 0 2 = some [.i xs[n].fr, .i xs[n].v] := by rw [← hY1, rdN_ob (o := ⟨[.i xs[n].fr, .i xs[n].v], 0, true, 2⟩) (by simp)]; simp
      have en : j + 1 + (i + 1) = n + 1 := by omega
      have hp2 : putAt [.i 0, .i 0] 0 [.i xs[n].fr, .i xs[n].v] = [.i xs[n].fr, .i xs[n].v] := rfl
      unfold vf75b0
      cases hpx : p xs[n] with
      | true =>
        rw [if_pos hpx, List.append_nil] at hsu
        simp [h0, h1, h5, h6, hnl, idxOf, r1, hp2, hY1, hnew, hp, hpx, up1 hnl hb]
        exact (hI _ _).2 ⟨hB1, by rw [en, hsu]; exact hM1, by rw [en, hsu]; omega, by simp [h0, h1, h5, en, hsu]⟩
      | false =>
        rw [if_neg (by simp [hpx])] at hsu
        obtain ⟨w1, w2⟩ := mv_put (ms := F ++ xs.drop F.length) (rest := []) (k := F.length) (by omega) xs[n]
        rw [set_left hFl] at w1
        have hM1' : rdOb Y1 id 0 = some ⟨edC (F ++ xs.drop F.length) ++ [], 0, true, 2⟩ := hM1
        generalize hcs : edC (F ++ xs.drop F.length) ++ [] = cs at w1 w2 hM1'
        simp [h0, h1, h5, h6, hnl, hFl, idxOf, r1, hp2, hY1, hnew, hp, hpx, hM1', w1, w2, up1 hnl hb, up1 hFl hb]
        refine (hI _ _).2 ⟨hB1.trans (But.set _ _ _), ?_, by rw [en, hsu]; simp; omega, by simp [en, hsu, h0, h1]⟩
        rw [en, hsu, show (F ++ [xs[n]]).length = F.length + 1 by simp]
        show rdOb (Y1.set id _) id 0 = _
        rw [rdOb_set_self hlY1]; simp
    · rintro ⟨e, Y⟩ hIs
      obtain ⟨hB, hY, hlen, h0, h1, h5, h6⟩ := (hI _ _).1 hIs
      simp only at hB hY hlen h0 h1 h5 h6 ⊢
      rw [show j + 1 + (xs.length - (j + 1)) = xs.length by omega] at hY hlen h5 h6
      generalize hF : leftM p xs xs.length = F at hY hlen h5
      have hlY := hY.lt
      have hcl : (edC F).length = F.length * 2 := by simp
      obtain ⟨zs, hzs⟩ : ∃ zs : List CV, (List.replicate (xs.length - F.length) [CV.i 0, CV.i 0]).flatten = zs := ⟨_, rfl⟩
      have hzl : zs.length = (xs.length - F.length) * 2 := by rw [← hzs]; simp
      have hYo : rdOb Y id 0 = some ⟨edC (F ++ xs.drop F.length) ++ [], 0, true, 2⟩ := hY
      have hput : putAt (edC (F ++ xs.drop F.length) ++ []) (F.length * 2) zs = edC F ++ zs := by
        unfold putAt
        rw [List.append_nil, edC_app, List.take_append_of_le_length (by omega), List.take_of_length_le (by omega), List.drop_eq_nil_of_le (by simp; omega), List.append_nil]
      have hle : F.length * 2 + (xs.length - F.length) * 2 ≤ (edC (F ++ xs.drop F.length) ++ []).length := by simp; omega
      generalize hcs : edC (F ++ xs.drop F.length) ++ [] = cs at hYo hput hle
      have hs1 : doSlice Y 2 (.sl id 0 0 xs.length) (some (.c (.i (F.length : Int)))) none = some (.c (.sl id 0 (F.length * 2) (xs.length - F.length))) := by
        simp [doSlice, hYo] <;> omega
      have hs2 : doSlice (Y.set id ⟨edC F ++ zs, 0, true, 2⟩) 2 (.sl id 0 0 xs.length) none (some (.c (.i (F.length : Int)))) = some (.c (.sl id 0 0 F.length)) := by
        simp [doSlice, rdOb_set_self hlY] <;> omega
      unfold vf75b0
      simp [h0, h1, h5, h6, hs1, hYo, hzs, hle, hput, hs2]
      rw [gc_inner hlt]
      exact ⟨_, rfl, hB.trans (But.set _ _ _), zs, by show rdOb (Y.set id _) id 0 = _; rw [rdOb_set_self hlY]; simp⟩
end Go.Proofs.Ytnpbldjbfkpbcaa.Vm
end
