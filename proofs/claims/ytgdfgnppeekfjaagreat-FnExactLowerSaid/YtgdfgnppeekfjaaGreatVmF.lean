/- Each operation of the ideal machine, but for calls, is followed by the model's: the third part. No conditions. -/
import Derived.Test.YtgdfgnppeekfjaaGreatVmE
import Derived.Lib.ConvBytes
import Derived.Laws.Tables
import Derived.Laws.StructEq
namespace Go.Proofs.YtgdfgnppeekfjaaGreat.Vm
open Go.RowKit (wrap64 Below)
set_option linter.unusedSimpArgs false
set_option linter.unusedVariables false
theorem fold_set (off : Nat) : ∀ (l : List Value) (k : Nat) (cs : Array Value), off + k + l.length ≤ cs.size →
    (l.zipIdx k).foldl (fun (cs : Array Value) (p : Value × Nat) => cs.setIfInBounds (off + p.2) p.1) cs = (cs.toList.take (off + k) ++ l ++ cs.toList.drop (off + k + l.length)).toArray := by
  intro l
  induction l with
  | nil => intro k cs h; apply Array.ext'; simp
  | cons v l ih =>
    intro k cs h
    simp only [List.length_cons] at h
    simp only [List.zipIdx_cons, List.foldl_cons]
    rw [ih (k + 1) _ (by simp; omega)]
    apply Array.ext'
    have hk : off + k < cs.toList.length := by simp; omega
    simp only [Array.toList_setIfInBounds, List.length_cons]
    rw [show off + (k + 1) = off + k + 1 by omega, List.take_succ_eq_append_getElem (by simp; omega)]
    rw [List.take_set_of_le (by omega), List.drop_set_of_lt (by omega)]
    simp
    congr 1
    omega
theorem rep_get {α : Type} (zs : List α) : ∀ (n j : Nat), j < n * zs.length → (List.replicate n zs).flatten[j]? = zs[j % zs.length]? := by
  intro n
  induction n with
  | zero => intro j h; omega
  | succ n ih =>
    intro j h
    rw [List.replicate_succ, List.flatten_cons]
    by_cases hj : j < zs.length
    · rw [List.getElem?_append_left hj, Nat.mod_eq_of_lt hj]
    · rw [List.getElem?_append_right (by omega), ih _ (by rw [Nat.succ_mul] at h; omega), ← Nat.mod_eq_sub_mod (by omega)]
theorem made_RL {R : CV → Value → Prop} {zs : List CV} {z : Array Value} (h : RL R zs z.toList) (hp : 0 < zs.length) (n : Nat) : RL R (List.replicate n zs).flatten (madeCells z (n * zs.length)).toList := by
  have hz : zs.length = z.size := by have := h.1; simpa using this
  refine ⟨by simp [madeCells], fun j c v hc hv => ?_⟩
  have hj : j < n * zs.length := by have := (List.getElem?_eq_some_iff.1 hc).1; simpa using this
  rw [rep_get zs n j hj] at hc
  have hm : j % z.size < z.size := Nat.mod_lt _ (by omega)
  simp [madeCells, hj, hm] at hv
  subst hv
  rw [hz] at hc
  exact h.2 _ c _ hc (by simp [hm])
section
variable {P : Program} {w0 : World} {ρ : Rho} {H : Hp} {w : World} {e : Env} {a : Act} {ty : TypeId} {d : Option Tmp} {pos : String} {aft : Array Edge} {gd : Option (Nat × Bool)}
def PartR (ρ : Rho) (H : Hp) (place : Nat → Option (Nat × Nat)) (p : Nat × List CV) (x : Nat × Value) : Prop :=
  place x.1 = some (p.1, p.2.length) ∧ RL (CR ρ H) p.2 x.2.cells.toList
theorem fill_lay (place : Nat → Option (Nat × Nat)) : ∀ {ps : List (Nat × List CV)} {xs : List (Nat × Value)} {cs cs' : List CV} {cells : Array Value}, RL (CR ρ H) cs cells.toList → RL (PartR ρ H place) ps xs →
    lay cs ps = some cs' → ∃ cells', Instr.fill place cells xs = some cells' ∧ RL (CR ρ H) cs' cells'.toList := by
  intro ps
  induction ps with
  | nil =>
    intro xs cs cs' cells hr hp hl
    simp only [lay, Option.some.injEq] at hl; subst hl
    rw [hp.nil_inv]
    exact ⟨cells, rfl, hr⟩
  | cons p ps ih =>
    intro xs cs cs' cells hr hp hl
    obtain ⟨x, xs, rfl, ⟨h1, h2⟩, h3⟩ := hp.cons_inv
    obtain ⟨off, pc⟩ := p
    obtain ⟨i, v⟩ := x
    simp only [lay] at hl
    split at hl
    · rename_i hle
      have hs : v.cells.size = pc.length := by have := h2.1; simp at this; omega
      have hcs : cs.length = cells.size := by have := hr.1; simpa using this
      have hfold : v.cells.zipIdx.foldl (fun (cs : Array Value) (x : Value × Nat) => cs.setIfInBounds (off + x.2) x.1) cells = (cells.toList.take off ++ v.cells.toList ++ cells.toList.drop (off + pc.length)).toArray := by
        rw [← Array.foldl_toList, Array.toList_zipIdx, fold_set off v.cells.toList 0 cells (by simp; omega)]
        simp [hs]
      have hr' : RL (CR ρ H) (putAt cs off pc) (cells.toList.take off ++ v.cells.toList ++ cells.toList.drop (off + pc.length)) := by
        unfold putAt
        exact ((hr.take_ off).append h2).append (hr.drop_ _)
      obtain ⟨cells', hf, hrr⟩ := ih (cells := (cells.toList.take off ++ v.cells.toList ++ cells.toList.drop (off + pc.length)).toArray) (by simpa using hr') h3 hl
      refine ⟨cells', ?_, hrr⟩
      simp only at h1
      simp only [Instr.fill, h1]
      rw [if_neg (by simp; omega)]
      rw [← hf]
      congr 1
    · cases hl
theorem chkFillS_R {sz : Nat} : ∀ {xs : List (Nat × Operand)} {ys : List (Nat × Nat × Od)} {ps : List (Nat × List CV)}, EnvR ρ H e a → wfE H e → chkFillS sz xs ys = true → partsOf e ys = some ps →
    RL (PartR ρ H fun i => some (i * sz, sz)) ps (xs.map fun (i, x) => (i, a.eval x)) ∧ ∀ p ∈ ps, ∀ c ∈ p.2, wfC H c := by
  intro xs
  induction xs with
  | nil =>
    intro ys ps hE hw h hp
    cases ys with
    | nil => simp only [partsOf, Option.some.injEq] at hp; subst hp; exact ⟨RL.nil _, by simp⟩
    | cons y ys => simp [chkFillS] at h
  | cons x xs ih =>
    intro ys ps hE hw h hp
    obtain ⟨i, x⟩ := x
    cases ys with
    | nil => simp [chkFillS] at h
    | cons y ys =>
      obtain ⟨off, n, y⟩ := y
      simp only [chkFillS, Bool.and_eq_true, beq_iff_eq] at h
      obtain ⟨⟨⟨h1, h2⟩, h3⟩, h4⟩ := h
      simp only [partsOf] at hp
      obtain ⟨cs, hcs, hp⟩ := Option.bind_eq_some_iff.1 hp
      split at hp
      · rename_i hl
        obtain ⟨ps', hps, hp⟩ := Option.bind_eq_some_iff.1 hp
        injection hp with hp; subst hp
        obtain ⟨r1, r2⟩ := chkOd_IR hE hw h1
        obtain ⟨r3, r4⟩ := cellsOf_R hcs r1 r2
        obtain ⟨r5, r6⟩ := ih hE hw h4 hps
        refine ⟨RL.cons ⟨?_, r3⟩ r5, ?_⟩
        · show some (i * sz, sz) = some (off, cs.length)
          rw [hl, h2, h3]
        · intro p hp c hc
          rcases List.mem_cons.1 hp with rfl | hp
          · exact r4 c hc
          · exact r6 p hp c hc
      · cases hp
theorem chkFill_R {t : TypeId} (place : Nat → Option (Nat × Nat)) (hpl : ∀ i x, fieldOf P t i = some x → place i = some x) : ∀ {xs : List (Nat × Operand)} {ys : List (Nat × Nat × Od)} {ps : List (Nat × List CV)}, EnvR ρ H e a → wfE H e → chkFill P t xs ys = true → partsOf e ys = some ps →
    RL (PartR ρ H place) ps (xs.map fun (i, x) => (i, a.eval x)) ∧ ∀ p ∈ ps, ∀ c ∈ p.2, wfC H c := by
  intro xs
  induction xs with
  | nil =>
    intro ys ps hE hw h hp
    cases ys with
    | nil => simp only [partsOf, Option.some.injEq] at hp; subst hp; exact ⟨RL.nil _, by simp⟩
    | cons y ys => simp [chkFill] at h
  | cons x xs ih =>
    intro ys ps hE hw h hp
    obtain ⟨i, x⟩ := x
    cases ys with
    | nil => simp [chkFill] at h
    | cons y ys =>
      obtain ⟨off, n, y⟩ := y
      simp only [chkFill, Bool.and_eq_true, decide_eq_true_eq] at h
      obtain ⟨⟨h1, h2⟩, h4⟩ := h
      simp only [partsOf] at hp
      obtain ⟨cs, hcs, hp⟩ := Option.bind_eq_some_iff.1 hp
      split at hp
      · rename_i hl
        obtain ⟨ps', hps, hp⟩ := Option.bind_eq_some_iff.1 hp
        injection hp with hp; subst hp
        obtain ⟨r1, r2⟩ := chkOd_IR hE hw h1
        obtain ⟨r3, r4⟩ := cellsOf_R hcs r1 r2
        obtain ⟨r5, r6⟩ := ih hE hw h4 hps
        refine ⟨RL.cons ⟨?_, r3⟩ r5, ?_⟩
        · show place i = some (off, cs.length)
          rw [hl]; exact hpl i _ h2
        · intro p hp c hc
          rcases List.mem_cons.1 hp with rfl | hp
          · exact r4 c hc
          · exact r6 p hp c hc
      · cases hp
theorem lay_wf : ∀ {ps : List (Nat × List CV)} {cs cs' : List CV}, lay cs ps = some cs' → (∀ c ∈ cs, wfC H c) → (∀ p ∈ ps, ∀ c ∈ p.2, wfC H c) → ∀ c ∈ cs', wfC H c := by
  intro ps
  induction ps with
  | nil => intro cs cs' h h1 h2; simp only [lay, Option.some.injEq] at h; subst h; exact h1
  | cons p ps ih =>
    intro cs cs' h h1 h2
    obtain ⟨off, pc⟩ := p
    simp only [lay] at h
    split at h
    · refine ih h (fun c hc => ?_) (fun p hp => h2 p (by simp [hp]))
      simp only [putAt, List.mem_append] at hc
      rcases hc with (hc | hc) | hc
      · exact h1 c (List.mem_of_mem_take hc)
      · exact h2 (off, pc) (by simp) c hc
      · exact h1 c (List.mem_of_mem_drop hc)
    · cases h
theorem lay_length : ∀ {ps : List (Nat × List CV)} {cs cs' : List CV}, lay cs ps = some cs' → cs'.length = cs.length := by
  intro ps
  induction ps with
  | nil => intro cs cs' h; simp only [lay, Option.some.injEq] at h; subst h; rfl
  | cons p ps ih =>
    intro cs cs' h
    obtain ⟨off, pc⟩ := p
    simp only [lay] at h
    split at h
    · rename_i hl; rw [ih h, putAt_length hl]
    · cases h
theorem mapM_places : ∀ (fs : List Field), allSized P fs = true → ∃ places : List (Nat × Nat), fs.mapM (fun (f : Field) => (P.info? f.type).map fun i => (f.offset, i.size)) = some places ∧
    ∀ (i : Nat) (x : Nat × Nat), (fs[i]?).bind (fun (f : Field) => (szOf P f.type).map fun n => (f.offset, n)) = some x → places[i]? = some x := by
  intro fs
  induction fs with
  | nil => intro _; exact ⟨[], by simp, fun i x h => by simp at h⟩
  | cons f fs ih =>
    intro h
    simp only [allSized, List.all_cons, Bool.and_eq_true] at h
    obtain ⟨places, h1, h2⟩ := ih h.2
    obtain ⟨n, hn⟩ := Option.isSome_iff_exists.1 h.1
    obtain ⟨i0, hi0, hi1⟩ := szOf_R hn
    refine ⟨(f.offset, i0.size) :: places, by simp [List.mapM_cons, hi0, h1], fun i x hx => ?_⟩
    cases i with
    | zero => simp [hn] at hx; subst hx; simp [hi1]
    | succ i => exact h2 i x (by simpa using hx)
theorem sim_build {t : TypeId} {zs : List CV} {parts : Array (Nat × Operand)} {ys : List (Nat × Nat × Od)} {ps : List (Nat × List CV)} {cs : List CV} {fs : Array Field} (hE : EnvR ρ H e a) (hw : wfE H e)
    (hz : zeroIs P t zs = true) (hf : chkFill P t parts.toList ys = true) (hu : P.underlying t = some (.struct fs)) (hall : allSized P fs.toList = true) (hp : partsOf e ys = some ps) (hl : lay zs ps = some cs) (hS : Sim w0 ρ H w) :
    Outc w0 ρ H (.agg cs) H ((execOp a.eval ⟨d, .build t parts, ty, pos, aft, gd⟩).run P w) := by
  obtain ⟨i, z, h1, h2, h3, h4⟩ := zeroIs_R ρ H hz
  obtain ⟨places, p1, p2⟩ := mapM_places fs.toList hall
  have hpl : ∀ i x, fieldOf P t i = some x → places.toArray[i]? = some x := by
    intro i x hx
    simp only [fieldOf, hu] at hx
    have := p2 i x (by simpa using hx)
    simpa using this
  obtain ⟨r1, r2⟩ := chkFill_R (places.toArray[·]?) hpl hE hw hf hp
  obtain ⟨cells, hfill, hr⟩ := fill_lay _ h3 r1 hl
  have hb : P.built t (parts.toList.map fun (i, x) => (i, a.eval x)) = some cells := by
    simp only [Program.built, h1, hu, h2, p1]
    exact hfill
  refine Outc.here hS (v := .agg cells) ?_ ⟨cells.toList, by simp, hr⟩ (lay_wf hl h4 r2)
  have hrun := run_build (P := P) w t (parts.map fun (i, x) => (i, a.eval x)) cells (by rw [Array.toList_map]; exact hb)
  simp [execOp, hrun]
theorem sim_bsl {t el : TypeId} {zs : List CV} {n sz : Nat} {parts : Array (Nat × Operand)} {ys : List (Nat × Nat × Od)} {ps : List (Nat × List CV)} {cs : List CV} (hE : EnvR ρ H e a) (hw : wfE H e)
    (he : elOf P t = some el) (hs : szOf P el = some sz) (hz : zeroIs P el zs = true) (hzl : zs.length = sz) (hp0 : 0 < sz) (hlim : n * sz ≤ 16777216) (hf : chkFillS sz parts.toList ys = true) (hp : partsOf e ys = some ps) (hl : lay (List.replicate n zs).flatten ps = some cs) (hS : Sim w0 ρ H w) :
    Outc w0 ρ H (.c (.sl H.length 0 0 n)) (fresh H cs true sz) ((execOp a.eval ⟨d, .buildSlice t n parts, ty, pos, aft, gd⟩).run P w) := by
  obtain ⟨i, z, h1, h2, h3, h4⟩ := zeroIs_R ρ H hz
  obtain ⟨i', h1', h2'⟩ := szOf_R hs
  rw [h1] at h1'; injection h1' with h1'; subst h1'
  subst hzl
  obtain ⟨r1, r2⟩ := chkFillS_R hE hw hf hp
  have hmade : RL (CR ρ H) (List.replicate n zs).flatten (madeCells z.cells (n * zs.length)).toList := made_RL h3 hp0 n
  obtain ⟨cells, hfill, hr⟩ := fill_lay _ hmade r1 hl
  have hcl : cs.length = n * zs.length := by rw [lay_length hl]; simp
  have hcs : cells.size = n * zs.length := by have := hr.1; simp at this; omega
  have hlim' : ¬ (16777216 < n * zs.length) := by omega
  refine ⟨_, _, .inl ⟨.slice (some ⟨w.heap.size, 0, none⟩) n n, ?_, ?_⟩, ?_, hS.alloc cs zs.length cells el (by omega) (fun j c hj => ?_) (lay_wf hl (fun c hc => ?_) r2), Ext.push _ _⟩
  · by_cases hn : n * zs.length = 0
    · have hn0 : n = 0 := by
        rcases Nat.eq_zero_or_pos n with h | h
        · exact h
        · exact absurd hn (Nat.ne_of_gt (Nat.mul_pos h hp0))
      subst hn0
      have hm : madeCells z.cells (0 * zs.length) = #[] := by simp [madeCells]
      rw [hm] at hfill
      have hfill' : Instr.fill (fun i => some (i * zs.length, zs.length)) #[] (List.map (fun p : Nat × Operand => (p.1, a.eval p.2)) parts.toList) = some cells := hfill
      have hr0 : Array.range 0 = #[] := rfl
      simp [execOp, Instr.buildSlice, run_underlying (elOf_R he), sizeOf, typeInfo, h1, h2', hr0, hfill', newRow]
    · have hfill' : Instr.fill (fun i => some (i * zs.length, zs.length)) ((Array.range (n * zs.length)).map (z.cells[· % z.cells.size]!)) (List.map (fun p : Nat × Operand => (p.1, a.eval p.2)) parts.toList) = some cells := hfill
      simp only [execOp, Instr.buildSlice, Sem.run_bind, run_underlying (elOf_R he), Result.andThen_ok, sizeOf, typeInfo, run_program, h1, Sem.run_pure, h2', gt_iff_lt]
      simp [hlim', hn, zeroValue, typeInfo, h1, h2, hfill', newRow]
  · refine ⟨_, _, rfl, Nat.le_refl _, ?_, fun o ho hg => ?_⟩
    · have : n ≤ n * zs.length := Nat.le_mul_of_pos_right _ hp0
      simp only [maxLen]; omega
    · have ho' : o = ⟨cs, 0, true, zs.length⟩ := by unfold fresh at ho; simp at ho; exact ho.symm
      subst ho'
      unfold setRho
      rw [if_pos rfl]
      simp only
      refine ⟨.inr (by rw [add_own]), by omega, fun _ => by omega⟩
  · exact ⟨⟨cs, 0, true, zs.length⟩, by unfold fresh; simp, Nat.le_refl _⟩
  · obtain ⟨v, hv, hr'⟩ := hr.at_ hj
    exact ⟨v, by simpa using hv, hr'⟩
  · rw [List.mem_flatten] at hc
    obtain ⟨l, hl', hc⟩ := hc
    rw [List.mem_replicate] at hl'
    rw [hl'.2] at hc
    exact h4 c hc
end
end Go.Proofs.YtgdfgnppeekfjaaGreat.Vm
