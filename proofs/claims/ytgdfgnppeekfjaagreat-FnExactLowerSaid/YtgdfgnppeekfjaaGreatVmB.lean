/- How the ideal machine's values and heap stand for the model's. Definitions and their first lemmas. No conditions. -/
import Derived.Test.YtgdfgnppeekfjaaGreatVmA
import Derived.WalkKit
namespace Go.Proofs.YtgdfgnppeekfjaaGreat.Vm
open Go.RowKit (wrap64 Below)
def RL {α β : Type} (R : α → β → Prop) (as : List α) (bs : List β) : Prop :=
  as.length = bs.length ∧ ∀ (j : Nat) a b, as[j]? = some a → bs[j]? = some b → R a b
theorem RL.nil {α β : Type} (R : α → β → Prop) : RL R [] [] := ⟨rfl, fun j a b h => by simp at h⟩
theorem RL.cons {α β : Type} {R : α → β → Prop} {a : α} {b : β} {as : List α} {bs : List β} (h : R a b) (t : RL R as bs) : RL R (a :: as) (b :: bs) := by
  refine ⟨by simp [t.1], fun j x y hx hy => ?_⟩
  cases j with
  | zero => simp at hx hy; subst hx; subst hy; exact h
  | succ j => exact t.2 j x y (by simpa using hx) (by simpa using hy)
theorem RL.nil_inv {α β : Type} {R : α → β → Prop} {bs : List β} (h : RL R [] bs) : bs = [] := List.eq_nil_of_length_eq_zero h.1.symm
theorem RL.cons_inv {α β : Type} {R : α → β → Prop} {a : α} {as : List α} {bs : List β} (h : RL R (a :: as) bs) : ∃ b bs', bs = b :: bs' ∧ R a b ∧ RL R as bs' := by
  cases bs with
  | nil => have := h.1; simp at this
  | cons b bs =>
    refine ⟨b, bs, rfl, h.2 0 a b rfl rfl, by have := h.1; simpa using this, fun j x y hx hy => h.2 (j + 1) x y (by simpa using hx) (by simpa using hy)⟩
theorem RL.at_ {α β : Type} {R : α → β → Prop} {as : List α} {bs : List β} (h : RL R as bs) {j : Nat} {a : α} (ha : as[j]? = some a) : ∃ b, bs[j]? = some b ∧ R a b := by
  have hj : j < as.length := (List.getElem?_eq_some_iff.1 ha).1
  have hb : bs[j]? = some (bs[j]'(by have := h.1; omega)) := List.getElem?_eq_getElem _
  exact ⟨_, hb, h.2 j _ _ ha hb⟩
theorem RL.append {α β : Type} {R : α → β → Prop} {as as' : List α} {bs bs' : List β} (h : RL R as bs) (h' : RL R as' bs') : RL R (as ++ as') (bs ++ bs') := by
  refine ⟨by simp [h.1, h'.1], fun j x y hx hy => ?_⟩
  by_cases hj : j < as.length
  · rw [List.getElem?_append_left hj] at hx
    rw [List.getElem?_append_left (by have := h.1; omega)] at hy
    exact h.2 j x y hx hy
  · rw [List.getElem?_append_right (by omega)] at hx
    rw [List.getElem?_append_right (by have := h.1; omega)] at hy
    exact h'.2 (j - as.length) x y hx (by rw [h.1]; exact hy)
theorem RL.take_ {α β : Type} {R : α → β → Prop} {as : List α} {bs : List β} (h : RL R as bs) (n : Nat) : RL R (as.take n) (bs.take n) := by
  refine ⟨by simp [h.1], fun j x y hx hy => ?_⟩
  rw [List.getElem?_take] at hx hy
  split at hx
  · rename_i hj
    rw [if_pos hj] at hy
    exact h.2 j x y hx hy
  · cases hx
theorem RL.drop_ {α β : Type} {R : α → β → Prop} {as : List α} {bs : List β} (h : RL R as bs) (n : Nat) : RL R (as.drop n) (bs.drop n) := by
  refine ⟨by simp [h.1], fun j x y hx hy => ?_⟩
  rw [List.getElem?_drop] at hx hy
  exact h.2 _ x y hx hy
theorem RL.mono {α β : Type} {R R' : α → β → Prop} {as : List α} {bs : List β} (h : RL R as bs) (hr : ∀ a b, a ∈ as → R a b → R' a b) : RL R' as bs :=
  ⟨h.1, fun j a b ha hb => hr a b (List.mem_of_getElem? ha) (h.2 j a b ha hb)⟩
abbrev Rho := Nat → Addr × Nat
def VR (ρ : Rho) (H : Hp) : CV → Value → Prop
  | .non, _ => True
  | .und, v => v = undef
  | .i n, v => v = .int .i64 n
  | .y n, v => v = .int .u8 n
  | .b x, v => v = .bool x
  | .s x, v => v = .string x
  | .np, v => v = .pointer none
  | .p id g off, v => ∃ a, v = .pointer (some a) ∧ ∀ o, H[id]? = some o → o.g = g → a = (ρ id).1.add off
  | .ns, v => v = .slice none 0 0
  | .sl id g off len, v => ∃ a c, v = .slice (some a) len c ∧ len ≤ c ∧ c ≤ maxLen ∧ ∀ o, H[id]? = some o → o.g = g →
      (c = 0 ∨ a = (ρ id).1.add off) ∧ o.cells.length ≤ off + c * o.sz ∧ (o.rw = true → off + c * o.sz ≤ (ρ id).2)
def CR (ρ : Rho) (H : Hp) (x : CV) (v : Value) : Prop := VR ρ H x v ∧ v.oneCell' = true
def TR (ρ : Rho) (H : Hp) : Bool × List CV → Value → Prop
  | (true, cs), v => ∃ vs : List Value, v = .agg vs.toArray ∧ RL (CR ρ H) cs vs
  | (false, [x]), v => VR ρ H x v
  | (false, _), _ => False
def IR (ρ : Rho) (H : Hp) : IV → Value → Prop
  | .c x, v => VR ρ H x v
  | .agg cs, v => ∃ vs : List Value, v = .agg vs.toArray ∧ RL (CR ρ H) cs vs
  | .f fid caps, v => ∃ vs : List Value, v = .func (.func fid) #[] vs.toArray ∧ RL (VR ρ H) caps vs
  | .tup ts, v => ∃ vs : List Value, v = .tuple vs.toArray ∧ RL (TR ρ H) ts vs
def wfC (H : Hp) : CV → Prop
  | .p id g _ => ∃ o, H[id]? = some o ∧ g ≤ o.g
  | .sl id g _ _ => ∃ o, H[id]? = some o ∧ g ≤ o.g
  | _ => True
def wfI (H : Hp) : IV → Prop
  | .c x => wfC H x
  | .agg cs => ∀ c ∈ cs, wfC H c
  | .f _ caps => ∀ c ∈ caps, wfC H c
  | .tup ts => ∀ t ∈ ts, ∀ c ∈ t.2, wfC H c
structure Sim (w0 : World) (ρ : Rho) (H : Hp) (w : World) : Prop where
  bel : Below w0.heap.size w0 w
  cell : ∀ (id : Nat) (o : Ob) (j : Nat) (c : CV), H[id]? = some o → o.cells[j]? = some c → ∃ v, w.cell? ((ρ id).1.add j) = some v ∧ CR ρ H c v
  own : ∀ (id : Nat) (o : Ob), H[id]? = some o → o.rw = true → ∃ g arr ty, (ρ id).1 = ⟨g, 0, none⟩ ∧ w0.heap.size ≤ g ∧ w.heap[g]? = some (.cells arr ty (0, 0)) ∧ arr.size = (ρ id).2 ∧ o.cells.length ≤ arr.size
  inj : ∀ (id id' : Nat) (o o' : Ob), H[id]? = some o → H[id']? = some o' → o.rw = true → id ≠ id' → (ρ id).1.block ≠ (ρ id').1.block
  lt : ∀ (id : Nat) (o : Ob), H[id]? = some o → (ρ id).1.block < w.heap.size
  wf : ∀ (id : Nat) (o : Ob) (c : CV), H[id]? = some o → c ∈ o.cells → wfC H c
def Ext (ρ : Rho) (H : Hp) (ρ' : Rho) (H' : Hp) : Prop :=
  ∀ (id : Nat) (o : Ob), H[id]? = some o → ∃ o' : Ob, H'[id]? = some o' ∧ o.g ≤ o'.g ∧ (o'.g = o.g → ρ' id = ρ id ∧ o'.cells.length = o.cells.length ∧ o'.sz = o.sz ∧ o'.rw = o.rw)
theorem Ext.refl (ρ : Rho) (H : Hp) : Ext ρ H ρ H := fun _ o h => ⟨o, h, Nat.le_refl _, fun _ => ⟨rfl, rfl, rfl, rfl⟩⟩
theorem Ext.trans {ρ ρ' ρ'' : Rho} {H H' H'' : Hp} (h : Ext ρ H ρ' H') (k : Ext ρ' H' ρ'' H'') : Ext ρ H ρ'' H'' := by
  intro id o ho
  obtain ⟨o', h1, h2, h3⟩ := h id o ho
  obtain ⟨o'', k1, k2, k3⟩ := k id o' h1
  refine ⟨o'', k1, Nat.le_trans h2 k2, fun e => ?_⟩
  have e1 : o'.g = o.g := by omega
  have e2 : o''.g = o'.g := by omega
  obtain ⟨a1, a2, a3, a4⟩ := h3 e1
  obtain ⟨b1, b2, b3, b4⟩ := k3 e2
  exact ⟨b1.trans a1, b2.trans a2, b3.trans a3, b4.trans a4⟩
theorem wfC.ext {ρ ρ' : Rho} {H H' : Hp} (hE : Ext ρ H ρ' H') {c : CV} (h : wfC H c) : wfC H' c := by
  cases c <;> try exact trivial
  all_goals
    obtain ⟨o, h1, h2⟩ := h
    obtain ⟨o', k1, k2, _⟩ := hE _ o h1
    exact ⟨o', k1, Nat.le_trans h2 k2⟩
theorem wfI.ext {ρ ρ' : Rho} {H H' : Hp} (hE : Ext ρ H ρ' H') {v : IV} (h : wfI H v) : wfI H' v := by
  cases v with
  | c x => exact wfC.ext hE h
  | agg cs => exact fun c hc => wfC.ext hE (h c hc)
  | f fid caps => exact fun c hc => wfC.ext hE (h c hc)
  | tup ts => exact fun t ht c hc => wfC.ext hE (h t ht c hc)
theorem VR.ext {ρ ρ' : Rho} {H H' : Hp} (hE : Ext ρ H ρ' H') {c : CV} {v : Value} (hw : wfC H c) (h : VR ρ H c v) : VR ρ' H' c v := by
  cases c with
  | p id g off =>
    obtain ⟨o, h1, h2⟩ := hw
    obtain ⟨a, hv, ha⟩ := h
    refine ⟨a, hv, fun o' ho' hg => ?_⟩
    obtain ⟨o2, k1, k2, k3⟩ := hE id o h1
    rw [k1] at ho'; injection ho' with ho'; subst ho'
    have e : o.g = g := by omega
    obtain ⟨a1, _⟩ := k3 (by omega)
    rw [a1]
    exact ha o h1 e
  | sl id g off len =>
    obtain ⟨o, h1, h2⟩ := hw
    obtain ⟨a, c, hv, hl, hm, ha⟩ := h
    refine ⟨a, c, hv, hl, hm, fun o' ho' hg => ?_⟩
    obtain ⟨o2, k1, k2, k3⟩ := hE id o h1
    rw [k1] at ho'; injection ho' with ho'; subst ho'
    have e : o.g = g := by omega
    obtain ⟨a1, a2, a3, a4⟩ := k3 (by omega)
    rw [a1, a2, a3, a4]
    exact ha o h1 e
  | und => exact h
  | non => exact trivial
  | i n => exact h
  | y n => exact h
  | b x => exact h
  | s x => exact h
  | np => exact h
  | ns => exact h
theorem CR.ext {ρ ρ' : Rho} {H H' : Hp} (hE : Ext ρ H ρ' H') {c : CV} {v : Value} (hw : wfC H c) (h : CR ρ H c v) : CR ρ' H' c v := ⟨VR.ext hE hw h.1, h.2⟩
theorem TR.ext {ρ ρ' : Rho} {H H' : Hp} (hE : Ext ρ H ρ' H') {t : Bool × List CV} {v : Value} (hw : ∀ c ∈ t.2, wfC H c) (h : TR ρ H t v) : TR ρ' H' t v := by
  obtain ⟨b, cs⟩ := t
  cases b with
  | true =>
    obtain ⟨vs, h1, h2⟩ := h
    exact ⟨vs, h1, h2.mono fun a b ha hr => CR.ext hE (hw a ha) hr⟩
  | false =>
    match cs, h with
    | [x], h => exact VR.ext hE (hw x (by simp)) h
theorem IR.ext {ρ ρ' : Rho} {H H' : Hp} (hE : Ext ρ H ρ' H') {x : IV} {v : Value} (hw : wfI H x) (h : IR ρ H x v) : IR ρ' H' x v := by
  cases x with
  | c x => exact VR.ext hE hw h
  | agg cs =>
    obtain ⟨vs, h1, h2⟩ := h
    exact ⟨vs, h1, h2.mono fun a b ha hr => CR.ext hE (hw a ha) hr⟩
  | f fid caps =>
    obtain ⟨vs, h1, h2⟩ := h
    exact ⟨vs, h1, h2.mono fun a b ha hr => VR.ext hE (hw a ha) hr⟩
  | tup ts =>
    obtain ⟨vs, h1, h2⟩ := h
    exact ⟨vs, h1, h2.mono fun a b ha hr => TR.ext hE (fun c hc => hw a ha c hc) hr⟩
theorem Addr.add_add (a : Addr) (m n : Nat) : (a.add m).add n = a.add (m + n) := by
  unfold Addr.add
  by_cases hm : m = 0 <;> by_cases hn : n = 0 <;> simp [hm, hn, Nat.add_assoc]
theorem Addr.add_block (a : Addr) (m : Nat) : (a.add m).block = a.block := by
  unfold Addr.add; split <;> rfl
theorem add_own (g j : Nat) : (⟨g, 0, none⟩ : Addr).add j = ⟨g, j, none⟩ := by unfold Addr.add; split <;> simp_all
theorem Sim.drew {w0 : World} {ρ : Rho} {H : Hp} {w : World} (h : Sim w0 ρ H w) : Sim w0 ρ H w.drew :=
  ⟨h.bel.drew, h.cell, h.own, h.inj, h.lt, h.wf⟩
def setRho (ρ : Rho) (id : Nat) (x : Addr × Nat) : Rho := fun k => if k = id then x else ρ k
theorem Ext.push {ρ : Rho} {H : Hp} (o : Ob) (x : Addr × Nat) : Ext ρ H (setRho ρ H.length x) (H ++ [o]) := by
  intro id o1 h1
  have hlt : id < H.length := (List.getElem?_eq_some_iff.1 h1).1
  refine ⟨o1, by rw [List.getElem?_append_left hlt]; exact h1, Nat.le_refl _, fun _ => ⟨by unfold setRho; rw [if_neg (by omega)], rfl, rfl, rfl⟩⟩
theorem Sim.alloc {w0 : World} {ρ : Rho} {H : Hp} {w : World} (h : Sim w0 ρ H w) (cs : List CV) (sz : Nat) (arr : Array Value) (ty : TypeId)
    (hle : cs.length ≤ arr.size) (hr : ∀ (j : Nat) (c : CV), cs[j]? = some c → ∃ v, arr[j]? = some v ∧ CR ρ H c v) (hw : ∀ c ∈ cs, wfC H c) :
    Sim w0 (setRho ρ H.length (⟨w.heap.size, 0, none⟩, arr.size)) (fresh H cs true sz) (w.alloc (.cells arr ty (0, 0))) := by
  have hE : Ext ρ H (setRho ρ H.length (⟨w.heap.size, 0, none⟩, arr.size)) (fresh H cs true sz) := Ext.push _ _
  have hsplit : ∀ id o, (fresh H cs true sz)[id]? = some o → (id < H.length ∧ H[id]? = some o) ∨ (id = H.length ∧ o = ⟨cs, 0, true, sz⟩) := by
    intro id o ho
    unfold fresh at ho
    by_cases hlt : id < H.length
    · rw [List.getElem?_append_left hlt] at ho; exact .inl ⟨hlt, ho⟩
    · rw [List.getElem?_append_right (by omega)] at ho
      have hlt2 : id - H.length < 1 := by have := (List.getElem?_eq_some_iff.1 ho).1; simpa using this
      have hid : id - H.length = 0 := by omega
      rw [hid] at ho
      simp at ho
      exact .inr ⟨by omega, ho.symm⟩
  have hsame : ∀ k, k < H.length → setRho ρ H.length (⟨w.heap.size, 0, none⟩, arr.size) k = ρ k := fun k hk => by unfold setRho; rw [if_neg (by omega)]
  have hnew : setRho ρ H.length (⟨w.heap.size, 0, none⟩, arr.size) H.length = (⟨w.heap.size, 0, none⟩, arr.size) := by unfold setRho; rw [if_pos rfl]
  refine ⟨h.bel.alloc h.bel.size _, ?_, ?_, ?_, ?_, ?_⟩
  · intro id o j c ho hc
    rcases hsplit id o ho with ⟨hlt, ho⟩ | ⟨rfl, rfl⟩
    · obtain ⟨v, h1, h2⟩ := h.cell id o j c ho hc
      refine ⟨v, ?_, CR.ext hE (h.wf id o c ho (List.mem_of_getElem? hc)) h2⟩
      rw [hsame id hlt, World.cell?_alloc_lt]
      · exact h1
      · rw [Addr.add_block]; exact h.lt id o ho
    · obtain ⟨v, h1, h2⟩ := hr j c hc
      refine ⟨v, ?_, CR.ext hE (hw c (List.mem_of_getElem? hc)) h2⟩
      rw [hnew]
      simp only [add_own]
      rw [World.cell?_alloc_new]
      exact h1
  · intro id o ho hrw
    rcases hsplit id o ho with ⟨hlt, ho⟩ | ⟨rfl, rfl⟩
    · obtain ⟨g, arr', ty', h1, h2, h3, h4, h5⟩ := h.own id o ho hrw
      refine ⟨g, arr', ty', by rw [hsame id hlt]; exact h1, h2, ?_, by rw [hsame id hlt]; exact h4, h5⟩
      rw [Go.RowKit.Below.heap_alloc _ _ _ (Array.getElem?_eq_some_iff.1 h3).1]; exact h3
    · exact ⟨w.heap.size, arr, ty, by rw [hnew], h.bel.size, heap_alloc_new w _, by rw [hnew], hle⟩
  · intro id id' o o' ho ho' hrw hne
    rcases hsplit id o ho with ⟨hlt, ho⟩ | ⟨rfl, rfl⟩
    · rcases hsplit id' o' ho' with ⟨hlt', ho'⟩ | ⟨rfl, rfl⟩
      · rw [hsame id hlt, hsame id' hlt']; exact h.inj id id' o o' ho ho' hrw hne
      · rw [hsame id hlt, hnew]; exact Nat.ne_of_lt (h.lt id o ho)
    · rcases hsplit id' o' ho' with ⟨hlt', ho'⟩ | ⟨rfl, rfl⟩
      · rw [hsame id' hlt', hnew]; exact (Nat.ne_of_lt (h.lt id' o' ho')).symm
      · exact (hne rfl).elim
  · intro id o ho
    rcases hsplit id o ho with ⟨hlt, ho⟩ | ⟨rfl, rfl⟩
    · rw [hsame id hlt]; exact Nat.lt_of_lt_of_le (h.lt id o ho) (by simp)
    · rw [hnew]; simp
  · intro id o c ho hc
    rcases hsplit id o ho with ⟨hlt, ho⟩ | ⟨rfl, rfl⟩
    · exact wfC.ext hE (h.wf id o c ho hc)
    · exact wfC.ext hE (hw c hc)
theorem Sim.allocRo {w0 : World} {ρ : Rho} {H : Hp} {w w' : World} (h : Sim w0 ρ H w) (cs : List CV) (sz : Nat) (a : Addr) (m : Nat)
    (hB : Below w.heap.size w w') (ha1 : w.heap.size ≤ a.block) (ha2 : a.block < w'.heap.size)
    (hr : ∀ (j : Nat) (c : CV), cs[j]? = some c → ∃ v, w'.cell? (a.add j) = some v ∧ CR ρ H c v) (hw : ∀ c ∈ cs, wfC H c) :
    Sim w0 (setRho ρ H.length (a, m)) (fresh H cs false sz) w' := by
  have hE : Ext ρ H (setRho ρ H.length (a, m)) (fresh H cs false sz) := Ext.push _ _
  have hsplit : ∀ id o, (fresh H cs false sz)[id]? = some o → (id < H.length ∧ H[id]? = some o) ∨ (id = H.length ∧ o = ⟨cs, 0, false, sz⟩) := by
    intro id o ho
    unfold fresh at ho
    by_cases hlt : id < H.length
    · rw [List.getElem?_append_left hlt] at ho; exact .inl ⟨hlt, ho⟩
    · rw [List.getElem?_append_right (by omega)] at ho
      have hlt2 : id - H.length < 1 := by have := (List.getElem?_eq_some_iff.1 ho).1; simpa using this
      have hid : id - H.length = 0 := by omega
      rw [hid] at ho
      simp at ho
      exact .inr ⟨by omega, ho.symm⟩
  have hsame : ∀ k, k < H.length → setRho ρ H.length (a, m) k = ρ k := fun k hk => by unfold setRho; rw [if_neg (by omega)]
  have hnew : setRho ρ H.length (a, m) H.length = (a, m) := by unfold setRho; rw [if_pos rfl]
  refine ⟨h.bel.trans ⟨hB.os, hB.tape, hB.output, hB.size, fun k hk => hB.block k (Nat.lt_of_lt_of_le hk h.bel.size)⟩, ?_, ?_, ?_, ?_, ?_⟩
  · intro id o j c ho hc
    rcases hsplit id o ho with ⟨hlt, ho⟩ | ⟨rfl, rfl⟩
    · obtain ⟨v, h1, h2⟩ := h.cell id o j c ho hc
      refine ⟨v, ?_, CR.ext hE (h.wf id o c ho (List.mem_of_getElem? hc)) h2⟩
      rw [hsame id hlt, hB.cell]
      · exact h1
      · rw [Addr.add_block]; exact h.lt id o ho
    · obtain ⟨v, h1, h2⟩ := hr j c hc
      exact ⟨v, by rw [hnew]; exact h1, CR.ext hE (hw c (List.mem_of_getElem? hc)) h2⟩
  · intro id o ho hrw
    rcases hsplit id o ho with ⟨hlt, ho⟩ | ⟨rfl, rfl⟩
    · obtain ⟨g, arr', ty', h1, h2, h3, h4, h5⟩ := h.own id o ho hrw
      refine ⟨g, arr', ty', by rw [hsame id hlt]; exact h1, h2, ?_, by rw [hsame id hlt]; exact h4, h5⟩
      rw [hB.block _ (Array.getElem?_eq_some_iff.1 h3).1]; exact h3
    · cases hrw
  · intro id id' o o' ho ho' hrw hne
    rcases hsplit id o ho with ⟨hlt, ho⟩ | ⟨rfl, rfl⟩
    · rcases hsplit id' o' ho' with ⟨hlt', ho'⟩ | ⟨rfl, rfl⟩
      · rw [hsame id hlt, hsame id' hlt']; exact h.inj id id' o o' ho ho' hrw hne
      · rw [hsame id hlt, hnew]; exact Nat.ne_of_lt (Nat.lt_of_lt_of_le (h.lt id o ho) ha1)
    · cases hrw
  · intro id o ho
    rcases hsplit id o ho with ⟨hlt, ho⟩ | ⟨rfl, rfl⟩
    · rw [hsame id hlt]; exact Nat.lt_of_lt_of_le (h.lt id o ho) hB.size
    · rw [hnew]; exact ha2
  · intro id o c ho hc
    rcases hsplit id o ho with ⟨hlt, ho⟩ | ⟨rfl, rfl⟩
    · exact wfC.ext hE (h.wf id o c ho hc)
    · exact wfC.ext hE (hw c hc)
theorem Ext.set_same {ρ : Rho} {H : Hp} {id : Nat} {o o' : Ob} (ho : H[id]? = some o) (hg : o'.g = o.g) (hl : o'.cells.length = o.cells.length) (hs : o'.sz = o.sz) (hr : o'.rw = o.rw) :
    Ext ρ H ρ (H.set id o') := by
  intro k ok hk
  have hlt : k < H.length := (List.getElem?_eq_some_iff.1 hk).1
  by_cases e : k = id
  · subst e
    rw [ho] at hk; injection hk with hk; subst hk
    exact ⟨o', by rw [List.getElem?_set_self hlt], by omega, fun _ => ⟨rfl, hl, hs, hr⟩⟩
  · exact ⟨ok, by rw [List.getElem?_set_ne (Ne.symm e)]; exact hk, Nat.le_refl _, fun _ => ⟨rfl, rfl, rfl, rfl⟩⟩
theorem putAt_length {cs : List CV} {off : Nat} {xs : List CV} (h : off + xs.length ≤ cs.length) : (putAt cs off xs).length = cs.length := by
  unfold putAt; simp; omega
theorem Sim.store {w0 : World} {ρ : Rho} {H : Hp} {w : World} (h : Sim w0 ρ H w) {id : Nat} {o : Ob} (ho : H[id]? = some o) (hrw : o.rw = true) {off : Nat} {xs : List CV} {vs : List Value}
    (hl : off + xs.length ≤ o.cells.length) (hx : RL (CR ρ H) xs vs) (hwx : ∀ c ∈ xs, wfC H c) {g : Nat} {arr : Array Value} {ty : TypeId} (hg : (ρ id).1 = ⟨g, 0, none⟩)
    (harr : w.heap[g]? = some (.cells arr ty (0, 0))) :
    Sim w0 ρ (H.set id { o with cells := putAt o.cells off xs }) (w.setRow g (arr.toList.take off ++ vs ++ arr.toList.drop (off + vs.length)).toArray) := by
  have hE : Ext ρ H ρ (H.set id { o with cells := putAt o.cells off xs }) := Ext.set_same ho rfl (putAt_length hl) rfl rfl
  have hidlt : id < H.length := (List.getElem?_eq_some_iff.1 ho).1
  obtain ⟨g', arr', ty', o1, o2, o3, o4, o5⟩ := h.own id o ho hrw
  rw [hg] at o1; injection o1 with o1; subst o1
  rw [harr] at o3; injection o3 with o3; injection o3 with o3 o3'; subst o3
  have hxl : xs.length = vs.length := hx.1
  have hsz : (arr.toList.take off ++ vs ++ arr.toList.drop (off + vs.length)).toArray.size = arr.size := by simp; omega
  have hsplit : ∀ k ok, (H.set id { o with cells := putAt o.cells off xs })[k]? = some ok → (k ≠ id ∧ H[k]? = some ok) ∨ (k = id ∧ ok = { o with cells := putAt o.cells off xs }) := by
    intro k ok hk
    by_cases e : k = id
    · subst e; rw [List.getElem?_set_self hidlt] at hk; injection hk with hk; exact .inr ⟨rfl, hk.symm⟩
    · rw [List.getElem?_set_ne (Ne.symm e)] at hk; exact .inl ⟨e, hk⟩
  have hother : ∀ k, k ≠ g → (w.setRow g (arr.toList.take off ++ vs ++ arr.toList.drop (off + vs.length)).toArray).heap[k]? = w.heap[k]? := fun k hk => setRow_other w g k _ hk
  have hblk : (w.setRow g (arr.toList.take off ++ vs ++ arr.toList.drop (off + vs.length)).toArray).heap[g]? = some (.cells (arr.toList.take off ++ vs ++ arr.toList.drop (off + vs.length)).toArray ty (0, 0)) := setRow_heap w g arr _ ty _ harr
  have hne : ∀ k ok, H[k]? = some ok → k ≠ id → (ρ k).1.block ≠ g := by
    intro k ok hk e hb
    have := h.inj id k o ok ho hk hrw (Ne.symm e)
    rw [hg] at this
    exact this hb.symm
  refine ⟨h.bel.trans ⟨rfl, rfl, rfl, by simp, fun k hk => hother k (by omega)⟩, ?_, ?_, ?_, ?_, ?_⟩
  · intro k ok j c hk hc
    rcases hsplit k ok hk with ⟨e, hk⟩ | ⟨rfl, rfl⟩
    · obtain ⟨v, h1, h2⟩ := h.cell k ok j c hk hc
      refine ⟨v, ?_, CR.ext hE (h.wf k ok c hk (List.mem_of_getElem? hc)) h2⟩
      rw [World.cell?_of_block (w := w)]
      · exact h1
      · rw [Addr.add_block]; exact hother _ (hne k ok hk e)
    · rw [hg, add_own]
      have hjl : j < o.cells.length := by have := (List.getElem?_eq_some_iff.1 hc).1; rw [putAt_length hl] at this; exact this
      have hcell : ∀ v, (arr.toList.take off ++ vs ++ arr.toList.drop (off + vs.length))[j]? = some v →
          (w.setRow g (arr.toList.take off ++ vs ++ arr.toList.drop (off + vs.length)).toArray).cell? ⟨g, j, none⟩ = some v := by
        intro v hv
        simp only [World.cell?, hblk]
        simpa using hv
      have holdcell : ∀ c, o.cells[j]? = some c → ∃ v, arr.toList[j]? = some v ∧ CR ρ H c v := by
        intro c hc
        obtain ⟨v, h1, h2⟩ := h.cell k o j c ho hc
        rw [hg, add_own] at h1
        simp only [World.cell?, harr] at h1
        exact ⟨v, by simpa using h1, h2⟩
      simp only [putAt] at hc
      by_cases h1 : j < off
      · have hc' : o.cells[j]? = some c := by
          rw [List.append_assoc, List.getElem?_append_left (by simp; omega), List.getElem?_take, if_pos h1] at hc; exact hc
        obtain ⟨v, hv, hr⟩ := holdcell c hc'
        refine ⟨v, hcell v ?_, CR.ext hE (h.wf k o c ho (List.mem_of_getElem? hc')) hr⟩
        rw [List.append_assoc, List.getElem?_append_left (by simp; omega), List.getElem?_take, if_pos h1]; exact hv
      · by_cases h2 : j < off + xs.length
        · have hc' : xs[j - off]? = some c := by
            rw [List.append_assoc, List.getElem?_append_right (by simp; omega), List.getElem?_append_left (by simp; omega)] at hc
            have e : j - (List.take off o.cells).length = j - off := by simp; omega
            rwa [e] at hc
          obtain ⟨v, hv, hr⟩ := hx.at_ hc'
          refine ⟨v, hcell v ?_, CR.ext hE (hwx c (List.mem_of_getElem? hc')) hr⟩
          rw [List.append_assoc, List.getElem?_append_right (by simp; omega), List.getElem?_append_left (by simp; omega)]
          have e : j - (List.take off arr.toList).length = j - off := by simp; omega
          rw [e]; exact hv
        · have hc' : o.cells[j]? = some c := by
            rw [List.getElem?_append_right (by simp; omega), List.getElem?_drop] at hc
            have e : off + xs.length + (j - (List.take off o.cells ++ xs).length) = j := by simp; omega
            rwa [e] at hc
          obtain ⟨v, hv, hr⟩ := holdcell c hc'
          refine ⟨v, hcell v ?_, CR.ext hE (h.wf k o c ho (List.mem_of_getElem? hc')) hr⟩
          rw [List.getElem?_append_right (by simp; omega), List.getElem?_drop]
          have e : off + vs.length + (j - (List.take off arr.toList ++ vs).length) = j := by simp; omega
          rw [e]; exact hv
  · intro k ok hk hkrw
    rcases hsplit k ok hk with ⟨e, hk⟩ | ⟨rfl, rfl⟩
    · obtain ⟨g1, arr1, ty1, p1, p2, p3, p4, p5⟩ := h.own k ok hk hkrw
      refine ⟨g1, arr1, ty1, p1, p2, ?_, p4, p5⟩
      rw [hother g1 (by have := hne k ok hk e; rw [p1] at this; exact this)]; exact p3
    · exact ⟨g, _, ty, hg, o2, hblk, by rw [hsz]; exact o4, by rw [hsz]; show (putAt o.cells off xs).length ≤ _; rw [putAt_length hl]; exact o5⟩
  · intro k k' ok ok' hk hk' hkrw hne'
    rcases hsplit k ok hk with ⟨e, hk1⟩ | ⟨rfl, rfl⟩
    · rcases hsplit k' ok' hk' with ⟨e', hk2⟩ | ⟨rfl, rfl⟩
      · exact h.inj k k' ok ok' hk1 hk2 hkrw hne'
      · exact h.inj k k' ok o hk1 ho hkrw hne'
    · rcases hsplit k' ok' hk' with ⟨e', hk2⟩ | ⟨rfl, rfl⟩
      · exact h.inj k k' o ok' ho hk2 hrw hne'
      · exact (hne' rfl).elim
  · intro k ok hk
    rcases hsplit k ok hk with ⟨e, hk⟩ | ⟨rfl, rfl⟩
    · rw [size_setRow]; exact h.lt k ok hk
    · rw [size_setRow]; exact h.lt k o ho
  · intro k ok c hk hc
    rcases hsplit k ok hk with ⟨e, hk⟩ | ⟨rfl, rfl⟩
    · exact wfC.ext hE (h.wf k ok c hk hc)
    · simp only [putAt, List.mem_append] at hc
      rcases hc with (hc | hc) | hc
      · exact wfC.ext hE (h.wf k o c ho (List.mem_of_mem_take hc))
      · exact wfC.ext hE (hwx c hc)
      · exact wfC.ext hE (h.wf k o c ho (List.mem_of_mem_drop hc))
theorem Ext.set_grow {ρ : Rho} {H : Hp} {id : Nat} {o o' : Ob} (x : Addr × Nat) (ho : H[id]? = some o) (hg : o.g < o'.g) : Ext ρ H (setRho ρ id x) (H.set id o') := by
  intro k ok hk
  have hlt : k < H.length := (List.getElem?_eq_some_iff.1 hk).1
  by_cases e : k = id
  · subst e
    rw [ho] at hk; injection hk with hk; subst hk
    exact ⟨o', by rw [List.getElem?_set_self hlt], by omega, fun h => by omega⟩
  · exact ⟨ok, by rw [List.getElem?_set_ne (Ne.symm e)]; exact hk, Nat.le_refl _, fun _ => ⟨by unfold setRho; rw [if_neg e], rfl, rfl, rfl⟩⟩
theorem Sim.grow {w0 : World} {ρ : Rho} {H : Hp} {w w' : World} (h : Sim w0 ρ H w) {id : Nat} {o o' : Ob} (ho : H[id]? = some o) (hg : o.g < o'.g) {g : Nat} {arr : Array Value} {ty : TypeId}
    (hB : Below w0.heap.size w w') (hother : ∀ (k : Nat) (ok : Ob), H[k]? = some ok → k ≠ id → w'.heap[(ρ k).1.block]? = w.heap[(ρ k).1.block]? ∧ (ρ k).1.block ≠ g)
    (hg0 : w0.heap.size ≤ g) (harr : w'.heap[g]? = some (.cells arr ty (0, 0))) (hle : o'.cells.length ≤ arr.size)
    (hc : ∀ (j : Nat) (c : CV), o'.cells[j]? = some c → wfC H c ∧ ∃ v, arr[j]? = some v ∧ CR ρ H c v) :
    Sim w0 (setRho ρ id (⟨g, 0, none⟩, arr.size)) (H.set id o') w' := by
  have hE : Ext ρ H (setRho ρ id (⟨g, 0, none⟩, arr.size)) (H.set id o') := Ext.set_grow _ ho hg
  have hidlt : id < H.length := (List.getElem?_eq_some_iff.1 ho).1
  have hsplit : ∀ k ok, (H.set id o')[k]? = some ok → (k ≠ id ∧ H[k]? = some ok) ∨ (k = id ∧ ok = o') := by
    intro k ok hk
    by_cases e : k = id
    · subst e; rw [List.getElem?_set_self hidlt] at hk; injection hk with hk; exact .inr ⟨rfl, hk.symm⟩
    · rw [List.getElem?_set_ne (Ne.symm e)] at hk; exact .inl ⟨e, hk⟩
  have hsame : ∀ k, k ≠ id → setRho ρ id (⟨g, 0, none⟩, arr.size) k = ρ k := fun k hk => by unfold setRho; rw [if_neg hk]
  have hnew : setRho ρ id (⟨g, 0, none⟩, arr.size) id = (⟨g, 0, none⟩, arr.size) := by unfold setRho; rw [if_pos rfl]
  refine ⟨h.bel.trans hB, ?_, ?_, ?_, ?_, ?_⟩
  · intro k ok j c hk hcj
    rcases hsplit k ok hk with ⟨e, hk⟩ | ⟨rfl, rfl⟩
    · obtain ⟨v, h1, h2⟩ := h.cell k ok j c hk hcj
      refine ⟨v, ?_, CR.ext hE (h.wf k ok c hk (List.mem_of_getElem? hcj)) h2⟩
      rw [hsame k e, World.cell?_of_block (w := w)]
      · exact h1
      · rw [Addr.add_block]; exact (hother k ok hk e).1
    · obtain ⟨hwf, v, h1, h2⟩ := hc j c hcj
      refine ⟨v, ?_, CR.ext hE hwf h2⟩
      rw [hnew]
      simp only [add_own, World.cell?, harr]
      simpa using h1
  · intro k ok hk hkrw
    rcases hsplit k ok hk with ⟨e, hk⟩ | ⟨rfl, rfl⟩
    · obtain ⟨g1, arr1, ty1, p1, p2, p3, p4, p5⟩ := h.own k ok hk hkrw
      refine ⟨g1, arr1, ty1, by rw [hsame k e]; exact p1, p2, ?_, by rw [hsame k e]; exact p4, p5⟩
      have := (hother k ok hk e).1
      rw [p1] at this
      exact this.trans p3
    · exact ⟨g, arr, ty, by rw [hnew], hg0, harr, by rw [hnew], hle⟩
  · intro k k' ok ok' hk hk' hkrw hne'
    rcases hsplit k ok hk with ⟨e, hk1⟩ | ⟨rfl, rfl⟩
    · rcases hsplit k' ok' hk' with ⟨e', hk2⟩ | ⟨rfl, rfl⟩
      · rw [hsame k e, hsame k' e']; exact h.inj k k' ok ok' hk1 hk2 hkrw hne'
      · rw [hsame k e, hnew]; exact (hother k ok hk1 e).2
    · rcases hsplit k' ok' hk' with ⟨e', hk2⟩ | ⟨rfl, rfl⟩
      · rw [hsame k' e', hnew]; exact (hother k' ok' hk2 e').2.symm
      · exact (hne' rfl).elim
  · intro k ok hk
    rcases hsplit k ok hk with ⟨e, hk⟩ | ⟨rfl, rfl⟩
    · rw [hsame k e]; exact Nat.lt_of_lt_of_le (h.lt k ok hk) hB.size
    · rw [hnew]; exact (Array.getElem?_eq_some_iff.1 harr).1
  · intro k ok c hk hcm
    rcases hsplit k ok hk with ⟨e, hk⟩ | ⟨rfl, rfl⟩
    · exact wfC.ext hE (h.wf k ok c hk hcm)
    · obtain ⟨j, hj⟩ := List.getElem?_of_mem hcm
      exact wfC.ext hE (hc j c hj).1
end Go.Proofs.YtgdfgnppeekfjaaGreat.Vm
