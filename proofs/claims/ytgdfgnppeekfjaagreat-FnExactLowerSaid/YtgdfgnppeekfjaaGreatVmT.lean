/- The arguments of a call, read into the ideal machine's first heap, where nothing may be written. No conditions. -/
import Derived.Test.YtgdfgnppeekfjaaGreatVmL
import Derived.ChangeArms
import Derived.WideShapes
import Derived.OpenShut
namespace Go.Proofs.YtgdfgnppeekfjaaGreat.Vm
open Go.RowKit (wrap64 Below)
set_option linter.unusedSimpArgs false
set_option linter.unusedVariables false
def tiles (P : Program) : List Field → Nat → Nat → Bool
  | [], k, n => k == n
  | f :: r, k, n => f.offset == k && tiles P r (k + P.cellsOf f.type) n
def plainT (P : Program) : Nat → TypeId → Bool
  | 0, _ => false
  | n + 1, t =>
    match P.underlying t with
    | some .bool => P.cellsOf t == 1
    | some (.int .i64) => P.cellsOf t == 1
    | some (.int .u8) => P.cellsOf t == 1
    | some .string => P.cellsOf t == 1
    | some (.slice e) => P.cellsOf t == 1 && decide (0 < P.cellsOf e) && plainT P n e
    | some (.struct fs) => tiles P fs.toList 0 (P.cellsOf t) && fs.toList.all fun f => plainT P n f.type
    | _ => false
def Ty (P : Program) (H : Hp) : Nat → TypeId → List CV → Prop
  | 0, _, _ => False
  | n + 1, t, cs =>
    match P.underlying t with
    | some .bool => ∃ b, cs = [.b b]
    | some (.int .i64) => ∃ m : Int, cs = [.i m] ∧ -9223372036854775808 ≤ m ∧ m ≤ 9223372036854775807
    | some (.int .u8) => ∃ m : Int, cs = [.y m] ∧ 0 ≤ m ∧ m ≤ 255
    | some .string => ∃ s : ByteArray, cs = [.s s] ∧ s.size ≤ maxLen
    | some (.slice e) => cs = [.ns] ∨ ∃ (id len : Nat) (o : Ob), cs = [.sl id 0 0 len] ∧ H[id]? = some o ∧ o.g = 0 ∧ o.rw = false ∧ o.sz = P.cellsOf e ∧ o.cells.length = len * o.sz ∧ len ≤ maxLen ∧
        ∀ i, i < len → Ty P H n e ((o.cells.drop (i * o.sz)).take o.sz)
    | some (.struct fs) => cs.length = P.cellsOf t ∧ ∀ f ∈ fs.toList, Ty P H n f.type ((cs.drop f.offset).take (P.cellsOf f.type))
    | _ => False
theorem Ty.app {P : Program} {H : Hp} (Y : Hp) : ∀ {n : Nat} {t : TypeId} {cs : List CV}, Ty P H n t cs → Ty P (H ++ Y) n t cs := by
  intro n
  induction n with
  | zero => intro t cs h; exact h
  | succ n ih =>
    intro t cs h
    unfold Ty at h ⊢
    split at h
    · exact h
    · exact h
    · exact h
    · exact h
    · rcases h with h | ⟨id, len, o, h1, h2, h3, h4, h5, h6, h7, h8⟩
      · exact .inl h
      · exact .inr ⟨id, len, o, h1, by rw [List.getElem?_append_left (List.getElem?_eq_some_iff.1 h2).1]; exact h2, h3, h4, h5, h6, h7, fun i hi => ih (h8 i hi)⟩
    · exact ⟨h.1, fun f hf => ih (h.2 f hf)⟩
    · exact h.elim
def Ini (w : World) (ρ : Rho) (H : Hp) : Prop := Sim w ρ H w ∧ ∀ o ∈ H, o.rw = false
theorem Ini.nil (w : World) (ρ : Rho) : Ini w ρ [] :=
  ⟨⟨Below.refl _ _, fun id o j c h => by simp at h, fun id o h => by simp at h, fun id id' o o' h => by simp at h, fun id o h => by simp at h, fun id o c h => by simp at h⟩, fun o h => by simp at h⟩
theorem Ini.push {w : World} {ρ : Rho} {H : Hp} (h : Ini w ρ H) (cs : List CV) (sz : Nat) (a : Addr) (m : Nat) (ha : a.block < w.heap.size)
    (hr : ∀ (j : Nat) (c : CV), cs[j]? = some c → ∃ v, w.cell? (a.add j) = some v ∧ CR ρ H c v) (hw : ∀ c ∈ cs, wfC H c) :
    Ini w (setRho ρ H.length (a, m)) (fresh H cs false sz) := by
  obtain ⟨hS, hro⟩ := h
  have hE : Ext ρ H (setRho ρ H.length (a, m)) (fresh H cs false sz) := Ext.push _ _
  have hro' : ∀ o ∈ fresh H cs false sz, o.rw = false := by
    intro o ho
    unfold fresh at ho
    rcases List.mem_append.1 ho with ho | ho
    · exact hro o ho
    · simp at ho; subst ho; rfl
  have hsplit : ∀ (id : Nat) (o : Ob), (fresh H cs false sz)[id]? = some o → (id < H.length ∧ H[id]? = some o) ∨ (id = H.length ∧ o = ⟨cs, 0, false, sz⟩) := by
    intro id o ho
    unfold fresh at ho
    by_cases hlt : id < H.length
    · rw [List.getElem?_append_left hlt] at ho; exact .inl ⟨hlt, ho⟩
    · rw [List.getElem?_append_right (by omega)] at ho
      have hlt2 : id - H.length < 1 := by have := (List.getElem?_eq_some_iff.1 ho).1; simpa using this
      have e : id - H.length = 0 := by omega
      rw [e] at ho
      simp at ho
      exact .inr ⟨by omega, ho.symm⟩
  have hs : ∀ k, k < H.length → setRho ρ H.length (a, m) k = ρ k := fun k hk => by unfold setRho; rw [if_neg (by omega)]
  have hn : setRho ρ H.length (a, m) H.length = (a, m) := by unfold setRho; rw [if_pos rfl]
  refine ⟨⟨Below.refl _ _, ?_, ?_, ?_, ?_, ?_⟩, hro'⟩
  · intro id o j c ho hc
    rcases hsplit id o ho with ⟨hlt, ho⟩ | ⟨rfl, rfl⟩
    · obtain ⟨v, h1, h2⟩ := hS.cell id o j c ho hc
      rw [hs id hlt]
      exact ⟨v, h1, CR.ext hE (hS.wf id o c ho (List.mem_of_getElem? hc)) h2⟩
    · obtain ⟨v, h1, h2⟩ := hr j c hc
      rw [hn]
      exact ⟨v, h1, CR.ext hE (hw c (List.mem_of_getElem? hc)) h2⟩
  · intro id o ho hrw
    rw [hro' o (List.mem_of_getElem? ho)] at hrw; cases hrw
  · intro id id' o o' ho _ hrw
    rw [hro' o (List.mem_of_getElem? ho)] at hrw; cases hrw
  · intro id o ho
    rcases hsplit id o ho with ⟨hlt, ho⟩ | ⟨rfl, rfl⟩
    · rw [hs id hlt]; exact hS.lt id o ho
    · rw [hn]; exact ha
  · intro id o c ho hc
    rcases hsplit id o ho with ⟨hlt, ho⟩ | ⟨rfl, rfl⟩
    · exact wfC.ext hE (hS.wf id o c ho hc)
    · exact wfC.ext hE (hw c hc)
section
variable {Q : Type} {enc : TypeId × Value → Q} {P : Program} {w : World} {base : Nat} {spare : Nat → Bool} {held : Bool} {fuel : Nat} {t : TypeId} {cs : List Value} {x : DataW Q × List MemPlace}
theorem trod_bool (ht : P.underlying t = some .bool) (h : DataW.trod enc P w base spare held fuel t cs = some x) : ∃ b, cs = [.bool b] := by
  cases fuel with
  | zero => simp [DataW.trod] at h
  | succ n => unfold DataW.trod at h; rw [ht] at h; split at h <;> simp_all
theorem trod_int {k : IntKind} (ht : P.underlying t = some (.int k)) (h : DataW.trod enc P w base spare held fuel t cs = some x) : ∃ m, cs = [.int k m] ∧ (Lit.int k m).wf = true := by
  cases fuel with
  | zero => simp [DataW.trod] at h
  | succ n => unfold DataW.trod at h; rw [ht] at h; split at h <;> simp_all
theorem trod_string (ht : P.underlying t = some .string) (h : DataW.trod enc P w base spare held fuel t cs = some x) : ∃ s, cs = [.string s] ∧ s.size ≤ maxLen := by
  cases fuel with
  | zero => simp [DataW.trod] at h
  | succ n => unfold DataW.trod at h; rw [ht] at h; split at h <;> simp_all
end
theorem cells?_some {w : World} {base n : Nat} {a : Addr} {vs : List Value} (h : w.cells? base a n = some vs) : vs.length = n ∧ ∀ j, j < n → w.cell? (a.add j) = vs[j]? := by
  unfold World.cells? at h
  split at h
  · have key : ∀ (l : List Nat) (vs : List Value), l.mapM (fun i => w.cell? (a.add i)) = some vs → vs.length = l.length ∧ ∀ (j i : Nat), l[j]? = some i → w.cell? (a.add i) = vs[j]? := by
      intro l
      induction l with
      | nil => intro vs h; simp at h; subst h; simp
      | cons i l ih =>
        intro vs h
        simp only [List.mapM_cons, Option.pure_def, Option.bind_eq_bind, Option.bind_eq_some_iff] at h
        obtain ⟨v, h1, vs', h2, h3⟩ := h
        injection h3 with h3; subst h3
        obtain ⟨g1, g2⟩ := ih vs' h2
        refine ⟨by simp [g1], fun j k hj => ?_⟩
        cases j with
        | zero => simp at hj; subst hj; simpa using h1
        | succ j => simpa using g2 j k (by simpa using hj)
    obtain ⟨k1, k2⟩ := key _ _ h
    refine ⟨by simpa using k1, fun j hj => k2 j j (by simp [hj])⟩
  · cases h
theorem cell_block {w : World} {a : Addr} {v : Value} (h : w.cell? a = some v) : a.block < w.heap.size := by
  unfold World.cell? at h
  cases hb : w.heap[a.block]? with
  | none => rw [hb] at h; simp at h
  | some o => exact (Array.getElem?_eq_some_iff.1 hb).1
def NeS (w : World) (cs : List Value) : Prop := ∀ a l c, Value.slice (some a) l c ∈ cs → 0 < w.heap.size
def Opened (P : Program) (w : World) (ρ : Rho) (H : Hp) (n : Nat) (t : TypeId) (cs : List Value) : Prop :=
  ∃ ρ' Y cvs, Ini w ρ' (H ++ Y) ∧ Ext ρ H ρ' (H ++ Y) ∧ RL (CR ρ' (H ++ Y)) cvs cs ∧ (∀ c ∈ cvs, wfC (H ++ Y) c) ∧ Ty P (H ++ Y) n t cvs
theorem Opened.leaf {P : Program} {w : World} {ρ : Rho} {H : Hp} {n : Nat} {t : TypeId} (hI : Ini w ρ H) {c : CV} {v : Value} (hc : CR ρ H c v) (hw : wfC H c) (hty : Ty P H n t [c]) : Opened P w ρ H n t [v] := by
  refine ⟨ρ, [], [c], ?_⟩
  rw [List.append_nil]
  exact ⟨hI, Ext.refl _ _, RL.cons hc (RL.nil _), by intro y hy; simp at hy; subst hy; exact hw, hty⟩
section
variable {Q : Type} {enc : TypeId × Value → Q} {P : Program} {w : World}
theorem open_row {n : Nat} {e : TypeId} {a : Addr} (hz : 0 < P.cellsOf e)
    (ih : ∀ (fuel : Nat) (cs : List Value) (x : DataW Q × List MemPlace) (ρ : Rho) (H : Hp), DataW.trod enc P w 0 (fun _ => true) true fuel e cs = some x → Ini w ρ H → NeS w cs → Opened P w ρ H n e cs) :
    ∀ (k : Nat), (∀ i, i < k → ∃ vs y fuel, w.cells? 0 (a.add (i * P.cellsOf e)) (P.cellsOf e) = some vs ∧ DataW.trod enc P w 0 (fun _ => true) true fuel e vs = some y) → ∀ (ρ : Rho) (H : Hp), Ini w ρ H →
    ∃ (ρ' : Rho) (Y : Hp) (cvs : List CV), Ini w ρ' (H ++ Y) ∧ Ext ρ H ρ' (H ++ Y) ∧ cvs.length = k * P.cellsOf e ∧
      (∀ (j : Nat) (c : CV), cvs[j]? = some c → ∃ v, w.cell? (a.add j) = some v ∧ CR ρ' (H ++ Y) c v) ∧ (∀ c ∈ cvs, wfC (H ++ Y) c) ∧
      ∀ i, i < k → Ty P (H ++ Y) n e ((cvs.drop (i * P.cellsOf e)).take (P.cellsOf e)) := by
  intro k
  induction k with
  | zero =>
    intro _ ρ H hI
    refine ⟨ρ, [], [], ?_⟩
    rw [List.append_nil]
    exact ⟨hI, Ext.refl _ _, by simp, by simp, by simp, by intro i hi; omega⟩
  | succ k ihk =>
    intro hc ρ H hI
    obtain ⟨ρ1, Y1, cvs1, i1, e1, l1, c1, w1, t1⟩ := ihk (fun i hi => hc i (by omega)) ρ H hI
    obtain ⟨vs, y, fuel, hv, ht⟩ := hc k (by omega)
    obtain ⟨hvl, hvc⟩ := cells?_some hv
    have hne : NeS w vs := by
      intro a' l' c' _
      have h0 := hvc 0 hz
      have : (vs[0]?).isSome = true := by simp; omega
      obtain ⟨v0, hv0⟩ := Option.isSome_iff_exists.1 this
      rw [hv0] at h0
      have := cell_block h0
      omega
    obtain ⟨ρ2, Y2, cvs2, i2, e2, r2, w2, t2⟩ := ih fuel vs y ρ1 (H ++ Y1) ht i1 hne
    have hl2 : cvs2.length = P.cellsOf e := by rw [r2.1]; exact hvl
    refine ⟨ρ2, Y1 ++ Y2, cvs1 ++ cvs2, ?_⟩
    rw [← List.append_assoc]
    refine ⟨i2, e1.trans e2, by rw [List.length_append, l1, hl2, Nat.succ_mul], ?_, ?_, ?_⟩
    · intro j c hj
      by_cases hlt : j < k * P.cellsOf e
      · rw [List.getElem?_append_left (by omega)] at hj
        obtain ⟨v, h1, h2⟩ := c1 j c hj
        exact ⟨v, h1, CR.ext e2 (w1 c (List.mem_of_getElem? hj)) h2⟩
      · rw [List.getElem?_append_right (by omega), l1] at hj
        obtain ⟨v, h1, h2⟩ := r2.at_ hj
        have hjl : j - k * P.cellsOf e < P.cellsOf e := by have := (List.getElem?_eq_some_iff.1 h1).1; omega
        have h3 := hvc _ hjl
        rw [h1, Addr.add_add, show k * P.cellsOf e + (j - k * P.cellsOf e) = j by omega] at h3
        exact ⟨v, h3, h2⟩
    · intro c hcm
      rcases List.mem_append.1 hcm with h | h
      · exact wfC.ext e2 (w1 c h)
      · exact w2 c h
    · intro i hi
      by_cases hlt : i < k
      · have hm : i * P.cellsOf e + P.cellsOf e ≤ k * P.cellsOf e := by rw [← Nat.succ_mul]; exact Nat.mul_le_mul_right _ hlt
        rw [List.drop_append_of_le_length (by omega), List.take_append_of_le_length (by rw [List.length_drop]; omega)]
        exact (t1 i hlt).app Y2
      · have hik : i = k := by omega
        subst hik
        rw [← l1, List.drop_append, List.drop_length, Nat.sub_self, List.nil_append, List.drop_zero, List.take_of_length_le (by omega)]
        exact t2
theorem tiles_le : ∀ {fs : List Field} {k n : Nat}, tiles P fs k n = true → k ≤ n := by
  intro fs
  induction fs with
  | nil => intro k n h; simp [tiles] at h; omega
  | cons f r ih =>
    intro k n h
    simp only [tiles, Bool.and_eq_true, beq_iff_eq] at h
    have := ih h.2
    omega
theorem open_fields {n : Nat} {cs : List Value} (hne : NeS w cs) : ∀ (fs : List Field) (k : Nat), tiles P fs k cs.length = true →
    (∀ f ∈ fs, ∀ (fuel : Nat) (cs : List Value) (x : DataW Q × List MemPlace) (ρ : Rho) (H : Hp), DataW.trod enc P w 0 (fun _ => true) true fuel f.type cs = some x → Ini w ρ H → NeS w cs → Opened P w ρ H n f.type cs) →
    (∀ f ∈ fs, ∃ fuel y, DataW.trod enc P w 0 (fun _ => true) true fuel f.type ((cs.drop f.offset).take (P.cellsOf f.type)) = some y) → ∀ (ρ : Rho) (H : Hp), Ini w ρ H →
    ∃ (ρ' : Rho) (Y : Hp) (cvs : List CV), Ini w ρ' (H ++ Y) ∧ Ext ρ H ρ' (H ++ Y) ∧ RL (CR ρ' (H ++ Y)) cvs (cs.drop k) ∧ (∀ c ∈ cvs, wfC (H ++ Y) c) ∧
      ∀ f ∈ fs, k ≤ f.offset ∧ Ty P (H ++ Y) n f.type ((cvs.drop (f.offset - k)).take (P.cellsOf f.type)) := by
  intro fs
  induction fs with
  | nil =>
    intro k hk _ _ ρ H hI
    refine ⟨ρ, [], [], ?_⟩
    rw [List.append_nil]
    simp only [tiles, beq_iff_eq] at hk
    rw [List.drop_eq_nil_of_le (by omega)]
    exact ⟨hI, Ext.refl _ _, RL.nil _, by simp, by simp⟩
  | cons f r ihr =>
    intro k hk hop hc ρ H hI
    simp only [tiles, Bool.and_eq_true, beq_iff_eq] at hk
    obtain ⟨ho, hk⟩ := hk
    have hle := tiles_le hk
    obtain ⟨fuel, y, ht⟩ := hc f (by simp)
    obtain ⟨ρ1, Y1, cvs1, i1, e1, r1, w1, t1⟩ := hop f (by simp) fuel _ y ρ H ht hI (fun a l c hm => hne a l c (List.mem_of_mem_drop (List.mem_of_mem_take hm)))
    have hl1 : cvs1.length = P.cellsOf f.type := by rw [r1.1, List.length_take, List.length_drop]; omega
    obtain ⟨ρ2, Y2, cvs2, i2, e2, r2, w2, t2⟩ := ihr (k + P.cellsOf f.type) hk (fun g hg => hop g (by simp [hg])) (fun g hg => hc g (by simp [hg])) ρ1 (H ++ Y1) i1
    refine ⟨ρ2, Y1 ++ Y2, cvs1 ++ cvs2, ?_⟩
    rw [← List.append_assoc]
    have hR1 : RL (CR ρ2 (H ++ Y1 ++ Y2)) cvs1 ((cs.drop k).take (P.cellsOf f.type)) := by
      rw [ho] at r1
      exact ⟨r1.1, fun j c v hj hv => CR.ext e2 (w1 c (List.mem_of_getElem? hj)) (r1.2 j c v hj hv)⟩
    refine ⟨i2, e1.trans e2, ?_, ?_, ?_⟩
    · have hsp : cs.drop k = (cs.drop k).take (P.cellsOf f.type) ++ cs.drop (k + P.cellsOf f.type) := by rw [← List.drop_drop, List.take_append_drop]
      rw [hsp]
      exact hR1.append r2
    · intro c hcm
      rcases List.mem_append.1 hcm with h | h
      · exact wfC.ext e2 (w1 c h)
      · exact w2 c h
    · intro g hg
      rcases List.mem_cons.1 hg with rfl | hg
      · refine ⟨by omega, ?_⟩
        rw [show g.offset - k = 0 by omega, List.drop_zero, List.take_append_of_le_length (by omega), List.take_of_length_le (by omega)]
        exact t1.app Y2
      · obtain ⟨g1, g2⟩ := t2 g hg
        refine ⟨by omega, ?_⟩
        rw [List.drop_append, List.drop_eq_nil_of_le (by omega), List.nil_append, show g.offset - k - cvs1.length = g.offset - (k + P.cellsOf f.type) by omega]
        exact g2
theorem wf_i64 {m : Int} (h : (Lit.int .i64 m).wf = true) : -9223372036854775808 ≤ m ∧ m ≤ 9223372036854775807 := by
  simp only [Lit.wf, IntKind.min, IntKind.max, IntKind.signed, IntKind.bits, Bool.and_eq_true, decide_eq_true_eq, if_true] at h
  omega
theorem wf_u8 {m : Int} (h : (Lit.int .u8 m).wf = true) : 0 ≤ m ∧ m ≤ 255 := by
  simp only [Lit.wf, IntKind.min, IntKind.max, IntKind.signed, IntKind.bits, Bool.and_eq_true, decide_eq_true_eq] at h
  simp at h
  omega
theorem open_ty : ∀ (n : Nat) (t : TypeId), plainT P n t = true → ∀ (fuel : Nat) (cs : List Value) (x : DataW Q × List MemPlace) (ρ : Rho) (H : Hp),
    DataW.trod enc P w 0 (fun _ => true) true fuel t cs = some x → Ini w ρ H → NeS w cs → Opened P w ρ H n t cs := by
  intro n
  induction n with
  | zero => intro t hp; simp [plainT] at hp
  | succ n ih =>
    intro t hp fuel cs x ρ H h hI hne
    unfold plainT at hp
    split at hp
    · rename_i hu
      obtain ⟨b, rfl⟩ := trod_bool hu h
      exact Opened.leaf hI (c := .b b) ⟨rfl, rfl⟩ trivial (by unfold Ty; rw [hu]; exact ⟨b, rfl⟩)
    · rename_i hu
      obtain ⟨m, rfl, hm⟩ := trod_int hu h
      exact Opened.leaf hI (c := .i m) ⟨rfl, rfl⟩ trivial (by unfold Ty; rw [hu]; exact ⟨m, rfl, wf_i64 hm⟩)
    · rename_i hu
      obtain ⟨m, rfl, hm⟩ := trod_int hu h
      exact Opened.leaf hI (c := .y m) ⟨rfl, rfl⟩ trivial (by unfold Ty; rw [hu]; exact ⟨m, rfl, wf_u8 hm⟩)
    · rename_i hu
      obtain ⟨s, rfl, hs⟩ := trod_string hu h
      exact Opened.leaf hI (c := .s s) ⟨rfl, rfl⟩ trivial (by unfold Ty; rw [hu]; exact ⟨s, rfl, hs⟩)
    · rename_i e hu
      simp only [Bool.and_eq_true, beq_iff_eq, decide_eq_true_eq] at hp
      obtain ⟨⟨hp1, hz⟩, hp2⟩ := hp
      rcases DataW.trod_slice hu h with ⟨rfl, _⟩ | ⟨a, len, cap, elems, rest, m, _, rfl, _, _, hlc, hcm, hel, helems, hsp, _⟩
      · exact Opened.leaf hI (c := .ns) ⟨rfl, rfl⟩ trivial (by unfold Ty; rw [hu]; exact .inl rfl)
      · have hpart : ∀ i, i < len → ∃ vs y fuel, w.cells? 0 (a.add (i * P.cellsOf e)) (P.cellsOf e) = some vs ∧ DataW.trod enc P w 0 (fun _ => true) true fuel e vs = some y := by
          intro i hi
          have h1 := helems i hi
          rw [List.getElem?_eq_getElem (by omega)] at h1
          obtain ⟨vs, h2, h3⟩ := Option.bind_eq_some_iff.1 h1
          exact ⟨vs, _, m, h2, h3⟩
        obtain ⟨ρ1, Y1, cvs, i1, e1, l1, c1, w1, t1⟩ := open_row (Q := Q) (enc := enc) hz (ih e hp2) len hpart ρ H hI
        have hblk : 0 < cap → a.block < w.heap.size := by
          intro h0
          obtain ⟨i, vs, hv⟩ : ∃ i vs, w.cells? 0 (a.add (i * P.cellsOf e)) (P.cellsOf e) = some vs := by
            by_cases hl0 : 0 < len
            · obtain ⟨vs, y, fuel, h1, _⟩ := hpart 0 hl0
              exact ⟨0, vs, h1⟩
            · obtain ⟨s1, s2⟩ := hsp rfl
              have h1 := s2 0 (by omega)
              rw [List.getElem?_eq_getElem (by omega)] at h1
              obtain ⟨vs, h2, _⟩ := Option.bind_eq_some_iff.1 h1
              exact ⟨_, vs, h2⟩
          obtain ⟨hvl, hvc⟩ := cells?_some hv
          have h0 := hvc 0 hz
          rw [List.getElem?_eq_getElem (by omega)] at h0
          have := cell_block h0
          simpa [Addr.add_block] using this
        have hpos : 0 < w.heap.size := hne a len cap (by simp)
        have hsz : cvs.length = len * P.cellsOf e := l1
        have hi2 : Ini w (setRho ρ1 (H ++ Y1).length ((if cap = 0 then ⟨0, 0, none⟩ else a), 0)) (fresh (H ++ Y1) cvs false (P.cellsOf e)) := by
          refine Ini.push i1 cvs (P.cellsOf e) _ 0 ?_ ?_ w1
          · split
            · exact hpos
            · exact hblk (by omega)
          · intro j c hj
            have hjl : j < cvs.length := (List.getElem?_eq_some_iff.1 hj).1
            have hc0 : ¬ cap = 0 := by
              intro h0
              have : len = 0 := by omega
              rw [this, Nat.zero_mul] at hsz
              omega
            rw [if_neg hc0]
            exact c1 j c hj
        refine ⟨setRho ρ1 (H ++ Y1).length ((if cap = 0 then ⟨0, 0, none⟩ else a), 0), Y1 ++ [⟨cvs, 0, false, P.cellsOf e⟩], [.sl (H ++ Y1).length 0 0 len], ?_⟩
        rw [← List.append_assoc]
        have hget : (H ++ Y1 ++ [(⟨cvs, 0, false, P.cellsOf e⟩ : Ob)])[(H ++ Y1).length]? = some ⟨cvs, 0, false, P.cellsOf e⟩ := by simp
        refine ⟨hi2, e1.trans (Ext.push _ _), RL.cons ⟨⟨a, cap, rfl, hlc, hcm, fun o ho _ => ?_⟩, rfl⟩ (RL.nil _), ?_, ?_⟩
        · rw [hget] at ho; injection ho with ho; subst ho
          refine ⟨?_, ?_, fun hrw => by cases hrw⟩
          · by_cases h0 : cap = 0
            · exact .inl h0
            · right
              unfold setRho
              rw [if_pos rfl, if_neg h0]
              simp [Addr.add]
          · simp only [Nat.zero_add]; rw [hsz]; exact Nat.mul_le_mul_right _ hlc
        · intro c hc
          simp only [List.mem_singleton] at hc
          subst hc
          exact ⟨_, hget, Nat.le_refl _⟩
        · unfold Ty
          rw [hu]
          exact .inr ⟨_, len, _, rfl, hget, rfl, rfl, rfl, hsz, by omega, fun i hi => (t1 i hi).app _⟩
    · rename_i fs hu
      simp only [Bool.and_eq_true] at hp
      obtain ⟨hp1, hp2⟩ := hp
      obtain ⟨xs, m, _, _, hl, hxl, hxs⟩ := DataW.trod_struct hu h
      rw [← hl] at hp1
      rw [List.all_eq_true] at hp2
      obtain ⟨ρ1, Y1, cvs, i1, e1, r1, w1, t1⟩ := open_fields (Q := Q) (enc := enc) (n := n) hne fs.toList 0 hp1 (fun f hf => ih f.type (hp2 f hf)) (fun f hf => by
        obtain ⟨i, hi⟩ := List.getElem?_of_mem hf
        have h1 := hxs i f (by simpa using hi)
        have hil : i < fs.size := by have := (List.getElem?_eq_some_iff.1 hi).1; simpa using this
        rw [List.getElem?_eq_getElem (by omega)] at h1
        exact ⟨m, _, h1⟩) ρ H hI
      rw [List.drop_zero] at r1
      refine ⟨ρ1, Y1, cvs, i1, e1, r1, w1, ?_⟩
      unfold Ty
      rw [hu]
      refine ⟨by rw [r1.1, hl], fun f hf => ?_⟩
      have := (t1 f hf).2
      rwa [Nat.sub_zero] at this
    · cases hp
/-! ### Arguments -/
def ArgTy (P : Program) (H : Hp) (n : Nat) (t : TypeId) (iv : IV) : Prop :=
  ∃ cvs, Ty P H n t cvs ∧ ((aggOf P t = some true ∧ iv = .agg cvs) ∨ (aggOf P t = some false ∧ ∃ c, cvs = [c] ∧ iv = .c c))
def ArgsTy (P : Program) (H : Hp) (n : Nat) : List TypeId → List IV → Prop
  | [], [] => True
  | t :: ts, iv :: ivs => ArgTy P H n t iv ∧ ArgsTy P H n ts ivs
  | _, _ => False
theorem ArgTy.app {H : Hp} (Y : Hp) {n : Nat} {t : TypeId} {iv : IV} (h : ArgTy P H n t iv) : ArgTy P (H ++ Y) n t iv := by
  obtain ⟨cvs, h1, h2⟩ := h
  exact ⟨cvs, h1.app Y, h2⟩
theorem cell_ne {r : Reach} {base : Nat} {u : TypeId} {a : Addr} {l c : Nat} (h : Cell.okWide P w r base u (.slice (some a) l c)) : 0 < w.heap.size := by
  have key : Cell.ok P w r base u (.slice (some a) l c) → 0 < w.heap.size := by
    intro h
    unfold Cell.ok at h
    generalize P.underlying u = q at h
    cases q with
    | none => exact False.elim h
    | some d =>
      cases d with
      | slice e =>
        obtain ⟨_, _, _, _, row, cells, hs, _⟩ := h
        unfold World.shape? at hs
        split at hs
        · rename_i hb
          have := (Array.getElem?_eq_some_iff.1 hb).1
          omega
        · cases hs
      | _ => exact False.elim h
  unfold Cell.okWide at h
  generalize P.underlying u = q at h
  cases q with
  | none => exact key h
  | some d =>
    cases d with
    | _ => exact key h
theorem val_shape {n : Nat} {base : Nat} {t : TypeId} {v : Value} (hp : plainT P n t = true) (h : Value.okWide P w .any base t v) :
    NeS w v.cells.toList ∧ ((aggOf P t = some true ∧ ∃ cs, v = .agg cs) ∨ (aggOf P t = some false ∧ v.oneCell' = true)) := by
  cases n with
  | zero => simp [plainT] at hp
  | succ n =>
    unfold plainT at hp
    split at hp
    · rename_i hu
      obtain ⟨b, rfl⟩ := Go.WideShapes.okWide_bool hu h
      exact ⟨fun a l c hm => by simp [Value.cells] at hm, .inr ⟨by unfold aggOf; rw [hu], rfl⟩⟩
    · rename_i hu
      obtain ⟨b, rfl⟩ := Go.WideShapes.okWide_int hu h
      exact ⟨fun a l c hm => by simp [Value.cells] at hm, .inr ⟨by unfold aggOf; rw [hu], rfl⟩⟩
    · rename_i hu
      obtain ⟨b, rfl⟩ := Go.WideShapes.okWide_int hu h
      exact ⟨fun a l c hm => by simp [Value.cells] at hm, .inr ⟨by unfold aggOf; rw [hu], rfl⟩⟩
    · rename_i hu
      obtain ⟨b, rfl⟩ := Go.WideShapes.okWide_string hu h
      exact ⟨fun a l c hm => by simp [Value.cells] at hm, .inr ⟨by unfold aggOf; rw [hu], rfl⟩⟩
    · rename_i e hu
      obtain ⟨a0, l0, c0, rfl⟩ := Go.WideShapes.okWide_slice hu h
      refine ⟨fun a l c hm => ?_, .inr ⟨by unfold aggOf; rw [hu], rfl⟩⟩
      simp [Value.cells] at hm
      obtain ⟨rfl, rfl, rfl⟩ := hm
      unfold Value.okWide at h
      rw [hu] at h
      exact cell_ne h
    · rename_i fs hu
      unfold Value.okWide at h
      rw [hu] at h
      obtain ⟨cs, rfl, hcs, ts, _, _, hrow⟩ := h
      refine ⟨fun a l c hm => ?_, .inl ⟨by unfold aggOf; rw [hu], cs, rfl⟩⟩
      have hm' : Value.slice (some a) l c ∈ cs.toList := hm
      obtain ⟨i, hi⟩ := List.getElem?_of_mem hm'
      obtain ⟨u, _, hok⟩ := hrow i _ (by simpa using hi)
      exact cell_ne hok
    · cases hp
theorem open_args {n : Nat} : ∀ (ts : List TypeId) (vs : List Value) (ds : List (DataW Q)) (ps : List MemPlace) (ρ : Rho) (H : Hp), (∀ t ∈ ts, plainT P n t = true) →
    (∀ (j : Nat) (t : TypeId) (v : Value), ts[j]? = some t → vs[j]? = some v → Value.okWide P w .any 0 t v ∨ ∃ base, Value.okWide P w .any base t v) →
    DataW.TrodAll enc P w 0 (fun _ => true) true ts vs ds ps → Ini w ρ H →
    ∃ (ρ' : Rho) (Y : Hp) (ivs : List IV), Ini w ρ' (H ++ Y) ∧ Ext ρ H ρ' (H ++ Y) ∧ RL (IR ρ' (H ++ Y)) ivs vs ∧ (∀ iv ∈ ivs, wfI (H ++ Y) iv) ∧ ArgsTy P (H ++ Y) n ts ivs := by
  intro ts
  induction ts with
  | nil =>
    intro vs ds ps ρ H _ _ h hI
    refine ⟨ρ, [], [], ?_⟩
    rw [List.append_nil]
    cases vs with
    | nil => exact ⟨hI, Ext.refl _ _, RL.nil _, by simp, trivial⟩
    | cons v vs => simp [DataW.TrodAll] at h
  | cons t ts ih =>
    intro vs ds ps ρ H hp hv h hI
    cases vs with
    | nil => simp [DataW.TrodAll] at h
    | cons v vs =>
      cases ds with
      | nil => simp [DataW.TrodAll] at h
      | cons d ds =>
        simp only [DataW.TrodAll] at h
        obtain ⟨p, q, ⟨fuel, h1⟩, h2, _⟩ := h
        have hpt := hp t (by simp)
        obtain ⟨base, hok⟩ : ∃ base, Value.okWide P w .any base t v := by
          rcases hv 0 t v rfl rfl with h | h
          · exact ⟨0, h⟩
          · exact h
        obtain ⟨hne, hsh⟩ := val_shape hpt hok
        obtain ⟨ρ1, Y1, cvs, i1, e1, r1, w1, t1⟩ := open_ty (Q := Q) (enc := enc) n t hpt fuel _ _ ρ H h1 hI hne
        obtain ⟨ρ2, Y2, ivs, i2, e2, r2, w2, t2⟩ := ih vs ds q ρ1 (H ++ Y1) (fun t ht => hp t (by simp [ht])) (fun j t v ht hvj => hv (j + 1) t v (by simpa using ht) (by simpa using hvj)) h2 i1
        have hR : RL (CR ρ2 (H ++ Y1 ++ Y2)) cvs v.cells.toList := ⟨r1.1, fun j c x hj hx => CR.ext e2 (w1 c (List.mem_of_getElem? hj)) (r1.2 j c x hj hx)⟩
        have hw1 : ∀ c ∈ cvs, wfC (H ++ Y1 ++ Y2) c := fun c hc => wfC.ext e2 (w1 c hc)
        have hsplit : ∀ {X : Hp}, Ty P X n t cvs → ∃ iv, IR ρ2 (H ++ Y1 ++ Y2) iv v ∧ wfI (H ++ Y1 ++ Y2) iv ∧ ArgTy P X n t iv := by
          intro X hX
          rcases hsh with ⟨ha, cs, rfl⟩ | ⟨ha, hone⟩
          · exact ⟨.agg cvs, ⟨cs.toList, by simp, hR⟩, hw1, cvs, hX, .inl ⟨ha, rfl⟩⟩
          · rw [oneCell_cells hone] at hR
            have hl : cvs.length = 1 := hR.1
            obtain ⟨c, rfl⟩ := List.length_eq_one_iff.1 hl
            exact ⟨.c c, (hR.2 0 c v rfl rfl).1, hw1 c (by simp), [c], hX, .inr ⟨ha, c, rfl, rfl⟩⟩
        obtain ⟨iv, g1, g2, g3⟩ := hsplit (t1.app Y2)
        refine ⟨ρ2, Y1 ++ Y2, iv :: ivs, ?_⟩
        rw [← List.append_assoc]
        refine ⟨i2, e1.trans e2, RL.cons g1 r2, ?_, g3, t2⟩
        intro x hx
        rcases List.mem_cons.1 hx with rfl | hx
        · exact g2
        · exact w2 x hx
end
end Go.Proofs.YtgdfgnppeekfjaaGreat.Vm
